/- Draws: the next number as a natural one; rows behind a draw. -/
import Derived.Test.YthjoegoeaiemdaaA111
namespace Go.Proofs.Ythjoegoeaiemdaa
set_option linter.unusedVariables false
set_option linter.unusedSimpArgs false
open Go.RowKit

theorem up_own {w w' : World} {g B base n : Nat} {e : TypeId} {size : Nat} {v : Value} {xs : List Value} (h : w.ownsRow base e size v n xs) (hu : Up g w.heap.size w w') (hg : g < base) : w'.ownsRow base e size v n xs :=
  h.kept (Up.grown hu) (by
    cases hb : v.ownBlock with
    | none => exact .inl rfl
    | some x => exact .inr fun e => by have := (h.lt x hb).1; injection e with e; omega)
theorem s_nextI (g : Nat) (n : Int) (h1 : 1 ≤ n) (w : World) (hs : SRC w g) : Calls Try.prog 61 #[.pointer (some ⟨g, 0, none⟩), .int .i64 n] w (fun e w' => ∃ k : Nat, e = .returned (.int .i64 (k : Int)) ∧ (k : Int) < n ∧ SRC w' g ∧ Up g w.heap.size w w') :=
  (s_l01Next g n w hs).mono fun e w' ⟨r, he, ⟨r0, r1, r2⟩, h3, h4⟩ => by
    obtain ⟨k, rfl⟩ := Int.eq_ofNat_of_zero_le r0
    refine ⟨k, he, ?_, h3, h4⟩
    by_cases h : n = 1
    · have := r2 (by omega); omega
    · exact r1 (by omega)
set_option maxRecDepth 20000 in
set_option maxHeartbeats 1000000 in
theorem s_l01DrawPrime (g : Nat) (w : World) (hs : SRC w g) : Calls Try.prog 92 #[.pointer (some ⟨g, 0, none⟩)] w (NX g (fun r => -3 ≤ r ∧ r ≤ 101) w) := by
  have hp1 := fun W h => s_pick7 g 1 4 0 97 101 (-3) 9 W h
  have hp2 := fun W h => s_pick11 g 2 3 5 7 2 3 5 11 13 17 31 W h
  have u0 : Up g w.heap.size w w := Up.refl
  go_enter Try.func92, Try.ntmps92
  go_wp2_with (fail)
  refine (s_nextI g 24 (by omega) _ hs).mono ?_
  rintro e w2 ⟨k2, rfl, hk2, hsw2, huw2⟩
  have uw2 := u0.call huw2
  by_cases hk0 : k2 = 0
  · have hz : ((k2 : Int) == 0) = true := by rw [beq_iff_eq]; omega
    clear hk0 hp2
    go_wp2_with (fail)
    refine (hp1 _ hsw2).mono ?_
    rintro e w3 ⟨r, rfl, hr, hs3, hu3⟩
    go_wp2_with (fail)
    go_ret
    exact ⟨r, rfl, by simp at hr; omega, hs3, uw2.call hu3⟩
  · have hz : ((k2 : Int) == 0) = false := by rw [beq_eq_false_iff_ne]; omega
    clear hk0 hp1
    go_wp2_with (fail)
    refine (hp2 _ hsw2).mono ?_
    rintro e w3 ⟨r, rfl, hr, hs3, hu3⟩
    go_wp2_with (fail)
    go_ret
    exact ⟨r, rfl, by simp at hr; omega, hs3, uw2.call hu3⟩
theorem l_bigNo (A : Option Addr) (n c : Nat) (w : World) (h : n ≤ 4096) : Calls Try.prog 7 #[.slice A n c] w (Q (.bool false) w) := by
  have h1 : ¬ (4096 : Int) < (n : Int) := by omega
  go_enter Try.func7, Try.ntmps7
  go_wp2_with (fail)
  go_ret
  exact ⟨by simp, 0, rfl⟩
theorem l_bigYes (A : Option Addr) (n c : Nat) (w : World) (h : 4096 < n) : Calls Try.prog 7 #[.slice A n c] w (Q (.bool true) w) := by
  have h1 : (4096 : Int) < (n : Int) := by omega
  go_enter Try.func7, Try.ntmps7
  go_wp2_with (fail)
  go_ret
  exact ⟨by simp, 0, rfl⟩
end Go.Proofs.Ythjoegoeaiemdaa
