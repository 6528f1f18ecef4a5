/- Draws: a name of the library, a type. -/
import Derived.Test.YtkiglhaeiomohaaGreatA115
import Derived.Test.YtkiglhaeiomohaaGreatA88
import Derived.Test.YtkiglhaeiomohaaGreatA101
namespace Go.Proofs.YtkiglhaeiomohaaGreat
set_option linter.unusedVariables false
set_option linter.unusedSimpArgs false
open Go.RowKit

/-- A draw that hands back one value of a kind. -/
def NXV (g : Nat) (P : Value → Prop) (w : World) (e : Ending) (w' : World) : Prop := ∃ v : Value, e = .returned v ∧ P v ∧ SRC w' g ∧ Up g w.heap.size w w'
theorem up_own {w w' : World} {g B base n : Nat} {e : TypeId} {size : Nat} {v : Value} {xs : List Value} (h : w.ownsRow base e size v n xs) (hu : Up g w.heap.size w w') (hg : g < base) : w'.ownsRow base e size v n xs :=
  h.kept (Up.grown hu) (by
    cases hb : v.ownBlock with
    | none => exact .inl rfl
    | some x => exact .inr fun e => by have := (h.lt x hb).1; injection e with e; omega)
theorem s_nextI (g : Nat) (n : Int) (h1 : 1 ≤ n) (w : World) (hs : SRC w g) : Calls Tryz.prog 48 #[.pointer (some ⟨g, 0, none⟩), .int .i64 n] w (fun e w' => ∃ k : Nat, e = .returned (.int .i64 (k : Int)) ∧ (k : Int) < n ∧ SRC w' g ∧ Up g w.heap.size w w') :=
  (s_l01Next g n w hs).mono fun e w' ⟨r, he, ⟨r0, r1, r2⟩, h3, h4⟩ => by
    obtain ⟨k, rfl⟩ := Int.eq_ofNat_of_zero_le r0
    refine ⟨k, he, ?_, h3, h4⟩
    by_cases h : n = 1
    · have := r2 (by omega); omega
    · exact r1 (by omega)
set_option maxRecDepth 10000 in
set_option maxHeartbeats 1000000 in
theorem s_l24DrawName (g : Nat) (w : World) (hs : SRC w g) : Calls Tryz.prog 35 #[.pointer (some ⟨g, 0, none⟩)] w (NXV g (fun v => ∃ nb : ByteArray, v = .string nb) w) := by
  have hnx := fun W n h1 h => s_nextI g n h1 W h
  have hnm := fun W => s_l24Names W
  go_enter Tryz.func35, Tryz.ntmps35
  go_wp2_with (fail)
  refine (hnx _ 24 (by omega) hs).mono ?_
  rintro e w1 ⟨r, rfl, hr, hs1, hu1⟩
  by_cases hr0 : r = 0
  · have hz : ((r : Int) == 0) = true := by rw [beq_iff_eq]; omega
    have hs2 := hs1.call ((Below.refl w1.heap.size w1).alloc (Nat.le_refl _) (.cells #[.string ⟨#[]⟩, .string ⟨#[68, 51]⟩, .string ⟨#[99, 52]⟩, .string ⟨#[83, 54]⟩] 9))
    have hB := BK.new w1 9 #[.string ⟨#[]⟩, .string ⟨#[68, 51]⟩, .string ⟨#[99, 52]⟩, .string ⟨#[83, 54]⟩]
    have hg1 := hs1.lt
    clear hr0
    go_wp2_with (fail)
    refine (hnx _ 4 (by omega) hs2).mono ?_
    rintro e w2 ⟨k, rfl, hk, hs3, hu3⟩
    have hc : ∃ nb : ByteArray, w2.cell? ⟨w1.heap.size, k, none⟩ = some (.string nb) := by
      have h1 := (hu3.cell (p := ⟨w1.heap.size, k, none⟩) (by simp) (by show w1.heap.size ≠ g; omega)).trans (hB.cell k)
      have hk4 : k = 0 ∨ k = 1 ∨ k = 2 ∨ k = 3 := by omega
      rcases hk4 with rfl | rfl | rfl | rfl
      · exact ⟨_, h1⟩
      · exact ⟨_, h1⟩
      · exact ⟨_, h1⟩
      · exact ⟨_, h1⟩
    obtain ⟨nb, hc⟩ := hc
    have hup := (hu1.thenB ((Below.refl w1.heap.size w1).alloc (Nat.le_refl _) (.cells #[.string ⟨#[]⟩, .string ⟨#[68, 51]⟩, .string ⟨#[99, 52]⟩, .string ⟨#[83, 54]⟩] 9))).call hu3
    clear hB hs2 hu3 hu1
    go_wp2_with (fail)
    go_ret
    exact ⟨_, rfl, ⟨nb, rfl⟩, hs3, hup⟩
  · have hz : ((r : Int) == 0) = false := by rw [beq_eq_false_iff_ne]; omega
    clear hr0
    go_wp2_with (fail)
    refine (hnm _).mono ?_
    rintro e w2 ⟨b, rfl, hnb, hb2, hbw⟩
    have hs2 := hs1.call hb2
    have hg1 := hs1.lt
    go_wp2_with (fail)
    refine (hnx _ 14 (by omega) hs2).mono ?_
    rintro e w3 ⟨k, rfl, hk, hs3, hu3⟩
    obtain ⟨nb, _, hc⟩ := hnb.2 k (by omega)
    have hc := (hu3.cell (p := ⟨b, k, none⟩) hnb.1 (by show b ≠ g; omega)).trans hc
    have hup := (hu1.thenB hb2).call hu3
    clear hnb hs2 hu3 hu1 hb2
    go_wp2_with (fail)
    go_ret
    exact ⟨_, rfl, ⟨nb, rfl⟩, hs3, hup⟩
set_option maxHeartbeats 1000000 in
theorem s_DrawSubgroupNames (A : Option Addr) (n c : Nat) (w : World) (hn : n ≤ 4096) (hs : YB w w.heap.size A n) : Calls Tryz.prog 6 #[.slice A n c] w (fun e w' => ∃ nb : ByteArray, e = .returned (.string nb) ∧ Below w.heap.size w w') := by
  have hf := s_l01From A n c w hn hs
  have hd := fun W h => s_l24DrawName w.heap.size W h
  go_enter Tryz.func6, Tryz.ntmps6
  go_wp2_with (fail)
  refine hf.mono ?_
  rintro e w1 ⟨rfl, hs1, hb1⟩
  go_wp2_with (fail)
  refine (hd _ hs1).mono ?_
  rintro e w2 ⟨v, rfl, ⟨nb, rfl⟩, hs2, hu2⟩
  go_wp2_with (fail)
  go_ret
  exact ⟨nb, rfl, hb1.trans ((hu2.mono (B' := w.heap.size) hb1.size).below (Nat.le_refl _))⟩
end Go.Proofs.YtkiglhaeiomohaaGreat
