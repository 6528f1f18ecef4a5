/- Draws of systems, of a system and a number. -/
import Derived.Test.YthjoegoeaiemdaaA228
import Derived.Test.YthjoegoeaiemdaaA224
namespace Go.Proofs.Ythjoegoeaiemdaa
set_option linter.unusedVariables false
set_option linter.unusedSimpArgs false
open Go.RowKit

/-- A list of residues that a draw from a code hands back. -/
def ZD (w : World) (e : Ending) (w' : World) : Prop := ∃ (A : Option Addr) (m c : Nat) (l : List Z3), e = .returned (.slice A m c) ∧ m = l.length ∧ m ≤ 6 ∧ m ≤ c ∧ c ≤ 9223372036854775807 ∧ R3 l ∧ IT w' w'.heap.size A l ∧ Below w.heap.size w w'
/-- A list of residues and a number. -/
def ZND (w : World) (e : Ending) (w' : World) : Prop := ∃ (A : Option Addr) (m c : Nat) (l : List Z3) (x : Int), e = .returned (.tuple #[.slice A m c, .int .i64 x]) ∧ m = l.length ∧ m ≤ 6 ∧ m ≤ c ∧ c ≤ 9223372036854775807 ∧ R3 l ∧ IT w' w'.heap.size A l ∧ Below w.heap.size w w'
set_option maxHeartbeats 2000000 in
theorem s_DrawSolveSystem (A : Option Addr) (n c : Nat) (w : World) (hn : n ≤ 4096) (hs : YB w w.heap.size A n) : Calls Try.prog 25 #[.slice A n c] w (ZD w) := by
  have hf := s_l01From A n c w hn hs
  have hd := fun W h => s_l31Draw w.heap.size W h
  clear hn hs
  go_enter Try.func25, Try.ntmps25
  go_wp2_with (fail)
  refine hf.mono ?_
  rintro e w1 ⟨rfl, hs1, hb1⟩
  have u1 := Up.of (g := w.heap.size) hb1
  clear hb1 hf
  go_wp2_with (fail)
  refine (hd _ hs1).mono ?_
  rintro e w2 ⟨B, m, d, l, rfl, h1, h2, h3, h4, h5, h6, h7, hs2, hu2⟩
  have H1 := Lib.hid h1
  clear h1
  go_wp2_with (fail)
  go_ret
  exact ⟨B, m, d, l, rfl, H1.out, h2, h3, h4, h5, h6, (u1.call hu2).below (Nat.le_refl _)⟩
theorem IT.up {w w' : World} {g : Nat} {A : Option Addr} {l : List Z3} (h : IT w w.heap.size A l) (hu : Up g w.heap.size w w') (hg : ∀ a, A = some a → a.block ≠ g) : IT w' w'.heap.size A l := fun h0 => by
  obtain ⟨b, off, rfl, hb, hc⟩ := h h0
  have hs := hu.size
  have hbg := hg _ rfl
  refine ⟨b, off, rfl, by omega, fun k hk => ?_⟩
  obtain ⟨c0, c1, c2⟩ := hc k hk
  exact ⟨(hu.cell (p := ⟨b, off + k * 3, none⟩) hb hbg).trans c0, (hu.cell (p := ⟨b, off + k * 3 + 1, none⟩) hb hbg).trans c1, (hu.cell (p := ⟨b, off + k * 3 + 2, none⟩) hb hbg).trans c2⟩
theorem sol_bd (l : List Z3) : 0 ≤ soN l ∧ soN l ≤ 1000000000000 ∧ 0 ≤ soP l ∧ soP l ≤ 1000000000000 := by
  cases h : sysB l
  · unfold soN soP
    rw [h]
    simp
  · have h1 := sys_ok h
    exact ⟨h1.n0, by have := h1.nm; have := h1.m1; omega, by have := h1.nm; have := h1.n0; omega, h1.m1⟩
theorem s_SolveSystemD (A : Option Addr) (n c : Nat) (l : List Z3) (w : World) (hn : n = l.length) (hl : n ≤ 1048576) (hcn : n ≤ c) (hcm : c ≤ 9223372036854775807) (hr : R3 l) (hs : IT w w.heap.size A l) :
    Calls Try.prog 27 #[.slice A n c] w (fun e w' => e = .returned (.tuple #[.int .i64 (soN l), .int .i64 (soP l), .int .i64 (soC l)]) ∧ Below w.heap.size w w') := s_SolveSystem A n c l w hn hl hcn hcm hr hs
set_option maxRecDepth 20000 in
set_option maxHeartbeats 2000000 in
theorem s_DrawDoesSolve (A : Option Addr) (n c : Nat) (w : World) (hn : n ≤ 4096) (hs : YB w w.heap.size A n) : Calls Try.prog 30 #[.slice A n c] w (ZND w) := by
  have hf := s_l01From A n c w hn hs
  have hd := fun W h => s_l31Draw w.heap.size W h
  have hpk := fun x y W h => s_pick4 w.heap.size 0 x y 1 W h
  have hdv := fun W h => s_l01DrawValue w.heap.size W h
  clear hn hs
  go_enter Try.func30, Try.ntmps30
  go_wp2_with (fail)
  refine hf.mono ?_
  rintro e w1 ⟨rfl, hs1, hb1⟩
  have u1 := Up.of (g := w.heap.size) hb1
  clear hb1 hf
  go_wp2_with (fail)
  refine (hd _ hs1).mono ?_
  rintro e w2 ⟨B, m, d, l, rfl, h1, h2, h3, h4, h5, h6, h7, hs2, hu2⟩
  have u2 := u1.call hu2
  have hlt1 := hs1.lt
  have hne : ∀ a, B = some a → a.block ≠ w.heap.size := fun a ha => by have := h7 a ha; omega
  have H1 := Lib.hid h1
  have hsv := fun W h => s_SolveSystemD B m d l W h1 (by omega) h3 h4 h5 h
  have hC : soC l = 0 ∨ soC l = 1 := by unfold soC; split <;> simp
  obtain ⟨bd1, bd2, bd3, bd4⟩ := sol_bd l
  generalize soN l = N at *
  generalize soP l = M at *
  generalize soC l = C at *
  clear hu2 u1 hd h7 hs1 h1
  go_wp2_with (fail)
  refine (hsv _ h6).mono ?_
  rintro e w3 ⟨rfl, hb3⟩
  have hs3 := hs2.call hb3
  have u3 := u2.thenB hb3
  have h63 := h6.call hb3
  clear hs2 u2 hb3 h6 hsv
  rcases hC with rfl | rfl
  · skip
    go_wp2_with (fail)
    refine (s_nextI w.heap.size 2 (by omega) _ hs3).mono ?_
    rintro e w4 ⟨k4, rfl, hk4, hsw4, huw4⟩
    have uw4 := u3.call huw4
    have h64 := h63.up huw4 hne
    clear h63 hs3 u3 huw4
    by_cases hk0 : k4 = 0
    · have hz : ((k4 : Int) == 0) = true := by rw [beq_iff_eq]; omega
      clear hk0
      go_wp2_with (fail)
      refine (hpk _ _ _ hsw4).mono ?_
      rintro e w5 ⟨x, rfl, hx, hs5, hu5⟩
      have hx : -1000000000000 ≤ x ∧ x ≤ 1000000000001 := by simp at hx; omega
      have u5 := uw4.call hu5
      have h65 := h64.up hu5 hne
      go_wp2_with (fail)
      go_ret2
      exact ⟨B, m, d, l, N + x, rfl, H1.out, h2, h3, h4, h5, h65, u5.below (Nat.le_refl _)⟩
    · have hz : ((k4 : Int) == 0) = false := by rw [beq_eq_false_iff_ne]; omega
      clear hk0
      go_wp2_with (fail)
      refine (hdv _ hsw4).mono ?_
      rintro e w5 ⟨x, rfl, hx, hs5, hu5⟩
      have u5 := uw4.call hu5
      have h65 := h64.up hu5 hne
      go_wp2_with (fail)
      go_ret2
      exact ⟨B, m, d, l, x, rfl, H1.out, h2, h3, h4, h5, h65, u5.below (Nat.le_refl _)⟩
  · go_wp2_with (fail)
    refine (hdv _ hs3).mono ?_
    rintro e w5 ⟨x, rfl, hx, hs5, hu5⟩
    have u5 := u3.call hu5
    have h65 := h63.up hu5 hne
    go_wp2_with (fail)
    go_ret2
    exact ⟨B, m, d, l, x, rfl, H1.out, h2, h3, h4, h5, h65, u5.below (Nat.le_refl _)⟩
end Go.Proofs.Ythjoegoeaiemdaa
