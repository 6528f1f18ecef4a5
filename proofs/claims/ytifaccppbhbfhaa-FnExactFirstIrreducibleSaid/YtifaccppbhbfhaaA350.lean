/- Contracts: monic polynomials, greatest common divisors, remainders, both sides. -/
import Derived.Test.YtifaccppbhbfhaaA349
namespace Go.Proofs.Ytifaccppbhbfhaa
set_option linter.unusedVariables false
set_option linter.unusedSimpArgs false
open Go.RowKit

def lenV : Value → Nat | .slice _ n _ => n | _ => 0
/-- An own slice that reads as a list of a kind. -/
def OAE (Q : List Int → Prop) (w : World) (e : Ending) (w' : World) : Prop := ∃ (l : List Int) (A : Option Addr) (c : Nat), Q l ∧ e = .returned (.slice A l.length c) ∧ OA w' A c l ∧ Below w.heap.size w w'
theorem RVE.oa {Q : List Int → Prop} {w : World} {e : Ending} {w' : World} (h : RVE Q w e w') : OAE Q w e w' := by
  obtain ⟨l, hq, A, c, rfl, ho, hb⟩ := h
  exact ⟨l, A, c, hq, rfl, OA.of ho rfl, hb⟩
theorem OAE.mono {Q R : List Int → Prop} {w : World} {e : Ending} {w' : World} (h : OAE Q w e w') (hq : ∀ l, Q l → R l) : OAE R w e w' := by
  obtain ⟨l, A, c, h1, h2⟩ := h; exact ⟨l, A, c, hq l h1, h2⟩
theorem OAE.pre {Q : List Int → Prop} {w w1 : World} {e : Ending} {w' : World} (h : OAE Q w1 e w') (hb : Below w.heap.size w w1) : OAE Q w e w' := by
  obtain ⟨l, A, c, h1, h2, h3, h4⟩ := h; exact ⟨l, A, c, h1, h2, h3, bel_call hb h4⟩
section
variable (P : Nat) [NeZero P]
/-- l is the monic multiple of f. -/
def MN (f l : List Int) : Prop := FX.Can P l ∧ l.length = f.length ∧ (0 < f.length → gt l (f.length - 1) = 1) ∧ ∃ a b : Fin P, a * b = 1 ∧ FX.toP P l = FX.Pol.const a * FX.toP P f
theorem mn_of (hp : FX.Prm P) {f l : List Int} {v : Int} (hf : FX.Can P f) (h0 : 0 < f.length) (hl : FX.Can P l) (hm : FX.toP P l = FX.toP P f * FX.toP P [v]) (hv : FX.ci P v * FX.ci P (gt f (f.length - 1)) = 1) : MN P f l := by
  have hF := FX.fin_fp (p := P) hp
  have hp2 : 2 ≤ P := hp.1
  have e : FX.toP P l = FX.Pol.const (FX.ci P v) * FX.toP P f := by rw [hm, FX.toP_num]; exact FX.rg
  have hne : FX.ci P v ≠ 0 := fun e0 => FX.Fld.one_ne (K := Fin P) (by rw [← hv, e0]; exact FX.rg)
  have hd := FX.dg_num hne (hf.dg P h0)
  rw [← e] at hd
  have hlen := hl.len_dg P hd
  refine ⟨hl, by omega, fun _ => ?_, FX.ci P v, FX.ci P (gt f (f.length - 1)), hv, e⟩
  refine FX.ci_inj P (hl.1 _).1 (hl.1 _).2 (by omega) (by omega) ?_
  rw [FX.ci_1, ← hv, ← FX.toP_c, e, FX.Pol.const_mul, FX.toP_c]
theorem mn_nil : MN P [] [] := ⟨⟨fun k => by have := Nat.pos_of_ne_zero (NeZero.ne P); simp [gt]; omega, fun h => by simp at h⟩, rfl, fun h => by simp at h, 1, 1, by exact FX.rg, FX.Pol.ext fun k => by rw [FX.Pol.const_mul, FX.toP_c]; simp [gt, FX.ci_0]; exact FX.rg⟩
/-- l is the monic greatest common divisor of f and g. -/
def CM (f g l : List Int) : Prop := FX.Can P l ∧ FX.Gcd (FX.toP P l) (FX.toP P f) (FX.toP P g) ∧ (0 < l.length → gt l (l.length - 1) = 1)
theorem cm_of {f g a l : List Int} (h : ∀ d, (FX.Dv d (FX.toP P f) ∧ FX.Dv d (FX.toP P g)) ↔ (FX.Dv d (FX.toP P a) ∧ FX.Dv d (FX.toP P []))) (hl : MN P a l) : CM P f g l := by
  obtain ⟨h1, h2, h3, x, y, h4, h5⟩ := hl
  have hz : FX.toP P [] = 0 := FX.Pol.ext fun k => by rw [FX.toP_c, FX.Pol.zero_c]; simp [gt, FX.ci_0]
  have hx : ∀ d, FX.Dv (FX.toP P l) d ↔ FX.Dv (FX.toP P a) d := fun d => by rw [h5]; exact FX.num_dv h4 _ _
  have hy : ∀ d, FX.Dv d (FX.toP P l) ↔ FX.Dv d (FX.toP P a) := fun d => by rw [h5]; exact FX.dv_num h4 _ _
  have hall := (h (FX.toP P l)).2 ⟨(hy _).1 (FX.Dv.refl _), by rw [hz]; exact FX.dv_zero _⟩
  refine ⟨h1, ⟨hall.1, hall.2, fun e e1 e2 => (hy e).2 ((h e).1 ⟨e1, e2⟩).1⟩, fun h0 => ?_⟩
  rw [h2] at h0 ⊢
  exact h3 h0
/-- r is the remainder of f by g. -/
def RM (f g r : List Int) : Prop := FX.Can P r ∧ (∃ q, FX.toP P f = q * FX.toP P g + FX.toP P r) ∧ r.length + 1 ≤ g.length
end
set_option maxRecDepth 10000 in
set_option maxHeartbeats 1000000 in
theorem i_monic (P : Nat) [NeZero P] (hP : P ≤ 97) (hp : FX.Prm P) (A : Option Addr) (n c : Nat) (f : List Int) (w : World) (hn : n = f.length) (hl : n ≤ 10) (hf : FX.Can P f) (hs : IS w w.heap.size A f) :
    Calls Try.prog 48 #[.int .i64 (P : Int), .slice A n c] w (RVE (MN P f) w) := by
  have h1 : 0 < P := Nat.pos_of_ne_zero (NeZero.ne P)
  by_cases h0 : n = 0
  · subst h0
    obtain rfl : f = [] := List.eq_nil_of_length_eq_zero hn.symm
    have hr : RVE (MN P []) w (.returned (.slice none 0 0)) w := ⟨[], mn_nil P, none, 0, rfl, World.ownsRow_nil _ _ _ _, Below.refl _ _⟩
    clear hn hf hs hl
    go_enter Try.func48, Try.ntmps48
    go_wp2_with (fail)
    go_ret
    exact hr
  · obtain ⟨d, hd⟩ : ∃ d, n = d + 1 := ⟨n - 1, by omega⟩
    obtain ⟨zl, hzl⟩ := Int.eq_ofNat_of_zero_le (hf.1 d).1
    have hzP : zl < P := by have := (hf.1 d).2; omega
    have hz0 : 0 < zl := by
      have := hf.2 (by omega)
      rw [← hn, hd, Nat.add_sub_cancel, hzl] at this
      omega
    have hiv := FX.inv_ci P hp hz0 hzP
    have hib := FX.inv_bd zl P h1
    have hcall := fun W => i_inverseBy P zl W hP h1 hzP
    obtain ⟨b, off, rfl, hbb, hcell⟩ := hs.at (k := d) (by omega)
    have hz := hcell d (by omega)
    rw [hzl] at hz
    generalize invM zl P = v at *
    have hv1 : FX.Can P [v] := by
      refine ⟨fun k => ?_, fun _ e => ?_⟩
      · cases k with
        | zero => exact hib
        | succ k => simp [gt]; omega
      · have e' : v = 0 := e
        rw [e', FX.ci_0] at hiv
        have hF := FX.fin_fp (p := P) hp
        exact FX.Fld.one_ne (K := Fin P) (by rw [← hiv]; exact FX.rg)
    have htm := fun W c1 h2 h3 => i_times P hP (some ⟨b, off, none⟩) (some ⟨W, 0, none⟩) n c 1 c1 f [v] h2 hn rfl (by omega) (by omega) hf hv1 h3
    have hmn := fun l (hc : FX.Can P l) hm => mn_of P hp (f := f) (l := l) (v := v) hf (by omega) hc hm (by rw [← hn, hd, Nat.add_sub_cancel, hzl]; exact hiv)
    have hnd : (n : Int) - 1 = (d : Int) := by omega
    have hdn : d < n := by omega
    have HMN := Lib.hid hmn
    have hpz : ((n : Int) == 0) = false := by rw [beq_eq_false_iff_ne]; omega
    clear hmn hiv hf hn hcell hzl hv1 hd h0
    go_enter Try.func48, Try.ntmps48
    go_wp2_with (first
      | (go_at_call 75; refine (hcall _).mono ?_; clear hcall; rintro e w2 ⟨rfl, hb2⟩; have hs2 := (hs.call hb2).call (Below.alloc (Below.refl _ _) (Nat.le_refl _) (.cells #[.int .i64 v] 2)); have hb3 := hb2.alloc hb2.size (.cells #[.int .i64 v] 2); have his : IS (w2.alloc (.cells #[.int .i64 v] 2)) (w2.alloc (.cells #[.int .i64 v] 2)).heap.size (some ⟨w2.heap.size, 0, none⟩) [v] := own_isn (l := [v]) (own_one w2 (.int .i64 v) 2) rfl)
      | (go_at_call 74; go_loud (refine (htm w2.heap.size 1 _ hs2 his).mono ?_; clear htm; rintro e w3 ⟨l, ⟨h5, h6, _⟩, A3, c3, rfl, ho3, hb4⟩)))
    go_ret
    exact ⟨l, HMN.out l h5 h6, RV.pre ⟨A3, c3, rfl, ho3, hb4⟩ hb3⟩
set_option maxRecDepth 10000 in
set_option maxHeartbeats 1000000 in
theorem s_monic (P : Nat) [NeZero P] (hP : P ≤ 97) (hp : FX.Prm P) (A : Option Addr) (n c : Nat) (f : List Int) (w : World) (hn : n = f.length) (hl : n ≤ 10) (hf : FX.Can P f) (hs : IS w w.heap.size A f) :
    Calls Try.prog 47 #[.int .i64 (P : Int), .slice A n c] w (RVE (MN P f) w) := by
  have h1 : 0 < P := Nat.pos_of_ne_zero (NeZero.ne P)
  by_cases h0 : n = 0
  · subst h0
    obtain rfl : f = [] := List.eq_nil_of_length_eq_zero hn.symm
    have hr : RVE (MN P []) w (.returned (.slice (some ⟨w.heap.size, 0, none⟩) 0 0)) (w.alloc (.cells #[] 2)) := ⟨[], mn_nil P, RV.lit [] (by simp [maxLen])⟩
    clear hn hf hs hl
    go_enter Try.func47, Try.ntmps47
    go_wp2_with (fail)
    go_ret
    exact hr
  · obtain ⟨d, hd⟩ : ∃ d, n = d + 1 := ⟨n - 1, by omega⟩
    obtain ⟨zl, hzl⟩ := Int.eq_ofNat_of_zero_le (hf.1 d).1
    have hzP : zl < P := by have := (hf.1 d).2; omega
    have hz0 : 0 < zl := by
      have := hf.2 (by omega)
      rw [← hn, hd, Nat.add_sub_cancel, hzl] at this
      omega
    have hiv := FX.inv_ci P hp hz0 hzP
    have hib := FX.inv_bd zl P h1
    have hcall := fun W => (s_l02Inverse zl P W (by omega) (by omega) h1).mono fun _ _ h => Q.toM h
    obtain ⟨b, off, rfl, hbb, hcell⟩ := hs.at (k := d) (by omega)
    have hz := hcell d (by omega)
    rw [hzl] at hz
    generalize invM zl P = v at *
    have hv1 : FX.Can P [v] := by
      refine ⟨fun k => ?_, fun _ e => ?_⟩
      · cases k with
        | zero => exact hib
        | succ k => simp [gt]; omega
      · have e' : v = 0 := e
        rw [e', FX.ci_0] at hiv
        have hF := FX.fin_fp (p := P) hp
        exact FX.Fld.one_ne (K := Fin P) (by rw [← hiv]; exact FX.rg)
    have htm := fun W c1 h2 h3 => s_times P hP (some ⟨b, off, none⟩) (some ⟨W, 0, none⟩) n c 1 c1 f [v] h2 hn rfl (by omega) (by omega) hf hv1 h3
    have hmn := fun l (hc : FX.Can P l) hm => mn_of P hp (f := f) (l := l) (v := v) hf (by omega) hc hm (by rw [← hn, hd, Nat.add_sub_cancel, hzl]; exact hiv)
    have hnd : (n : Int) - 1 = (d : Int) := by omega
    have hdn : d < n := by omega
    have HMN := Lib.hid hmn
    have hpz : ((n : Int) == 0) = false := by rw [beq_eq_false_iff_ne]; omega
    clear hmn hiv hf hn hcell hzl hv1 hd h0
    go_enter Try.func47, Try.ntmps47
    go_wp2_with (first
      | (go_at_call 73; refine (hcall _).mono ?_; clear hcall; rintro e w2 ⟨rfl, hb2⟩; have hs2 := (hs.call hb2).call (Below.alloc (Below.refl _ _) (Nat.le_refl _) (.cells #[.int .i64 v] 2)); have hb3 := hb2.alloc hb2.size (.cells #[.int .i64 v] 2); have his : IS (w2.alloc (.cells #[.int .i64 v] 2)) (w2.alloc (.cells #[.int .i64 v] 2)).heap.size (some ⟨w2.heap.size, 0, none⟩) [v] := own_isn (l := [v]) (own_one w2 (.int .i64 v) 2) rfl)
      | (go_at_call 72; go_loud (refine (htm w2.heap.size 1 _ hs2 his).mono ?_; clear htm; rintro e w3 ⟨l, ⟨h5, h6, _⟩, A3, c3, rfl, ho3, hb4⟩)))
    go_ret
    exact ⟨l, HMN.out l h5 h6, RV.pre ⟨A3, c3, rfl, ho3, hb4⟩ hb3⟩
end Go.Proofs.Ytifaccppbhbfhaa
