/- Monic polynomials in order: the digits of a number, and counting on; plain. -/
import Derived.Test.YtifaccppbhbfhaaA347
namespace Go.Proofs.Ytifaccppbhbfhaa
set_option linter.unusedVariables false
set_option linter.unusedSimpArgs false
open Go.RowKit

/-- The lowest d digits of m. -/
def dgl (P : Nat) : Nat → Nat → List Int
  | 0, _ => []
  | d + 1, m => ((m % P : Nat) : Int) :: dgl P d (m / P)
/-- The monic polynomial of degree d with a number. -/
def pon (P d m : Nat) : List Int := dgl P d m ++ [1]
theorem dgl_len (P : Nat) : ∀ d m, (dgl P d m).length = d
  | 0, _ => rfl
  | d + 1, m => by rw [dgl, List.length_cons, dgl_len P d]
theorem pon_len (P d m : Nat) : (pon P d m).length = d + 1 := by rw [pon, List.length_append, dgl_len]; rfl
theorem pon_0 (P m : Nat) : pon P 0 m = [1] := rfl
theorem pon_s (P d m : Nat) : pon P (d + 1) m = ((m % P : Nat) : Int) :: pon P d (m / P) := rfl
theorem gt_cons0 (x : Int) (l : List Int) : gt (x :: l) 0 = x := rfl
theorem gt_consS (x : Int) (l : List Int) (k : Nat) : gt (x :: l) (k + 1) = gt l k := rfl
theorem pon_last (P : Nat) : ∀ d m, gt (pon P d m) d = 1
  | 0, _ => rfl
  | d + 1, m => by rw [pon_s, gt_consS, pon_last P d]
theorem pon_bd (P : Nat) (hP : 2 ≤ P) : ∀ d m k, 0 ≤ gt (pon P d m) k ∧ gt (pon P d m) k < (P : Int)
  | 0, m, 0 => by rw [pon_0, gt_cons0]; omega
  | 0, m, k + 1 => by rw [pon_0, gt_consS, gt_big (by simp)]; omega
  | d + 1, m, 0 => by
    rw [pon_s, gt_cons0]
    have := Nat.mod_lt m (show 0 < P by omega)
    omega
  | d + 1, m, k + 1 => by rw [pon_s, gt_consS]; exact pon_bd P hP d _ k
theorem pon_can (P : Nat) [NeZero P] (hP : 2 ≤ P) (d m : Nat) : FX.Can P (pon P d m) := by
  refine ⟨fun k => pon_bd P hP d m k, fun _ => ?_⟩
  rw [pon_len, Nat.add_sub_cancel, pon_last]
  omega
theorem pon_zero (P : Nat) : ∀ d, pon P d 0 = (List.replicate (d + 1) 0).set d 1
  | 0 => rfl
  | d + 1 => by
    rw [pon_s, Nat.zero_mod, Nat.zero_div, pon_zero P d, List.replicate_succ (n := d + 1)]; rfl
/-- A digit that is not the last of its kind. -/
theorem nx_lo {P m : Nat} (h : m % P ≠ P - 1) (hP : 2 ≤ P) : (m + 1) % P = m % P + 1 ∧ (m + 1) / P = m / P := by
  have h1 := Nat.mod_lt m (show 0 < P by omega)
  have h2 := Nat.div_add_mod m P
  have e : m + 1 = m % P + 1 + P * (m / P) := by omega
  constructor
  · rw [e, Nat.add_mul_mod_self_left, Nat.mod_eq_of_lt (by omega)]
  · conv => lhs; rw [e]
    rw [Nat.add_mul_div_left _ _ (by omega), Nat.div_eq_of_lt (by omega)]; omega
theorem nx_hi {P m : Nat} (h : m % P = P - 1) (hP : 2 ≤ P) : (m + 1) % P = 0 ∧ (m + 1) / P = m / P + 1 := by
  have h2 := Nat.div_add_mod m P
  have e : m + 1 = P * (m / P + 1) := by rw [Nat.mul_add]; omega
  constructor
  · rw [e, Nat.mul_mod_right]
  · conv => lhs; rw [e]
    rw [Nat.mul_div_cancel_left _ (by omega)]
/-- Counting on: i digits are done. -/
def CST (P d m i e mi : Nat) (g : List Int) : Prop := i + e = d ∧ mi < P ^ e ∧ g = List.replicate i 0 ++ pon P e mi ∧ pon P d (m + 1) = List.replicate i 0 ++ pon P e (mi + 1) ∧ (m + 1 = P ^ d ↔ mi + 1 = P ^ e)
theorem CST.start {P d m : Nat} (h : m < P ^ d) : CST P d m 0 d m (pon P d m) := ⟨by omega, h, rfl, rfl, Iff.rfl⟩
theorem CST.len {P d m i e mi : Nat} {g : List Int} (h : CST P d m i e mi g) : g.length = d + 1 := by
  obtain ⟨h1, _, h3, _⟩ := h
  rw [h3, List.length_append, List.length_replicate, pon_len]; omega
theorem gt_repl_app (i : Nat) (l : List Int) : gt (List.replicate i 0 ++ l) i = gt l 0 := by
  unfold gt
  rw [List.getD_eq_getElem?_getD, List.getElem?_append_right (by simp), List.getD_eq_getElem?_getD]
  simp
theorem set_repl_app (i : Nat) (l : List Int) (x : Int) : (List.replicate i 0 ++ l).set i x = List.replicate i 0 ++ l.set 0 x := by
  rw [List.set_append_right _ _ (by simp)]
  simp
theorem CST.end {P d m i mi : Nat} {g : List Int} (h : CST P d m i 0 mi g) : i = d ∧ m + 1 = P ^ d := by
  obtain ⟨h1, h2, _, _, h5⟩ := h
  rw [Nat.pow_zero] at h2 h5
  exact ⟨by omega, h5.2 (by omega)⟩
/-- The digit to look at. -/
theorem CST.at {P d m i e mi : Nat} {g : List Int} (h : CST P d m i (e + 1) mi g) : gt g i = ((mi % P : Nat) : Int) ∧ i < d := by
  obtain ⟨h1, h2, h3, _, _⟩ := h
  rw [h3, gt_repl_app, pon_s, gt_cons0]
  exact ⟨rfl, by omega⟩
theorem CST.more {P d m i e mi : Nat} {g : List Int} (hP : 2 ≤ P) (h : CST P d m i (e + 1) mi g) (hx : mi % P = P - 1) : CST P d m (i + 1) e (mi / P) (g.set i 0) := by
  obtain ⟨h1, h2, h3, h4, h5⟩ := h
  obtain ⟨n1, n2⟩ := nx_hi hx hP
  refine ⟨by omega, ?_, ?_, ?_, ?_⟩
  · rw [Nat.div_lt_iff_lt_mul (by omega), ← Nat.pow_succ]; exact h2
  · rw [h3, set_repl_app, pon_s, List.replicate_succ', List.append_assoc]; rfl
  · rw [h4, pon_s, n1, n2, List.replicate_succ', List.append_assoc]; rfl
  · rw [h5]
    have h6 := Nat.div_add_mod mi P
    have h7 : mi + 1 = P * (mi / P + 1) := by rw [Nat.mul_add]; omega
    rw [h7, Nat.pow_succ, Nat.mul_comm (P ^ e) P]
    exact ⟨fun h => Nat.eq_of_mul_eq_mul_left (by omega) h, fun h => by rw [h]⟩
theorem CST.stop {P d m i e mi : Nat} {g : List Int} (hP : 2 ≤ P) (h : CST P d m i (e + 1) mi g) (hx : mi % P ≠ P - 1) : g.set i (((mi % P : Nat) : Int) + 1) = pon P d (m + 1) ∧ m + 1 ≠ P ^ d ∧ ((mi % P : Nat) : Int) ≠ (P : Int) - 1 := by
  obtain ⟨h1, h2, h3, h4, h5⟩ := h
  obtain ⟨n1, n2⟩ := nx_lo hx hP
  refine ⟨?_, ?_, by omega⟩
  · rw [h3, h4, set_repl_app, pon_s, pon_s, n1, n2]; rfl
  · rw [Ne, h5]
    intro h
    apply hx
    have h6 : (mi + 1) % P = 0 := by rw [h, Nat.pow_succ, Nat.mul_comm, Nat.mul_mod_right]
    omega
/-- The first polynomial from m on with a property, among k. -/
def frs (t : List Int → Bool) (P d : Nat) : Nat → Nat → List Int
  | 0, _ => []
  | k + 1, m => if t (pon P d m) = true then pon P d m else frs t P d k (m + 1)
def frF (t : List Int → Bool) (P d : Nat) : List Int := frs t P d (P ^ d) 0
theorem frs_len (t : List Int → Bool) (P d : Nat) : ∀ k m, (frs t P d k m).length ≤ d + 1
  | 0, _ => by simp [frs]
  | k + 1, m => by
    rw [frs]
    split
    · rw [pon_len]; omega
    · exact frs_len t P d k (m + 1)
theorem frs_yes {t : List Int → Bool} {P d m : Nat} (h : m < P ^ d) (ht : t (pon P d m) = true) : frs t P d (P ^ d - m) m = pon P d m := by
  rw [show P ^ d - m = (P ^ d - (m + 1)) + 1 by omega, frs, if_pos ht]
theorem frs_no {t : List Int → Bool} {P d m : Nat} (h : m < P ^ d) (ht : t (pon P d m) = false) : frs t P d (P ^ d - m) m = frs t P d (P ^ d - (m + 1)) (m + 1) := by
  rw [show P ^ d - m = (P ^ d - (m + 1)) + 1 by omega, frs, if_neg (by rw [ht]; simp)]
theorem frs_end (t : List Int → Bool) (P d : Nat) : frs t P d (P ^ d - P ^ d) (P ^ d) = [] := by
  rw [Nat.sub_self]; rfl
/-- The digits of a number with a leading 1: a step. -/
theorem wn_step {P e m : Nat} (hP : 2 ≤ P) (h : m < P ^ (e + 1)) : (P ^ (e + 1) + m) % P = m % P ∧ (P ^ (e + 1) + m) / P = P ^ e + m / P ∧ m / P < P ^ e := by
  have h1 : P ^ (e + 1) = P * P ^ e := by rw [Nat.pow_succ, Nat.mul_comm]
  refine ⟨by rw [h1, Nat.mul_add_mod], ?_, ?_⟩
  · rw [h1, Nat.mul_add_div (by omega)]
  · rw [Nat.div_lt_iff_lt_mul (by omega), ← Nat.pow_succ]; exact h
theorem pow_bd {P d : Nat} (hP : P ≤ 97) (hd : d ≤ 4) (h1 : 1 ≤ P) : P ^ d ≤ 88529281 := Nat.le_trans (Nat.pow_le_pow_right h1 hd) (by
  have : P ^ 4 ≤ 97 ^ 4 := Nat.pow_le_pow_left hP 4
  simpa using this)
end Go.Proofs.Ytifaccppbhbfhaa
