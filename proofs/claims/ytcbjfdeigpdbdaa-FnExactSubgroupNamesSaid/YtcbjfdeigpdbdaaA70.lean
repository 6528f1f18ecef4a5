/- Plain laws of permutations: products, ranks, what generators reach. -/
import Derived.Test.YtcbjfdeigpdbdaaA8
import Derived.Test.YtcbjfdeigpdbdaaA16
namespace Go.Proofs.Ytcbjfdeigpdbdaa
set_option linter.unusedVariables false
set_option linter.unusedSimpArgs false
open Go.RowKit

/-- The first j elements of b, each taken through a. -/
def prodL (a b : List Int) : List Int := b.map fun x => gt a x.toNat
theorem prodL_len (a b : List Int) : (prodL a b).length = b.length := by simp [prodL]
theorem prodL_take_succ {a b : List Int} {k : Nat} (h : k < b.length) : prodL a (b.take (k + 1)) = prodL a (b.take k) ++ [gt a (gt b k).toNat] := by
  simp only [prodL]
  rw [List.take_succ_eq_append_getElem h, List.map_append]
  simp [gt, List.getElem?_eq_getElem h]
def idL (n : Nat) : List Int := (List.range n).map fun k : Nat => (k : Int)
theorem idL_len (n : Nat) : (idL n).length = n := by simp [idL]
theorem idL_succ (n : Nat) : idL (n + 1) = idL n ++ [(n : Int)] := by simp [idL, List.range_succ]
/-- All elements are points below n, and there are n of them. -/
def InR (n : Nat) (a : List Int) : Prop := a.length = n ∧ ∀ k, k < n → 0 ≤ gt a k ∧ gt a k < (n : Int)
theorem gt_map {f : Int → Int} {l : List Int} {k : Nat} (h : k < l.length) : gt (l.map f) k = f (gt l k) := by
  simp [gt, List.getElem?_eq_getElem h]
theorem InR.prod {n : Nat} {a b : List Int} (ha : InR n a) (hb : InR n b) : InR n (prodL a b) := by
  refine ⟨by rw [prodL_len]; exact hb.1, fun k hk => ?_⟩
  obtain ⟨h1, h2⟩ := hb.2 k hk
  unfold prodL
  rw [gt_map (by rw [hb.1]; exact hk)]
  exact ha.2 _ (by omega)
theorem idL_in (n : Nat) : InR n (idL n) := by
  refine ⟨idL_len n, fun k hk => ?_⟩
  have : gt (idL n) k = (k : Int) := by simp [gt, idL, hk]
  rw [this]
  omega
/-- How many of the m elements from s on are less than x. -/
def cntL (a : List Int) (x : Int) (s : Nat) : Nat → Nat
  | 0 => 0
  | j + 1 => cntL a x s j + if gt a (s + j) < x then 1 else 0
theorem cntL_le (a : List Int) (x : Int) (s : Nat) : ∀ j, cntL a x s j ≤ j
  | 0 => Nat.le_refl _
  | j + 1 => by
    have := cntL_le a x s j
    unfold cntL
    split <;> omega
theorem cntL_yes {a : List Int} {x : Int} {s j : Nat} (h : gt a (s + j) < x) : cntL a x s (j + 1) = cntL a x s j + 1 := by rw [cntL, if_pos h]
theorem cntL_no {a : List Int} {x : Int} {s j : Nat} (h : ¬ gt a (s + j) < x) : cntL a x s (j + 1) = cntL a x s j := by rw [cntL, if_neg h]; rfl
def rkL (a : List Int) : Nat → Nat
  | 0 => 0
  | k + 1 => rkL a k * (a.length - k) + cntL a (gt a k) (k + 1) (a.length - (k + 1))
theorem rkL_succ (a : List Int) (k : Nat) : rkL a (k + 1) = rkL a k * (a.length - k) + cntL a (gt a k) (k + 1) (a.length - (k + 1)) := rfl
def rk (a : List Int) : Nat := rkL a a.length
theorem rkL_bd (a : List Int) : ∀ k, k ≤ a.length → (rkL a k + 1) * fact (a.length - k) ≤ fact a.length
  | 0, _ => by simp [rkL]
  | k + 1, h => by
    have ih := rkL_bd a k (by omega)
    have hc := cntL_le a (gt a k) (k + 1) (a.length - (k + 1))
    obtain ⟨m, hm⟩ : ∃ m, a.length - k = m + 1 := ⟨a.length - k - 1, by omega⟩
    have hm' : a.length - (k + 1) = m := by omega
    rw [hm'] at hc ⊢
    rw [hm] at ih
    have e : fact (m + 1) = (m + 1) * fact m := by first | rfl | simp [fact, Nat.mul_comm]
    rw [e, ← Nat.mul_assoc] at ih
    refine Nat.le_trans (Nat.mul_le_mul_right _ ?_) ih
    rw [rkL_succ, hm, hm', Nat.add_mul, Nat.one_mul]
    omega
theorem rk_lt (a : List Int) : rk a < fact a.length := by
  have h := rkL_bd a a.length (Nat.le_refl _)
  rw [Nat.sub_self] at h
  have : fact 0 = 1 := rfl
  rw [this, Nat.mul_one] at h
  exact h
theorem rkL_le {a : List Int} {k : Nat} (h : k ≤ a.length) : rkL a k < fact a.length := by
  have h1 := rkL_bd a k h
  have h2 : 1 ≤ fact (a.length - k) := fact_pos _
  have h3 : (rkL a k + 1) * 1 ≤ (rkL a k + 1) * fact (a.length - k) := Nat.mul_le_mul_left _ h2
  omega
theorem gt_id {n k : Nat} (h : k < n) : gt (idL n) k = (k : Int) := by simp [gt, idL, h]
theorem rkL_id (n : Nat) : ∀ k, k ≤ n → rkL (idL n) k = 0
  | 0, _ => rfl
  | k + 1, h => by
    have hc : ∀ j, k + 1 + j ≤ n → cntL (idL n) (gt (idL n) k) (k + 1) j = 0 := by
      intro j
      induction j with
      | zero => intro _; rfl
      | succ j ih =>
        intro hj
        rw [cntL_no, ih (by omega)]
        rw [gt_id (by omega), gt_id (by omega)]
        omega
    rw [rkL_succ, rkL_id n k (by omega), idL_len, hc _ (by omega)]
    simp
theorem rk_id (n : Nat) : rk (idL n) = 0 := by
  unfold rk
  rw [idL_len]
  exact rkL_id n n (Nat.le_refl _)
/-- One member met with all generators. -/
def stepG (m : List Int) : List (List Int) → List (List Int) → List Bool → List (List Int) × List Bool
  | [], ms, sn => (ms, sn)
  | g :: gs, ms, sn => if sn.getD (rk (prodL g m)) false then stepG m gs ms sn else stepG m gs (ms ++ [prodL g m]) (sn.set (rk (prodL g m)) true)
def bfs (gens : List (List Int)) : Nat → Nat → List (List Int) → List Bool → List (List Int) × List Bool
  | 0, _, ms, sn => (ms, sn)
  | f + 1, k, ms, sn => if k < ms.length then bfs gens f (k + 1) (stepG (gl ms k) gens ms sn).1 (stepG (gl ms k) gens ms sn).2 else (ms, sn)
/-- How many are true. -/
def trues (sn : List Bool) : Nat := sn.countP (fun b => b)
theorem trues_set : ∀ (sn : List Bool) (r : Nat), r < sn.length → sn.getD r false = false → trues (sn.set r true) = trues sn + 1
  | [], r, h, _ => by simp at h
  | b :: sn, 0, _, h => by
    simp at h; subst h
    simp [trues]
  | b :: sn, r + 1, h, h' => by
    simp at h h'
    have := trues_set sn r h (by simpa using h')
    simp only [List.set_cons_succ, trues, List.countP_cons] at this ⊢
    omega
theorem trues_le (sn : List Bool) : trues sn ≤ sn.length := List.countP_le_length
/-- What holds of the members and of what was seen. -/
def GI (n : Nat) (ms : List (List Int)) (sn : List Bool) : Prop :=
  sn.length = fact n ∧ ms.length = trues sn ∧ (∀ k, k < ms.length → InR n (gl ms k)) ∧ (∀ r, sn.getD r false = true ↔ ∃ k, k < ms.length ∧ rk (gl ms k) = r)
theorem getD_set_self {sn : List Bool} {r : Nat} (h : r < sn.length) : (sn.set r true).getD r false = true := by simp [h]
theorem getD_set_ne {sn : List Bool} {r q : Nat} (h : r ≠ q) : (sn.set r true).getD q false = sn.getD q false := by simp [List.getElem?_set_ne h]
theorem GI.le {n : Nat} {ms : List (List Int)} {sn : List Bool} (h : GI n ms sn) : ms.length ≤ fact n := by
  have := trues_le sn
  rw [h.2.1, ← h.1]; exact this
theorem GI.more {n : Nat} {ms : List (List Int)} {sn : List Bool} {b : List Int} (h : GI n ms sn) (hb : InR n b) (h0 : sn.getD (rk b) false = false) : GI n (ms ++ [b]) (sn.set (rk b) true) := by
  obtain ⟨h1, h2, h3, h4⟩ := h
  have hr : rk b < sn.length := by rw [h1, ← hb.1]; exact rk_lt b
  refine ⟨by simp [h1], ?_, fun k hk => ?_, fun r => ?_⟩
  · rw [trues_set _ _ hr h0]; simp [h2]
  · simp at hk
    rcases Nat.lt_or_ge k ms.length with hlt | hge
    · rw [gl_snoc_lt hlt]; exact h3 k hlt
    · obtain rfl : k = ms.length := by omega
      rw [gl_snoc]; exact hb
  · by_cases hrb : rk b = r
    · subst hrb
      rw [getD_set_self hr]
      simp only [true_iff]
      exact ⟨ms.length, by simp, by rw [gl_snoc]⟩
    · rw [getD_set_ne hrb, h4 r]
      constructor
      · rintro ⟨k, hk, e⟩
        exact ⟨k, by simp; omega, by rw [gl_snoc_lt hk]; exact e⟩
      · rintro ⟨k, hk, e⟩
        simp at hk
        rcases Nat.lt_or_ge k ms.length with hlt | hge
        · rw [gl_snoc_lt hlt] at e; exact ⟨k, hlt, e⟩
        · obtain rfl : k = ms.length := by omega
          rw [gl_snoc] at e; exact absurd e hrb
theorem GI.start {n : Nat} (h : 0 < fact n) : GI n [idL n] ((List.replicate (fact n) false).set 0 true) := by
  have hid : rk (idL n) = 0 := rk_id n
  have hr : ∀ r, (List.replicate (fact n) false).getD r false = false := by
    intro r; simp [List.getElem?_replicate]; split <;> rfl
  have ht : trues (List.replicate (fact n) false) = 0 := by simp [trues, List.countP_replicate]
  refine ⟨by simp, ?_, fun k hk => ?_, fun r => ?_⟩
  · rw [trues_set _ _ (by simp; exact h) (hr 0), ht]; rfl
  · simp at hk; subst hk; exact idL_in n
  · by_cases h0 : 0 = r
    · subst h0
      rw [getD_set_self (by simp; exact h)]
      simp only [true_iff]
      exact ⟨0, by simp, by simpa [gl] using hid⟩
    · rw [getD_set_ne h0, hr]
      simp only [Bool.false_eq_true, false_iff]
      rintro ⟨k, hk, e⟩
      simp at hk; subst hk
      have : gl [idL n] 0 = idL n := rfl
      rw [this, hid] at e
      exact h0 e
end Go.Proofs.Ytcbjfdeigpdbdaa
