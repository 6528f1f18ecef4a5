/- Null spaces by p: the plain part of the program's kernel. -/
import Derived.Test.YtifaccppbhbfhaaA356
namespace Go.Proofs.Ytifaccppbhbfhaa
set_option linter.unusedVariables false
set_option linter.unusedSimpArgs false
open Go.RowKit

def mulM (P s : Int) (r : List Int) : Nat → List Int
  | 0 => r
  | k + 1 => (mulM P s r k).set k (gt (mulM P s r k) k * s % P)
theorem mulM_len (P s : Int) (r : List Int) : ∀ k, (mulM P s r k).length = r.length
  | 0 => rfl
  | k + 1 => by rw [mulM, List.length_set, mulM_len P s r k]
theorem mulM_gt (P s : Int) (r : List Int) : ∀ k j, k ≤ r.length → gt (mulM P s r k) j = if j < k then gt r j * s % P else gt r j
  | 0, j, _ => by rw [mulM, if_neg (by omega)]
  | k + 1, j, h => by
    rw [mulM, gt_setI j (by rw [mulM_len]; omega)]
    have h1 := mulM_gt P s r k j (by omega)
    have h2 := mulM_gt P s r k k (by omega)
    by_cases hj : k = j
    · rw [if_pos hj, h2, if_neg (by omega), if_pos (by omega), hj]
    · rw [if_neg hj, h1]
      by_cases hc : j < k
      · rw [if_pos hc, if_pos (by omega)]
      · rw [if_neg hc, if_neg (by omega)]
def swp {α : Type} (R : Nat → α) (a k : Nat) : Nat → α := fun j => if j = a then R k else if j = k then R a else R j
theorem swp_lt {n a k j : Nat} (ha : a < n) (hk : k < n) (hj : j < n) : ∃ j', j' < n ∧ ∀ {α : Type} (R : Nat → α), swp R a k j' = R j := by
  by_cases e : j = a
  · refine ⟨k, hk, fun R => ?_⟩
    unfold swp
    by_cases e2 : k = a
    · rw [if_pos e2, e, e2]
    · rw [if_neg e2, if_pos rfl, e]
  · by_cases e2 : j = k
    · exact ⟨a, ha, fun R => by unfold swp; rw [if_pos rfl, e2]⟩
    · exact ⟨j, hj, fun R => by unfold swp; rw [if_neg e, if_neg e2]⟩
theorem swp_of {n a k j : Nat} (ha : a < n) (hk : k < n) (hj : j < n) : ∃ j', j' < n ∧ ∀ {α : Type} (R : Nat → α), swp R a k j = R j' := by
  by_cases e : j = a
  · exact ⟨k, hk, fun R => by unfold swp; rw [if_pos e]⟩
  · by_cases e2 : j = k
    · exact ⟨a, ha, fun R => by unfold swp; rw [if_neg e, if_pos e2]⟩
    · exact ⟨j, hj, fun R => by unfold swp; rw [if_neg e, if_neg e2]⟩
section
variable (P : Nat) [NeZero P]
def dotR (n : Nat) (r : List Int) (u : FX.Pol (Fin P)) : Fin P := FX.sm n fun j => FX.ci P (gt r j) * u.c j
/-- The row makes u zero. -/
def ZR (n : Nat) (r : List Int) (u : FX.Pol (Fin P)) : Prop := dotR P n r u = 0
theorem dot_sub {n : Nat} {q : Int} {r s : List Int} (hr : r.length = n) (u : FX.Pol (Fin P)) : dotR P n (subM (P : Int) q s r 0 n) u = dotR P n r u - FX.ci P q * dotR P n s u := by
  unfold dotR
  rw [← FX.sm_mulL, FX.sm_addC n (fun j => FX.ci P (gt (subM (P : Int) q s r 0 n) j) * u.c j) (fun j => FX.ci P q * (FX.ci P (gt s j) * u.c j)) (fun j => FX.ci P (gt r j) * u.c j) (fun j hj => by
    rw [subM_gt _ _ _ _ _ _ _ (by omega), if_pos (by omega), Nat.sub_zero, FX.ci_mod, FX.ci_sub, FX.ci_mul]; exact FX.rg)]
  exact FX.rg
theorem dot_mul {n : Nat} {q : Int} {r : List Int} (hr : r.length = n) (u : FX.Pol (Fin P)) : dotR P n (mulM (P : Int) q r n) u = FX.ci P q * dotR P n r u := by
  unfold dotR
  rw [← FX.sm_mulL]
  exact FX.sm_ext fun j hj => by rw [mulM_gt _ _ _ _ _ (by omega), if_pos hj, FX.ci_mod, FX.ci_mul]; exact FX.rg
/-- Gauss and Jordan, under way. -/
structure NI (n : Nat) (R0 R : Nat → List Int) (pv : Nat → Nat) (a c : Nat) : Prop where
  bd : ∀ i, i < n → Bd P (R i) ∧ (R i).length = n
  eq : ∀ u : FX.Pol (Fin P), (∀ i, i < n → ZR P n (R i) u) ↔ ∀ i, i < n → ZR P n (R0 i) u
  pvl : ∀ i, i < a → pv i < c
  one : ∀ i, i < a → ∀ j, j < n → gt (R j) (pv i) = if j = i then 1 else 0
  zer : ∀ i, a ≤ i → i < n → ∀ k, k < c → gt (R i) k = 0
  le : a ≤ n
theorem NI.start {n : Nat} {R : Nat → List Int} (h : ∀ i, i < n → Bd P (R i) ∧ (R i).length = n) : NI P n R R (fun _ => 0) 0 0 :=
  ⟨h, fun _ => Iff.rfl, fun i hi => by omega, fun i hi => by omega, fun i _ _ k hk => by omega, Nat.zero_le _⟩
theorem NI.none {n a c : Nat} {R0 R : Nat → List Int} {pv : Nat → Nat} (h : NI P n R0 R pv a c) (h0 : ∀ i, a ≤ i → i < n → gt (R i) c = 0) : NI P n R0 R pv a (c + 1) :=
  ⟨h.bd, h.eq, fun i hi => by have := h.pvl i hi; omega, h.one, fun i hi hn k hk => by
    by_cases e : k = c
    · rw [e]; exact h0 i hi hn
    · exact h.zer i hi hn k (by omega), h.le⟩
theorem NI.swap {n a c k : Nat} {R0 R : Nat → List Int} {pv : Nat → Nat} (h : NI P n R0 R pv a c) (ha : a ≤ k) (hk : k < n) : NI P n R0 (swp R a k) pv a c := by
  have han : a < n := by omega
  refine ⟨fun i hi => ?_, fun u => ?_, h.pvl, fun i hi j hj => ?_, fun i hi hn' k' hk' => ?_, h.le⟩
  · obtain ⟨j, hj, e⟩ := swp_of han hk hi
    rw [e]; exact h.bd j hj
  · rw [← h.eq]
    constructor
    · intro h1 i hi
      obtain ⟨j, hj, e⟩ := swp_lt han hk hi
      rw [← e R]; exact h1 j hj
    · intro h1 i hi
      obtain ⟨j, hj, e⟩ := swp_of han hk hi
      rw [e]; exact h1 j hj
  · unfold swp
    by_cases e : j = a
    · rw [if_pos e, h.one i hi k hk, if_neg (by omega), if_neg (by omega)]
    · rw [if_neg e]
      by_cases e2 : j = k
      · rw [if_pos e2, h.one i hi a han, if_neg (by omega), if_neg (by omega)]
      · rw [if_neg e2]; exact h.one i hi j hj
  · unfold swp
    by_cases e : i = a
    · rw [if_pos e]; exact h.zer k ha hk k' hk'
    · rw [if_neg e]
      by_cases e2 : i = k
      · rw [if_pos e2]; exact h.zer a (Nat.le_refl _) han k' hk'
      · rw [if_neg e2]; exact h.zer i hi hn' k' hk'
/-- The column c is being cleared by the row a. -/
def NJ (n : Nat) (R0 R : Nat → List Int) (pv : Nat → Nat) (a c i0 : Nat) : Prop := NI P n R0 R pv a c ∧ a < n ∧ gt (R a) c = 1 ∧ ∀ j, j < i0 → j ≠ a → gt (R j) c = 0
theorem NI.scale (hp : FX.Prm P) {n a c : Nat} {R0 R : Nat → List Int} {pv : Nat → Nat} (h : NI P n R0 R pv a c) (ha : a < n) (hc : c < n) {v : Int} (hv : FX.ci P v * FX.ci P (gt (R a) c) = 1) : NJ P n R0 (upd R a (mulM (P : Int) v (R a) n)) pv a c 0 := by
  have hF := FX.fin_fp (p := P) hp
  have hp2 : 2 ≤ P := hp.1
  have hl := (h.bd a ha).2
  have hz : ∀ k, gt (R a) k = 0 → gt (mulM (P : Int) v (R a) n) k = 0 := fun k hk => by
    rw [mulM_gt _ _ _ _ _ (by omega), hk]; split <;> simp
  refine ⟨⟨fun i hi => ?_, fun u => ?_, h.pvl, fun i hi j hj => ?_, fun i hi hn' k' hk' => ?_, h.le⟩, ha, ?_, fun j hj => by omega⟩
  · by_cases e : i = a
    · rw [e, upd_same]
      refine ⟨fun k => ?_, by rw [mulM_len]; exact hl⟩
      rw [mulM_gt _ _ _ _ _ (by omega)]
      split
      · exact mod_bd P _
      · exact (h.bd a ha).1 k
    · rw [upd_ne _ _ e]; exact h.bd i hi
  · rw [← h.eq]
    have hne : FX.ci P v ≠ 0 := fun e0 => FX.Fld.one_ne (K := Fin P) (by rw [← hv, e0]; exact FX.rg)
    have hiff : ZR P n (mulM (P : Int) v (R a) n) u ↔ ZR P n (R a) u := by
      unfold ZR
      rw [dot_mul P hl]
      exact ⟨fun e => Classical.byContradiction fun h0 => FX.mul_ne hne h0 e, fun e => by rw [e]; exact FX.rg⟩
    constructor
    · intro h1 i hi
      have h2 := h1 i hi
      by_cases e : i = a
      · rw [e, upd_same] at h2; rw [e]; exact hiff.1 h2
      · rw [upd_ne _ _ e] at h2; exact h2
    · intro h1 i hi
      by_cases e : i = a
      · rw [e, upd_same]; exact hiff.2 (h1 a ha)
      · rw [upd_ne _ _ e]; exact h1 i hi
  · by_cases e : j = a
    · rw [e, upd_same, if_neg (by omega)]
      refine hz _ ?_
      rw [h.one i hi a ha, if_neg (by omega)]
    · rw [upd_ne _ _ e]; exact h.one i hi j hj
  · by_cases e : i = a
    · rw [e, upd_same]; exact hz _ (h.zer a (Nat.le_refl _) ha k' hk')
    · rw [upd_ne _ _ e]; exact h.zer i hi hn' k' hk'
  · rw [upd_same, mulM_gt _ _ _ _ _ (by omega), if_pos hc]
    refine FX.ci_inj P (mod_bd P _).1 (mod_bd P _).2 (by omega) (by omega) ?_
    rw [FX.ci_mod, FX.ci_mul, FX.ci_1, ← hv]; exact FX.rg
theorem NJ.skip {n a c i : Nat} {R0 R : Nat → List Int} {pv : Nat → Nat} (h : NJ P n R0 R pv a c i) (hs : i = a ∨ gt (R i) c = 0) : NJ P n R0 R pv a c (i + 1) := by
  obtain ⟨h1, h2, h3, h4⟩ := h
  refine ⟨h1, h2, h3, fun j hj hne => ?_⟩
  by_cases e : j = i
  · rw [e]
    rcases hs with e2 | e2
    · omega
    · exact e2
  · exact h4 j (by omega) hne
theorem NJ.op {n a c i : Nat} {R0 R : Nat → List Int} {pv : Nat → Nat} (h : NJ P n R0 R pv a c i) (hi : i < n) (hc : c < n) (hne : i ≠ a) : NJ P n R0 (upd R i (subM (P : Int) (gt (R i) c) (R a) (R i) 0 n)) pv a c (i + 1) := by
  obtain ⟨h1, h2, h3, h4⟩ := h
  have hl := (h1.bd i hi).2
  have hz : ∀ k, gt (R a) k = 0 → gt (subM (P : Int) (gt (R i) c) (R a) (R i) 0 n) k = gt (R i) k := fun k hk => by
    have := (h1.bd i hi).1 k
    rw [subM_gt _ _ _ _ _ _ _ (by omega), Nat.sub_zero, hk, Int.mul_zero, Int.sub_zero, Int.emod_eq_of_lt this.1 this.2]; split <;> rfl
  refine ⟨⟨fun j hj => ?_, fun u => ?_, h1.pvl, fun j hj k hk => ?_, fun j hj hn' k hk => ?_, h1.le⟩, h2, ?_, fun j hj hja => ?_⟩
  · by_cases e : j = i
    · rw [e, upd_same]
      exact ⟨sub_bdd P hl (h1.bd i hi).1, by rw [subM_len]; exact hl⟩
    · rw [upd_ne _ _ e]; exact h1.bd j hj
  · rw [← h1.eq]
    have hd := dot_sub P (q := gt (R i) c) (s := R a) hl u
    constructor
    · intro g k hk
      have ga := g a h2
      rw [upd_ne _ _ (fun e => hne e.symm)] at ga
      have g2 := g k hk
      by_cases e : k = i
      · rw [e, upd_same] at g2
        rw [e]
        unfold ZR at *
        rw [hd, ga] at g2
        rw [← g2]; exact FX.rg
      · rw [upd_ne _ _ e] at g2; exact g2
    · intro g k hk
      by_cases e : k = i
      · rw [e, upd_same]
        have g1 := g i hi
        have g2 := g a h2
        unfold ZR at *
        rw [hd, g1, g2]; exact FX.rg
      · rw [upd_ne _ _ e]; exact g k hk
  · by_cases e : k = i
    · rw [e, upd_same, hz _ (by rw [h1.one j hj a h2, if_neg (by omega)])]
      exact h1.one j hj i hi
    · rw [upd_ne _ _ e]; exact h1.one j hj k hk
  · by_cases e : j = i
    · rw [e, upd_same, hz _ (h1.zer a (Nat.le_refl _) h2 k hk)]
      exact h1.zer i (by omega) hi k hk
    · rw [upd_ne _ _ e]; exact h1.zer j hj hn' k hk
  · rw [upd_ne _ _ (fun e => hne e.symm)]; exact h3
  · by_cases e : j = i
    · rw [e, upd_same, subM_gt _ _ _ _ _ _ _ (by omega), if_pos (by omega), Nat.sub_zero, h3, Int.mul_one, Int.sub_self]
      simp
    · rw [upd_ne _ _ e]; exact h4 j (by omega) hja
theorem NJ.done {n a c : Nat} {R0 R : Nat → List Int} {pv : Nat → Nat} (h : NJ P n R0 R pv a c n) : NI P n R0 R (upd pv a c) (a + 1) (c + 1) := by
  obtain ⟨h1, h2, h3, h4⟩ := h
  refine ⟨h1.bd, h1.eq, fun i hi => ?_, fun i hi j hj => ?_, fun i hi hn' k hk => ?_, h2⟩
  · by_cases e : i = a
    · rw [e, upd_same]; omega
    · rw [upd_ne _ _ e]; have := h1.pvl i (by omega); omega
  · by_cases e : i = a
    · rw [e, upd_same]
      by_cases e2 : j = a
      · rw [e2, if_pos rfl]; exact h3
      · rw [if_neg e2]; exact h4 j hj e2
    · rw [upd_ne _ _ e]; exact h1.one i (by omega) j hj
  · by_cases e : k = c
    · rw [e]; exact h4 i hn' (by omega)
    · exact h1.zer i (by omega) hn' k (by omega)
/-- The vector of a column without a pivot, when t pivots are done. -/
def BV (n : Nat) (R : Nat → List Int) (pv : Nat → Nat) (col t : Nat) (v : List Int) : Prop := v.length = n ∧ gt v col = 1 ∧ (∀ i, i < t → gt v (pv i) = (- gt (R i) col) % (P : Int)) ∧ ∀ k, k ≠ col → (∀ i, i < t → k ≠ pv i) → gt v k = 0
def Free (pv : Nat → Nat) (a col : Nat) : Prop := ∀ i, i < a → pv i ≠ col
omit [NeZero P] in
theorem BV.start {n : Nat} (R : Nat → List Int) (pv : Nat → Nat) {col : Nat} (h : col < n) : BV P n R pv col 0 ((List.replicate n 0).set col 1) := by
  refine ⟨by simp, by rw [gt_setI col (by simp; exact h), if_pos rfl], fun i hi => by omega, fun k hk _ => ?_⟩
  rw [gt_setI k (by simp; exact h), if_neg (fun e => hk e.symm), gt_rep]
theorem NI.inj {n a c : Nat} {R0 R : Nat → List Int} {pv : Nat → Nat} (h : NI P n R0 R pv a c) {i j : Nat} (hi : i < a) (hj : j < a) (e : pv i = pv j) : i = j := by
  have h1 := h.one i hi j (by have := h.le; omega)
  have h2 := h.one j hj j (by have := h.le; omega)
  rw [if_pos rfl] at h2
  rw [e, h2] at h1
  by_cases e2 : j = i
  · exact e2.symm
  · rw [if_neg e2] at h1; omega
theorem BV.step {n a c col t : Nat} {R0 R : Nat → List Int} {pv : Nat → Nat} {v : List Int} (hi : NI P n R0 R pv a c) (h : BV P n R pv col t v) (ht : t < a) (hf : Free pv a col) (hp : pv t < n) : BV P n R pv col (t + 1) (v.set (pv t) ((- gt (R t) col) % (P : Int))) := by
  obtain ⟨h1, h2, h3, h4⟩ := h
  refine ⟨by rw [List.length_set]; exact h1, ?_, fun i hit => ?_, fun k hk hki => ?_⟩
  · rw [gt_setI col (by omega), if_neg (hf t ht)]; exact h2
  · rw [gt_setI _ (by omega)]
    by_cases e : i = t
    · rw [e, if_pos rfl]
    · rw [if_neg (fun e2 => e (hi.inj P (by omega) ht e2.symm))]; exact h3 i (by omega)
  · rw [gt_setI k (by omega), if_neg (fun e => hki t (by omega) e.symm)]
    exact h4 k hk (fun i hit => hki i (by omega))
theorem BV.bd (hp : FX.Prm P) {n a c col : Nat} {R0 R : Nat → List Int} {pv : Nat → Nat} {v : List Int} (h : BV P n R pv col a v) : Bd P v := fun k => by
  have hp2 : 2 ≤ P := hp.1
  obtain ⟨h1, h2, h3, h4⟩ := h
  by_cases e : k = col
  · rw [e, h2]; omega
  · by_cases e2 : ∃ i, i < a ∧ k = pv i
    · obtain ⟨i, hi, rfl⟩ := e2
      rw [h3 i hi]; exact mod_bd P _
    · rw [h4 k e (fun i hi e3 => e2 ⟨i, hi, e3⟩)]; omega
/-- A vector makes all rows zero. -/
theorem BV.zero {n a col : Nat} {R0 R : Nat → List Int} {pv : Nat → Nat} {v : List Int} (hi : NI P n R0 R pv a n) (h : BV P n R pv col a v) (hcol : col < n) (hf : Free pv a col) : ∀ i, i < n → ZR P n (R i) (FX.toP P v) := fun i hin => by
  obtain ⟨h1, h2, h3, h4⟩ := h
  by_cases hia : i < a
  · unfold ZR dotR
    rw [FX.sm_addC n (fun j => if j = col then FX.ci P (gt (R i) col) else 0) (fun j => if j = pv i then FX.ci P ((- gt (R i) col) % (P : Int)) else 0) _ (fun j hj => ?_)]
    · rw [FX.sm_one (j := col) hcol (fun j _ e => if_neg e), FX.sm_one (j := pv i) (hi.pvl i hia) (fun j _ e => if_neg e), if_pos rfl, if_pos rfl, FX.ci_mod, ← FX.ci_add, Int.add_right_neg, FX.ci_0]
    · show FX.ci P (gt (R i) j) * (FX.toP P v).c j = _
      rw [FX.toP_c]
      by_cases e : j = col
      · rw [if_pos e, if_neg (fun e2 => hf i hia (e2.symm.trans e)), e, h2, FX.ci_1]; exact FX.rg
      · rw [if_neg e]
        by_cases e2 : j = pv i
        · rw [if_pos e2, e2, h3 i hia, hi.one i hia i hin, if_pos rfl, FX.ci_1]; exact FX.rg
        · rw [if_neg e2]
          by_cases e3 : ∃ i', i' < a ∧ j = pv i'
          · obtain ⟨i', hi', rfl⟩ := e3
            rw [hi.one i' hi' i hin, if_neg (fun e4 => e2 (by rw [e4])), FX.ci_0]; exact FX.rg
          · rw [h4 j e (fun i' hi' e4 => e3 ⟨i', hi', e4⟩), FX.ci_0]; exact FX.rg
  · unfold ZR dotR
    exact FX.sm_zero fun j hj => by rw [hi.zer i (by omega) hin j hj, FX.ci_0]; exact FX.rg
/-- A basis of what the rows make zero. -/
def BS (n : Nat) (R0 : Nat → List Int) (bl : List (List Int)) : Prop :=
  (∀ v ∈ bl, FX.Can P v ∧ v.length ≤ n ∧ ∀ i, i < n → ZR P n (R0 i) (FX.toP P v)) ∧
  ∀ Q : FX.Pol (Fin P), (∀ v ∈ bl, ∃ a : Fin P, FX.Dv Q (FX.toP P v - FX.Pol.const a)) → ∀ u : FX.Pol (Fin P), FX.Lt u n → (∀ i, i < n → ZR P n (R0 i) u) → ∃ a : Fin P, FX.Dv Q (u - FX.Pol.const a)
/-- The basis as far as the columns below c. -/
def BI (n : Nat) (R : Nat → List Int) (pv : Nat → Nat) (a c : Nat) (bl : List (List Int)) : Prop :=
  (∀ v ∈ bl, ∃ col v', col < n ∧ Free pv a col ∧ v = trimL v' ∧ BV P n R pv col a v') ∧ ∀ col, col < c → Free pv a col → ∃ v v', v ∈ bl ∧ v = trimL v' ∧ BV P n R pv col a v'
theorem BI.bs (hp : FX.Prm P) {n a : Nat} {R0 R : Nat → List Int} {pv : Nat → Nat} {bl : List (List Int)} (hi : NI P n R0 R pv a n) (h : BI P n R pv a n bl) : BS P n R0 bl := by
  have hF := FX.fin_fp (p := P) hp
  refine ⟨fun v hv => ?_, fun Q hQ u hu hz => ?_⟩
  · obtain ⟨col, v', hc, hf, rfl, hb⟩ := h.1 v hv
    refine ⟨can_trim P (BV.bd P hp (c := n) (R0 := R0) hb), by have := trimL_le v'; have := hb.1; omega, ?_⟩
    rw [FX.toP_trim]
    exact (hi.eq _).1 (hb.zero P hi hc hf)
  · have hz2 := (hi.eq u).2 hz
    have hex : ∀ j, ∃ B : FX.Pol (Fin P), (∃ c : Fin P, FX.Dv Q (B - FX.Pol.const c)) ∧ ((j < n ∧ Free pv a j ∧ ∃ v', BV P n R pv j a v' ∧ B = FX.toP P v') ∨ ((¬ (j < n ∧ Free pv a j)) ∧ B = 0)) := fun j => by
      by_cases hj : j < n ∧ Free pv a j
      · obtain ⟨v, v', h1, h2, h3⟩ := h.2 j hj.1 hj.2
        refine ⟨FX.toP P v', ?_, .inl ⟨hj.1, hj.2, v', h3, rfl⟩⟩
        have := hQ v h1
        rwa [h2, FX.toP_trim] at this
      · exact ⟨0, ⟨0, by rw [FX.const_zero]; exact ⟨0, by exact FX.rg⟩⟩, .inr ⟨hj, rfl⟩⟩
    have hB := fun j => Classical.choose_spec (hex j)
    generalize hBd : (fun j => Classical.choose (hex j)) = B at *
    have hB' : ∀ j, (∃ c : Fin P, FX.Dv Q (B j - FX.Pol.const c)) ∧ ((j < n ∧ Free pv a j ∧ ∃ v', BV P n R pv j a v' ∧ B j = FX.toP P v') ∨ ((¬ (j < n ∧ Free pv a j)) ∧ B j = 0)) := fun j => by
      rw [← hBd]; exact hB j
    obtain ⟨cc, hcc⟩ := FX.num_sm (P := Q) n B u.c (fun j _ => (hB' j).1)
    refine ⟨cc, ?_⟩
    have he : u = FX.sm n fun j => FX.Pol.const (u.c j) * B j := FX.Pol.ext fun k => by
      rw [FX.sm_c]
      by_cases hk : k < n
      · by_cases hfk : Free pv a k
        · rw [FX.sm_one (j := k) hk (fun j hj hne => ?_)]
          · rw [FX.Pol.const_mul]
            rcases (hB' k).2 with ⟨_, _, v', h3, h4⟩ | ⟨h3, _⟩
            · rw [h4, FX.toP_c, h3.2.1, FX.ci_1]; exact FX.rg
            · exact absurd ⟨hk, hfk⟩ h3
          · show (FX.Pol.const (u.c j) * B j).c k = 0
            rw [FX.Pol.const_mul]
            rcases (hB' j).2 with ⟨_, _, v', h3, h4⟩ | ⟨_, h4⟩
            · rw [h4, FX.toP_c, h3.2.2.2 k (fun e => hne e.symm) (fun i hi e => hfk i hi e.symm), FX.ci_0]; exact FX.rg
            · rw [h4, FX.Pol.zero_c]; exact FX.rg
        · obtain ⟨i, hia, hik⟩ : ∃ i, i < a ∧ pv i = k := Classical.byContradiction fun h0 => hfk fun i hi e => h0 ⟨i, hi, e⟩
          have hin : i < n := by have := hi.le; omega
          have hzi := hz2 i hin
          unfold ZR dotR at hzi
          have h5 : ∀ j, j < n → (if j = k then u.c k else 0) = FX.ci P (gt (R i) j) * u.c j + (FX.Pol.const (u.c j) * B j).c k := fun j hj => by
            rw [FX.Pol.const_mul]
            rcases (hB' j).2 with ⟨_, hfj, v', h3, h4⟩ | ⟨h3, h4⟩
            · rw [if_neg (fun e => hfj i hia (hik.trans e.symm)), h4, FX.toP_c, ← hik, h3.2.2.1 i hia, FX.ci_mod, show (- gt (R i) j) = 0 - gt (R i) j by omega, FX.ci_sub, FX.ci_0]; exact FX.rg
            · obtain ⟨i', hi', e'⟩ : ∃ i', i' < a ∧ pv i' = j := Classical.byContradiction fun h0 => h3 ⟨hj, fun i' hi' e => h0 ⟨i', hi', e⟩⟩
              rw [h4, FX.Pol.zero_c, ← e', hi.one i' hi' i hin]
              by_cases e2 : i = i'
              · rw [if_pos e2, if_pos (by rw [← e2]; exact hik), FX.ci_1, ← e2, hik]; exact FX.rg
              · rw [if_neg e2, if_neg (fun e3 => e2 (hi.inj P hia hi' (hik.trans e3.symm))), FX.ci_0]; exact FX.rg
          have h6 := FX.sm_addC n _ _ _ h5
          rw [hzi, FX.sm_one (j := k) hk (fun j _ e => if_neg e), if_pos rfl] at h6
          rw [h6]; exact FX.rg
      · rw [hu k (by omega), FX.sm_zero (fun j hj => ?_)]
        show (FX.Pol.const (u.c j) * B j).c k = 0
        rw [FX.Pol.const_mul]
        rcases (hB' j).2 with ⟨_, _, v', h3, h4⟩ | ⟨_, h4⟩
        · rw [h4, FX.toP_c, gt_big (by have := h3.1; omega), FX.ci_0]; exact FX.rg
        · rw [h4, FX.Pol.zero_c]; exact FX.rg
    rw [he]; exact hcc
end
end Go.Proofs.Ytifaccppbhbfhaa
