/- The name of a transitive group of up to five points: both sides find the same. No program in sight. -/
import Derived.Test.YtkiglhaeiomohaaGreatA180
import Derived.Test.YtkiglhaeiomohaaGreatA174
import Derived.Test.YtkiglhaeiomohaaGreatA142
namespace Go.Proofs.YtkiglhaeiomohaaGreat
set_option linter.unusedVariables false
set_option linter.unusedSimpArgs false
open Go.RowKit

theorem mem_gt {l : List Int} {x : Int} : x ∈ l ↔ ∃ k, k < l.length ∧ gt l k = x := by
  constructor
  · intro h
    obtain ⟨j, hj, e⟩ := List.mem_iff_getElem.1 h
    exact ⟨j, hj, by simp [gt, List.getElem?_eq_getElem hj, e]⟩
  · rintro ⟨k, hk, rfl⟩; exact gt_mem hk
/-- Where the permutation with a rank takes 0. -/
theorem wr0 : ∀ n : Fin 6, ∀ r : Fin 120, r.val < fact n.val → 0 < n.val → gt (wrL n r) 0 = ((r.val / fact (n.val - 1) : Nat) : Int) := by decide +kernel
theorem fact_step {n : Nat} (h : 1 ≤ n) : fact n = n * fact (n - 1) := by
  obtain ⟨k, rfl⟩ : ∃ k, n = k + 1 := ⟨n - 1, by omega⟩
  rfl
theorem fact5 {n : Nat} (h : n ≤ 5) : fact n ≤ 120 := by
  have : n = 0 ∨ n = 1 ∨ n = 2 ∨ n = 3 ∨ n = 4 ∨ n = 5 := by omega
  rcases this with rfl | rfl | rfl | rfl | rfl | rfl <;> decide
theorem grp_of {n : Nat} {l : List Int} (h : grpB n l = true) : Grp n (fun r => (r : Int) ∈ l) ∧ l.Pairwise (· < ·) ∧ InK n l := by
  obtain ⟨n', hn, h1, h2, h3, h4, h5⟩ := grpB_t h
  obtain rfl : n = n' := by omega
  unfold grpB at h
  simp only [Bool.and_eq_true, decide_eq_true_eq] at h
  obtain ⟨_, _, g2, g3, g4⟩ := h
  rw [Int.toNat_natCast] at g3 g4
  refine ⟨⟨fun r hr => ?_, ?_, fun i j hi hj => ?_⟩, rise_pw (riseB_p g3), h5⟩
  · obtain ⟨k, hk, e⟩ := mem_gt.1 hr
    have := (h5 k hk).2
    omega
  · exact mem_gt.2 ⟨0, h3, g2⟩
  · obtain ⟨a, ha, ea⟩ := mem_gt.1 hi
    obtain ⟨b, hb, eb⟩ := mem_gt.1 hj
    unfold cloB at g4
    rw [List.all_eq_true] at g4
    have h6 := g4 _ (gl_memL (n := n) ha)
    unfold cloR at h6
    rw [Bool.not_eq_true', List.any_eq_false] at h6
    have h7 := h6 _ (gl_memL (n := n) hb)
    have e1 : ∀ k, k < l.length → gl (memL n l) k = wrL n (gt l k).toNat := fun k hk => by
      unfold memL
      simp [gl, gt, List.getElem?_eq_getElem hk]
    rw [e1 a ha, e1 b hb, ea, eb, Int.toNat_natCast, Int.toNat_natCast] at h7
    simpa using h7
theorem tra_of {n : Nat} {l : List Int} (h1 : 1 ≤ n) (h5 : n ≤ 5) (hk : InK n l) (ht : (orL n l 0).length = n) : Tra n (fun r => (r : Int) ∈ l) := fun j hj => by
  rw [orL_flags hk (by omega)] at ht
  have hfl := fgS_len n (imL n l 0) l.length
  have hall : ∀ r, r < n → (fgS n (imL n l 0) l.length).getD r false = true := by
    intro r hr
    cases hb : (fgS n (imL n l 0) l.length).getD r false
    · exfalso
      generalize fgS n (imL n l 0) l.length = sn at *
      have : (lsL sn).length < sn.length := by
        unfold lsL
        rw [List.length_map]
        have h2 : r ∈ List.range sn.length := List.mem_range.2 (by omega)
        have h3 := List.length_filter_lt_length_iff_exists.2 (show ∃ x, x ∈ List.range sn.length ∧ ¬ (fun r => sn.getD r false) x = true from ⟨r, h2, by simp only [hb]; decide⟩)
        simpa using h3
      omega
    · rfl
  have h2 := hall j hj
  rw [fgS_mem (imL_in hk (by omega)) l.length (by rw [imL_len]; exact Nat.le_refl _)] at h2
  obtain ⟨k, hkl, e⟩ := h2
  rw [imL_gt hkl] at e
  have e1 : gl (memL n l) k = wrL n (gt l k).toNat := by
    unfold memL
    simp [gl, gt, List.getElem?_eq_getElem hkl]
  obtain ⟨r1, r2⟩ := hk k hkl
  obtain ⟨r, hr⟩ := Int.eq_ofNat_of_zero_le r1
  rw [e1, hr, Int.toNat_natCast] at e
  have hrf : r < fact n := by omega
  have h120 := fact5 h5
  have h9 := wr0 ⟨n, by omega⟩ ⟨r, by omega⟩ hrf h1
  have h9 : gt (wrL n r) 0 = ((r / fact (n - 1) : Nat) : Int) := h9
  rw [h9] at e
  have e2 : r / fact (n - 1) = j := by omega
  have hF := (fact_le (show n - 1 ≤ 6 by omega)).1
  refine ⟨r % fact (n - 1), Nat.mod_lt _ (by omega), ?_⟩
  have h10 : j * fact (n - 1) + r % fact (n - 1) = r := by
    rw [← e2, Nat.mul_comm]; exact Nat.div_add_mod _ _
  show ((j * fact (n - 1) + r % fact (n - 1) : Nat) : Int) ∈ l
  rw [h10, ← hr]
  exact gt_mem hkl
/-- The ranks that a mask tells. -/
def msL (n m : Nat) : List Int := lsL ((List.range (fact n)).map fun r => m.testBit r)
theorem trans_list {n : Nat} {l : List Int} (h1 : 1 ≤ n) (h5 : n ≤ 5) (hg : grpB n l = true) (ht : (orL n l 0).length = n) : ∃ p, p ∈ tgl n ∧ l = msL n p.1 := by
  obtain ⟨hG, hpw, hk⟩ := grp_of hg
  obtain ⟨p, hp, he⟩ := tra_five h1 h5 hG (tra_of h1 h5 hk ht)
  refine ⟨p, hp, rise_eq hpw (lsL_rise _) fun x => ?_⟩
  unfold msL
  rw [lsL_mem]
  constructor
  · intro hx
    obtain ⟨k, hkl, e⟩ := mem_gt.1 hx
    obtain ⟨r1, r2⟩ := hk k hkl
    obtain ⟨r, hr⟩ := Int.eq_ofNat_of_zero_le r1
    have hrf : r < fact n := by omega
    refine ⟨r, by omega, by simpa using hrf, ?_⟩
    have h2 := (he r hrf).1 (show (r : Int) ∈ l by rw [← hr]; exact gt_mem hkl)
    simp [hrf, h2]
  · rintro ⟨r, rfl, hr, hb⟩
    have hrf : r < fact n := by simpa using hr
    refine (he r hrf).2 ?_
    simpa [hrf] using hb
def nmQI (n : Nat) (l : List Int) (k : Nat) : Bool := decide (l.length = (RK (lbP k) (lbG k)).length) && (cjA n l (fact n)).any fun c => decide (c = RK (lbP k) (lbG k))
def nmQS (n : Nat) (l : List Int) (k : Nat) : Bool := decide ((RK (lbP k) (lbG k)).length = l.length) && cgB n (RK (lbP k) (lbG k)) l
/-- Conjugates off the table. -/
def ivT (n r : Nat) : Nat := (ivl n).getD r 0
def cjK (n r : Nat) (hs : List Nat) : Nat := hs.foldl (fun m x => Nat.lor m (Nat.shiftLeft 1 (mulT n (mulT n r x) (ivT n r)))) 0
def ivOk (n : Nat) : Bool := (List.range (fact n)).all fun r => Nat.blt (ivT n r) (fact n) && decide (wrL n (ivT n r) = invL (wrL n r))
def toI (hs : List Nat) : List Int := hs.map fun x : Nat => (x : Int)
theorem bit_one (y t : Nat) : (Nat.shiftLeft 1 y).testBit t = decide (t = y) := by
  show (1 <<< y).testBit t = decide (t = y)
  rw [Nat.testBit_shiftLeft, Bool.eq_iff_iff]
  simp only [Bool.and_eq_true, decide_eq_true_eq]
  constructor
  · rintro ⟨h1, h2⟩
    rcases Nat.eq_zero_or_pos (t - y) with h | h
    · omega
    · exfalso
      have h7 : Nat.testBit 1 (t - y) = false := Nat.testBit_lt_two_pow (Nat.one_lt_two_pow (by omega))
      rw [h7] at h2; cases h2
  · rintro rfl
    exact ⟨Nat.le_refl _, by rw [Nat.sub_self]; rfl⟩
theorem fold_bit (f : Nat → Nat) (t : Nat) : ∀ (hs : List Nat) (m : Nat), (hs.foldl (fun m x => Nat.lor m (Nat.shiftLeft 1 (f x))) m).testBit t = true ↔ (m.testBit t = true ∨ ∃ x, x ∈ hs ∧ f x = t)
  | [], m => by simp
  | a :: hs, m => by
    rw [List.foldl_cons, fold_bit f t hs]
    have h1 : (Nat.lor m (Nat.shiftLeft 1 (f a))).testBit t = (m.testBit t || decide (t = f a)) := by
      rw [← bit_one]; exact Nat.testBit_or m _ t
    rw [h1, Bool.or_eq_true, decide_eq_true_eq]
    constructor
    · rintro ((h | h) | ⟨x, hx, h⟩)
      · exact .inl h
      · exact .inr ⟨a, by simp, h.symm⟩
      · exact .inr ⟨x, by simp [hx], h⟩
    · rintro (h | ⟨x, hx, h⟩)
      · exact .inl (.inl h)
      · rcases List.mem_cons.1 hx with rfl | hx
        · exact .inl (.inr h.symm)
        · exact .inr ⟨x, hx, h⟩
theorem prod_at {n : Nat} (h : mulOk n = true) {i j : Nat} (hi : i < fact n) (hj : j < fact n) : prodL (wrL n i) (wrL n j) = wrL n (mulT n i j) ∧ mulT n i j < fact n := by
  unfold mulOk at h
  obtain ⟨h1, h2⟩ := Bool.and_eq_true_iff.1 h
  have hl : (pl n).length = fact n := by
    unfold plOk at h1
    rw [of_decide_eq_true (Bool.and_eq_true_iff.1 h1).1]; simp
  have h3 := all_at (pl n) 0 h2 i (by omega)
  obtain ⟨h4, h5⟩ := row_at (pl n) 0 h3 j (by omega)
  rw [Nat.zero_add, Nat.zero_add] at h4 h5
  rw [(pl_at h1 hi).1, (pl_at h1 hj).1, (pl_at h1 h4).1] at h5
  exact ⟨h5, h4⟩
theorem cj_mask {n r : Nat} {hs : List Nat} (hm : mulOk n = true) (hv : ivOk n = true) (hr : r < fact n) (hh : ∀ x ∈ hs, x < fact n) : rkC (cjM n (wrL n r) (toI hs)) = msL n (cjK n r hs) := by
  unfold ivOk at hv
  rw [List.all_eq_true] at hv
  obtain ⟨v1, v2⟩ := Bool.and_eq_true_iff.1 (hv r (List.mem_range.2 hr))
  have v1 : ivT n r < fact n := Eq.mp Nat.blt_eq v1
  have v2 := of_decide_eq_true v2
  have hrk : ∀ y, y < fact n → rk (cjL (wrL n r) (wrL n y)) = mulT n (mulT n r y) (ivT n r) ∧ mulT n (mulT n r y) (ivT n r) < fact n := fun y hy => by
    obtain ⟨a1, a2⟩ := prod_at hm hr hy
    unfold cjL
    rw [a1, ← v2, mul_at hm a2 v1]
    refine ⟨rfl, ?_⟩
    rw [← mul_at hm a2 v1]
    exact (prod_at hm a2 v1).2
  have hms : rksL (cjM n (wrL n r) (toI hs)) = hs.map fun y => ((rk (cjL (wrL n r) (wrL n y)) : Nat) : Int) := by
    unfold rksL cjM memL toI
    rw [List.map_map, List.map_map, List.map_map]
    apply List.map_congr_left
    intro y _
    simp [Function.comp]
  unfold rkC msL
  obtain ⟨s1, s2⟩ := sorted_compact (rksL (cjM n (wrL n r) (toI hs)))
  refine rise_eq s1 (lsL_rise _) fun x => ?_
  rw [s2 x, lsL_mem, hms, List.mem_map]
  constructor
  · rintro ⟨y, hy, rfl⟩
    obtain ⟨e1, e2⟩ := hrk y (hh y hy)
    rw [e1]
    refine ⟨_, rfl, by simpa using e2, ?_⟩
    have : (cjK n r hs).testBit (mulT n (mulT n r y) (ivT n r)) = true := (fold_bit (fun x => mulT n (mulT n r x) (ivT n r)) _ hs 0).2 (.inr ⟨y, hy, rfl⟩)
    simp [e2, this]
  · rintro ⟨t, rfl, ht, hb⟩
    have ht : t < fact n := by simpa using ht
    have hb : (cjK n r hs).testBit t = true := by simpa [ht] using hb
    rcases (fold_bit (fun x => mulT n (mulT n r x) (ivT n r)) t hs 0).1 hb with h | ⟨y, hy, h⟩
    · simp at h
    · exact ⟨y, hy, by rw [(hrk y (hh y hy)).1, h]⟩
def qiC (n : Nat) (hs : List Nat) (k : Nat) : Bool := Nat.beq hs.length (rkT k).length && (List.range (fact n)).any fun r => decide (msL n (cjK n r hs) = toI (rkT k))
def qsC (n : Nat) (hs : List Nat) (k : Nat) : Bool := Nat.beq (rkT k).length hs.length && (List.range (fact n)).any fun r => partB (msL n (cjK n r (rkT k))) (toI hs)
/-- Both sides' first names: the same, and there is one. -/
def nameOk (n : Nat) (hs : List Nat) : Bool := match (nmK n 14).filter (qiC n hs), (nmK n 14).find? (qsC n hs) with
  | a :: _, some b => Nat.beq a b
  | _, _ => false
set_option maxRecDepth 100000 in
theorem rkT_ok : ∀ k : Fin 14, RK (lbP k) (lbG k) = toI (rkT k) ∧ ∀ x ∈ rkT k, x < fact (lbP k) := by decide +kernel
set_option maxRecDepth 100000 in
theorem iv_ok : ∀ n : Fin 6, 0 < n.val → ivOk n = true := by decide +kernel
set_option maxRecDepth 100000 in
theorem ent_ok : ∀ n : Fin 6, ∀ p ∈ tgl n, msL n p.1 = toI p.2.2.1 ∧ ∀ x ∈ p.2.2.1, x < fact n := by decide +kernel
set_option maxRecDepth 100000 in
theorem names_ok : ∀ n : Fin 6, ∀ p ∈ tgl n, nameOk n p.2.2.1 = true := by decide +kernel
theorem any_congr {q q' : Nat → Bool} {m : Nat} (h : ∀ r, r < m → q r = q' r) : (List.range m).any q = (List.range m).any q' := by
  rw [Bool.eq_iff_iff, List.any_eq_true, List.any_eq_true]
  constructor
  · rintro ⟨r, hr, h1⟩; exact ⟨r, hr, by rw [← h r (List.mem_range.1 hr)]; exact h1⟩
  · rintro ⟨r, hr, h1⟩; exact ⟨r, hr, by rw [h r (List.mem_range.1 hr)]; exact h1⟩
theorem toI_len (hs : List Nat) : (toI hs).length = hs.length := by simp [toI]
theorem toI_in {n : Nat} {hs : List Nat} (h : ∀ x ∈ hs, x < fact n) : InK n (toI hs) := fun k hk => by
  rw [toI_len] at hk
  have e : gt (toI hs) k = ((hs[k] : Nat) : Int) := by simp [toI, gt, List.getElem?_eq_getElem hk]
  rw [e]
  have := h hs[k] (List.getElem_mem hk)
  omega
theorem beq_dec (a b : Nat) : Nat.beq a b = decide (a = b) := by
  rw [Bool.eq_iff_iff, decide_eq_true_eq]
  exact ⟨Nat.eq_of_beq_eq_true, fun h => by rw [h]; exact Nat.beq_refl b⟩
theorem qi_eq {n k : Nat} {hs : List Nat} (hm : mulOk n = true) (hv : ivOk n = true) (hk : k < 14) (hh : ∀ x ∈ hs, x < fact n) : nmQI n (toI hs) k = qiC n hs k := by
  obtain ⟨r1, r2⟩ := rkT_ok ⟨k, hk⟩
  have r1 : RK (lbP k) (lbG k) = toI (rkT k) := r1
  unfold nmQI qiC cjA
  rw [r1, toI_len, toI_len, beq_dec, List.any_map]
  congr 1
  exact any_congr fun r hr => decide_eq_decide.2 (by show rkC (cjM n (wrL n r) (toI hs)) = toI (rkT k) ↔ msL n (cjK n r hs) = toI (rkT k); rw [cj_mask hm hv hr hh])
theorem qs_eq {n k : Nat} {hs : List Nat} (h1 : 1 ≤ n) (hm : mulOk n = true) (hv : ivOk n = true) (hk : k < 14) (hkn : lbP k = n) (hh : ∀ x ∈ hs, x < fact n) : nmQS n (toI hs) k = qsC n hs k := by
  obtain ⟨r1, r2⟩ := rkT_ok ⟨k, hk⟩
  have r1 : RK (lbP k) (lbG k) = toI (rkT k) := r1
  have r2 : ∀ x ∈ rkT k, x < fact n := by rw [← hkn]; exact r2
  unfold nmQS qsC
  rw [r1, cgB_sb h1 (toI_in r2) (toI_in hh), toI_len, toI_len, beq_dec]
  unfold sbB cjA
  rw [List.any_map]
  congr 1
  exact any_congr fun r hr => by simp only [Function.comp]; rw [cj_mask hm hv hr r2]
theorem nmK_mem {n : Int} {k : Nat} (h : k ∈ nmK n 14) : k < 14 ∧ (lbP k : Int) = n := by
  unfold nmK at h
  rw [List.mem_filter] at h
  simpa using h
theorem find_congr {q q' : Nat → Bool} : ∀ {ks : List Nat}, (∀ k ∈ ks, q k = q' k) → ks.find? q = ks.find? q'
  | [], _ => rfl
  | a :: ks, h => by
    rw [List.find?_cons, List.find?_cons, h a (by simp), find_congr (ks := ks) (fun k hk => h k (by simp [hk]))]
/-- A transitive group of up to five points has a name, and both sides find it first. -/
theorem name_ex {n : Nat} {l : List Int} (h1 : 1 ≤ n) (h5 : n ≤ 5) (hg : grpB n l = true) (ht : (orL n l 0).length = n) : ∃ k0 rest, (nmK n 14).filter (nmQI n l) = k0 :: rest ∧ (nmK n 14).find? (nmQS n l) = some k0 ∧ k0 < 14 := by
  obtain ⟨p, hp, rfl⟩ := trans_list h1 h5 hg ht
  have h := names_ok ⟨n, by omega⟩ p hp
  have h : nameOk n p.2.2.1 = true := h
  obtain ⟨e1, e2⟩ := ent_ok ⟨n, by omega⟩ p hp
  have e1 : msL n p.1 = toI p.2.2.1 := e1
  have e2 : ∀ x ∈ p.2.2.1, x < fact n := e2
  have hv : ivOk n = true := iv_ok ⟨n, by omega⟩ h1
  have hm : mulOk n = true := by
    by_cases h : n = 5
    · subst h; exact mulOk5
    · exact mulOk4 ⟨n, by omega⟩ h1
  rw [e1]
  generalize p.2.2.1 = hs at *
  have c1 : (nmK (n : Int) 14).filter (nmQI n (toI hs)) = (nmK (n : Int) 14).filter (qiC n hs) := List.filter_congr fun k hk => qi_eq hm hv (nmK_mem hk).1 e2
  have c2 : (nmK (n : Int) 14).find? (nmQS n (toI hs)) = (nmK (n : Int) 14).find? (qsC n hs) := find_congr fun k hk => qs_eq h1 hm hv (nmK_mem hk).1 (by have := (nmK_mem hk).2; omega) e2
  rw [c1, c2]
  unfold nameOk at h
  cases hf : (nmK (n : Int) 14).filter (qiC n hs) with
  | nil => rw [hf] at h; simp at h
  | cons a rest =>
    cases hs' : (nmK (n : Int) 14).find? (qsC n hs) with
    | none => rw [hf, hs'] at h; simp at h
    | some b =>
      rw [hf, hs'] at h
      have e : a = b := Nat.eq_of_beq_eq_true h
      refine ⟨a, rest, rfl, by rw [e], ?_⟩
      have hm : a ∈ (nmK (n : Int) 14).filter (qiC n hs) := by rw [hf]; simp
      exact (nmK_mem (List.mem_filter.1 hm).1).1
end Go.Proofs.YtkiglhaeiomohaaGreat
