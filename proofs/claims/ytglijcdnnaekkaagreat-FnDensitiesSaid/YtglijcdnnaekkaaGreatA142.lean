/- Several parts of the proof in one text; each part says what it shows. Nothing is assumed. -/
import Derived.Test.YtglijcdnnaekkaaGreatA134
import Derived.Test.YtglijcdnnaekkaaGreatA137
import Derived.Test.YtglijcdnnaekkaaGreatA138
import Derived.Test.YtglijcdnnaekkaaGreatA88
/- SubgroupNames: the program's side. -/
namespace Go.Proofs.YtglijcdnnaekkaaGreat
set_option linter.unusedVariables false
set_option linter.unusedSimpArgs false
open Go.RowKit

theorem fact_720 {n : Nat} (h : n ≤ 6) : fact n ≤ 720 := (fact_le h).2
def snK (n : Int) (q : Nat → Bool) (k : Nat) : List Nat := (nmK n k).filter q
theorem snK_yes {n : Int} {q : Nat → Bool} {k : Nat} (h : (lbP k : Int) = n) (hq : q k = true) : snK n q (k + 1) = snK n q k ++ [k] := by
  unfold snK; rw [nmK_yes h, List.filter_append]; simp [hq]
theorem snK_no {n : Int} {q : Nat → Bool} {k : Nat} (h : (lbP k : Int) = n) (hq : q k = false) : snK n q (k + 1) = snK n q k := by
  unfold snK; rw [nmK_yes h, List.filter_append]; simp [hq]
theorem snK_none {n : Int} {q : Nat → Bool} {k : Nat} (h : ¬ (lbP k : Int) = n) : snK n q (k + 1) = snK n q k := by
  unfold snK; rw [nmK_no h]
end Go.Proofs.YtglijcdnnaekkaaGreat
/- SubgroupNames: the program's side, joined. -/
namespace Go.Proofs.YtglijcdnnaekkaaGreat
set_option linter.unusedVariables false
set_option linter.unusedSimpArgs false
open Go.RowKit

def sgQ (i k : Nat) : Bool := sbB (lbP k) (RK (lbP k) (lbG k)) (RK (lbP i) (lbG i))
theorem RK_len (i : Nat) (hi : i < 14) : (RK (lbP i) (lbG i)).length ≤ 1000 := by
  have h := (nv_code (s := ⟨(lbN i).toArray⟩) (.inl ⟨i, hi, by simp, rfl, rfl, rfl⟩)).2
  omega
end Go.Proofs.YtglijcdnnaekkaaGreat
/- SubgroupNames: the reference's side. -/
namespace Go.Proofs.YtglijcdnnaekkaaGreat
set_option linter.unusedVariables false
set_option linter.unusedSimpArgs false
open Go.RowKit

def sgS (i k : Nat) : Bool := ((RK (lbP i) (lbG i)).length % (RK (lbP k) (lbG k)).length == 0) && cgB (lbP k) (RK (lbP k) (lbG k)) (RK (lbP i) (lbG i))
theorem filt_yes {ks : List Nat} {q : Nat → Bool} {j : Nat} (h : j < ks.length) (hq : q (ks.getD j 0) = true) : (ks.take (j + 1)).filter q = (ks.take j).filter q ++ [ks.getD j 0] := by
  rw [List.take_succ_eq_append_getElem h, List.filter_append]
  have e : ks.getD j 0 = ks[j] := by simp [List.getElem?_eq_getElem h]
  rw [e] at hq ⊢
  simp only [List.filter_cons, List.filter_nil, hq, if_true]
theorem filt_no {ks : List Nat} {q : Nat → Bool} {j : Nat} (h : j < ks.length) (hq : q (ks.getD j 0) = false) : (ks.take (j + 1)).filter q = (ks.take j).filter q := by
  rw [List.take_succ_eq_append_getElem h, List.filter_append]
  have e : ks.getD j 0 = ks[j] := by simp [List.getElem?_eq_getElem h]
  rw [e] at hq
  simp only [List.filter_cons, List.filter_nil, hq, Bool.false_eq_true, if_false, List.append_nil]
theorem nmK_at {n : Int} {j : Nat} (h : j < (nmK n 14).length) : (nmK n 14).getD j 0 < 14 ∧ (lbP ((nmK n 14).getD j 0) : Int) = n := by
  have e : (nmK n 14).getD j 0 = (nmK n 14)[j] := by simp [List.getElem?_eq_getElem h]
  have hm : (nmK n 14)[j] ∈ nmK n 14 := List.getElem_mem h
  rw [← e] at hm
  unfold nmK at hm
  rw [List.mem_filter] at hm
  simpa [nmK] using hm
theorem strs_nm {bs : List ByteArray} {ks : List Nat} (h : bs.map (·.toList) = ks.map lbN) {j : Nat} (hj : j < ks.length) : ∃ nb : ByteArray, (strs bs)[j]? = some (.string nb) ∧ nb.toList = lbN (ks.getD j 0) := by
  have hl : bs.length = ks.length := by have := congrArg List.length h; simpa using this
  have h2 := congrArg (fun l => l[j]?) h
  have hb : j < bs.length := by omega
  simp [List.getElem?_eq_getElem hb, List.getElem?_eq_getElem hj] at h2
  exact ⟨bs[j], by simp [strs, List.getElem?_eq_getElem hb], by simpa [List.getElem?_eq_getElem hj] using h2⟩
end Go.Proofs.YtglijcdnnaekkaaGreat
/- The law of SubgroupNames. -/
namespace Go.Proofs.YtglijcdnnaekkaaGreat
set_option linter.unusedVariables false
set_option linter.unusedSimpArgs false
open Go.RowKit

theorem cgA_part {n : Nat} {l l' : List Int} {r : Nat} (hn : 1 ≤ n) (hr : r < fact n) (hk : InK n l) (hk' : InK n l') : cgA n l l' r = partB (rkC (cjM n (wrL n r) l)) l' := by
  have hin := (rkC_in hn (wrL_in hr) hk).1
  unfold cgA partB cmL
  generalize rkC (cjM n (wrL n r) l) = xr at *
  rw [Bool.eq_iff_iff, decide_eq_true_eq, List.length_filter_eq_length_iff, List.all_eq_true]
  have hx : ∀ x ∈ xr, (fgS (fact n) l' l'.length).getD x.toNat false = true ↔ x ∈ l' := fun x hx => by
    obtain ⟨j, hj, e⟩ := List.mem_iff_getElem.1 hx
    have hg : gt xr j = x := by simp [gt, List.getElem?_eq_getElem hj, e]
    have h0 := (hin j hj).1
    rw [hg] at h0
    rw [fgS_mem (F := fact n) (l := l') hk' l'.length (Nat.le_refl _) x.toNat, Int.toNat_of_nonneg h0]
    constructor
    · rintro ⟨k, h1, h2⟩
      rw [← h2]
      exact gt_mem h1
    · intro h
      obtain ⟨k, h1, h2⟩ := List.mem_iff_getElem.1 h
      exact ⟨k, h1, by simp [gt, List.getElem?_eq_getElem h1, h2]⟩
  constructor
  · intro h x hxm
    rw [decide_eq_true_eq]
    exact (hx x hxm).1 (h x hxm)
  · intro h x hxm
    exact (hx x hxm).2 (of_decide_eq_true (h x hxm))
theorem cgB_sb {n : Nat} {l l' : List Int} (hn : 1 ≤ n) (hk : InK n l) (hk' : InK n l') : cgB n l l' = sbB n l l' := by
  unfold cgB sbB cjA
  rw [List.any_map, Bool.eq_iff_iff, List.any_eq_true, List.any_eq_true]
  constructor
  · rintro ⟨r, hr, h⟩
    rw [cgA_part hn (by simpa using hr) hk hk'] at h
    exact ⟨r, hr, h⟩
  · rintro ⟨r, hr, h⟩
    refine ⟨r, hr, ?_⟩
    rw [cgA_part hn (by simpa using hr) hk hk']
    exact h
theorem part_chk {n : Nat} {l l' : List Int} {r : Nat} (h : partB (rkC (cjM n (wrL n r) l)) l' = true) : chkC n l l' r = true := by
  unfold partB at h
  rw [List.all_eq_true] at h
  unfold chkC
  rw [List.all_eq_true]
  intro b hb
  have hm : ((rk (cjL (wrL n r) b) : Nat) : Int) ∈ rksL (cjM n (wrL n r) l) := by
    unfold rksL cjM
    exact List.mem_map.2 ⟨cjL (wrL n r) b, List.mem_map.2 ⟨b, hb, rfl⟩, rfl⟩
  have hc : ((rk (cjL (wrL n r) b) : Nat) : Int) ∈ rkC (cjM n (wrL n r) l) := ((sorted_compact (rksL (cjM n (wrL n r) l))).2 _).2 hm
  have h2 := of_decide_eq_true (h _ hc)
  simpa using h2
theorem sg_same (i k : Nat) (hi : i < 14) (hk : k < 14) (hp : lbP k = lbP i) : sgS i k = sgQ i k := by
  obtain ⟨p1, _, _, _, _⟩ := lb_in k hk
  have hin := RK_in k hk
  have hin' := RK_in i hi
  rw [← hp] at hin'
  unfold sgS sgQ
  rw [cgB_sb p1 hin (by rw [← hp]; exact hin')]
  cases hb : sbB (lbP k) (RK (lbP k) (lbG k)) (RK (lbP i) (lbG i))
  · simp
  · have hd := div14 ⟨k, hk⟩ ⟨i, hi⟩
    unfold divOk at hd
    simp only [hp, bne_self_eq_false, Bool.false_or] at hd
    rw [Bool.or_eq_true] at hd
    rw [Bool.and_true]
    rcases hd with hd | hd
    · rw [hp]; exact hd
    · exfalso
      unfold sbB cjA at hb
      rw [List.any_map, List.any_eq_true] at hb
      obtain ⟨r, hr, h⟩ := hb
      have hc := part_chk h
      rw [List.all_eq_true] at hd
      rw [hp] at hr hc
      have h3 := hd r hr
      rw [hc] at h3
      simp at h3
theorem sg_lists (i : Nat) (hi : i < 14) : (nmK (lbP i : Nat) 14).filter (sgS i) = snK (lbP i : Nat) (sgQ i) 14 := by
  unfold snK
  apply List.filter_congr
  intro k hk
  unfold nmK at hk
  rw [List.mem_filter] at hk
  obtain ⟨h1, h2⟩ := hk
  have h3 := of_decide_eq_true h2
  exact sg_same i k hi (by simpa using h1) (by omega)
theorem sn_len (i : Nat) (hi : i < 14) : (snK (lbP i : Nat) (sgQ i) 14).length ≤ 5 := by
  unfold snK
  refine Nat.le_trans (List.length_filter_le _ _) ?_
  have : ∀ m : Fin 6, (nmK ((m : Nat) : Int) 14).length ≤ 5 := by decide +kernel
  obtain ⟨_, p2, _⟩ := lb_in i hi
  exact this ⟨lbP i, by omega⟩
end Go.Proofs.YtglijcdnnaekkaaGreat
