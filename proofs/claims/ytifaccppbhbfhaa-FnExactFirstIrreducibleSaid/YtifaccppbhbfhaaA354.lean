/- Several parts of the proof in one text; each part says what it shows. Nothing is assumed. -/
import Derived.Test.YtifaccppbhbfhaaA352
/- Contracts: derivatives, both sides. -/
namespace Go.Proofs.Ytifaccppbhbfhaa
set_option linter.unusedVariables false
set_option linter.unusedSimpArgs false
open Go.RowKit

def dvL (f : List Int) (k : Nat) : List Int := (List.range k).map fun i => ((i + 1 : Nat) : Int) * gt f (i + 1)
theorem dvL_succ (f : List Int) (k : Nat) : dvL f (k + 1) = dvL f k ++ [((k + 1 : Nat) : Int) * gt f (k + 1)] := by simp [dvL, List.range_succ]
theorem dvL_len (f : List Int) (k : Nat) : (dvL f k).length = k := by simp [dvL]
theorem dvL_gt (f : List Int) (k j : Nat) : gt (dvL f k) j = if j < k then ((j + 1 : Nat) : Int) * gt f (j + 1) else 0 := by
  unfold dvL gt
  rw [List.getD_eq_getElem?_getD, List.getElem?_map]
  by_cases h : j < k
  · rw [List.getElem?_range h, if_pos h]; rfl
  · rw [List.getElem?_eq_none (by simp; omega), if_neg h]; rfl
theorem toP_dvL (P : Nat) [NeZero P] (f : List Int) : FX.toP P (dvL f (f.length - 1)) = (FX.toP P f).D := FX.toP_D P fun k => by
  rw [dvL_gt]
  split
  · rfl
  · rw [gt_big (xs := f) (by omega), Int.mul_zero]
set_option maxRecDepth 20000 in
set_option maxHeartbeats 1000000 in
theorem i_deriv (A : Option Addr) (n c : Nat) (f : List Int) (w : World) (hn : n = f.length) (hl : n ≤ 100) (hF : ∀ j, (gt f j).natAbs ≤ 1000000000) (hs : IS w w.heap.size A f) :
    Calls Try.prog 49 #[.slice A n c] w (RV (dvL f (n - 1)) w) := by
  have HN := Lib.hid hn
  obtain ⟨i0, hi, hz0, hz1, hz2⟩ := info_parts infoI64
  have HF := Lib.hid hF
  clear hn hF
  go_enter Try.func49, Try.ntmps49
  go_wp2_with (fail)
  go_loopw [3, 4] (fun u3 u4 wr => ∃ (k c4 : Nat) (A4 : Option Addr), k ≤ n - 1 ∧ u4 = .int .i64 ((k : Int) + 1) ∧ u3 = .slice A4 k c4 ∧ Hid (wr.ownsRow w.heap.size 2 1 (.slice A4 k c4) k (ints (dvL f k))) ∧ Below w.heap.size w wr) (fun _ u4 _ => n - (intOf u4).toNat)
  case atStart => exact ⟨0, 0, none, Nat.zero_le _, rfl, rfl, World.ownsRow_nil _ _ _ _, Below.refl _ _⟩
  case round =>
    obtain ⟨wo, rfl⟩ : ∃ wo : World, wo = wr := ⟨_, rfl⟩
    obtain ⟨k, c4, A4, hk, rfl, rfl, HO, hbo⟩ := hrel
    rw [show ((k : Int) + 1) = ((k + 1 : Nat) : Int) by omega]
    obtain ⟨k1, hk1⟩ : ∃ k1, k1 = k + 1 := ⟨_, rfl⟩
    rw [← hk1]
    by_cases hlt : k1 < n
    · have hkf : k1 < f.length := by rw [← HN.out]; exact hlt
      obtain ⟨b, off, rfl, hbb, hcell⟩ := hs.at (k := k1) hkf
      have e1 := (hbo.cell (p := ⟨b, off + k1, none⟩) hbb).trans (hcell k1 hkf)
      have hsn := dvL_succ f k
      rw [← hk1] at hsn
      have HSN := Lib.hid hsn
      have hbd := HF.out k1
      have hmb : ((k1 : Int) * gt f k1).natAbs ≤ 100000000000 := by
        rw [Int.natAbs_mul]
        have := Nat.mul_le_mul (show (k1 : Int).natAbs ≤ 100 by omega) hbd
        omega
      generalize gt f k1 = x at *
      have hw : IntKind.i64.wrap ((k1 : Int) * x) = (k1 : Int) * x := IntWalk.i64_in _ (by omega)
      have hmb2 : -100000000000 ≤ (k1 : Int) * x ∧ (k1 : Int) * x ≤ 100000000000 := by omega
      generalize hy : (k1 : Int) * x = y at *
      have HK1 := Lib.hid hk1
      clear hcell hsn hmb hbd hk1
      go_wp2_with (at_builtin; go_loud (refine wpList_append_own _ rfl (.tmp 11) (.tmp 18) 22 rfl w.heap.size 2 i0 (.int .i64 0) 1 8 Try.underlying22 hi hz0 hz1 hz2 rfl (by omega) (.slice A4 k c4) k (ints (dvL f k)) rfl (World.ownsRow.alloc HO.out _) ⟨wo.heap.size, 0, none⟩ 1 1 [.int .i64 y] rfl rfl (num_src1 _ _) (by intro u hu; simp at hu; subst hu; rfl) (by simp only [maxLen]; omega) (by omega) (by have h1 := hbo.size; simp; omega) ?_; intro v7 w7 o7 g9 _; have hb7 := (hbo.alloc hbo.size _).grown g9 (by have h1 := hbo.size; simp; omega) (fun g' hg' => by have h1 := ((HO.out).lt g' hg').1; omega); obtain ⟨A7, c9, rfl, _⟩ := own_slice' o7))
      have o8 := o7
      rw [← ints_sn1, ← HSN.out] at o8
      rw [show k + 1 = k1 from HK1.out.symm] at o8 ⊢
      have HO8 := Lib.hid o8
      clear o7 o8
      go_roundw
      case rel => exact ⟨k1, c9, A7, by omega, by go_num, rfl, HO8, hb7⟩
      case measure => simp [intOf]; omega
    · have hkn : k = n - 1 := by omega
      subst hkn
      clear hk1
      go_wp2_with (fail)
      go_ret
      exact ⟨A4, c4, by rw [dvL_len]; rfl, by rw [dvL_len]; exact HO.out, hbo⟩
set_option maxRecDepth 20000 in
set_option maxHeartbeats 1000000 in
theorem s_l06Derivative (A : Option Addr) (n c : Nat) (f : List Int) (w : World) (hn : n = f.length) (hl : n ≤ 100) (hF : ∀ j, (gt f j).natAbs ≤ 1000000000) (hs : IS w w.heap.size A f) :
    Calls Try.prog 83 #[.slice A n c] w (RV (dvL f (n - 1)) w) := by
  have HN := Lib.hid hn
  obtain ⟨i0, hi, hz0, hz1, hz2⟩ := info_parts infoI64
  have HF := Lib.hid hF
  clear hn hF
  go_enter Try.func83, Try.ntmps83
  go_wp2_with (fail)
  go_loopw [3, 4] (fun u3 u4 wr => ∃ (k c4 : Nat) (A4 : Option Addr), k ≤ n - 1 ∧ u4 = .int .i64 ((k : Int) + 1) ∧ u3 = .slice A4 k c4 ∧ Hid (wr.ownsRow w.heap.size 2 1 (.slice A4 k c4) k (ints (dvL f k))) ∧ Below w.heap.size w wr) (fun _ u4 _ => n - (intOf u4).toNat)
  case atStart => exact ⟨0, 0, some ⟨w.heap.size, 0, none⟩, Nat.zero_le _, rfl, rfl, World.ownsRow_lit (base := w.heap.size) (e := 2) (size := 1) w #[] 0 (Nat.le_refl _) (by simp [maxLen]) rfl, (Below.refl w.heap.size w).alloc (Nat.le_refl _) _⟩
  case round =>
    obtain ⟨wo, rfl⟩ : ∃ wo : World, wo = wr := ⟨_, rfl⟩
    obtain ⟨k, c4, A4, hk, rfl, rfl, HO, hbo⟩ := hrel
    rw [show ((k : Int) + 1) = ((k + 1 : Nat) : Int) by omega]
    obtain ⟨k1, hk1⟩ : ∃ k1, k1 = k + 1 := ⟨_, rfl⟩
    rw [← hk1]
    by_cases hlt : k1 < n
    · have hkf : k1 < f.length := by rw [← HN.out]; exact hlt
      obtain ⟨b, off, rfl, hbb, hcell⟩ := hs.at (k := k1) hkf
      have e1 := (hbo.cell (p := ⟨b, off + k1, none⟩) hbb).trans (hcell k1 hkf)
      have hsn := dvL_succ f k
      rw [← hk1] at hsn
      have HSN := Lib.hid hsn
      have hbd := HF.out k1
      have hmb : ((k1 : Int) * gt f k1).natAbs ≤ 100000000000 := by
        rw [Int.natAbs_mul]
        have := Nat.mul_le_mul (show (k1 : Int).natAbs ≤ 100 by omega) hbd
        omega
      generalize gt f k1 = x at *
      have hw : IntKind.i64.wrap ((k1 : Int) * x) = (k1 : Int) * x := IntWalk.i64_in _ (by omega)
      have hmb2 : -100000000000 ≤ (k1 : Int) * x ∧ (k1 : Int) * x ≤ 100000000000 := by omega
      generalize hy : (k1 : Int) * x = y at *
      have HK1 := Lib.hid hk1
      clear hcell hsn hmb hbd hk1
      go_wp2_with (at_builtin; go_loud (refine wpList_append_own _ rfl (.tmp 12) (.tmp 19) 22 rfl w.heap.size 2 i0 (.int .i64 0) 1 8 Try.underlying22 hi hz0 hz1 hz2 rfl (by omega) (.slice A4 k c4) k (ints (dvL f k)) rfl (World.ownsRow.alloc HO.out _) ⟨wo.heap.size, 0, none⟩ 1 1 [.int .i64 y] rfl rfl (num_src1 _ _) (by intro u hu; simp at hu; subst hu; rfl) (by simp only [maxLen]; omega) (by omega) (by have h1 := hbo.size; simp; omega) ?_; intro v7 w7 o7 g9 _; have hb7 := (hbo.alloc hbo.size _).grown g9 (by have h1 := hbo.size; simp; omega) (fun g' hg' => by have h1 := ((HO.out).lt g' hg').1; omega); obtain ⟨A7, c9, rfl, _⟩ := own_slice' o7))
      have o8 := o7
      rw [← ints_sn1, ← HSN.out] at o8
      rw [show k + 1 = k1 from HK1.out.symm] at o8 ⊢
      have HO8 := Lib.hid o8
      clear o7 o8
      go_roundw
      case rel => exact ⟨k1, c9, A7, by omega, by go_num, rfl, HO8, hb7⟩
      case measure => simp [intOf]; omega
    · have hkn : k = n - 1 := by omega
      subst hkn
      clear hk1
      go_wp2_with (fail)
      go_ret
      exact ⟨A4, c4, by rw [dvL_len]; rfl, by rw [dvL_len]; exact HO.out, hbo⟩
/-- l is the derivative of f. -/
def DVV (P : Nat) [NeZero P] (f l : List Int) : Prop := FX.Can P l ∧ FX.toP P l = (FX.toP P f).D ∧ l.length ≤ f.length
theorem dvv_of (P : Nat) [NeZero P] (f : List Int) : DVV P f (trimL ((dvL f (f.length - 1)).map (· % (P : Int)))) := ⟨can_red P _, by rw [toP_red, toP_dvL], by have := red_len (P : Int) (dvL f (f.length - 1)); rw [dvL_len] at this; omega⟩
set_option maxHeartbeats 1000000 in
theorem s_deriv (P : Nat) [NeZero P] (hP : P ≤ 97) (A : Option Addr) (n c : Nat) (f : List Int) (w : World) (hn : n = f.length) (hl : n ≤ 100) (hf : FX.Can P f) (hs : IS w w.heap.size A f) :
    Calls Try.prog 67 #[.int .i64 (P : Int), .slice A n c] w (RVE (DVV P f) w) := by
  have h1 : 0 < P := Nat.pos_of_ne_zero (NeZero.ne P)
  have hd := s_l06Derivative A n c f w hn hl (fun j => Nat.le_trans (can_bd P hf hP j) (by omega)) hs
  have hrd := fun A n c l W => s_red (P : Int) A n c l W (by omega) (by omega)
  have hv := dvv_of P f
  rw [← hn] at hv
  have hlen := dvL_len f (n - 1)
  have hln : (dvL f (n - 1)).length ≤ 1000 := by omega
  generalize dvL f (n - 1) = g at *
  generalize hx : trimL (g.map (· % (P : Int))) = l at *
  have HX := Lib.hid hx
  have HV := Lib.hid hv
  clear hv hx hf hs hlen hn
  go_enter Try.func67, Try.ntmps67
  go_wp2_with (first
    | (go_at_call 83; refine hd.mono ?_; clear hd; rintro e w1 ⟨A1, c1, rfl, ho1, hb1⟩; have hr := hrd A1 g.length c1 g w1 rfl hln (own_isn ho1 rfl))
    | (go_at_call 21; refine hr.mono ?_; clear hr; rw [HX.out]; rintro e w2 ⟨A2, c2, rfl, ho2, hb2⟩))
  go_ret
  exact ⟨l, HV.out, RV.pre ⟨A2, c2, rfl, ho2, hb2⟩ hb1⟩
end Go.Proofs.Ytifaccppbhbfhaa
/- Rows that are reduced: plain part for the reference's kernel. -/
namespace Go.Proofs.Ytifaccppbhbfhaa
set_option linter.unusedVariables false
set_option linter.unusedSimpArgs false
open Go.RowKit

def upd {α : Type} (R : Nat → α) (i : Nat) (x : α) : Nat → α := fun j => if j = i then x else R j
theorem upd_same {α : Type} (R : Nat → α) (i : Nat) (x : α) : upd R i x i = x := if_pos rfl
theorem upd_ne {α : Type} (R : Nat → α) {i j : Nat} (x : α) (h : j ≠ i) : upd R i x j = R j := if_neg h
section
variable (P : Nat) [NeZero P]
def rowA (n : Nat) (l : List Int) : FX.Pol (Fin P) := FX.toP P (l.take n)
def rowB (n : Nat) (l : List Int) : FX.Pol (Fin P) := FX.toP P (l.drop n)
theorem rowA_c (n : Nat) (l : List Int) (k : Nat) : (rowA P n l).c k = if k < n then FX.ci P (gt l k) else 0 := by
  unfold rowA
  rw [FX.toP_c, gt_take]
  split
  · rfl
  · exact FX.ci_0 P
theorem gt_drop (l : List Int) (n k : Nat) : gt (l.drop n) k = gt l (n + k) := by
  unfold gt
  rw [List.getD_eq_getElem?_getD, List.getD_eq_getElem?_getD, List.getElem?_drop]
theorem rowB_c (n : Nat) (l : List Int) (k : Nat) : (rowB P n l).c k = FX.ci P (gt l (n + k)) := by
  unfold rowB
  rw [FX.toP_c, gt_drop]
theorem rowA_lt (n : Nat) (l : List Int) : FX.Lt (rowA P n l) n := fun k hk => by rw [rowA_c, if_neg (by omega)]
/-- What all row operations keep. -/
def K1 (f : List Int) (n : Nat) (R : Nat → List Int) : Prop :=
  (∀ i, i < n → Bd P (R i) ∧ (R i).length = 2 * n ∧ FX.Dv (FX.toP P f) (FX.Phi P (rowB P n (R i)) - rowA P n (R i))) ∧
  ∀ v : FX.Pol (Fin P), FX.Lt v n → ∃ c : Nat → Fin P, v = FX.sm n fun i => FX.Pol.const (c i) * rowB P n (R i)
theorem sub_row (n : Nat) {q : Int} {r s : List Int} (hr : r.length = 2 * n) (hs : s.length = 2 * n) : rowA P n (subM (P : Int) q s r 0 (2 * n)) = rowA P n r - FX.Pol.const (FX.ci P q) * rowA P n s ∧ rowB P n (subM (P : Int) q s r 0 (2 * n)) = rowB P n r - FX.Pol.const (FX.ci P q) * rowB P n s := by
  constructor
  · refine FX.Pol.ext fun k => ?_
    rw [FX.Pol.sub_c, FX.Pol.const_mul, rowA_c, rowA_c, rowA_c]
    by_cases hk : k < n
    · rw [if_pos hk, if_pos hk, if_pos hk, subM_gt _ _ _ _ _ _ _ (by omega), if_pos (by omega), FX.ci_mod, FX.ci_sub, FX.ci_mul, Nat.sub_zero]
    · rw [if_neg hk, if_neg hk, if_neg hk]; exact FX.rg
  · refine FX.Pol.ext fun k => ?_
    rw [FX.Pol.sub_c, FX.Pol.const_mul, rowB_c, rowB_c, rowB_c, subM_gt _ _ _ _ _ _ _ (by omega)]
    by_cases hk : n + k < 2 * n
    · rw [if_pos (by omega), FX.ci_mod, FX.ci_sub, FX.ci_mul, Nat.sub_zero]
    · rw [if_neg (by omega), gt_big (xs := s) (by omega), FX.ci_0]; exact FX.rg
theorem sub_bdd {n : Nat} {q : Int} {r s : List Int} (hr : r.length = n) (h : Bd P r) : Bd P (subM (P : Int) q s r 0 n) := fun k => by
  rw [subM_gt _ _ _ _ _ _ _ (by omega)]
  split
  · exact mod_bd P _
  · exact h k
theorem K1.op (hp : FX.Prm P) {f : List Int} {n : Nat} {R : Nat → List Int} (h : K1 P f n R) {i at' : Nat} (hi : i < n) (ha : at' < n) (hne : i ≠ at') (q : Int) : K1 P f n (upd R i (subM (P : Int) q (R at') (R i) 0 (2 * n))) := by
  have hF := FX.fin_fp (p := P) hp
  obtain ⟨h1, h2⟩ := h
  obtain ⟨b1, l1, d1⟩ := h1 i hi
  obtain ⟨b2, l2, d2⟩ := h1 at' ha
  obtain ⟨e1, e2⟩ := sub_row P n (q := q) l1 l2
  refine ⟨fun j hj => ?_, fun v hv => ?_⟩
  · by_cases hji : j = i
    · subst hji
      rw [upd_same]
      refine ⟨sub_bdd P l1 b1, by rw [subM_len]; exact l1, ?_⟩
      rw [e1, e2]
      have h3 : FX.Phi P (rowB P n (R j) - FX.Pol.const (FX.ci P q) * rowB P n (R at')) = FX.Phi P (rowB P n (R j)) - FX.Pol.const (FX.ci P q) * FX.Phi P (rowB P n (R at')) := by
        have h4 : rowB P n (R j) - FX.Pol.const (FX.ci P q) * rowB P n (R at') = rowB P n (R j) + FX.Pol.const (- FX.ci P q) * rowB P n (R at') := by
          rw [show (- FX.ci P q) = 0 - FX.ci P q by exact FX.rg, FX.const_sub, FX.const_zero]; exact FX.rg
        rw [h4, FX.Phi_add, FX.Phi_num, show (- FX.ci P q) = 0 - FX.ci P q by exact FX.rg, FX.const_sub, FX.const_zero]; exact FX.rg
      rw [h3, show FX.Phi P (rowB P n (R j)) - FX.Pol.const (FX.ci P q) * FX.Phi P (rowB P n (R at')) - (rowA P n (R j) - FX.Pol.const (FX.ci P q) * rowA P n (R at')) = (FX.Phi P (rowB P n (R j)) - rowA P n (R j)) - FX.Pol.const (FX.ci P q) * (FX.Phi P (rowB P n (R at')) - rowA P n (R at')) by exact FX.rg]
      exact d1.sub (d2.mulL _)
    · rw [upd_ne _ _ hji]
      exact h1 j hj
  · obtain ⟨c, hc⟩ := h2 v hv
    refine ⟨fun j => c j + (if j = at' then c i * FX.ci P q else 0), ?_⟩
    have h5 : ∀ j, j < n → FX.Pol.const (c j + (if j = at' then c i * FX.ci P q else 0)) * rowB P n (upd R i (subM (P : Int) q (R at') (R i) 0 (2 * n)) j) = FX.Pol.const (c j) * rowB P n (R j) + ((if j = at' then FX.Pol.const (c i * FX.ci P q) * rowB P n (R at') else 0) - (if j = i then FX.Pol.const (c i * FX.ci P q) * rowB P n (R at') else 0)) := fun j hj => by
      by_cases hja : j = at'
      · rw [if_pos hja, if_pos hja, if_neg (by omega), upd_ne _ _ (by omega), hja, FX.const_add]; exact FX.rg
      · rw [if_neg hja, if_neg hja]
        by_cases hji : j = i
        · rw [if_pos hji, hji, upd_same, e2, FX.const_mulC, show c i + 0 = c i by exact FX.rg]; exact FX.rg
        · rw [if_neg hji, upd_ne _ _ hji, show c j + 0 = c j by exact FX.rg]; exact FX.rg
    rw [hc, FX.sm_ext h5, FX.sm_add]
    have h6 : FX.sm n (fun j => (if j = at' then FX.Pol.const (c i * FX.ci P q) * rowB P n (R at') else 0) - (if j = i then FX.Pol.const (c i * FX.ci P q) * rowB P n (R at') else 0)) = (0 : FX.Pol (Fin P)) := by
      have h7 : ∀ j, j < n → (if j = at' then FX.Pol.const (c i * FX.ci P q) * rowB P n (R at') else 0) - (if j = i then FX.Pol.const (c i * FX.ci P q) * rowB P n (R at') else 0) = (if j = at' then FX.Pol.const (c i * FX.ci P q) * rowB P n (R at') else 0) + (if j = i then FX.Pol.const (- (c i * FX.ci P q)) * rowB P n (R at') else 0) := fun j _ => by
        by_cases hji : j = i
        · rw [if_pos hji, if_pos hji, show (- (c i * FX.ci P q)) = 0 - c i * FX.ci P q by exact FX.rg, FX.const_sub, FX.const_zero]; exact FX.rg
        · rw [if_neg hji, if_neg hji]; exact FX.rg
      rw [FX.sm_ext h7, FX.sm_add, FX.sm_one (j := at') ha (fun j _ hj => by rw [if_neg hj]), FX.sm_one (j := i) hi (fun j _ hj => by rw [if_neg hj]), if_pos rfl, if_pos rfl, show (- (c i * FX.ci P q)) = 0 - c i * FX.ci P q by exact FX.rg, FX.const_sub, FX.const_zero]
      exact FX.rg
    rw [h6]; exact FX.rg
/-- Which rows have pivots, and where; the columns below c are done. -/
def K3 (n : Nat) (R : Nat → List Int) (used : Nat → Bool) (c : Nat) : Prop :=
  ∃ col : Nat → Nat, (∀ i, i < n → used i = true → col i < c ∧ gt (R i) (col i) ≠ 0 ∧ ∀ j, j < n → j ≠ i → gt (R j) (col i) = 0) ∧ ∀ i, i < n → used i = false → ∀ k, k < c → gt (R i) k = 0
omit [NeZero P] in
theorem K3.none {n : Nat} {R : Nat → List Int} {used : Nat → Bool} {c : Nat} (h : K3 n R used c) (h0 : ∀ i, i < n → used i = false → gt (R i) c = 0) : K3 n R used (c + 1) := by
  obtain ⟨col, h1, h2⟩ := h
  refine ⟨col, fun i hi hu => ⟨by have := (h1 i hi hu).1; omega, (h1 i hi hu).2⟩, fun i hi hu k hk => ?_⟩
  by_cases e : k = c
  · rw [e]; exact h0 i hi hu
  · exact h2 i hi hu k (by omega)
/-- The column c is being cleared by the row at'. -/
def K4 (n : Nat) (R : Nat → List Int) (used : Nat → Bool) (c at' i0 : Nat) : Prop := K3 n R used c ∧ used at' = false ∧ gt (R at') c ≠ 0 ∧ ∀ j, j < i0 → j ≠ at' → gt (R j) c = 0
omit [NeZero P] in
theorem K4.done {n : Nat} {R : Nat → List Int} {used : Nat → Bool} {c at' : Nat} (h : K4 n R used c at' n) (ha : at' < n) : K3 n R (upd used at' true) (c + 1) := by
  obtain ⟨⟨col, h1, h2⟩, h3, h4, h5⟩ := h
  refine ⟨upd col at' c, fun i hi hu => ?_, fun i hi hu k hk => ?_⟩
  · by_cases e : i = at'
    · subst e
      rw [upd_same]
      exact ⟨by omega, h4, h5⟩
    · rw [upd_ne _ _ e] at hu
      rw [upd_ne _ _ e]
      exact ⟨by have := (h1 i hi hu).1; omega, (h1 i hi hu).2⟩
  · by_cases e : i = at'
    · subst e
      rw [upd_same] at hu
      cases hu
    · rw [upd_ne _ _ e] at hu
      by_cases e2 : k = c
      · rw [e2]; exact h5 i hi e
      · exact h2 i hi hu k (by omega)
omit [NeZero P] in
theorem K4.skip {n : Nat} {R : Nat → List Int} {used : Nat → Bool} {c at' i : Nat} (h : K4 n R used c at' i) (hs : i = at' ∨ gt (R i) c = 0) : K4 n R used c at' (i + 1) := by
  obtain ⟨h1, h2, h3, h4⟩ := h
  refine ⟨h1, h2, h3, fun j hj hne => ?_⟩
  by_cases e : j = i
  · subst e
    rcases hs with e | e
    · exact absurd e hne
    · exact e
  · exact h4 j (by omega) hne
omit [NeZero P] in
theorem K4.op {n : Nat} {R : Nat → List Int} {used : Nat → Bool} {c at' i : Nat} (h : K4 n R used c at' i) (hc : c < n) (hb : ∀ j, j < n → Bd P (R j) ∧ (R j).length = 2 * n) (hi : i < n) (ha : at' < n) (hne : i ≠ at') {q : Int} (hq : (gt (R i) c - q * gt (R at') c) % (P : Int) = 0) : K4 n (upd R i (subM (P : Int) q (R at') (R i) 0 (2 * n))) used c at' (i + 1) := by
  obtain ⟨⟨col, h1, h2⟩, h3, h4, h5⟩ := h
  have hz : ∀ k, k < c → gt (subM (P : Int) q (R at') (R i) 0 (2 * n)) k = gt (R i) k := fun k hk => by
    have h6 := h2 at' ha h3 k hk
    have := (hb i hi).1 k
    rw [subM_gt _ _ _ _ _ _ _ (by have := (hb i hi).2; omega), if_pos (by omega), Nat.sub_zero, h6, Int.mul_zero, Int.sub_zero, Int.emod_eq_of_lt this.1 this.2]
  have hR : ∀ j k, k < c → gt (upd R i (subM (P : Int) q (R at') (R i) 0 (2 * n)) j) k = gt (R j) k := fun j k hk => by
    by_cases e : j = i
    · rw [e, upd_same]; exact hz k hk
    · rw [upd_ne _ _ e]
  refine ⟨⟨col, fun j hj hu => ?_, fun j hj hu k hk => ?_⟩, h3, ?_, fun j hj hja => ?_⟩
  · obtain ⟨g1, g2, g3⟩ := h1 j hj hu
    exact ⟨g1, by rw [hR j _ g1]; exact g2, fun j' hj' hne' => by rw [hR j' _ g1]; exact g3 j' hj' hne'⟩
  · rw [hR j k hk]; exact h2 j hj hu k hk
  · rw [upd_ne _ _ (fun e => hne e.symm)]; exact h4
  · by_cases e : j = i
    · rw [e, upd_same, subM_gt _ _ _ _ _ _ _ (by have := (hb i hi).2; omega), if_pos (by omega), Nat.sub_zero]
      exact hq
    · rw [upd_ne _ _ e]; exact h5 j (by omega) hja
omit [NeZero P] in
theorem K3.start (n : Nat) (R : Nat → List Int) : K3 n R (fun _ => false) 0 := ⟨fun _ => 0, ⟨fun i _ hu => absurd hu (by simp), fun i _ _ k hk => by omega⟩⟩
/-- Every polynomial of lesser degree that f takes from its power of P is a number. -/
def KN (f : List Int) (n : Nat) : Prop := ∀ u : FX.Pol (Fin P), FX.Lt u n → FX.Dv (FX.toP P f) (FX.Phi P u) → FX.Lt u 1
theorem rowA_zero {n : Nat} {l : List Int} (h : ∀ k, k < n → gt l k = 0) : rowA P n l = 0 := FX.Pol.ext fun k => by
  rw [rowA_c, FX.Pol.zero_c]
  split
  · rename_i hk; rw [h k hk, FX.ci_0]
  · rfl
theorem kn_of (hp : FX.Prm P) {f : List Int} {n : Nat} {R : Nat → List Int} {used : Nat → Bool} (hf : FX.Dg (FX.toP P f) n) (h1 : K1 P f n R) (h3 : K3 n R used n) (hb : ∀ i, i < n → used i = false → (trimL ((R i).drop n)).length ≤ 1) : KN P f n := by
  have hF := FX.fin_fp (p := P) hp
  obtain ⟨col, h4, h5⟩ := h3
  intro u hu hd
  refine FX.ker_nil hf (fun i => rowA P n (R i)) (fun i => rowB P n (R i)) used col (fun i hi => ⟨rowA_lt P n _, (h1.1 i hi).2.2⟩) h1.2 (fun i hi hu => ?_) (fun i hi hu => ?_) hu hd
  · obtain ⟨g1, g2, g3⟩ := h4 i hi hu
    refine ⟨?_, fun j hj hne => ?_⟩
    · show (rowA P n (R i)).c (col i) ≠ 0
      rw [rowA_c, if_pos g1]
      intro e
      rw [FX.ci_zero, Int.emod_eq_of_lt ((h1.1 i hi).1 _).1 ((h1.1 i hi).1 _).2] at e
      exact g2 e
    · show (rowA P n (R j)).c (col i) = 0
      rw [rowA_c, if_pos g1, g3 j hj hne, FX.ci_0]
  · refine ⟨rowA_zero P fun k hk => h5 i hi hu k hk, fun k hk => ?_⟩
    show (rowB P n (R i)).c k = 0
    unfold rowB
    rw [FX.toP_c, ← gt_trim, gt_big (by have := hb i hi hu; omega), FX.ci_0]
theorem kv_of {f : List Int} {n : Nat} {R : Nat → List Int} {used : Nat → Bool} {i : Nat} (h1 : K1 P f n R) (h3 : K3 n R used n) (hi : i < n) (hu : used i = false) : FX.Can P (trimL ((R i).drop n)) ∧ (trimL ((R i).drop n)).length ≤ n ∧ FX.Dv (FX.toP P f) (FX.Phi P (FX.toP P (trimL ((R i).drop n)))) := by
  obtain ⟨col, _, h5⟩ := h3
  obtain ⟨b1, b2, b3⟩ := h1.1 i hi
  refine ⟨can_trim P fun k => by rw [gt_drop]; exact b1 _, ?_, ?_⟩
  · have := trimL_le ((R i).drop n)
    rw [List.length_drop] at this; omega
  · rw [rowA_zero P fun k hk => h5 i hi hu k hk] at b3
    rw [FX.toP_trim]
    rw [show FX.Phi P (rowB P n (R i)) - 0 = FX.Phi P (rowB P n (R i)) by exact FX.rg] at b3
    exact b3
/-- A row as it is laid. -/
def RW0 (f : List Int) (n i : Nat) (r : List Int) : Prop := Bd P r ∧ r.length = 2 * n ∧ rowB P n r = FX.mono 1 i ∧ FX.Dv (FX.toP P f) (FX.Phi P (FX.mono 1 i) - rowA P n r)
theorem K1.start {f : List Int} {n : Nat} {R : Nat → List Int} (h : ∀ i, i < n → RW0 P f n i (R i)) : K1 P f n R := by
  refine ⟨fun i hi => ⟨(h i hi).1, (h i hi).2.1, by rw [(h i hi).2.2.1]; exact (h i hi).2.2.2⟩, fun v hv => ⟨v.c, ?_⟩⟩
  rw [FX.sm_ext (g := fun i => FX.Pol.const (v.c i) * FX.mono 1 i) fun i hi => by rw [(h i hi).2.2.1]]
  refine FX.Pol.ext fun k => ?_
  rw [FX.sm_c]
  by_cases hk : k < n
  · rw [FX.sm_one (j := k) hk (fun i _ hne => by
      rw [FX.Pol.const_mul]
      show _ * (if k = i then (1 : Fin P) else 0) = 0
      rw [if_neg (fun e => hne e.symm)]; exact FX.rg), FX.Pol.const_mul]
    show _ = _ * (if k = k then (1 : Fin P) else 0)
    rw [if_pos rfl]; exact FX.rg
  · rw [hv k (by omega), FX.sm_zero (fun i hi => by
      rw [FX.Pol.const_mul]
      show _ * (if k = i then (1 : Fin P) else 0) = 0
      rw [if_neg (by omega)]; exact FX.rg)]
end
end Go.Proofs.Ytifaccppbhbfhaa
