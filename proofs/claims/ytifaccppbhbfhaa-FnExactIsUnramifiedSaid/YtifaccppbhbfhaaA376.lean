/- Contract: the program's factors; the walk. -/
import Derived.Test.YtifaccppbhbfhaaA375
namespace Go.Proofs.Ytifaccppbhbfhaa
set_option linter.unusedVariables false
set_option linter.unusedSimpArgs false
open Go.RowKit

set_option maxRecDepth 20000 in
set_option maxHeartbeats 8000000 in
theorem i_factorsBy (P : Nat) [NeZero P] (hP : P ≤ 97) (hp : FX.Prm P) : ∀ (N : Nat) (A : Option Addr) (n c : Nat) (f : List Int) (w : World), n = f.length → n ≤ N → 2 ≤ n → n ≤ 9 → FX.Can P f → IS w w.heap.size A f → Calls Try.prog 28 #[.int .i64 (P : Int), .slice A n c] w (FBR P f w) := by
  intro N
  induction N with
  | zero => intro A n c f w _ h0 h2; omega
  | succ N ih =>
  intro A n c f w hn hnN hn2 hn9 hf hs
  have hp2 : 2 ≤ P := hp.1
  have h1 : 0 < P := by omega
  have hFp := FX.fin_fp (p := P) hp
  obtain ⟨i0, hi, hz0, hz1, hz2⟩ := info_parts infoI64
  obtain ⟨i3, hi3, hv0, hv1, hv2⟩ := info_parts infoFa
  have hmon := i_monic P hP hp A n c f w hn (by omega) hf hs
  have hred := fun A n c l W => i_red (P : Int) A n c l W (by omega) (by omega)
  have hcom := fun A A' c c' f g W a b x y z t => i_common P hP hp A A' c c' f g W a b x y z t
  have hdiv := fun A A' n c n' c' f g W a1 a2 a3 a4 a5 a6 a7 a8 a9 => i_divide P hP hp A A' n c n' c' f g W a1 a2 a3 a4 a5 a6 a7 a8 a9
  have HIH := Lib.hid ih
  have HF := Lib.hid hf
  have HNF := Lib.hid hn
  have HNN := Lib.hid hnN
  clear ih hf hn hnN hs
  go_enter Try.func28, Try.ntmps28
  go_wp2_with (first
    | (go_at_call 48; refine hmon.mono ?_; clear hmon; rintro e w1 ⟨fm, hmn, A1, c1, rfl, ho1, hb1⟩; have hfl : fm.length = n := (by have := hmn.2.1; have := HNF.out; omega); rw [hfl] at ho1 ⊢; have hdr := i_deriv A1 n c1 fm w1 hfl.symm (by omega) (fun j => Nat.le_trans (can_bd P hmn.1 hP j) (by omega)) (own_isn ho1 hfl.symm))
    | (go_at_call 49; refine hdr.mono ?_; clear hdr; rintro e w2 ⟨A2, c2, rfl, ho2, hb2⟩; have hdl9 : (dvL fm (n - 1)).length ≤ 1000 := (by rw [dvL_len]; omega); have hdd := dvv_of P fm; rw [hfl] at hdd; generalize dvL fm (n - 1) = dl at *; obtain ⟨ndl, hndl⟩ : ∃ x, x = dl.length := ⟨_, rfl⟩; rw [← hndl] at ho2 hdl9 ⊢; have HDL := Lib.hid hndl; have hr3 := hred A2 ndl c2 dl w2 hndl hdl9 (own_isn ho2 hndl); clear hndl))
  generalize trimL (dl.map (· % (P : Int))) = d at *
  refine hr3.mono ?_
  clear hr3
  rintro e w3 ⟨A3, c3, rfl, ho3, hb3⟩
  have HMN := Lib.hid hmn
  have HDD := Lib.hid hdd
  have HNM := Lib.hid hfl
  have hdg := hmn.1.dg P (by omega)
  rw [hfl] at hdg
  have HDGM := Lib.hid hdg
  have HMM : Hid (gt fm (fm.length - 1) = 1) := by
    have h := hmn.2.2.1 (by rw [← HNF.out]; omega)
    rw [← hmn.2.1] at h
    exact h
  have hb03 := bel_call (bel_call hb1 hb2) hb3
  have HO1 : Hid (OA w3 A1 c1 fm) := by
    have h := own_below (own_below ho1 hb2) hb3
    exact OA.of h hfl.symm
  have HO3 := Lib.hid (OA.of ho3 rfl)
  obtain ⟨nd, hnd⟩ : ∃ nd, nd = d.length := ⟨_, rfl⟩
  rw [← hnd]
  have HND := Lib.hid hnd
  clear hmn hdd hfl hdg ho1 ho2 ho3 hb1 hb2 hb3 hnd
  by_cases hd0 : nd = 0
  · subst hd0
    have hde : d = [] := List.eq_nil_of_length_eq_zero HND.out.symm
    have hD0 : (FX.toP P fm).D = 0 := by rw [← HDD.out.2.1, hde]; exact FX.Pol.ext fun k => by rw [FX.toP_c, FX.Pol.zero_c]; simp [gt, FX.ci_0]
    have HMET := Lib.hid (MET.start P hp HMN.out.1 (by have := HNM.out; omega) HMM.out hD0)
    clear hde hD0 HO3 HDD HND
    obtain ⟨wz, rfl⟩ : ∃ wz : World, wz = w3 := ⟨_, rfl⟩
    have HNFR := Lib.hid HNM.out.symm
    have HOFR := HO1
    have HNE : Hid (0 = ([] : List FE).length) := rfl
    have HEO : Hid (wz.ownsRow w.heap.size 36 2 (.slice none 0 0) 0 (eC [])) := World.ownsRow_nil _ _ _ _
    have HEV : Hid (EVB wz w.heap.size []) := fun x hx => by simp at hx
    have HMET2 : Hid (MET P (FX.toP P fm) fm (([] : List FE).map (·.2))) := HMET.out
    clear HMET
    have HMET := HMET2
    have HFRN : Hid (fm.length ≤ f.length) := by unfold Hid; rw [HMN.out.2.1]; exact Nat.le_refl _
    have hbz := hb03
    have hfr2 := hn2
    have hnfr0 : 0 < n := by omega
    clear HO1 hb03 HMET2
    have hdt9 : decide ((1 : Int) < ((n : Nat) : Int)) = true := decide_eq_true (by omega)
    have hnE8 : 0 ≤ 8 := by have := met_len P hp HDGM.out HMET.out; rw [List.length_map] at this; have := HNE.out; have := HNM.out; omega
    have HO0 : Hid (wz.ownsRow wz.heap.size 2 1 (.slice none 0 0) 0 (ints (rtl P fm 0))) := World.ownsRow_nil _ _ _ _
    have hbr := Below.refl wz.heap.size wz
    go_wp2_with (fail)
    go_loopw [15, 16] (fun u15 u16 wr => ∃ (k q c4 : Nat) (A4 : Option Addr), k ≤ 200 ∧ q ≤ n + 97 ∧ Hid (q = k * P ∧ (0 < k → (k - 1) * P < n) ∧ k ≤ n) ∧ u16 = .int .i64 (q : Int) ∧ u15 = .slice A4 k c4 ∧ Hid (wr.ownsRow wz.heap.size 2 1 (.slice A4 k c4) k (ints (rtl P fm k))) ∧ Below wz.heap.size wz wr) (fun _ u16 _ => n + 200 - (intOf u16).toNat)
    case atStart => exact ⟨0, 0, 0, none, by omega, by omega, ⟨by omega, fun h => by omega, by omega⟩, rfl, rfl, HO0, hbr⟩
    case round =>
    clear HO0 hbr
    obtain ⟨wo, rfl⟩ : ∃ wo : World, wo = wr := ⟨_, rfl⟩
    obtain ⟨k, q, c4, A4, hk, hq, HK, rfl, rfl, HO, hbo⟩ := hrel
    by_cases hlt : q < n
    · obtain ⟨bf, off, rfl, hbf, hcell⟩ := HOFR.out.is.at (k := q) (by rw [← HNFR.out]; exact hlt)
      have e1 := (hbo.cell (p := ⟨bf, off + q, none⟩) hbf).trans (hcell q (by rw [← HNFR.out]; exact hlt))
      have hsn := rtl_succ P fm k
      rw [← HK.out.1] at hsn
      have HSN := Lib.hid hsn
      have HK2 : Hid (q + P = (k + 1) * P ∧ (0 < k + 1 → (k + 1 - 1) * P < n) ∧ k + 1 ≤ n) := ⟨by rw [Nat.succ_mul, HK.out.1], fun _ => by rw [Nat.add_sub_cancel, ← HK.out.1]; exact hlt, by
        have h3 := HK.out.1
        have h4 : k * 1 ≤ k * P := Nat.mul_le_mul_left _ h1
        omega⟩
      generalize gt fm q = x at *
      clear hcell hsn
      go_wp2_with (first
        | (go_at_call 53; refine (i_size _ _ _ _).mono ?_; rintro e w4 ⟨rfl, nq, rfl⟩)
        | (at_builtin; go_loud (refine wpList_append_own _ rfl (.tmp 86) (.tmp 91) 22 rfl wz.heap.size 2 i0 (.int .i64 0) 1 8 Try.underlying22 hi hz0 hz1 hz2 rfl (by omega) (.slice A4 k c4) k (ints (rtl P fm k)) rfl (World.ownsRow.alloc (own_below HO.out (below_drewN (Below.refl _ _) nq)) _) ⟨(wo.drewN nq).heap.size, 0, none⟩ 1 1 [.int .i64 x] rfl rfl (num_src1 _ _) (by intro u hu; simp at hu; subst hu; rfl) (by simp only [maxLen]; omega) (by omega) (by have h1 := hbo.size; simp; omega) ?_; intro v7 w7 o7 g9 _; have hb7 := ((below_drewN hbo nq).alloc ((below_drewN hbo nq).size) _).grown g9 (by have h1 := hbo.size; simp; omega) (fun g' hg' => by have h1 := ((HO.out).lt g' hg').1; omega); obtain ⟨A7, c9, rfl, _⟩ := own_slice' o7)))
      have o8 := o7
      rw [← ints_sn1, ← HSN.out] at o8
      have HO8 := Lib.hid o8
      have hk8 : k + 1 ≤ 200 := by have := HK2.out.2.2; omega
      clear o7 o8
      go_roundw
      case rel => exact ⟨k + 1, q + P, c9, A7, hk8, by omega, HK2, by go_num, rfl, HO8, hb7⟩
      case measure => simp [intOf]; omega
    · have hk0 : 0 < k := Nat.pos_of_ne_zero fun e => by
        have := HK.out.1
        rw [e] at this; omega
      obtain ⟨r1, r2, r3, r4, r5⟩ := root_facts P hp HMET.out.1 (by rw [← HNFR.out]; exact hfr2) HMET.out.2.2.1 HMET.out.2.2.2.1 (by rw [← HNFR.out]; exact HK.out.2.1 hk0) (by rw [← HNFR.out, ← HK.out.1]; omega) hk0
      have hkn : k < n := by
        have h3 : 2 * (k - 1) ≤ P * (k - 1) := Nat.mul_le_mul_right _ hp2
        have := HNFR.out
        omega
      have hcall := fun W h => HIH.out A4 k c4 (rtl P fm k) W (rtl_len P fm k).symm (by have := HNN.out; have := HFRN.out; omega) r5 (by omega) r1 h
      have HROOT : Hid (∀ L2, FX.FAC P (FX.toP P (rtl P fm k)) L2 → ALLF P (FX.toP P fm) (([] : List FE).map (·.2) ++ L2.map fun x => (x.1, P * x.2))) := fun L2 h => HMET.out.root P hp r3 h
      have HEO2 := Lib.hid (own_below HEO.out hbo)
      have HEV2 := Lib.hid (HEV.out.call hbo)
      have hbz2 := bel_call hbz hbo
      have hzo := hbo.size
      clear r1 r2 r3 r4 r5 HOFR hbo
      have HHC := Lib.hid hcall
      clear hcall
      go_wp2_with (first
        | (go_at_call 53; refine (i_size _ _ _ _).mono ?_; rintro e w4 ⟨rfl, nq, rfl⟩; have hc5 := HHC.out (wo.drewN nq) (own_isn (own_below HO.out (below_drewN (Below.refl _ _) nq)) (rtl_len P fm k).symm))
        | (go_at_call 28; refine hc5.mono ?_; clear hc5; rintro e w6 ⟨E2, g2, c2, n2, hn2x, hpos2, hn28, hbd2, hfac2, rfl, ho2, hv2, hb2⟩; have HN2 := Lib.hid hn2x; clear hn2x))
      have hb26 := bel_call (below_drewN (Below.refl wo.heap.size wo) nq) hb2
      have HBD2 := Lib.hid hbd2
      have HAL2 := Lib.hid (HROOT.out _ hfac2)
      have HO2 := Lib.hid ho2
      have HV2 := Lib.hid (hv2.mono (show w.heap.size ≤ (wo.drewN nq).heap.size from hbz2.size))
      have hbz6 := bel_call hbz2 hb26
      have HEO6 : Hid (w6.ownsRow w.heap.size 36 2 (.slice (none : Option Addr) 0 0) 0 (eC (([] : List FE) ++ mulE P E2 0))) := by
        have h := own_below HEO2.out hb26
        have he : ([] : List FE) ++ mulE P E2 0 = ([] : List FE) := by unfold mulE; simp
        unfold Hid; rw [he]; exact h
      have HEV6 : Hid (EVB w6 w.heap.size (([] : List FE) ++ mulE P E2 0)) := by
        have he : ([] : List FE) ++ mulE P E2 0 = ([] : List FE) := by unfold mulE; simp
        unfold Hid; rw [he]; exact HEV2.out.call hb26
      have HNB : Hid ((Value.slice (none : Option Addr) 0 0).ownBlock ≠ some g2) := fun e => by
        have h3 := (HEO.out.lt _ e).2
        have h4 := (HO2.out.lt g2 rfl).1
        have h5 : (wo.drewN nq).heap.size = wo.heap.size := rfl
        omega
      clear hbd2 hfac2 ho2 hv2 hb2 hb26 HEO2 HEV2 hbz2 HO HHC HROOT
      have hbr6 := Below.refl w6.heap.size w6
      go_wp2_with (fail)
      go_loopw [5, 97] (fun u5 u97 wr => ∃ (i2 n5 c5 : Nat) (A5 : Option Addr), i2 ≤ n2 ∧ u97 = .int .i64 (i2 : Int) ∧ n5 = 0 + i2 ∧ u5 = .slice A5 n5 c5 ∧ Hid (wr.ownsRow w.heap.size 36 2 (.slice A5 n5 c5) n5 (eC (([] : List FE) ++ mulE P E2 i2))) ∧ Hid (EVB wr w.heap.size (([] : List FE) ++ mulE P E2 i2)) ∧ Hid (wr.ownsRow 0 36 2 (.slice (some ⟨g2, 0, none⟩) n2 c2) n2 (eC E2)) ∧ Hid (EVB wr w.heap.size E2) ∧ Hid ((Value.slice A5 n5 c5).ownBlock ≠ some g2) ∧ Below w.heap.size w wr) (fun _ u97 _ => n2 - (intOf u97).toNat)
      case atStart => exact ⟨0, 0, 0, (none : Option Addr), Nat.zero_le _, rfl, rfl, rfl, HEO6, HEV6, own_mono HO2.out (Nat.zero_le _), HV2, HNB, hbz6⟩
      case round =>
      clear HEO6 HEV6 HO2 HV2 hbz6 hbr6 HNB
      obtain ⟨wt, rfl⟩ : ∃ wt : World, wt = wr := ⟨_, rfl⟩
      obtain ⟨i2, n5, c5, A5, hi2, rfl, hn5, rfl, HEX, HVX, HO2, HV2, HNB5, hbt⟩ := hrel
      have hn5b : n5 ≤ 100 := by omega
      have HN5 := Lib.hid hn5
      clear hn5
      by_cases hl2 : i2 < n2
      · have hil2 : i2 < E2.length := by rw [← HN2.out]; exact hl2
        obtain ⟨z1, z2⟩ := eC_at (l := E2) (k := i2) hil2
        obtain ⟨Ax, cx, hx1, hx2, hx3⟩ := HV2.out _ (ge_mem hil2)
        have hb8 := HBD2.out _ (ge_mem hil2)
        have hms := mulE_succ P hil2
        generalize ge E2 i2 = x at *
        obtain ⟨xv, xf, xt⟩ := x
        simp only at z1 z2 hx1 hx2 hx3 hb8 hms
        subst hx1
        have HMS := Lib.hid hms
        have e1 := own_hsrc HO2.out ⟨g2, 0, none⟩ rfl (i2 * 2) _ z1
        have e2 := own_hsrc HO2.out ⟨g2, 0, none⟩ rfl (i2 * 2 + 1) _ z2
        rw [Go.WideShapes.add_plain, Nat.zero_add] at e1 e2
        have hpx : P * xt ≤ 97 * 8 := Nat.mul_le_mul hP hb8.2
        have hpt : (P : Int) * (xt : Int) = ((P * xt : Nat) : Int) := by simp
        obtain ⟨xl, hxl⟩ : ∃ xl, xl = xf.length := ⟨_, rfl⟩
        rw [← hxl] at e1
        have HXL := Lib.hid hxl
        have HX2 := Lib.hid hx2
        have hba := ((Below.refl wt.heap.size wt).alloc (Nat.le_refl _) (.cells #[.slice Ax xl cx, .int .i64 (xt : Int)] 36)).alloc (by simp) (.cells #[.slice Ax xl cx, .int .i64 ((P * xt : Nat) : Int)] 36)
        have hsrc := sh_one (wt.alloc (.cells #[.slice Ax xl cx, .int .i64 (xt : Int)] 36)) (.slice Ax xl cx) ((P * xt : Nat) : Int)
        rw [World.size_alloc] at hsrc
        have HBA := Lib.hid hba
        have HSRC := Lib.hid hsrc
        generalize hpq : P * xt = pq at *
        have HPQ := Lib.hid hpq
        have hwt := hbt.size
        clear z1 z2 hms hxl hx2 hba hsrc hpq
        go_wp2_with (at_builtin; go_loud (refine wpList_append_src rfl (.tmp 101) (.tmp 109) 37 rfl w.heap.size 36 i3 (.agg #[.slice none 0 0, .int .i64 0]) 2 32 Try.underlying37 hi3 hv0 hv1 hv2 rfl (by omega) (.slice A5 n5 c5) n5 (eC (([] : List FE) ++ mulE P E2 i2)) rfl (own_below HEX.out HBA.out) (some ⟨wt.heap.size + 1, 0, none⟩) 1 1 [.slice Ax xl cx, .int .i64 (pq : Int)] rfl rfl (fun ad had j u hj => by injection had with had; subst had; exact HSRC.out j u hj) (by intro h; cases h) (by intro u hu; simp at hu; rcases hu with rfl | rfl <;> rfl) (by simp only [maxLen]; omega) (by omega) (by simp; omega) ?_; intro v8 w8 o8 g8 ha; obtain ⟨A8, c8, rfl, _⟩ := own_slice' o8))
        have HEN : Hid (([] : List FE) ++ mulE P E2 (i2 + 1) = (([] : List FE) ++ mulE P E2 i2) ++ [(.slice Ax xl cx, xf, pq)]) := by
          unfold Hid
          rw [HMS.out, HXL.out, ← HPQ.out, List.append_assoc]
        have HEX8 : Hid (w8.ownsRow w.heap.size 36 2 (.slice A8 (n5 + 1) c8) (n5 + 1) (eC (([] : List FE) ++ mulE P E2 (i2 + 1)))) := by
          unfold Hid
          rw [HEN.out, eC_snoc]
          exact o8
        have HVX8 : Hid (EVB w8 w.heap.size (([] : List FE) ++ mulE P E2 (i2 + 1))) := by
          unfold Hid
          rw [HEN.out]
          exact EVB.push (x := (.slice Ax xl cx, xf, pq)) (HVX.out.call HBA.out) (own_below HEX.out HBA.out) (by show Value.slice Ax xl cx = _; rw [HXL.out]) (HX2.out.call HBA.out) hx3 g8
        have hb88 := (bel_call hbt HBA.out).grown g8 (by simp; omega) (fun g' hg' => (HEX.out.lt g' hg').1)
        have HO28 : Hid (w8.ownsRow 0 36 2 (.slice (some ⟨g2, 0, none⟩) n2 c2) n2 (eC E2)) := own_keep (own_below HO2.out HBA.out) g8 (.inl (fun e => HNB5.out e.symm))
        have HNB8 : Hid ((Value.slice A8 (n5 + 1) c8).ownBlock ≠ some g2) := fun e => by
          rcases ha with h3 | h3
          · rw [h3] at e; exact HNB5.out e
          · rw [h3] at e
            injection e with e
            have h4 := (HO2.out.lt g2 rfl).2
            have h5 := HBA.out.size
            omega
        have HV28 : Hid (EVB w8 w.heap.size E2) := fun y hy => by
          obtain ⟨A9, c9, q1, q2, q3⟩ := HV2.out y hy
          exact ⟨A9, c9, q1, own_keep_own (q2.call HBA.out) (own_below HEX.out HBA.out) g8 (by decide), q3⟩
        have HN58 : Hid (n5 + 1 = 0 + (i2 + 1)) := by unfold Hid; rw [HN5.out]; omega
        clear g8 ha o8
        go_roundw
        case rel => exact ⟨i2 + 1, n5 + 1, c8, A8, by omega, by go_num, HN58.out, rfl, HEX8, HVX8, HO28, HV28, HNB8, hb88⟩
        case measure => simp [intOf]; omega
      · obtain rfl : n2 = i2 := by omega
        have HALL : Hid (ALLF P (FX.toP P fm) ((([] : List FE) ++ mulE P E2 n2).map (·.2))) := by
          unfold Hid
          rw [List.map_append, HN2.out, mulE_all]
          exact HAL2.out
        have HNE' : Hid (n5 = (([] : List FE) ++ mulE P E2 n2).length) := by
          unfold Hid
          rw [List.length_append, ← HNE.out, HN5.out]
          unfold mulE
          rw [List.length_map, List.length_take, ← HN2.out, Nat.min_self]
        clear HNE HEO HEV hbz
        have HNE := HNE'
        have HEO := HEX
        have HEV := HVX
        have hbz := hbt
        obtain ⟨wz, rfl⟩ : ∃ wz0 : World, wz0 = wt := ⟨_, rfl⟩
        generalize ([] : List FE) ++ mulE P E2 n2 = EE at *
        have hlen8 : n5 ≤ 8 := by have := allf_len P hp HDGM.out HALL.out; rw [List.length_map] at this; have := HNE.out; have := HNM.out; omega
        have hpos8 : 0 < n5 := by have := allf_ne P hp (by have := HNM.out; omega) HDGM.out HALL.out; rw [List.length_map] at this; have := HNE.out; omega
        obtain ⟨gE, hgE, _, _, _⟩ := own_src HEO.out hpos8
        subst hgE
        have hkn8 : KN' EE := by
          have := HALL.out.2
          rw [List.map_map] at this
          exact this
        have hsrt := c_sortF gE n5 c5 w.heap.size EE wz HNE.out hpos8 (by omega) hkn8 HEV.out.ev HEO.out
        have HHK := Lib.hid hpos8
        clear hkn8
        go_wp2_with (go_at_call 54; refine hsrt.mono ?_; clear hsrt; rintro e w9 ⟨rfl, E9, hE1, hE2, ho9, hg9⟩)
        go_ret
        exact fbr_of P hp HF.out (by rw [← HNF.out]; exact hn2) (by rw [← HNF.out]; exact hn9) HMN.out HALL.out hE1 hE2 HNE.out ho9 (HEV.out.grown HEO.out hg9) (hbz.grown hg9 hbz.size (fun g' hg' => by
          have h := HEO.out.lt g' (by rw [← hg']; rfl)
          exact h.1))
  · have hdne : d ≠ [] := fun e => by rw [e] at HND; exact hd0 HND.out
    have hnd9 : nd ≤ 9 := by have := HDD.out.2.2; have := HND.out; have := HNM.out; omega
    have hc1 := hcom A1 A3 c1 c3 fm d w3 (by have := HNM.out; omega) (by have := HND.out; omega) HMN.out.1 HDD.out.1 HO1.out HO3.out
    rw [HNM.out, ← HND.out] at hc1
    have HPART : Hid (∀ g q r, CM P fm d g → DVQ P fm g q r → 0 < g.length ∧ gt q (q.length - 1) = 1 ∧ 2 ≤ q.length ∧ q.length ≤ fm.length ∧ FX.SqF (FX.toP P q) ∧ FX.toP P fm = FX.toP P q * FX.toP P g) := fun g q r a b => part_facts P hp HMN.out.1 (by rw [HNM.out]; exact hn2) HMM.out HDD.out hdne a b
    have hfo : w3.ownsRow 0 2 1 (.slice A1 n c1) n (ints fm) := by have h := HO1.out; unfold OA at h; rw [HNM.out] at h; exact h
    have hsp := fun A c f W a1 a2 a3 a4 a5 b a6 a7 => i_split P hP hp A c f W a1 a2 a3 a4 a5 b a6 a7
    have hdz : (0 : Int) < (nd : Int) := by omega
    have hdt9 : decide ((0 : Int) < ((nd : Nat) : Int)) = true := decide_eq_true (by omega)
    have HG0 : Hid (∀ gg, CM P fm d gg → 0 < gg.length ∧ gg.length ≤ 100) := fun gg hgg => by
      have h0 : 0 < gg.length := by
        rcases Nat.eq_zero_or_pos gg.length with h | h
        · exfalso
          exact gcd_ne P hgg.2.1 (can_ne P hp HMN.out.1 (by rw [HNM.out]; exact hn2)) ((hgg.1.nil_iff P).2 (List.eq_nil_of_length_eq_zero h))
        · exact h
      have h3 := hgg.2.1.1.dg_le (hgg.1.dg P h0) HDGM.out
      exact ⟨h0, by omega⟩
    clear hcom hd0
    go_wp2_with (first
      | (go_at_call 51; refine hc1.mono ?_; clear hc1; rintro e w4 ⟨gg, hgg, Ag, cg, rfl, hog, hb4⟩; have hd2 := hdiv A1 Ag n c1 gg.length cg fm gg w4 HNM.out.symm rfl (HG0.out gg hgg).1 (by omega) (HG0.out gg hgg).2 HMN.out.1 hgg.1 (own_below hfo hb4) (own_isn hog rfl))
      | (go_at_call 50; refine hd2.mono ?_; clear hd2; rintro e w5 ⟨qq, rr, A5, A6, c5, c6, hqq, rfl, ho5, ho6, hb5⟩; have hpf := Lib.hid (HPART.out gg qq rr hgg hqq); have hqc := Lib.hid hqq.1; have hs4 := hsp A5 c5 qq w5 hpf.out.2.2.1 (by have := hpf.out.2.2.2.1; have := HNM.out; omega) hqq.1 hpf.out.2.1 hpf.out.2.2.2.2.1 w.heap.size (Nat.le_trans hb03.size (Nat.le_trans hb4.size hb5.size)) (own_mono ho5 (Nat.le_trans hb03.size hb4.size)); clear hqq)
      | (go_at_call 52; refine hs4.mono ?_; clear hs4; rintro e w6 ⟨Q, Aq, cq, hQ, rfl, hoQ, hb6⟩; obtain ⟨nQ, hnQ⟩ : ∃ nQ, nQ = Q.length := ⟨_, rfl⟩; rw [← hnQ]; have HNQ := Lib.hid hnQ; clear hnQ))
    have hw6 := bel_call (bel_call hb4 hb5) hb6
    have HQL := Lib.hid (hQ.len P hp (hqc.out.dg P (by have := hpf.out.2.2.1; omega)))
    have HQM : Hid (∀ g ∈ Q, FX.MI P g ∧ FX.Dv (FX.toP P g) (FX.toP P fm)) := fun g hg => ⟨((hQ.1 g).1 hg).1, ((hQ.1 g).1 hg).2.trans ⟨FX.toP P gg, hpf.out.2.2.2.2.2⟩⟩
    have HQD := Lib.hid hQ.2
    have HMETF : Hid (∀ fr L, PSU P (FX.toP P fm) Q Q.length fr L → MET P (FX.toP P fm) fr L) := fun fr L h => h.met P hp (r := []) (can_ne P hp HMN.out.1 (by rw [HNM.out]; exact hn2)) HDD.out hgg hpf.out.2.2.2.2.2 hQ
    have HOQ := Lib.hid (hoQ.mono (Nat.zero_le _))
    have HOF := Lib.hid (HO1.out.call hw6)
    have HPS := Lib.hid (PSU.start P hp (fr := fm) (Q := Q) HMN.out.1 (by rw [HNM.out]; omega) HMM.out)
    have hq8 : nQ ≤ 9 := by have := HQL.out; have := HNQ.out; have := hpf.out.2.2.2.1; have := HNM.out; omega
    have hbw := bel_call hb03 hw6
    have HEO0 : Hid (w6.ownsRow w.heap.size 36 2 (.slice none 0 0) 0 (eC [])) := World.ownsRow_nil _ _ _ _
    have HEV0 : Hid (EVB w6 w.heap.size []) := fun x hx => by simp at hx
    clear hQ hoQ hb4 hb5 hb6 hog ho5 ho6 hgg hpf hqc hfo hsp HPART HG0 hw6 hb03 HO1 HO3 hdne
    go_wp2_with (fail)
    go_loopw [5, 6, 43] (fun u5 u6 u43 wr => ∃ (i nfr cf nE cE : Nat) (Af AE : Option Addr) (fr : List Int) (E : List FE), i ≤ nQ ∧ u43 = .int .i64 (i : Int) ∧ Hid (nfr = fr.length) ∧ u6 = .slice Af nfr cf ∧ Hid (nE = E.length) ∧ u5 = .slice AE nE cE ∧ nE ≤ i ∧ Hid (PSU P (FX.toP P fm) Q i fr (E.map (·.2))) ∧ Hid (OA wr Af cf fr) ∧ Hid (wr.ownsRow w.heap.size 36 2 (.slice AE nE cE) nE (eC E)) ∧ Hid (EVB wr w.heap.size E) ∧ Hid (OLB wr 0 w.heap.size Aq cq Q) ∧ nfr ≤ n ∧ Below w.heap.size w wr) (fun _ _ u43 _ => nQ - (intOf u43).toNat)
    case atStart => exact ⟨0, n, c1, 0, 0, A1, none, fm, [], Nat.zero_le _, rfl, HNM.out.symm, rfl, rfl, rfl, Nat.le_refl _, HPS, HOF, HEO0, HEV0, HOQ, Nat.le_refl _, hbw⟩
    case round =>
    clear HPS HOF HEO0 HEV0 HOQ hbw
    obtain ⟨wo, rfl⟩ : ∃ wo : World, wo = wr := ⟨_, rfl⟩
    obtain ⟨i, nfr, cf, nE, cE, Af, AE, fr, E, hiQ, rfl, HNFR, rfl, HNE, rfl, hnEi, HPS, HOF, HEO, HEV, HOQ, hfrn, hb⟩ := hrel
    by_cases hil : i < nQ
    · have hiq : i < Q.length := by rw [← HNQ.out]; exact hil
      have HMI := Lib.hid (HQM.out _ (gl_mem hiq))
      obtain ⟨gq, A5, c5, rfl, hgq, e1, hoq⟩ := HOQ.out.at hiq
      obtain ⟨nq, hnq⟩ : ∃ nq, nq = (gl Q i).length := ⟨_, rfl⟩
      rw [← hnq] at e1
      have HNQ5 := Lib.hid hnq
      have HO5 := Lib.hid hoq
      clear hnq hoq
      have hba := (Below.refl wo.heap.size wo).alloc (Nat.le_refl _) (.cells #[.slice A5 nq c5, .int .i64 0] 36)
      have hbk : BK (wo.alloc (.cells #[.slice A5 nq c5, .int .i64 0] 36)) wo.heap.size 36 #[.slice A5 nq c5, .int .i64 ((0 : Nat) : Int)] := BK.new _ _ _
      have hq2 := mi_two P hp HMI.out.1
      have hq9 : nq ≤ 9 := by
        have := HMI.out.2.dg_le (HMI.out.1.1.dg P (by omega)) HDGM.out
        have := HNQ5.out
        omega
      have hq2n : 2 ≤ nq := by rw [HNQ5.out]; exact hq2
      have hfo := HOF.out.call hba
      unfold OA at hfo
      rw [← HNFR.out] at hfo
      have hdq := hdiv Af A5 nfr cf nq c5 fr (gl Q i) _ HNFR.out HNQ5.out (by omega) (by omega) (by omega) HPS.out.1 HMI.out.1.1 hfo (by have h := (HO5.out.call hba).oa.is; exact h)
      have HBK := Lib.hid hbk
      clear hbk hfo hq2
      go_wp2_with (fail)
      refine hdq.mono ?_
      clear hdq
      rintro e w7 ⟨q7, r7, A7, A8, c7, c8, hd7, rfl, ho7, ho8, hb7⟩
      have HBK7 := Lib.hid (HBK.out.of_below hb7)
      have hb07 := bel_call hba hb7
      have HPC := Lib.hid (PSC.start P (q := gl Q i) HPS.out.1 HPS.out.2.1 HPS.out.2.2.1)
      have HOF7 := Lib.hid (HOF.out.call hb07)
      have HO7 := Lib.hid (OA.of ho7 rfl)
      have HD7 := Lib.hid hd7
      obtain ⟨n7, hn7⟩ : ∃ n7, n7 = q7.length := ⟨_, rfl⟩
      obtain ⟨n8, hn8⟩ : ∃ n8, n8 = r7.length := ⟨_, rfl⟩
      rw [← hn7, ← hn8]
      have HN7 := Lib.hid hn7
      have HN8 := Lib.hid hn8
      obtain ⟨xb, hxb⟩ : ∃ xb, xb = wo.heap.size := ⟨_, rfl⟩
      rw [← hxb] at HBK7 ⊢
      have HXB := Lib.hid hxb
      clear hn7 hn8 hd7 ho7 ho8 hba hb7 HBK hxb
      go_wp2_with (fail)
      go_loopw [6, 13, 14] (fun u6 u13 u14 wr => ∃ (k n2 c2 n3 c3 n4 c4 : Nat) (A2 A3 A4 : Option Addr) (f2 h r : List Int), Hid (n2 = f2.length) ∧ u6 = .slice A2 n2 c2 ∧ Hid (n3 = h.length) ∧ u13 = .slice A3 n3 c3 ∧ Hid (n4 = r.length) ∧ u14 = .slice A4 n4 c4 ∧ k + n2 ≤ nfr ∧ Hid (PSC P fr (gl Q i) k f2) ∧ Hid (DVQ P f2 (gl Q i) h r) ∧ Hid (OA wr A2 c2 f2) ∧ Hid (OA wr A3 c3 h) ∧ Hid (BK wr xb 36 #[.slice A5 nq c5, .int .i64 (k : Int)]) ∧ Below wo.heap.size wo wr) (fun u6 _ _ _ => lenV u6)
      case atStart => exact ⟨0, nfr, cf, n7, c7, n8, c8, Af, A7, A8, fr, q7, r7, HNFR, rfl, HN7, rfl, HN8, rfl, by omega, HPC, HD7, HOF7, HO7, HBK7, hb07⟩
      case round =>
      clear HPC HD7 HOF7 HO7 HBK7 hb07 HN7 HN8
      obtain ⟨wt, rfl⟩ : ∃ wt : World, wt = wr := ⟨_, rfl⟩
      obtain ⟨k, m2, d2, m3, d3, m4, d4, B2, B3, B4, f2, hh, r, HM2, rfl, HM3, rfl, HM4, rfl, hkn, HPC, HD, HO2, HO3, HBK, hb2⟩ := hrel
      have HEX := Lib.hid (dvq_exact P hp HD.out HMI.out.1.1 (by rw [← HNQ5.out]; omega))
      have g1 := HBK.out.cell 1
      have g0 := HBK.out.cell 0
      have gz := HBK.out.frozen 1
      simp only [List.getElem?_toArray, List.getElem?_cons_succ, List.getElem?_cons_zero] at g1 g0
      by_cases h4 : m4 = 0
      · subst h4
        have hr0 : r = [] := List.eq_nil_of_length_eq_zero HM4.out.symm
        obtain ⟨hp1, hp2x⟩ := HPC.out.step P hp HMI.out.1 HD.out hr0
        have HPC2 := Lib.hid hp1
        have hn62 : m3 < m2 := by have := HM3.out; have := HM2.out; omega
        have hset := HBK.out.set 1 (.int .i64 ((k : Int) + 1))
        have HBK2 : Hid (BK (wt.setCell ⟨xb, 1, none⟩ (.int .i64 ((k : Int) + 1))) xb 36 #[.slice A5 nq c5, .int .i64 ((k + 1 : Nat) : Int)]) := hset
        have hb3 := hb2.setCell (p := ⟨xb, 1, none⟩) (by rw [HXB.out]; exact Nat.le_refl _) (.int .i64 ((k : Int) + 1))
        have ho3' := own_far HO3.out (p := ⟨xb, 1, none⟩) HBK.out (by decide) (.int .i64 ((k : Int) + 1))
        have ho5' := HO5.out.call hb3
        rw [← HM3.out] at ho3'
        have hdq := hdiv B3 A5 m3 d3 nq c5 hh (gl Q i) (wt.setCell ⟨xb, 1, none⟩ (.int .i64 ((k : Int) + 1))) HM3.out HNQ5.out (by omega) (by omega) (by omega) hp1.1 HMI.out.1.1 ho3' ho5'.oa.is
        have HO3S : Hid (OA (wt.setCell ⟨xb, 1, none⟩ (.int .i64 ((k : Int) + 1))) B3 d3 hh) := by
          unfold Hid OA
          rw [← HM3.out]; exact ho3'
        clear hr0 hp1 hp2x hset ho3' ho5' hb2
        go_wp2_with (go_at_call 50; refine hdq.mono ?_; clear hdq; rintro e w9 ⟨q9, r9, A9, A10, c9, c10, hd9, rfl, ho9, ho10, hb9⟩)
        have HD9 := Lib.hid hd9
        have HO9 := Lib.hid (OA.of ho9 rfl)
        have HO39 := Lib.hid (HO3S.out.call hb9)
        have HBK9 := Lib.hid (HBK2.out.of_below hb9)
        have hb39 := bel_call hb3 hb9
        clear hd9 ho9 ho10 hb9 hb3
        go_roundw
        case rel => exact ⟨k + 1, m3, d3, _, c9, _, c10, B3, A9, A10, hh, q9, r9, HM3, rfl, rfl, rfl, rfl, rfl, by omega, HPC2, HD9, HO39, HO9, HBK9, hb39⟩
        case measure => simp [lenV]; omega
      · have hnd : ¬ FX.Dv (FX.toP P (gl Q i)) (FX.toP P f2) := fun h => h4 (by rw [HM4.out, HEX.out.2 h]; rfl)
        have hst := HPS.out.step P hp HQD.out HQM.out hiq HPC.out hnd
        have HPS2 := Lib.hid hst.1
        have hz4 : ((m4 : Int) == 0) = false := by rw [beq_eq_false_iff_ne]; omega
        have hbx := hb2.alloc hb2.size (.cells #[.slice A5 nq c5, .int .i64 (k : Int)] 36)
        have hba := (Below.refl wt.heap.size wt).alloc (Nat.le_refl _) (.cells #[.slice A5 nq c5, .int .i64 (k : Int)] 36)
        have HBX := Lib.hid hbx
        have HBA := Lib.hid hba
        have hwsz := Nat.le_trans hb.size hb2.size
        clear hnd hst hbx hba h4
        go_wp2_with (at_builtin; go_loud (refine wpList_append_src rfl (.tmp 71) (.tmp 73) 37 rfl w.heap.size 36 i3 (.agg #[.slice none 0 0, .int .i64 0]) 2 32 Try.underlying37 hi3 hv0 hv1 hv2 rfl (by omega) (.slice AE nE cE) nE (eC E) rfl (own_below HEO.out HBX.out) (some ⟨wt.heap.size, 0, none⟩) 1 1 [.slice A5 nq c5, .int .i64 (k : Int)] rfl rfl (fun ad had j u hj => by injection had with had; subst had; exact sh_one wt (.slice A5 nq c5) (k : Int) j u hj) (by intro h; cases h) (by intro u hu; simp at hu; rcases hu with rfl | rfl <;> rfl) (by simp only [maxLen]; omega) (by omega) (by simp; omega) ?_; intro v8 w8 o8 g8 ha; obtain ⟨A8, c8, rfl, _⟩ := own_slice' o8))
        have HEN : Hid (w8.ownsRow w.heap.size 36 2 (.slice A8 (nE + 1) c8) (nE + 1) (eC (E ++ [(.slice A5 nq c5, gl Q i, k)]))) := by
          unfold Hid
          rw [eC_snoc]; exact o8
        have HEV8 : Hid (EVB w8 w.heap.size (E ++ [(.slice A5 nq c5, gl Q i, k)])) := EVB.push (x := (.slice A5 nq c5, gl Q i, k)) (HEV.out.call HBX.out) (own_below HEO.out HBX.out) (by show Value.slice A5 nq c5 = _; rw [HNQ5.out]) (HO5.out.call HBX.out) (by show (gl Q i).length ≤ 100; rw [← HNQ5.out]; omega) g8
        have HPS8 : Hid (PSU P (FX.toP P fm) Q (i + 1) f2 ((E ++ [(Value.slice A5 nq c5, gl Q i, k)]).map (·.2))) := by
          unfold Hid
          rw [List.map_append]; exact HPS2.out
        have HO28 := Lib.hid (own_keep_own (HO2.out.call HBA.out) (own_below HEO.out HBX.out) g8 (by decide))
        have HNE8 : Hid (nE + 1 = (E ++ [(Value.slice A5 nq c5, gl Q i, k)]).length) := by unfold Hid; rw [List.length_append, ← HNE.out]; rfl
        have hb88 := (bel_call hb HBX.out).grown g8 (by simp; omega) (fun g' hg' => (HEO.out.lt g' hg').1)
        have HOQ8 : Hid (OLB w8 0 w.heap.size (some ⟨gq, 0, none⟩) cq Q) := by
          obtain ⟨vs, q1, q2⟩ := HOQ.out.call HBX.out
          exact ⟨vs, own_keep_own q1 (own_below HEO.out HBX.out) g8 (by decide), q2.1, fun j hj => by
            obtain ⟨A9, c9, z1, z2⟩ := q2.2 j hj
            exact ⟨A9, c9, z1, own_keep_own z2 (own_below HEO.out HBX.out) g8 (by decide)⟩⟩
        clear g8 ha o8 hb2
        go_roundw
        case rel => exact ⟨i + 1, m2, d2, nE + 1, c8, B2, A8, f2, _, by omega, by go_num, HM2, rfl, HNE8, rfl, by omega, HPS8, HO28, HEN, HEV8, HOQ8, by omega, hb88⟩
        case measure => simp [intOf]; omega
    · obtain rfl : nQ = i := by omega
      have HMET := Lib.hid (HMETF.out fr (E.map (·.2)) (by rw [← HNQ.out]; exact HPS.out))
      have HOFR := HOF
      obtain ⟨wz, rfl⟩ : ∃ wz : World, wz = wo := ⟨_, rfl⟩
      have HFRN : Hid (fr.length ≤ f.length) := by unfold Hid; rw [← HNFR.out, ← HNF.out]; exact hfrn
      have hbz := hb
      have hnfr0 : 0 < nfr := by have := HMET.out.2.1; have := HNFR.out; omega
      have hfr9 : nfr ≤ 9 := by omega
      by_cases hr1 : nfr = 1
      · have HALL := Lib.hid (HMET.out.one P hp (by rw [← HNFR.out]; exact hr1))
        have hr2 : (nfr : Int) ≤ 1 := by omega
        clear hr1
        have hlen8 : nE ≤ 8 := by have := allf_len P hp HDGM.out HALL.out; rw [List.length_map] at this; have := HNE.out; have := HNM.out; omega
        have hpos8 : 0 < nE := by have := allf_ne P hp (by have := HNM.out; omega) HDGM.out HALL.out; rw [List.length_map] at this; have := HNE.out; omega
        obtain ⟨gE, hgE, _, _, _⟩ := own_src HEO.out hpos8
        subst hgE
        have hkn8 : KN' E := by
          have := HALL.out.2
          rw [List.map_map] at this
          exact this
        have hsrt := c_sortF gE nE cE w.heap.size E wz HNE.out hpos8 (by omega) hkn8 HEV.out.ev HEO.out
        have HHK := Lib.hid hpos8
        clear hkn8
        go_wp2_with (go_at_call 54; refine hsrt.mono ?_; clear hsrt; rintro e w9 ⟨rfl, E9, hE1, hE2, ho9, hg9⟩)
        go_ret
        exact fbr_of P hp HF.out (by rw [← HNF.out]; exact hn2) (by rw [← HNF.out]; exact hn9) HMN.out HALL.out hE1 hE2 HNE.out ho9 (HEV.out.grown HEO.out hg9) (hbz.grown hg9 hbz.size (fun g' hg' => by
          have h := HEO.out.lt g' (by rw [← hg']; rfl)
          exact h.1))
      · have hfr2 : 2 ≤ nfr := by omega
        clear hr1
        have hdt9 : decide ((1 : Int) < ((nfr : Nat) : Int)) = true := decide_eq_true (by omega)
        have hnE8 : nE ≤ 8 := by have := met_len P hp HDGM.out HMET.out; rw [List.length_map] at this; have := HNE.out; have := HNM.out; omega
        have HO0 : Hid (wz.ownsRow wz.heap.size 2 1 (.slice none 0 0) 0 (ints (rtl P fr 0))) := World.ownsRow_nil _ _ _ _
        have hbr := Below.refl wz.heap.size wz
        go_wp2_with (fail)
        go_loopw [15, 16] (fun u15 u16 wr => ∃ (k q c4 : Nat) (A4 : Option Addr), k ≤ 200 ∧ q ≤ nfr + 97 ∧ Hid (q = k * P ∧ (0 < k → (k - 1) * P < nfr) ∧ k ≤ nfr) ∧ u16 = .int .i64 (q : Int) ∧ u15 = .slice A4 k c4 ∧ Hid (wr.ownsRow wz.heap.size 2 1 (.slice A4 k c4) k (ints (rtl P fr k))) ∧ Below wz.heap.size wz wr) (fun _ u16 _ => nfr + 200 - (intOf u16).toNat)
        case atStart => exact ⟨0, 0, 0, none, by omega, by omega, ⟨by omega, fun h => by omega, by omega⟩, rfl, rfl, HO0, hbr⟩
        case round =>
        clear HO0 hbr
        obtain ⟨wo, rfl⟩ : ∃ wo : World, wo = wr := ⟨_, rfl⟩
        obtain ⟨k, q, c4, A4, hk, hq, HK, rfl, rfl, HO, hbo⟩ := hrel
        by_cases hlt : q < nfr
        · obtain ⟨bf, off, rfl, hbf, hcell⟩ := HOFR.out.is.at (k := q) (by rw [← HNFR.out]; exact hlt)
          have e1 := (hbo.cell (p := ⟨bf, off + q, none⟩) hbf).trans (hcell q (by rw [← HNFR.out]; exact hlt))
          have hsn := rtl_succ P fr k
          rw [← HK.out.1] at hsn
          have HSN := Lib.hid hsn
          have HK2 : Hid (q + P = (k + 1) * P ∧ (0 < k + 1 → (k + 1 - 1) * P < nfr) ∧ k + 1 ≤ nfr) := ⟨by rw [Nat.succ_mul, HK.out.1], fun _ => by rw [Nat.add_sub_cancel, ← HK.out.1]; exact hlt, by
            have h3 := HK.out.1
            have h4 : k * 1 ≤ k * P := Nat.mul_le_mul_left _ h1
            omega⟩
          generalize gt fr q = x at *
          clear hcell hsn
          go_wp2_with (first
            | (go_at_call 53; refine (i_size _ _ _ _).mono ?_; rintro e w4 ⟨rfl, nq, rfl⟩)
            | (at_builtin; go_loud (refine wpList_append_own _ rfl (.tmp 86) (.tmp 91) 22 rfl wz.heap.size 2 i0 (.int .i64 0) 1 8 Try.underlying22 hi hz0 hz1 hz2 rfl (by omega) (.slice A4 k c4) k (ints (rtl P fr k)) rfl (World.ownsRow.alloc (own_below HO.out (below_drewN (Below.refl _ _) nq)) _) ⟨(wo.drewN nq).heap.size, 0, none⟩ 1 1 [.int .i64 x] rfl rfl (num_src1 _ _) (by intro u hu; simp at hu; subst hu; rfl) (by simp only [maxLen]; omega) (by omega) (by have h1 := hbo.size; simp; omega) ?_; intro v7 w7 o7 g9 _; have hb7 := ((below_drewN hbo nq).alloc ((below_drewN hbo nq).size) _).grown g9 (by have h1 := hbo.size; simp; omega) (fun g' hg' => by have h1 := ((HO.out).lt g' hg').1; omega); obtain ⟨A7, c9, rfl, _⟩ := own_slice' o7)))
          have o8 := o7
          rw [← ints_sn1, ← HSN.out] at o8
          have HO8 := Lib.hid o8
          have hk8 : k + 1 ≤ 200 := by have := HK2.out.2.2; omega
          clear o7 o8
          go_roundw
          case rel => exact ⟨k + 1, q + P, c9, A7, hk8, by omega, HK2, by go_num, rfl, HO8, hb7⟩
          case measure => simp [intOf]; omega
        · have hk0 : 0 < k := Nat.pos_of_ne_zero fun e => by
            have := HK.out.1
            rw [e] at this; omega
          obtain ⟨r1, r2, r3, r4, r5⟩ := root_facts P hp HMET.out.1 (by rw [← HNFR.out]; exact hfr2) HMET.out.2.2.1 HMET.out.2.2.2.1 (by rw [← HNFR.out]; exact HK.out.2.1 hk0) (by rw [← HNFR.out, ← HK.out.1]; omega) hk0
          have hkn : k < nfr := by
            have h3 : 2 * (k - 1) ≤ P * (k - 1) := Nat.mul_le_mul_right _ hp2
            have := HNFR.out
            omega
          have hcall := fun W h => HIH.out A4 k c4 (rtl P fr k) W (rtl_len P fr k).symm (by have := HNN.out; have := HFRN.out; omega) r5 (by omega) r1 h
          have HROOT : Hid (∀ L2, FX.FAC P (FX.toP P (rtl P fr k)) L2 → ALLF P (FX.toP P fm) (E.map (·.2) ++ L2.map fun x => (x.1, P * x.2))) := fun L2 h => HMET.out.root P hp r3 h
          have HEO2 := Lib.hid (own_below HEO.out hbo)
          have HEV2 := Lib.hid (HEV.out.call hbo)
          have hbz2 := bel_call hbz hbo
          have hzo := hbo.size
          clear r1 r2 r3 r4 r5 HOFR hbo
          have HHC := Lib.hid hcall
          clear hcall
          go_wp2_with (first
            | (go_at_call 53; refine (i_size _ _ _ _).mono ?_; rintro e w4 ⟨rfl, nq, rfl⟩; have hc5 := HHC.out (wo.drewN nq) (own_isn (own_below HO.out (below_drewN (Below.refl _ _) nq)) (rtl_len P fr k).symm))
            | (go_at_call 28; refine hc5.mono ?_; clear hc5; rintro e w6 ⟨E2, g2, c2, n2, hn2x, hpos2, hn28, hbd2, hfac2, rfl, ho2, hv2, hb2⟩; have HN2 := Lib.hid hn2x; clear hn2x))
          have hb26 := bel_call (below_drewN (Below.refl wo.heap.size wo) nq) hb2
          have HBD2 := Lib.hid hbd2
          have HAL2 := Lib.hid (HROOT.out _ hfac2)
          have HO2 := Lib.hid ho2
          have HV2 := Lib.hid (hv2.mono (show w.heap.size ≤ (wo.drewN nq).heap.size from hbz2.size))
          have hbz6 := bel_call hbz2 hb26
          have HEO6 : Hid (w6.ownsRow w.heap.size 36 2 (.slice AE nE cE) nE (eC (E ++ mulE P E2 0))) := by
            have h := own_below HEO2.out hb26
            have he : E ++ mulE P E2 0 = E := by unfold mulE; simp
            unfold Hid; rw [he]; exact h
          have HEV6 : Hid (EVB w6 w.heap.size (E ++ mulE P E2 0)) := by
            have he : E ++ mulE P E2 0 = E := by unfold mulE; simp
            unfold Hid; rw [he]; exact HEV2.out.call hb26
          have HNB : Hid ((Value.slice AE nE cE).ownBlock ≠ some g2) := fun e => by
            have h3 := (HEO.out.lt _ e).2
            have h4 := (HO2.out.lt g2 rfl).1
            have h5 : (wo.drewN nq).heap.size = wo.heap.size := rfl
            omega
          clear hbd2 hfac2 ho2 hv2 hb2 hb26 HEO2 HEV2 hbz2 HO HHC HROOT
          have hbr6 := Below.refl w6.heap.size w6
          go_wp2_with (fail)
          go_loopw [5, 97] (fun u5 u97 wr => ∃ (i2 n5 c5 : Nat) (A5 : Option Addr), i2 ≤ n2 ∧ u97 = .int .i64 (i2 : Int) ∧ n5 = nE + i2 ∧ u5 = .slice A5 n5 c5 ∧ Hid (wr.ownsRow w.heap.size 36 2 (.slice A5 n5 c5) n5 (eC (E ++ mulE P E2 i2))) ∧ Hid (EVB wr w.heap.size (E ++ mulE P E2 i2)) ∧ Hid (wr.ownsRow 0 36 2 (.slice (some ⟨g2, 0, none⟩) n2 c2) n2 (eC E2)) ∧ Hid (EVB wr w.heap.size E2) ∧ Hid ((Value.slice A5 n5 c5).ownBlock ≠ some g2) ∧ Below w.heap.size w wr) (fun _ u97 _ => n2 - (intOf u97).toNat)
          case atStart => exact ⟨0, nE, cE, AE, Nat.zero_le _, rfl, rfl, rfl, HEO6, HEV6, own_mono HO2.out (Nat.zero_le _), HV2, HNB, hbz6⟩
          case round =>
          clear HEO6 HEV6 HO2 HV2 hbz6 hbr6 HNB
          obtain ⟨wt, rfl⟩ : ∃ wt : World, wt = wr := ⟨_, rfl⟩
          obtain ⟨i2, n5, c5, A5, hi2, rfl, hn5, rfl, HEX, HVX, HO2, HV2, HNB5, hbt⟩ := hrel
          have hn5b : n5 ≤ 100 := by omega
          have HN5 := Lib.hid hn5
          clear hn5
          by_cases hl2 : i2 < n2
          · have hil2 : i2 < E2.length := by rw [← HN2.out]; exact hl2
            obtain ⟨z1, z2⟩ := eC_at (l := E2) (k := i2) hil2
            obtain ⟨Ax, cx, hx1, hx2, hx3⟩ := HV2.out _ (ge_mem hil2)
            have hb8 := HBD2.out _ (ge_mem hil2)
            have hms := mulE_succ P hil2
            generalize ge E2 i2 = x at *
            obtain ⟨xv, xf, xt⟩ := x
            simp only at z1 z2 hx1 hx2 hx3 hb8 hms
            subst hx1
            have HMS := Lib.hid hms
            have e1 := own_hsrc HO2.out ⟨g2, 0, none⟩ rfl (i2 * 2) _ z1
            have e2 := own_hsrc HO2.out ⟨g2, 0, none⟩ rfl (i2 * 2 + 1) _ z2
            rw [Go.WideShapes.add_plain, Nat.zero_add] at e1 e2
            have hpx : P * xt ≤ 97 * 8 := Nat.mul_le_mul hP hb8.2
            have hpt : (P : Int) * (xt : Int) = ((P * xt : Nat) : Int) := by simp
            obtain ⟨xl, hxl⟩ : ∃ xl, xl = xf.length := ⟨_, rfl⟩
            rw [← hxl] at e1
            have HXL := Lib.hid hxl
            have HX2 := Lib.hid hx2
            have hba := ((Below.refl wt.heap.size wt).alloc (Nat.le_refl _) (.cells #[.slice Ax xl cx, .int .i64 (xt : Int)] 36)).alloc (by simp) (.cells #[.slice Ax xl cx, .int .i64 ((P * xt : Nat) : Int)] 36)
            have hsrc := sh_one (wt.alloc (.cells #[.slice Ax xl cx, .int .i64 (xt : Int)] 36)) (.slice Ax xl cx) ((P * xt : Nat) : Int)
            rw [World.size_alloc] at hsrc
            have HBA := Lib.hid hba
            have HSRC := Lib.hid hsrc
            generalize hpq : P * xt = pq at *
            have HPQ := Lib.hid hpq
            have hwt := hbt.size
            clear z1 z2 hms hxl hx2 hba hsrc hpq
            go_wp2_with (at_builtin; go_loud (refine wpList_append_src rfl (.tmp 101) (.tmp 109) 37 rfl w.heap.size 36 i3 (.agg #[.slice none 0 0, .int .i64 0]) 2 32 Try.underlying37 hi3 hv0 hv1 hv2 rfl (by omega) (.slice A5 n5 c5) n5 (eC (E ++ mulE P E2 i2)) rfl (own_below HEX.out HBA.out) (some ⟨wt.heap.size + 1, 0, none⟩) 1 1 [.slice Ax xl cx, .int .i64 (pq : Int)] rfl rfl (fun ad had j u hj => by injection had with had; subst had; exact HSRC.out j u hj) (by intro h; cases h) (by intro u hu; simp at hu; rcases hu with rfl | rfl <;> rfl) (by simp only [maxLen]; omega) (by omega) (by simp; omega) ?_; intro v8 w8 o8 g8 ha; obtain ⟨A8, c8, rfl, _⟩ := own_slice' o8))
            have HEN : Hid (E ++ mulE P E2 (i2 + 1) = (E ++ mulE P E2 i2) ++ [(.slice Ax xl cx, xf, pq)]) := by
              unfold Hid
              rw [HMS.out, HXL.out, ← HPQ.out, List.append_assoc]
            have HEX8 : Hid (w8.ownsRow w.heap.size 36 2 (.slice A8 (n5 + 1) c8) (n5 + 1) (eC (E ++ mulE P E2 (i2 + 1)))) := by
              unfold Hid
              rw [HEN.out, eC_snoc]
              exact o8
            have HVX8 : Hid (EVB w8 w.heap.size (E ++ mulE P E2 (i2 + 1))) := by
              unfold Hid
              rw [HEN.out]
              exact EVB.push (x := (.slice Ax xl cx, xf, pq)) (HVX.out.call HBA.out) (own_below HEX.out HBA.out) (by show Value.slice Ax xl cx = _; rw [HXL.out]) (HX2.out.call HBA.out) hx3 g8
            have hb88 := (bel_call hbt HBA.out).grown g8 (by simp; omega) (fun g' hg' => (HEX.out.lt g' hg').1)
            have HO28 : Hid (w8.ownsRow 0 36 2 (.slice (some ⟨g2, 0, none⟩) n2 c2) n2 (eC E2)) := own_keep (own_below HO2.out HBA.out) g8 (.inl (fun e => HNB5.out e.symm))
            have HNB8 : Hid ((Value.slice A8 (n5 + 1) c8).ownBlock ≠ some g2) := fun e => by
              rcases ha with h3 | h3
              · rw [h3] at e; exact HNB5.out e
              · rw [h3] at e
                injection e with e
                have h4 := (HO2.out.lt g2 rfl).2
                have h5 := HBA.out.size
                omega
            have HV28 : Hid (EVB w8 w.heap.size E2) := fun y hy => by
              obtain ⟨A9, c9, q1, q2, q3⟩ := HV2.out y hy
              exact ⟨A9, c9, q1, own_keep_own (q2.call HBA.out) (own_below HEX.out HBA.out) g8 (by decide), q3⟩
            have HN58 : Hid (n5 + 1 = nE + (i2 + 1)) := by unfold Hid; rw [HN5.out]; omega
            clear g8 ha o8
            go_roundw
            case rel => exact ⟨i2 + 1, n5 + 1, c8, A8, by omega, by go_num, HN58.out, rfl, HEX8, HVX8, HO28, HV28, HNB8, hb88⟩
            case measure => simp [intOf]; omega
          · obtain rfl : n2 = i2 := by omega
            have HALL : Hid (ALLF P (FX.toP P fm) ((E ++ mulE P E2 n2).map (·.2))) := by
              unfold Hid
              rw [List.map_append, HN2.out, mulE_all]
              exact HAL2.out
            have HNE' : Hid (n5 = (E ++ mulE P E2 n2).length) := by
              unfold Hid
              rw [List.length_append, ← HNE.out, HN5.out]
              unfold mulE
              rw [List.length_map, List.length_take, ← HN2.out, Nat.min_self]
            clear HNE HEO HEV hbz
            have HNE := HNE'
            have HEO := HEX
            have HEV := HVX
            have hbz := hbt
            obtain ⟨wz, rfl⟩ : ∃ wz0 : World, wz0 = wt := ⟨_, rfl⟩
            generalize E ++ mulE P E2 n2 = EE at *
            have hlen8 : n5 ≤ 8 := by have := allf_len P hp HDGM.out HALL.out; rw [List.length_map] at this; have := HNE.out; have := HNM.out; omega
            have hpos8 : 0 < n5 := by have := allf_ne P hp (by have := HNM.out; omega) HDGM.out HALL.out; rw [List.length_map] at this; have := HNE.out; omega
            obtain ⟨gE, hgE, _, _, _⟩ := own_src HEO.out hpos8
            subst hgE
            have hkn8 : KN' EE := by
              have := HALL.out.2
              rw [List.map_map] at this
              exact this
            have hsrt := c_sortF gE n5 c5 w.heap.size EE wz HNE.out hpos8 (by omega) hkn8 HEV.out.ev HEO.out
            have HHK := Lib.hid hpos8
            clear hkn8
            go_wp2_with (go_at_call 54; refine hsrt.mono ?_; clear hsrt; rintro e w9 ⟨rfl, E9, hE1, hE2, ho9, hg9⟩)
            go_ret
            exact fbr_of P hp HF.out (by rw [← HNF.out]; exact hn2) (by rw [← HNF.out]; exact hn9) HMN.out HALL.out hE1 hE2 HNE.out ho9 (HEV.out.grown HEO.out hg9) (hbz.grown hg9 hbz.size (fun g' hg' => by
              have h := HEO.out.lt g' (by rw [← hg']; rfl)
              exact h.1))
end Go.Proofs.Ytifaccppbhbfhaa
