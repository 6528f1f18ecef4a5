/- Contract: the reference's list of all factors; the walk. -/
import Derived.Test.YtifaccppbhbfhaaA370
namespace Go.Proofs.Ytifaccppbhbfhaa
set_option linter.unusedVariables false
set_option linter.unusedSimpArgs false
open Go.RowKit

theorem spq_ne (P : Nat) [NeZero P] (hp : FX.Prm P) {f : List Int} {L : List (List Int)} (hc : FX.Can P f) (h2 : 2 ≤ f.length) (h : SPQ P f L) : 0 < L.length := by
  have hF := FX.fin_fp (p := P) hp
  obtain ⟨g, hg, hd⟩ := FX.irr_ex _ _ (by omega) (hc.dg P (by omega))
  obtain ⟨l, hl, hi⟩ := FX.irr_list P hp hg
  exact List.length_pos_of_mem ((h.1 l).2 ⟨hl, (hi _).1 hd⟩)
theorem toP_mon1 (P : Nat) [NeZero P] {f : List Int} (h1 : f.length = 1) (hm : gt f (f.length - 1) = 1) : FX.toP P f = 1 := by
  rw [h1] at hm
  rw [← FX.toP_one]
  refine FX.toP_ext P fun k => ?_
  cases k with
  | zero => show gt f 0 % _ = 1 % _; rw [show gt f 0 = 1 from hm]
  | succ k => rw [gt_big (by omega)]; simp [gt]
set_option maxRecDepth 20000 in
set_option maxHeartbeats 8000000 in
theorem s_factor (P : Nat) [NeZero P] (hP : P ≤ 97) (hp : FX.Prm P) : ∀ (N : Nat) (A : Option Addr) (c : Nat) (f : List Int) (times g0 c0 : Nat) (L : List (List Int × Nat)) (w : World), f.length ≤ N → FX.Can P f → 0 < f.length → f.length ≤ 9 → gt f (f.length - 1) = 1 → 1 ≤ times → times ≤ 8 → times * (f.length - 1) ≤ 8 → OA w A c f → FLW w g0 c0 L → Ord L → FN P (FX.toP P f) L → L.length + f.length ≤ 9 → (∀ x ∈ L, x.1.length ≤ 9 ∧ x.2 ≤ 8) →
    Calls Try.prog 46 #[.int .i64 (P : Int), .slice A f.length c, .int .i64 (times : Int), .slice (some ⟨g0, 0, none⟩) L.length c0] w (FCR P times f L w) := by
  intro N
  induction N with
  | zero => intro A c f times g0 c0 L w h0 _ h1; omega
  | succ N ih =>
  intro A c f times g0 c0 L w hfN hf h0 hl hm ht1 ht8 htf hs hL ho hfn hLf hLb
  have hp2 : 2 ≤ P := hp.1
  have h1 : 0 < P := by omega
  have hFp := FX.fin_fp (p := P) hp
  obtain ⟨i0, hi, hz0, hz1, hz2⟩ := info_parts infoI64
  by_cases hone : f.length = 1
  · have hfq : FQ P times (FX.toP P f) L L := by rw [toP_mon1 P hone hm]; exact fq_one P hp times L
    have hL8 : L.length ≤ 8 := by omega
    rw [hone]
    have HFQ := Lib.hid hfq
    have HLW := Lib.hid hL
    have HOR := Lib.hid ho
    have HLB := Lib.hid hLb
    clear hfq hL ho hfn hLf hLb hs hf hm hone htf ih hfN h0 hl
    obtain ⟨nl, hnl⟩ : ∃ nl, nl = L.length := ⟨_, rfl⟩
    rw [← hnl]
    have HNL := Lib.hid hnl
    have HL8 := Lib.hid hL8
    clear hnl hL8
    go_enter Try.func46, Try.ntmps46
    go_wp2_with (fail)
    go_ret
    exact ⟨L, g0, c0, HFQ.out, HOR.out, HL8.out, HLB.out, by rw [HNL.out]; rfl, HLW.out, Below.refl _ _⟩
  · have h2 : 2 ≤ f.length := by omega
    obtain ⟨nf, hnf⟩ : ∃ nf, nf = f.length := ⟨_, rfl⟩
    have hdv := s_deriv P hP A nf c f w hnf (by omega) hf hs.is
    have hcom := fun A A' c c' f g W a b x y z t => s_common P hP hp A A' c c' f g W a b x y z t
    have hdiv := fun A A' n c n' c' f g W a1 a2 a3 a4 a5 a6 a7 a8 a9 => s_divide P hP hp A A' n c n' c' f g W a1 a2 a3 a4 a5 a6 a7 a8 a9
    have HF := Lib.hid hf
    have HM := Lib.hid hm
    have HIH := Lib.hid ih
    have HFN := Lib.hid hfN
    have HS := Lib.hid hs
    have HLW := Lib.hid hL
    have HOR := Lib.hid ho
    have HFNL := Lib.hid hfn
    have HLF := Lib.hid hLf
    have HLB := Lib.hid hLb
    have HTF := Lib.hid htf
    have hnf2 : 2 ≤ nf := by omega
    have hnf9 : nf ≤ 9 := by omega
    rw [← hnf]
    obtain ⟨nl, hnl⟩ : ∃ nl, nl = L.length := ⟨_, rfl⟩
    rw [← hnl]
    have HNL := Lib.hid hnl
    have HNF := Lib.hid hnf
    clear hf hm ih hfN hs hL ho hfn hLf hLb htf hone h0 hl h2 hnf hnl
    go_enter Try.func46, Try.ntmps46
    go_wp2_with (fail)
    refine hdv.mono ?_
    clear hdv
    rintro e w1 ⟨d, hdd, Ad, cd, rfl, hod, hb1⟩
    obtain ⟨nd, hnd⟩ : ∃ nd, nd = d.length := ⟨_, rfl⟩
    rw [← hnd] at hod ⊢
    have HND := Lib.hid hnd
    have HDD := Lib.hid hdd
    clear hnd hdd
    by_cases hd0 : nd = 0
    · subst hd0
      have hde : d = [] := List.eq_nil_of_length_eq_zero HND.out.symm
      have HD0 : Hid ((FX.toP P f).D = 0) := by unfold Hid; rw [← HDD.out.2.1, hde]; exact FX.Pol.ext fun k => by rw [FX.toP_c, FX.Pol.zero_c]; simp [gt, FX.ci_0]
      have hb2 := hb1.alloc hb1.size (.cells #[] 2)
      have hnil : (w1.alloc (.cells #[] 2)).ownsRow w.heap.size 2 1 (.slice (some ⟨w1.heap.size, 0, none⟩) 0 0) 0 (ints (rtl P f 0)) := World.ownsRow_lit (base := w.heap.size) (e := 2) (size := 1) w1 #[] 0 hb1.size (by simp [maxLen]) rfl
      have HO0 := Lib.hid hnil
      clear hde hnil hod
      go_wp2_with (fail)
      go_loopw [10, 11] (fun u10 u11 wr => ∃ (k q c4 : Nat) (A4 : Option Addr), k ≤ 200 ∧ q ≤ nf + 97 ∧ Hid (q = k * P ∧ (0 < k → (k - 1) * P < nf) ∧ k ≤ nf) ∧ u11 = .int .i64 (q : Int) ∧ u10 = .slice A4 k c4 ∧ Hid (wr.ownsRow w.heap.size 2 1 (.slice A4 k c4) k (ints (rtl P f k))) ∧ Below w.heap.size w wr) (fun _ u11 _ => nf + 200 - (intOf u11).toNat)
      case atStart => exact ⟨0, 0, 0, _, by omega, by omega, ⟨by omega, fun h => by omega, by omega⟩, rfl, rfl, HO0, hb2⟩
      case round =>
      clear HO0 hb2
      obtain ⟨wo, rfl⟩ : ∃ wo : World, wo = wr := ⟨_, rfl⟩
      obtain ⟨k, q, c4, A4, hk, hq, HK, rfl, rfl, HO, hbo⟩ := hrel
      by_cases hlt : q < nf
      · obtain ⟨bf, off, rfl, hbf, hcell⟩ := HS.out.is.at (k := q) (by rw [← HNF.out]; exact hlt)
        have e1 := (hbo.cell (p := ⟨bf, off + q, none⟩) hbf).trans (hcell q (by rw [← HNF.out]; exact hlt))
        have hsn := rtl_succ P f k
        rw [← HK.out.1] at hsn
        have HSN := Lib.hid hsn
        have HK2 : Hid (q + P = (k + 1) * P ∧ (0 < k + 1 → (k + 1 - 1) * P < nf) ∧ k + 1 ≤ nf) := ⟨by rw [Nat.succ_mul, HK.out.1], fun _ => by rw [Nat.add_sub_cancel, ← HK.out.1]; exact hlt, by
          have h3 := HK.out.1
          have h4 : k * 1 ≤ k * P := Nat.mul_le_mul_left _ h1
          omega⟩
        generalize gt f q = x at *
        clear hcell hsn
        go_wp2_with (at_builtin; go_loud (refine wpList_append_own _ rfl (.tmp 37) (.tmp 42) 22 rfl w.heap.size 2 i0 (.int .i64 0) 1 8 Try.underlying22 hi hz0 hz1 hz2 rfl (by omega) (.slice A4 k c4) k (ints (rtl P f k)) rfl (World.ownsRow.alloc HO.out _) ⟨wo.heap.size, 0, none⟩ 1 1 [.int .i64 x] rfl rfl (num_src1 _ _) (by intro u hu; simp at hu; subst hu; rfl) (by simp only [maxLen]; omega) (by omega) (by have h1 := hbo.size; simp; omega) ?_; intro v7 w7 o7 g9 _; have hb7 := (hbo.alloc hbo.size _).grown g9 (by have h1 := hbo.size; simp; omega) (fun g' hg' => by have h1 := ((HO.out).lt g' hg').1; omega); obtain ⟨A7, c9, rfl, _⟩ := own_slice' o7))
        have o8 := o7
        rw [← ints_sn1, ← HSN.out] at o8
        have HO8 := Lib.hid o8
        have hk8 : k + 1 ≤ 200 := by have := HK2.out.2.2; omega
        clear o7 o8
        go_roundw
        case rel => exact ⟨k + 1, q + P, c9, A7, hk8, by omega, HK2, by go_num, rfl, HO8, hb7⟩
        case measure => simp [intOf]; omega
      · have hk0 : 0 < k := Nat.pos_of_ne_zero fun e => by
          have := HK.out.1
          rw [e] at this; omega
        obtain ⟨r1, r2, r3, r4, r5⟩ := root_facts P hp HF.out (by rw [← HNF.out]; exact hnf2) HM.out HD0.out (by rw [← HNF.out]; exact HK.out.2.1 hk0) (by rw [← HNF.out, ← HK.out.1]; omega) hk0
        have hkn : k < nf := by
          have h3 : 2 * (k - 1) ≤ P * (k - 1) := Nat.mul_le_mul_right _ hp2
          have := HNF.out
          omega
        have hPt : P * times * (k - 1) ≤ 8 := by
          have h3 := HTF.out
          rw [← r4] at h3
          rw [Nat.mul_comm P times, Nat.mul_assoc]; exact h3
        have hPt8 : P * times ≤ 8 := Nat.le_trans (Nat.le_mul_of_pos_right _ (by omega)) hPt
        have hPt1 : 1 ≤ P * times := Nat.mul_pos h1 (by omega)
        have hdr : FX.Dv (FX.toP P (rtl P f k)) (FX.toP P f) := by rw [r3]; exact FX.pow_dv _ (by omega)
        have hcall := HIH.out A4 c4 (rtl P f k) (P * times) g0 c0 L wo (by rw [rtl_len]; have := HFN.out; have := HNF.out; omega) r1 (by rw [rtl_len]; omega) (by rw [rtl_len]; omega) r2 hPt1 hPt8 (by rw [rtl_len]; exact hPt) (OA.of HO.out (rtl_len P f k).symm) (HLW.out.call hbo) HOR.out (fn_dv P HFNL.out hdr) (by rw [rtl_len]; have := HLF.out; have := HNF.out; omega) HLB.out
        have HFIN : Hid (∀ L', FQ P (P * times) (FX.toP P (rtl P f k)) L L' → FQ P times (FX.toP P f) L L') := fun L' h => by
          rw [r3]
          exact fq_pow P hp (by
            intro e
            have hne := can_ne P hp HF.out (by rw [← HNF.out]; exact hnf2)
            rw [r3, e] at hne
            exact hne (FX.zero_pow' (by omega))) (by omega) h
        rw [rtl_len, ← HNL.out] at hcall
        have hpt : (P : Int) * (times : Int) = ((P * times : Nat) : Int) := by simp
        generalize hpt2 : P * times = pt at *
        clear r1 r2 r3 r4 hdr hPt hpt2
        go_wp2_with (go_at_call 46; refine hcall.mono ?_; clear hcall; rintro e w3 ⟨L', g', c', hq', ho', hl', hb', rfl, hw', hbw⟩)
        go_ret
        exact ⟨L', g', c', HFIN.out L' hq', ho', hl', hb', rfl, hw', bel_call hbo hbw⟩
    · have hdne : d ≠ [] := fun e => by rw [e] at HND; exact hd0 HND.out
      have hnd9 : nd ≤ 9 := by have := HDD.out.2.2; have := HND.out; have := HNF.out; omega
      have hsf := HS.out.call hb1
      have hod1 : OA w1 Ad cd d := by unfold OA; rw [← HND.out]; exact own_mono hod (Nat.zero_le _)
      have hc1 := hcom A Ad c cd f d w1 (by have := HNF.out; omega) (by have := HND.out; omega) HF.out HDD.out.1 hsf hod1
      rw [← HNF.out, ← HND.out] at hc1
      have HPART : Hid (∀ g q r, CM P f d g → DVQ P f g q r → 0 < g.length ∧ gt q (q.length - 1) = 1 ∧ 2 ≤ q.length ∧ q.length ≤ f.length ∧ FX.SqF (FX.toP P q) ∧ FX.toP P f = FX.toP P q * FX.toP P g) := fun g q r a b => part_facts P hp HF.out (by rw [← HNF.out]; exact hnf2) HM.out HDD.out hdne a b
      have hfo : w1.ownsRow 0 2 1 (.slice A nf c) nf (ints f) := by have h := hsf; unfold OA at h; rw [← HNF.out] at h; exact h
      have hdz : ((nd : Int) == 0) = false := by rw [beq_eq_false_iff_ne]; omega
      have hsp := fun A c f W a1 a2 a3 a4 a5 a6 => s_split P hP hp f.length A c f W (Nat.le_refl _) a1 a2 a3 a4 a5 a6
      clear hcom hdne hod hod1 hsf
      go_wp2_with (first
        | (go_at_call 69; refine hc1.mono ?_; clear hc1; rintro e w2 ⟨gg, hgg, Ag, cg, rfl, hog, hb2⟩; have hgl : gg.length ≤ 100 := (by
            have h3 := hgg.2.1.1.dg_le (hgg.1.dg P (by
              rcases Nat.eq_zero_or_pos gg.length with h | h
              · exfalso
                exact gcd_ne P hgg.2.1 (can_ne P hp HF.out (by rw [← HNF.out]; exact hnf2)) ((hgg.1.nil_iff P).2 (List.eq_nil_of_length_eq_zero h))
              · exact h)) (HF.out.dg P (by rw [← HNF.out]; omega))
            have := HNF.out
            omega); have hg0 : 0 < gg.length := (by
              rcases Nat.eq_zero_or_pos gg.length with h | h
              · exfalso
                exact gcd_ne P hgg.2.1 (can_ne P hp HF.out (by rw [← HNF.out]; exact hnf2)) ((hgg.1.nil_iff P).2 (List.eq_nil_of_length_eq_zero h))
              · exact h); have hd2 := hdiv A Ag nf c gg.length cg f gg w2 HNF.out rfl hg0 (by omega) hgl HF.out hgg.1 (own_below hfo hb2) (own_isn hog rfl))
        | (go_at_call 68; refine hd2.mono ?_; clear hd2; rintro e w3 ⟨qq, rr, A3, A4, c3, c4, hqq, rfl, ho3, ho4, hb3⟩; have hpf := Lib.hid (HPART.out gg qq rr hgg hqq); have hqc := Lib.hid hqq.1; have hs4 := hsp A3 c3 qq w3 hpf.out.2.2.1 (by have := hpf.out.2.2.2.1; have := HNF.out; omega) hqq.1 hpf.out.2.1 hpf.out.2.2.2.2.1 (OA.of ho3 rfl); clear hqq)
        | (go_at_call 70; refine hs4.mono ?_; clear hs4; rintro e w4 ⟨Q, Aq, cq, hQ, rfl, hoQ, hb4⟩))
      have hw4 := bel_call (bel_call (bel_call hb1 hb2) hb3) hb4
      have HQL := Lib.hid (hQ.len P hp (hqc.out.dg P (by have := hpf.out.2.2.1; omega)))
      have HQN := Lib.hid (spq_ne P hp hqc.out hpf.out.2.2.1 hQ)
      have HQM : Hid (∀ g ∈ Q, FX.MI P g ∧ FX.Dv (FX.toP P g) (FX.toP P f)) := fun g hg => ⟨((hQ.1 g).1 hg).1, ((hQ.1 g).1 hg).2.trans ⟨FX.toP P gg, hpf.out.2.2.2.2.2⟩⟩
      have HQD := Lib.hid hQ.2
      have HOQ := Lib.hid (hoQ.mono (Nat.zero_le _))
      have HOF := Lib.hid (HS.out.call hw4)
      have HLW4 := Lib.hid (HLW.out.call hw4)
      have HPS := Lib.hid (PSI.start P hp (times := times) (fr := f) (Q := Q) (L := L) HF.out (by rw [← HNF.out]; omega) HM.out HOR.out)
      have HB0 : Hid (L.length + f.length ≤ 9 ∧ f.length ≤ f.length ∧ (0 < 0 → f.length < f.length) ∧ ∀ x ∈ L, x.1.length ≤ 9 ∧ x.2 ≤ 8) := ⟨HLF.out, Nat.le_refl _, fun h => absurd h (by omega), HLB.out⟩
      obtain ⟨nQ, hnQ⟩ : ∃ nQ, nQ = Q.length := ⟨_, rfl⟩
      have hq8 : nQ ≤ 9 := by have := HQL.out; have := hpf.out.2.2.2.1; have := HNF.out; omega
      rw [← hnQ]
      have HNQ := Lib.hid hnQ
      clear hnQ hQ hoQ hb2 hb3 hb4 hog ho3 ho4 hgg hgl hg0 hpf hqc hfo hsp HPART
      go_wp2_with (fail)
      go_loopw [1, 3, 15] (fun u1 u3 u15 wr => ∃ (i nfr ml cf gl' cl : Nat) (Af : Option Addr) (fr : List Int) (Li : List (List Int × Nat)), i ≤ nQ ∧ u15 = .int .i64 (i : Int) ∧ Hid (nfr = fr.length) ∧ u1 = .slice Af nfr cf ∧ Hid (ml = Li.length) ∧ u3 = .slice (some ⟨gl', 0, none⟩) ml cl ∧ Hid (PSI P times (FX.toP P f) Q L i fr Li) ∧ Hid (OA wr Af cf fr) ∧ Hid (FLW wr gl' cl Li) ∧ Hid (OLL wr 0 Aq cq Q) ∧ Hid (Li.length + fr.length ≤ 9 ∧ fr.length ≤ f.length ∧ (0 < i → fr.length < f.length) ∧ ∀ x ∈ Li, x.1.length ≤ 9 ∧ x.2 ≤ 8) ∧ Below w.heap.size w wr) (fun _ _ u15 _ => nQ - (intOf u15).toNat)
      case atStart => exact ⟨0, nf, nl, c, g0, c0, A, f, L, Nat.zero_le _, rfl, HNF, rfl, HNL, rfl, HPS, HOF, HLW4, HOQ, HB0, hw4⟩
      case round =>
      clear HPS HOF HLW4 HOQ HB0 hw4
      obtain ⟨wo, rfl⟩ : ∃ wo : World, wo = wr := ⟨_, rfl⟩
      obtain ⟨i, nfr, ml, cf, gl', cl, Af, fr, Li, hiQ, rfl, HNFR, rfl, HML, rfl, HPS, HOF, HLW, HOQ, HB0, hb⟩ := hrel
      by_cases hil : i < nQ
      · have HPC := Lib.hid (PSC.start P (q := gl Q i) HPS.out.1 HPS.out.2.1 HPS.out.2.2.1)
        have hiq : i < Q.length := by rw [← HNQ.out]; exact hil
        have HMI := Lib.hid (HQM.out _ (gl_mem hiq))
        have hbo := Below.refl wo.heap.size wo
        have hn9 : nfr ≤ 9 := by have := HB0.out.2.1; have := HNFR.out; have := HNF.out; omega
        go_wp2_with (fail)
        go_loopw [1, 16] (fun u1 u16 wr => ∃ (k n2 c2 : Nat) (A2 : Option Addr) (f2 : List Int), u16 = .int .i64 (k : Int) ∧ Hid (n2 = f2.length) ∧ u1 = .slice A2 n2 c2 ∧ k + n2 ≤ nfr ∧ Hid (PSC P fr (gl Q i) k f2) ∧ Hid (OA wr A2 c2 f2) ∧ Below wo.heap.size wo wr) (fun u1 _ _ => lenV u1)
        case atStart => exact ⟨0, nfr, cf, Af, fr, rfl, HNFR, rfl, by omega, HPC, HOF, hbo⟩
        case round =>
        clear HPC hbo
        obtain ⟨wt, rfl⟩ : ∃ wt : World, wt = wr := ⟨_, rfl⟩
        obtain ⟨k, n2, c2, A2, f2, rfl, HN2, rfl, hkn, HPC, HO2, hb2⟩ := hrel
        obtain ⟨gq, A5, c5, rfl, hgq, e1, hoq⟩ := (HOQ.out.call hb2).at hiq
        have hq2 := mi_two P hp HMI.out.1
        have hq9 : (gl Q i).length ≤ 9 := by
          have := HMI.out.2.dg_le (HMI.out.1.1.dg P (by omega)) (HF.out.dg P (by rw [← HNF.out]; omega))
          have := HNF.out
          omega
        have hO2' : wt.ownsRow 0 2 1 (.slice A2 n2 c2) n2 (ints f2) := by have h := HO2.out; unfold OA at h; rw [← HN2.out] at h; exact h
        have hdq := hdiv A2 A5 n2 c2 (gl Q i).length c5 f2 (gl Q i) wt HN2.out rfl (by omega) (by omega) (by omega) HPC.out.1 HMI.out.1.1 hO2' hoq.is
        obtain ⟨nq, hnq⟩ : ∃ nq, nq = (gl Q i).length := ⟨_, rfl⟩
        rw [← hnq] at e1 hdq hq2 hq9
        have HNQ5 := Lib.hid hnq
        have HO5 := Lib.hid hoq
        clear hnq hO2' hoq
        go_wp2_with (fail)
        refine hdq.mono ?_
        clear hdq
        rintro e w5 ⟨q5, r5, A6, A7, c6, c7, hdvq, rfl, ho6, ho7, hb5⟩
        have hb25 := bel_call hb2 hb5
        have HEX := Lib.hid (dvq_exact P hp hdvq HMI.out.1.1 (by rw [← HNQ5.out]; omega))
        obtain ⟨n6, hn6⟩ : ∃ n6, n6 = q5.length := ⟨_, rfl⟩
        obtain ⟨n7, hn7⟩ : ∃ n7, n7 = r5.length := ⟨_, rfl⟩
        have HO6 := Lib.hid (OA.of ho6 rfl)
        rw [← hn6, ← hn7]
        have HN6 := Lib.hid hn6
        have HN7 := Lib.hid hn7
        clear hn6 hn7 ho6 ho7
        by_cases h7 : n7 = 0
        · subst h7
          have hr0 : r5 = [] := List.eq_nil_of_length_eq_zero HN7.out.symm
          obtain ⟨hp1, hp2x⟩ := HPC.out.step P hp HMI.out.1 hdvq hr0
          have HPC2 := Lib.hid hp1
          have hn62 : n6 < n2 := by have := HN6.out; have := HN2.out; omega
          clear hr0 hp1 hp2x hdvq e1
          go_wp2_with (fail)
          go_roundw
          case rel => exact ⟨k + 1, n6, c6, A6, q5, by go_num, HN6, rfl, by omega, HPC2, HO6, hb25⟩
          case measure => simp [lenV]; omega
        · have hnd : ¬ FX.Dv (FX.toP P (gl Q i)) (FX.toP P f2) := fun h => h7 (by rw [HN7.out, HEX.out.2 h]; rfl)
          have HND2 := Lib.hid hnd
          have h7p : (0 : Int) < (n7 : Int) := by omega
          obtain ⟨vs, hvo, hvr⟩ := HLW.out.call hb25
          have hoq5 := HO5.out.call hb5
          have hoq5' : w5.ownsRow 0 2 1 (.slice A5 nq c5) nq (ints (gl Q i)) := by have h := hoq5; unfold OA at h; rw [← HNQ5.out] at h; exact h
          obtain ⟨gq', A5', c5', hge, hgq', e2, _⟩ := (HOQ.out.call hb25).at hiq
          injection hge with hge; injection hge with hge
          subst hge
          have e2' := (hb5.cell (p := ⟨gq, i, none⟩) hgq).trans e1
          have hk8 : k * times ≤ 8 := by
            have h3 := HTF.out
            have h4 : k ≤ f.length - 1 := by
              have := HB0.out.2.1
              have := HPC.out.2.1
              have := HN2.out
              have := HNFR.out
              omega
            exact Nat.le_trans (by rw [Nat.mul_comm times]; exact Nat.mul_le_mul_right _ h4) h3
          have hml8 : ml ≤ 9 := by have := HB0.out.1; have := HML.out; omega
          rw [← HML.out] at hvo
          have hput := s_put gl' ml cl nq c5 A5 vs (tms Li) (Li.map (·.1)) (gl Q i) ((k * times : Nat) : Int) w5 (by rw [List.length_map]; exact HML.out) (by unfold tms; rw [List.length_map]; exact HML.out.symm) (by omega) HNQ5.out (by omega) (fun j hj => by
            have hjl : j < Li.length := by rw [← HML.out]; exact hj
            rw [gl_fst hjl]
            have := (HB0.out.2.2.2 _ (List.getElem_mem hjl)).1
            omega) hvo hvr hoq5'
          have hkt : (k : Int) * (times : Int) = ((k * times : Nat) : Int) := by simp
          have HVR := Lib.hid hvr
          have HOQ5 := Lib.hid hoq5
          have hkt8 : k * times ≤ 8 := hk8
          have HKT8 := Lib.hid hkt8
          generalize hktg : k * times = kt at *
          have HKT := Lib.hid hktg
          clear hnd e1 e2 hdvq hvo hvr hoq5 hoq5' h7 hk8 hktg
          go_wp2_with (go_at_call 71; refine hput.mono ?_; clear hput; rintro e w8 ⟨a, g9, c9, ha, ha1, ha2, rfl, how, hb8⟩)
          have hst := HPS.out.step P hp HQD.out HQM.out hiq HFNL.out HPC.out HND2.out (a := a) (by rw [← HML.out]; exact ha) ha1 (by rw [← HML.out]; exact ha2)
          rw [HKT.out] at hst
          have HPS2 := Lib.hid hst.1
          have HK1 := hst.2
          have HLW2 : Hid (FLW w8 g9 c9 (putL Li a (gl Q i, kt))) := ⟨_, by
            rw [putL_len _ _ _ (by rw [← HML.out]; exact ha), ← HML.out, putL_tms]
            exact own_mono how (Nat.zero_le _), by
            rw [putL_fst]
            have := (HVR.out.call hb8).ins (HOQ5.out.call hb8) (a := a) (by rw [List.length_map, ← HML.out]; exact ha)
            rw [← HNQ5.out] at this
            exact this⟩
          have HML2 : Hid (ml + 1 = (putL Li a (gl Q i, kt)).length) := by unfold Hid; rw [putL_len _ _ _ (by rw [← HML.out]; exact ha), ← HML.out]
          have HB2 : Hid ((putL Li a (gl Q i, kt)).length + f2.length ≤ 9 ∧ f2.length ≤ f.length ∧ (0 < i + 1 → f2.length < f.length) ∧ ∀ x ∈ putL Li a (gl Q i, kt), x.1.length ≤ 9 ∧ x.2 ≤ 8) := by
            have h3 := HB0.out.1
            have h4 := HB0.out.2.1
            have h5 := HN2.out
            have h6 := HNFR.out
            have h8 := HML.out
            refine ⟨by rw [← HML2.out]; omega, by omega, fun _ => by omega, fun x hx => ?_⟩
            rcases mem_put.1 hx with h9 | h9
            · exact HB0.out.2.2.2 x h9
            · rw [h9]; exact ⟨by show (gl Q i).length ≤ 9; rw [← HNQ5.out]; exact hq9, HKT8.out⟩
          have hb58 := bel_call hb25 hb8
          have HO28 := Lib.hid (HO2.out.call (bel_call hb5 hb8))
          have HOQ8 := Lib.hid (HOQ.out.call hb58)
          have hbb := bel_call hb hb58
          clear hst how hb8 hb58 hb25 hb5 hb2 ha1 ha2 HK1
          go_roundw
          case rel => exact ⟨i + 1, n2, ml + 1, c2, g9, c9, A2, f2, _, by omega, by go_num, HN2, rfl, HML2, rfl, HPS2, HO28, HLW2, HOQ8, HB2, hbb⟩
          case measure => simp [intOf]; omega
      · obtain rfl : i = nQ := by omega
        have hi0 : 0 < i := by have := HQN.out; have := HNQ.out; omega
        have hps := HPS.out
        rw [HNQ.out] at hps
        have hre := fun L' => hps.rest P hp (L' := L') HFNL.out
        have hlt2 := HB0.out.2.2.1 hi0
        have hcall := HIH.out Af cf fr times gl' cl Li wo (by have := HFN.out; omega) hps.1 hps.2.1 (by have := HNF.out; have := HB0.out.2.1; omega) hps.2.2.1 ht1 ht8 (Nat.le_trans (Nat.mul_le_mul_left _ (by have := HB0.out.2.1; omega)) HTF.out) HOF.out HLW.out hps.2.2.2.1 (hre []).1 HB0.out.1 HB0.out.2.2.2
        rw [← HNFR.out, ← HML.out] at hcall
        have HRE := Lib.hid (fun L' => (hre L').2)
        clear hps hre hlt2
        go_wp2_with (go_at_call 46; refine hcall.mono ?_; clear hcall; rintro e w3 ⟨L', g', c', hq', ho', hl', hb', rfl, hw', hbw⟩)
        go_ret
        exact ⟨L', g', c', HRE.out L' hq', ho', hl', hb', rfl, hw', bel_call hb hbw⟩
end Go.Proofs.Ytifaccppbhbfhaa
