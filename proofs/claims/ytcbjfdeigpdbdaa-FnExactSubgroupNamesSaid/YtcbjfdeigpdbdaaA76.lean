/- Contracts: impl.generate. -/
import Derived.Test.YtcbjfdeigpdbdaaA75
namespace Go.Proofs.Ytcbjfdeigpdbdaa
set_option linter.unusedVariables false
set_option linter.unusedSimpArgs false
open Go.RowKit

set_option maxRecDepth 10000 in
set_option maxHeartbeats 4000000 in
theorem i_generate (n : Nat) (A : Option Addr) (G c : Nat) (gens : List (List Int)) (w : World) (hn1 : 1 ≤ n) (hn6 : n ≤ 6) (hG : G = gens.length) (hGl : G ≤ 1048576) (hs : II w w.heap.size A gens) (hin : ∀ g ∈ gens, InR n g) :
    Calls Try.prog 123 #[.int .i64 n, .slice A G c] w (GR w.heap.size n (RK n gens) w) := by
  have hfl := fact_le hn6
  have hRG := RG_gi hin
  have hRK := RK_eq hin
  have hroot : bfs gens (fact n + 1) 0 [idL n] ((List.replicate (fact n) false).set 0 true) = ((RG n gens).1, (RG n gens).2) := rfl
  have hgi0 : GI n [idL n] ((List.replicate (fact n) false).set 0 true) := GI.start (fact_pos n)
  generalize hms : (RG n gens).1 = MS at *
  generalize hsn : (RG n gens).2 = SN at *
  generalize hF : fact n = F at *
  have HFH := Lib.hid hF
  have hmk := fun W => run_make_row' (P := Try.prog) 101 4 (.bool false) 1 Try.underlying101 infoBool rfl .i64 .i64 F (by omega) (by omega) W
  have HIN := Lib.hid (fun i (hi : i < gens.length) => hin (gl gens i) (gl_mem hi))
  have HG := Lib.hid hG
  have HRG := Lib.hid hRG
  have HRK := Lib.hid hRK
  have HROOT := Lib.hid hroot
  have HGI0 := Lib.hid hgi0
  clear hms hsn hF hin hG hRG hRK hroot hgi0
  obtain ⟨F1, F2⟩ := hfl
  obtain ⟨i0, hi, hz0, hz1, hz2⟩ := info_parts infoI64
  obtain ⟨i1, hi1, hy0, hy1, hy2⟩ := info_parts infoSl
  go_enter Try.func123, Try.ntmps123
  go_wp2_with (first
    | (go_at_call 166; refine (i_one n _ (by omega)).mono ?_; rintro e w1 ⟨v1, rfl, ho1, hb1⟩; obtain ⟨Av, cv, rfl, _⟩ := own_slice' ho1)
    | (go_at_call 120; refine (i_factorial n _ (by omega) (by omega)).mono ?_; rw [Int.toNat_natCast, HFH.out]; rintro e w2 ⟨rfl, nq, rfl⟩; obtain ⟨wx, hwx⟩ : ∃ wx, wx = (w1.alloc (Obj.cells #[.slice Av n cv] 22)).drewN nq := ⟨_, rfl⟩; have hbb : BB (wx.alloc (.cells (madeCells #[.bool false] F) 4)) wx.heap.size (List.replicate F false) := BB.new wx F; obtain ⟨hc0, hf0⟩ := hbb.cell (j := 0) (by simp; omega); rw [show (List.replicate F false).getD 0 false = false from by simp [List.getElem?_replicate]; split <;> rfl] at hc0; rw [← hwx]; have HWX := Lib.hid hwx; clear hwx))
  have hbb1 : BB (wx.alloc (.cells ((madeCells #[.bool false] F).setIfInBounds 0 (.bool true)) 4)) wx.heap.size ((List.replicate F false).set 0 true) := BB.new1 wx F (by omega)
  have hrow0 : RowsO (wx.alloc (.cells ((madeCells #[.bool false] F).setIfInBounds 0 (.bool true)) 4)) (w.heap.size + 1) [.slice Av n cv] [idL n] := by
    refine ⟨rfl, fun i hi => ?_, fun i j h1 h2 => by simp at h2; omega⟩
    simp at hi
    subst hi
    unfold OwnI
    have e1 : gl [idL n] 0 = idL n := rfl
    have e2 : gv [Value.slice Av n cv] 0 = .slice Av n cv := rfl
    rw [e1, e2, idL_len, HWX.out]
    have h := World.ownsRow.alloc (own_dr (World.ownsRow.alloc ho1 (Obj.cells #[.slice Av n cv] 22)) nq) (.cells ((madeCells #[.bool false] F).setIfInBounds 0 (.bool true)) 4)
    simpa using h
  have hown0 : (wx.alloc (.cells ((madeCells #[.bool false] F).setIfInBounds 0 (.bool true)) 4)).ownsRow (w.heap.size + 1) 22 1 (.slice (some ⟨w1.heap.size, 0, none⟩) 1 1) 1 [.slice Av n cv] := by
    rw [HWX.out]
    have h := World.ownsRow.alloc (own_dr (own_one w1 (.slice Av n cv) 22) nq) (.cells ((madeCells #[.bool false] F).setIfInBounds 0 (.bool true)) 4)
    exact own_mono h (by have := hb1.size; simpa using this)
  have hbx : BK wx w.heap.size 39 #[.int .i64 0, .slice none 0 0] := by
    rw [HWX.out]
    exact (((BK.new w 39 #[.int .i64 0, .slice none 0 0]).below hb1 (by simp)).alloc _).drewN nq
  have hb0 : Below w.heap.size w (wx.alloc (.cells ((madeCells #[.bool false] F).setIfInBounds 0 (.bool true)) 4)) := by
    rw [HWX.out]
    have hz := hb1.size
    simp at hz
    have h1 := bel_call ((Below.refl w.heap.size w).alloc (Nat.le_refl _) (.cells #[.int .i64 0, .slice none 0 0] 39)) hb1
    exact (below_drewN (h1.alloc (by omega) _) nq).alloc (by simp; omega) _
  have hbx0 := hbx.alloc (.cells ((madeCells #[.bool false] F).setIfInBounds 0 (.bool true)) 4)
  have hgs : w.heap.size + 1 ≤ wx.heap.size := by rw [HWX.out]; have := hb1.size; simp at this ⊢; omega
  generalize wx.alloc (.cells ((madeCells #[.bool false] F).setIfInBounds 0 (.bool true)) 4) = w0 at *
  generalize wx.heap.size = gs at *
  clear hbb hc0 hf0 hbx hmk ho1 hb1
  go_loopw [5, 7] (fun u5 u7 wr => ∃ (k M : Nat) (ms : List (List Int)) (sn : List Bool) (vs : List Value), 0 < M ∧ k ≤ M ∧ M ≤ F ∧ u7 = .int .i64 k ∧ wr.ownsRow (w.heap.size + 1) 22 1 u5 M vs ∧ RowsO wr (w.heap.size + 1) vs ms ∧ BB wr gs sn ∧ BK wr w.heap.size 39 #[.int .i64 0, .slice none 0 0] ∧ Below w.heap.size w wr ∧ Hid (M = ms.length ∧ GI n ms sn ∧ bfs gens (F + 1 - k) k ms sn = (MS, SN))) (fun _ u7 _ => F + 1 - (intOf u7).toNat)
  case atStart => exact ⟨0, 1, [idL n], _, _, by omega, by omega, by omega, rfl, hown0, hrow0, hbb1, hbx0, hb0, rfl, HGI0.out, HROOT.out⟩
  case round =>
    clear hbb1 hrow0 hown0 hb0 hbx0
    obtain ⟨ws, rfl⟩ : ∃ ws : World, ws = wr := ⟨_, rfl⟩
    obtain ⟨k, M, ms, sn, vs, hm0, hk, hM, rfl, hown, hrows, hbb, hbx, hb, HI⟩ := hrel
    obtain ⟨A5, c5, rfl, _⟩ := own_slice' hown
    by_cases hlt : k < M
    · have hkm : k < ms.length := by rw [← HI.out.1]; exact hlt
      have hR2 : bfs gens (F + 1 - (k + 1)) (k + 1) (stepG (gl ms k) gens ms sn).1 (stepG (gl ms k) gens ms sn).2 = (MS, SN) := by
        have h3 := HI.out.2.2
        rw [show F + 1 - k = (F + 1 - (k + 1)) + 1 by omega, bfs_go hkm] at h3
        exact h3
      have hmR : InR n (gl ms k) := HI.out.2.1.2.2.1 k hkm
      generalize hm : gl ms k = m at *
      have hST : stepG m (gens.drop 0) ms sn = stepG m gens ms sn := by rw [List.drop_zero]
      generalize hst : stepG m gens ms sn = ST at *
      have HR2 := Lib.hid hR2
      have HMR := Lib.hid hmR
      have HI2 : Hid (M = ms.length ∧ GI n ms sn ∧ gl ms k = m ∧ stepG m (gens.drop 0) ms sn = ST) := ⟨HI.out.1, HI.out.2.1, hm, hST⟩
      clear hR2 hmR hm hST hst HI hkm
      go_wp2_with (fail)
      go_loopw [5, 27] (fun u5 u27 wr => ∃ (i M : Nat) (ms : List (List Int)) (sn : List Bool) (vs : List Value), k < M ∧ M ≤ F ∧ i ≤ G ∧ u27 = .int .i64 i ∧ wr.ownsRow (w.heap.size + 1) 22 1 u5 M vs ∧ RowsO wr (w.heap.size + 1) vs ms ∧ BB wr gs sn ∧ BK wr w.heap.size 39 #[.int .i64 0, .slice none 0 0] ∧ Below w.heap.size w wr ∧ Hid (M = ms.length ∧ GI n ms sn ∧ gl ms k = m ∧ stepG m (gens.drop i) ms sn = ST)) (fun _ u27 _ => G - (intOf u27).toNat)
      case atStart => exact ⟨0, M, ms, sn, vs, hlt, hM, Nat.zero_le _, rfl, hown, hrows, hbb, hbx, hb, HI2.out⟩
      case round =>
        clear hown hrows hbb hbx hb HI2 hlt hM hm0 hk
        obtain ⟨wt, rfl⟩ : ∃ wt : World, wt = wr := ⟨_, rfl⟩
        obtain ⟨i, M, ms, sn, vs, hkM, hM, hiG, rfl, hown, hrows, hbb, hbx, hb, HI⟩ := hrel
        obtain ⟨A6, c6, rfl, _⟩ := own_slice' hown
        by_cases hil : i < G
        · have hi' : i < gens.length := by rw [← HG.out]; exact hil
          obtain ⟨hml, hgi, hgm, hst⟩ := HI.out
          have hg1 := HIN.out i hi'
          obtain ⟨b1, o1, rfl, hb1, hc1⟩ := hs.at hi'
          obtain ⟨Ag, cg, e1, hcg1, hcg2, isg⟩ := hc1 i hi'
          have e1 := (hb.cell (p := ⟨b1, o1 + i, none⟩) hb1).trans e1
          have isg := isg.below hb
          rw [hg1.1] at e1 hcg1
          have hkv : k < vs.length := by rw [hrows.1, ← hml]; exact hkM
          obtain ⟨g6, rfl, _, hg6, hc6⟩ := own_src hown (by omega)
          have hrow := hrows.2.1 k hkv
          rw [hgm] at hrow
          obtain ⟨Am, cm, hvm, _⟩ := own_slice' hrow
          have e2 := hc6 k _ (gv_at hkv)
          have hmR := HMR.out
          unfold OwnI at hrow
          rw [hvm] at e2 hrow
          rw [hmR.1] at e2 hrow
          have ism : IS wt wt.heap.size Am m := own_isn hrow hmR.1.symm
          have hbR := hg1.prod hmR
          have hseen := step_seen (m := m) (ms := ms) (sn := sn) hi'
          have hnew := step_new (m := m) (ms := ms) (sn := sn) hi'
          have hgmore := hgi.more hbR
          generalize hb' : prodL (gl gens i) m = b at *
          have hrb : rk b < sn.length := by rw [hgi.1, ← hbR.1]; exact rk_lt b
          generalize hrk : rk b = r at *
          have hrF : r < F := by have h1 := hgi.1; have h2 := HFH.out; omega
          have hbase : w.heap.size + 1 ≤ wt.heap.size := by have := hbb.lt; omega
          have hne6 : (Value.slice (some ⟨g6, 0, none⟩) M c6).ownBlock ≠ some gs := own_ne_bb hown hbb (by decide)
          have HB := Lib.hid hb'
          have HRB := Lib.hid hrk
          have HML := Lib.hid hml
          have HGM := Lib.hid hgm
          have HST := Lib.hid hst
          have HGI := Lib.hid hgi
          have HSE := Lib.hid hseen
          have HNE := Lib.hid hnew
          have HGE := Lib.hid hgmore
          have hsz := hb.size
          clear hb' hrk hml hgm hst hgi hvm hc6 hc1 HI hseen hnew hgmore
          by_cases hsee : sn.getD r false = true
          · go_wp2_with (first
              | (go_at_call 135; refine (i_prod Ag Am n cg n cm (gl gens i) m _ w.heap.size wt.heap.size hg1.1.symm hmR.1.symm (by omega) (by omega) hsz (Nat.le_refl _) isg ism hmR.2).mono ?_; rw [HB.out]; rintro e w2 ⟨v2, rfl, ho2, hb2⟩; obtain ⟨Ab, cb, rfl, hcb⟩ := own_slice' ho2; obtain ⟨e3, fz3⟩ := (hbb.below hb2).cell hrb; rw [hsee] at e3)
              | (go_at_call 168; refine (i_rank Ab n cb b _ w2.heap.size hbR.1.symm hn6 hcb (own_cap ho2).2 (by exact own_isn ho2 hbR.1.symm)).mono ?_; rw [HRB.out]; rintro e w3 ⟨rfl, q3, rfl⟩))
            go_roundw
            case rel =>
              refine ⟨i + 1, M, ms, sn, vs, hkM, hM, by omega, by go_num, own_dr (own_below hown hb2) _, (hrows.below hb2).drewN _, (hbb.below hb2).drewN _, (hbx.below hb2 (by omega)).drewN _, below_drewN (hb.trans (hb2.mono hsz)) _, HML.out, HGI.out, HGM.out, ?_⟩
              rw [← HSE.out hsee]; exact HST.out
            case measure => simp [intOf]; omega
          · have hsee : sn.getD r false = false := by simpa using hsee
            go_wp2_with (first
              | (go_at_call 135; refine (i_prod Ag Am n cg n cm (gl gens i) m _ w.heap.size wt.heap.size hg1.1.symm hmR.1.symm (by omega) (by omega) hsz (Nat.le_refl _) isg ism hmR.2).mono ?_; rw [HB.out]; rintro e w2 ⟨v2, rfl, ho2, hb2⟩; obtain ⟨Ab, cb, rfl, hcb⟩ := own_slice' ho2; obtain ⟨e3, fz3⟩ := (hbb.below hb2).cell hrb; rw [hsee] at e3)
              | (go_at_call 168; refine (i_rank Ab n cb b _ w2.heap.size hbR.1.symm hn6 hcb (own_cap ho2).2 (by exact own_isn ho2 hbR.1.symm)).mono ?_; rw [HRB.out]; rintro e w3 ⟨rfl, q3, rfl⟩)
              | (at_builtin; refine wpList_append_src rfl (.tmp 47) (.tmp 49) 29 rfl (w.heap.size + 1) 22 i1 (.slice none 0 0) 1 24 Try.underlying29 hi1 hy0 hy1 hy2 rfl (by omega) (.slice (some ⟨g6, 0, none⟩) M c6) M vs rfl (World.ownsRow.alloc (ownsRow_setCell_other (own_dr (own_below hown hb2) _) hne6 _) _) (some ⟨w2.heap.size, 0, none⟩) 1 1 [.slice Ab n cb] rfl rfl (one_src_set w2 _ _ _ _ _) (by intro h; cases h) (by intro u hu; simp at hu; subst hu; rfl) (by simp only [maxLen]; omega) (by omega) (by have := hb2.size; simp; omega) ?_; intro v5 w5 hown5 hg5 hat5))
            have hmm := HGE.out hsee
            have hmf := hmm.le
            rw [List.length_append, List.length_singleton, ← HML.out] at hmf
            have hfe := HFH.out
            have hz2 := hb2.size
            obtain ⟨hr5, hb5⟩ := gen_more (v1 := .slice Ab n cb) (b := b) hg5 (by rw [← HML.out]; exact hown) hrows hbb hbase (by rw [hbR.1]; exact ho2) (by exact below_drewN hb2 _) hrb
            have hne0 : (Value.slice (some ⟨g6, 0, none⟩) M c6).ownBlock ≠ some w.heap.size := fun h => by have := (hown.lt _ h).1; omega
            go_roundw
            case rel =>
              refine ⟨i + 1, M + 1, ms ++ [b], sn.set r true, _, by omega, by omega, by omega, by go_num, hown5, hr5, hb5, ?_, ?_, ?_, hmm, ?_, ?_⟩
              · exact BK.kept ((BK.far ((hbx.below hb2 (by omega)).drewN _) (by simp; omega) _).alloc _) hg5 (Ne.symm hne0)
              · exact Below.grown (((below_drewN (hb.trans (hb2.mono hsz)) _).setCell (by simp; omega) _).alloc (by simp; omega) _) hg5 (by simp; omega) (fun g hg => by have := (hown.lt g hg).1; omega)
              · rw [List.length_append, List.length_singleton, HML.out]
              · rw [gl_snoc_lt (by rw [← HML.out]; exact hkM)]; exact HGM.out
              · rw [← HNE.out hsee]; exact HST.out
            case measure => simp [intOf]; omega
        · obtain rfl : i = G := by omega
          go_wp2_with (fail)
          go_roundw
          case rel =>
            refine ⟨k + 1, M, ms, sn, vs, by omega, by omega, hM, by go_num, hown, hrows, hbb, hbx, hb, HI.out.1, HI.out.2.1, ?_⟩
            have h4 := HI.out.2.2.2
            rw [HG.out, step_done] at h4
            have h5 := HR2.out
            rw [← h4] at h5
            exact h5
          case measure => simp [intOf]; omega
    · obtain rfl : k = M := by omega
      have hfin : Hid (ms = MS ∧ sn = SN) := by
        obtain ⟨h1, h2, h3⟩ := HI.out
        rw [bfs_end (by omega)] at h3
        injection h3 with h4 h5
        exact ⟨h4, h5⟩
      obtain ⟨h4, h5⟩ := hfin.out
      have hml : k = MS.length := by rw [← h4]; exact HI.out.1
      have hii : II ws ws.heap.size A5 MS := by rw [← h4]; exact OwnII.ii hown hrows
      have hrw : ∀ i, i < k → (gl MS i).length ≤ 6 := fun i hi => by
        have h6 := (HI.out.2.1.2.2.1 i (by rw [← HI.out.1]; exact hi)).1
        rw [h4] at h6
        omega
      have HML := Lib.hid hml
      have HRW := Lib.hid hrw
      clear hml hrw h4 h5
      go_wp2_with (fail)
      refine (i_groupOf A5 k c5 n MS _ _ HML.out hm0 (by omega) (Nat.le_refl _) HRW.out hii).mono ?_
      rw [HRK.out]
      rintro e w5 ⟨v5, rfl, ho5, hb5⟩
      obtain ⟨Ar, cr, rfl, _⟩ := own_slice' ho5
      generalize hL : (RK n gens).length = L at *
      have HL := Lib.hid hL
      clear hL
      have hz5 := hb5.size
      have hz6 := hbx.lt
      have hbx5 := hbx.below hb5 hz6
      have hbw := hb.trans (hb5.mono hb.size)
      obtain ⟨f2, f3, fz2, fz3⟩ := hbx5.two
      go_wp2_with (fail)
      have h5 := (hbx5.set 0 (.int .i64 (n : Int))).set 1 (.slice Ar L cr)
      have hb9 := (hbw.setCell (p := ⟨w.heap.size, 0, none⟩) (by simp) (.int .i64 (n : Int))).setCell (p := ⟨w.heap.size, 1, none⟩) (by simp) (.slice Ar L cr)
      have ho9 := ownsRow_setCell_below (ownsRow_setCell_below ho5 (a := ⟨w.heap.size, 0, none⟩) (by simp; omega) (.int .i64 (n : Int))) (a := ⟨w.heap.size, 1, none⟩) (by simp; omega) (.slice Ar L cr)
      generalize ((w5.setCell ⟨w.heap.size, 0, none⟩ (.int .i64 (n : Int))).setCell ⟨w.heap.size, 1, none⟩ (.slice Ar L cr)) = w9 at *
      obtain ⟨d0, d1, _, _⟩ := BK.two (x := .int .i64 (n : Int)) (y := (.slice Ar L cr)) (by simpa using h5)
      (try simp only [Exit.inBlock, Exit.then])
      refine bodyPost_ret (v := .agg #[.int .i64 (n : Int), (.slice Ar L cr)]) (by simp [results, Try.results123, go_sem, d0, d1]; try rfl) rfl ?_
      exact ⟨_, rfl, by rw [HL.out]; exact own_mono ho9 (by omega), hb9⟩
end Go.Proofs.Ytcbjfdeigpdbdaa
