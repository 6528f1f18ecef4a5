/- Contracts: FirstIrreducible, by the reference. -/
import Derived.Test.YtifaccppbhbfhaaA386
namespace Go.Proofs.Ytifaccppbhbfhaa
set_option linter.unusedVariables false
set_option linter.unusedSimpArgs false
open Go.RowKit

/-- The number that a block's cells tell. -/
def nmW (P g : Nat) (w : World) : Nat → Nat → Nat
  | 0, _ => 0
  | d + 1, k => (intOf ((w.cell? ⟨g, k, none⟩).getD undef)).toNat + P * nmW P g w d (k + 1)
theorem nmW_pon (P g : Nat) (hP : 2 ≤ P) (w : World) : ∀ d k m, m < P ^ d → (∀ j, j < d → w.cell? ⟨g, k + j, none⟩ = some (.int .i64 (gt (pon P d m) j))) → nmW P g w d k = m
  | 0, k, m, h, _ => by
    rw [Nat.pow_zero] at h
    show 0 = m
    omega
  | d + 1, k, m, h, hc => by
    have h0 := hc 0 (by omega)
    rw [Nat.add_zero, pon_s, gt_cons0] at h0
    have hd : m / P < P ^ d := by rw [Nat.div_lt_iff_lt_mul (by omega), ← Nat.pow_succ]; exact h
    have ih := nmW_pon P g hP w d (k + 1) (m / P) hd (fun j hj => by
      have := hc (j + 1) (by omega)
      rw [pon_s, gt_consS] at this
      rw [show k + 1 + j = k + (j + 1) by omega]; exact this)
    rw [nmW, ih, h0]
    show ((m % P : Nat) : Int).toNat + P * (m / P) = m
    rw [Int.toNat_natCast]
    exact Nat.mod_add_div m P
theorem nmW_own {P g c n d m base : Nat} {w : World} (hP : 2 ≤ P) (hm : m < P ^ d) (hn : n = d + 1) (ho : w.ownsRow base 2 1 (.slice (some ⟨g, 0, none⟩) n c) n (ints (pon P d m))) : nmW P g w d 0 = m := by
  obtain ⟨g', e, _, _, hos⟩ := own_os ho (by rw [pon_len]; exact hn) (by omega)
  injection e with e; injection e with e; subst e
  refine nmW_pon P g hP w d 0 m hm (fun j hj => ?_)
  rw [Nat.zero_add]
  exact hos.cell (by rw [pon_len]; omega)
set_option maxRecDepth 20000 in
set_option maxHeartbeats 2000000 in
theorem s_l10Next (P : Nat) [NeZero P] (hP : P ≤ 97) (hp : FX.Prm P) (d : Nat) (hd1 : 1 ≤ d) (hd : d ≤ 4) (A : Option Addr) (n c : Nat) (w : World) (hn : n = d + 1) (hs : OA w A c (pon P d 0)) : Calls Try.prog 30 #[.int .i64 (P : Int), .slice A n c] w (RV (fiL P d) w) := by
  have hp2 : 2 ≤ P := hp.1
  have hpb := pow_bd hP hd (by omega)
  have hcl := s_ownO A c (pon P d 0) w (by rw [pon_len]; omega) hs
  rw [pon_len, ← hn] at hcl
  have hir := fun m A c W h => s_irr P hP hp A n c (pon P d m) W (by rw [pon_len]; exact hn) (by omega) (by omega) (pon_can P hp2 d m) h
  have hyes := fun m h ht => frs_yes (t := irV P) (P := P) (d := d) (m := m) h ht
  have hno := fun m h ht => frs_no (t := irV P) (P := P) (d := d) (m := m) h ht
  have hend := frs_end (irV P) P d
  have h0 : Hid (frs (irV P) P d (P ^ d - 0) 0 = fiL P d) := rfl
  have hNpos : 0 < P ^ d := Nat.pow_pos (by omega)
  have hnm := fun g c m base W h ho => nmW_own (P := P) (g := g) (c := c) (n := n) (d := d) (m := m) (base := base) (w := W) hp2 h hn ho
  have hcs := fun m h => CST.start (P := P) (d := d) (m := m) h
  have hcl' := fun m i e mi l (h : CST P d m i e mi l) => h.len
  have hce := fun m i mi l (h : CST P d m i 0 mi l) => h.end
  have hst := fun m i e mi l (h : CST P d m i (e + 1) mi l) hx => h.stop hp2 hx
  generalize fiL P d = ans at *
  generalize hNN : P ^ d = N at *
  have HYES := Lib.hid hyes
  have HNO := Lib.hid hno
  have HEND := Lib.hid hend
  have HIR := Lib.hid hir
  have HNM := Lib.hid hnm
  have HCS := Lib.hid hcs
  have HCL := Lib.hid hcl'
  have HCE := Lib.hid hce
  have HST := Lib.hid hst
  have HNEQ := Lib.hid hn
  have hpl : ∀ m, (pon P d m).length = n := fun m => by rw [pon_len, hn]
  have HPL := Lib.hid hpl
  have hnd : (n : Int) - 1 = (d : Int) := by omega
  have hdn : d < n := by omega
  have hn5 : n ≤ 5 := by omega
  clear hyes hno hend hir hnm hcs hcl' hce hst hs hNN hpl hn
  go_enter Try.func30, Try.ntmps30
  go_wp2_with (go_at_call 58; refine hcl.mono ?_; clear hcl; rintro e w1 ⟨A1, c1, rfl, ho1, hb1⟩; rw [HPL.out] at ho1 ⊢)
  obtain ⟨g, rfl, _, _, _⟩ := own_src ho1 (by omega)
  go_loopw [6] (fun u6 wr => ∃ m : Nat, m < N ∧ Hid (wr.ownsRow w.heap.size 2 1 (.slice (some ⟨g, 0, none⟩) n c1) n (ints (pon P d m))) ∧ Hid (frs (irV P) P d (N - m) m = ans) ∧ Below w.heap.size w wr) (fun _ wr => N - nmW P g wr d 0)
  case atStart => exact ⟨0, hNpos, ho1, h0, hb1⟩
  case round =>
    clear h0 ho1 hb1
    obtain ⟨wo, rfl⟩ : ∃ wo : World, wo = wr := ⟨_, rfl⟩
    obtain ⟨m, hm, HO, HF, hb⟩ := hrel
    have HMO : Hid (nmW P g wo d 0 = m) := HNM.out g c1 m _ wo hm HO.out
    have hi := HIR.out m (some ⟨g, 0, none⟩) c1 wo (own_isn HO.out (HPL.out m).symm)
    cases ht : irV P (pon P d m) with
    | true =>
      rw [ht] at hi
      have HA : Hid (ans = pon P d m) := by unfold Hid; rw [← HF.out, HYES.out m hm ht]
      go_wp2_with (go_at_call 20; refine hi.mono ?_; clear hi; rintro e w3 ⟨rfl, hb3⟩)
      go_ret
      rw [HA.out]
      refine ⟨some ⟨g, 0, none⟩, c1, by rw [HPL.out]; rfl, ?_, bel_call hb hb3⟩
      rw [HPL.out]
      exact own_below HO.out hb3
    | false =>
      rw [ht] at hi
      have HF2 : Hid (frs (irV P) P d (N - (m + 1)) (m + 1) = ans) := by unfold Hid; rw [← HF.out, HNO.out m hm ht]
      have HC0 := Lib.hid (HCS.out m hm)
      clear ht
      go_wp2_with (go_at_call 20; refine hi.mono ?_; clear hi; rintro e w3 ⟨rfl, hb3⟩)
      have HO3 := Lib.hid (own_below HO.out hb3)
      have hb03 := bel_call hb hb3
      clear hb hb3 HO HF
      go_loopw [6] (fun u6 wr => ∃ (i e mi : Nat) (l : List Int), i ≤ d ∧ u6 = .int .i64 (i : Int) ∧ Hid (CST P d m i e mi l) ∧ Hid (wr.ownsRow w.heap.size 2 1 (.slice (some ⟨g, 0, none⟩) n c1) n (ints l)) ∧ Below w.heap.size w wr) (fun u6 _ => n - (intOf u6).toNat)
      case atStart => exact ⟨0, d, m, pon P d m, Nat.zero_le _, rfl, HC0, HO3, hb03⟩
      case round =>
        clear HC0 HO3 hb03
        obtain ⟨wt, rfl⟩ : ∃ wt : World, wt = wr := ⟨_, rfl⟩
        obtain ⟨i, e, mi, l, hid, rfl, HC, HO, hb⟩ := hrel
        have hll : l.length = n := by rw [HCL.out _ _ _ _ _ HC.out, HNEQ.out]
        obtain ⟨g', hge, _, _, hro⟩ := own_os HO.out hll.symm (by omega)
        injection hge with hge; injection hge with hge; subst hge
        cases e with
        | zero =>
          obtain ⟨z1, z2⟩ := HCE.out _ _ _ _ HC.out
          have HA : Hid (ans = []) := by
            unfold Hid
            rw [← HF2.out, z2, HEND.out]
          subst z1
          clear z2 hll hro
          go_wp2_with (fail)
          go_ret
          rw [HA.out]
          exact ⟨none, 0, rfl, World.ownsRow_nil _ _ _ _, hb⟩
        | succ e =>
          obtain ⟨y1, y2⟩ := HC.out.at
          have e1 := hro.cell (j := i) (by omega)
          have e2 := hro.fz i
          rw [y1] at e1
          have hxb : mi % P < P := Nat.mod_lt _ (by omega)
          have hid1 : (i : Int) < (d : Int) := by omega
          have hin : i < n := by omega
          have hidn : ((i : Int) == (d : Int)) = false := by rw [beq_eq_false_iff_ne]; omega
          by_cases hx : mi % P = P - 1
          · have HC2 := Lib.hid (HC.out.more hp2 hx)
            have hset := (HO.out.stored i (.int .i64 0)).1
            rw [ints_set] at hset
            have HO2 := Lib.hid hset
            have hq : (((mi % P : Nat) : Int) == (P : Int) - 1) = true := by rw [beq_iff_eq]; omega
            have hb2 := hb.setCell (p := ⟨g, i, none⟩) (HO.out.lt g rfl).1 (.int .i64 0)
            generalize mi % P = x at *
            clear hx hset y1 hro hll
            go_wp2_with (fail)
            go_roundw
            case rel => exact ⟨i + 1, e, mi / P, l.set i 0, by omega, by go_num, HC2, HO2, hb2⟩
            case measure => simp [intOf]; omega
          · obtain ⟨s1, s2, s3⟩ := HST.out _ _ _ _ _ HC.out hx
            have hset := (HO.out.stored i (.int .i64 (((mi % P : Nat) : Int) + 1))).1
            rw [ints_set, s1] at hset
            have hq : (((mi % P : Nat) : Int) == (P : Int) - 1) = false := by rw [beq_eq_false_iff_ne]; exact s3
            have hb2 := hb.setCell (p := ⟨g, i, none⟩) (HO.out.lt g rfl).1 (.int .i64 (((mi % P : Nat) : Int) + 1))
            have hm1 : m + 1 < N := by omega
            have HM2 := Lib.hid (HNM.out g c1 (m + 1) _ _ hm1 hset)
            have HO2 := Lib.hid hset
            have hwx : IntKind.i64.wrap (((mi % P : Nat) : Int) + 1) = ((mi % P : Nat) : Int) + 1 := IntWalk.i64_in _ (by omega)
            clear hx hset y1 hro hll s1 s2 s3
            generalize mi % P = x at *
            go_wp2_with (fail)
            go_roundw
            case rel => exact ⟨m + 1, hm1, HO2, HF2, hb2⟩
            case measure => rw [HM2.out, HMO.out]; omega
set_option maxHeartbeats 1000000 in
theorem s_FirstIrreducible (p n : Int) (w : World) (hp0 : -9223372036854775808 ≤ p) : Calls Try.prog 17 #[.int .i64 p, .int .i64 n] w (LCR 0 (fiB p n) (cntC p n) w) := by
  have hm := s_l10Code p n w hp0
  by_cases h1 : cntC p n = 0
  · obtain ⟨g1, g2, g3⟩ := cntC_0 h1
    obtain ⟨P, rfl, hp, hp2, hp97⟩ := FX.prm_of g1
    obtain ⟨d, rfl⟩ : ∃ d : Nat, n = (d : Int) := ⟨n.toNat, by omega⟩
    haveI : NeZero P := ⟨by omega⟩
    have hd4 : d ≤ 4 := by omega
    obtain ⟨M, hM⟩ : ∃ M, M = d + 1 := ⟨_, rfl⟩
    have hmk := fun W => run_make_row' (P := Try.prog) 22 2 (.int .i64 0) 8 Try.underlying22 infoI64 rfl .i64 .i64 M (by omega) (by omega) W
    have hnx := fun A c W h => s_l10Next P hp97 hp d (by omega) hd4 A M c W hM h
    have hns : ∀ W : World, OA ((W.alloc (.cells (madeCells (.int .i64 0 : Value).cells M) 2)).setCell ⟨W.heap.size, d, none⟩ (.int .i64 1)) (some ⟨W.heap.size, 0, none⟩) M (pon P d 0) := fun W => by
      have h := (NS.zero W M 0 (Nat.zero_le _)).set 1 (r := d) (by simp; omega)
      rw [hM, ← pon_zero P d] at h
      have h2 := h.own' (n := M) (by rw [pon_len]; exact hM) (by omega)
      unfold OA
      rw [pon_len, ← hM]
      rw [hM] at h2 ⊢
      exact h2
    have hfz : ∀ W : World, (W.alloc (.cells (madeCells #[.int .i64 0] M) 2)).frozen? ⟨W.heap.size, d, none⟩ = false := fun W => (NS.zero W M 0 (Nat.zero_le _)).os.fz d
    have hce : ∀ W : World, (W.alloc (.cells (madeCells #[.int .i64 0] M) 2)).cell? ⟨W.heap.size, d, none⟩ = some (.int .i64 0) := fun W => by
      have h := (NS.zero W M 0 (Nat.zero_le _)).os.cell (j := d) (by simp; omega)
      rw [gt_rep] at h
      exact h
    have hbb : ∀ W : World, Below W.heap.size W ((W.alloc (.cells (madeCells (.int .i64 0 : Value).cells M) 2)).setCell ⟨W.heap.size, d, none⟩ (.int .i64 1)) := fun W => ((Below.refl W.heap.size W).alloc (Nat.le_refl _) _).setCell (Nat.le_refl _) _
    have HB : Hid (fiB (P : Int) (d : Int) = fiL P d) := by unfold Hid fiB; rw [if_pos h1, fiA_nat]
    have h9 : (fiL P d).length ≤ 9 := by have := fiL_len P d; omega
    have hMd : (d : Int) + 1 = (M : Int) := by omega
    have hdM : d < M := by omega
    have hM5 : M ≤ 5 := by omega
    have HC := Lib.hid h1
    rw [h1] at hm
    generalize fiL P d = l at *
    obtain ⟨L, hL⟩ : ∃ L, L = l.length := ⟨_, rfl⟩
    have HL := Lib.hid hL
    have H9 := Lib.hid h9
    have HNS := Lib.hid hns
    have HNX := Lib.hid hnx
    have HBB := Lib.hid hbb
    clear h1 g1 g2 g3 hL h9 hM hns hnx hbb hp0
    go_enter Try.func17, Try.ntmps17
    go_wp2_with (first
      | (go_at_call 29; refine hm.mono ?_; rintro e w1 ⟨rfl, q1, rfl⟩; have hf1 : ((w.drewN q1).alloc (.cells (madeCells #[.int .i64 0] M) 2)).frozen? ⟨w.heap.size, d, none⟩ = false := hfz (w.drewN q1); have he1 : ((w.drewN q1).alloc (.cells (madeCells #[.int .i64 0] M) 2)).cell? ⟨w.heap.size, d, none⟩ = some (.int .i64 0) := hce (w.drewN q1))
      | (go_at_call 30; go_loud (refine (HNX.out _ _ _ (HNS.out (w.drewN q1))).mono ?_); rintro e w3 ⟨A3, c3, rfl, ho3, hb3⟩))
    go_ret2
    rw [HB.out, HC.out]
    exact ⟨H9.out, A3, c3, rfl, own_mono ho3 (Nat.zero_le _), undrew (bel_call (HBB.out (w.drewN q1)) hb3)⟩
  · have HB : Hid (fiB p n = []) := by unfold Hid fiB; rw [if_neg h1]
    generalize cntC p n = cd at *
    have h1' : (cd == 0) = false := by rw [beq_eq_false_iff_ne]; exact h1
    clear h1
    go_enter Try.func17, Try.ntmps17
    go_wp2_with (go_at_call 29; refine hm.mono ?_; rintro e w1 ⟨rfl, q1, rfl⟩)
    go_ret2
    rw [HB.out]
    exact LCR.nil _ _ _ rfl (below_drewN (Below.refl _ _) _)
end Go.Proofs.Ytifaccppbhbfhaa
