/- The program's sort of factors. -/
import Derived.Test.YtifaccppbhbfhaaA372
namespace Go.Proofs.Ytifaccppbhbfhaa
set_option linter.unusedVariables false
set_option linter.unusedSimpArgs false
open Go.RowKit

/-- Elements whose lists are own slices. -/
def EV (w : World) (E : List FE) : Prop := ∀ x ∈ E, ∃ (A : Option Addr) (c : Nat), x.1 = .slice A x.2.1.length c ∧ OA w A c x.2.1 ∧ x.2.1.length ≤ 100
def KN' (E : List FE) : Prop := (E.map fun x => x.2.1).Nodup
theorem EV.grown {w w' : World} {E : List FE} {base g n c size : Nat} {xs : List Value} (h : EV w E) (ho : w.ownsRow base 36 size (.slice (some ⟨g, 0, none⟩) n c) n xs) (hg : w.grownBy w' (some g)) : EV w' E := fun x hx => by
  obtain ⟨A, cx, h1, h2, h3⟩ := h x hx
  exact ⟨A, cx, h1, own_keep_own h2 ho hg (by decide), h3⟩
theorem ge_mem {E : List FE} {k : Nat} (h : k < E.length) : ge E k ∈ E := by rw [ge_at h]; exact List.getElem_mem h
theorem kn_ne {E : List FE} (h : KN' E) {a b : Nat} (hab : a < b) (hb : b < E.length) : (ge E a).2.1 ≠ (ge E b).2.1 := by
  unfold KN' at h
  rw [List.nodup_iff_pairwise_ne] at h
  have := List.pairwise_iff_getElem.1 h a b (by simp; omega) (by simp; omega) hab
  rw [ge_at hb, ge_at (by omega)]
  simpa using this
set_option maxRecDepth 10000 in
set_option maxHeartbeats 4000000 in
theorem c_insF (g n c base : Nat) (E0 : List FE) (w : World) (hn : n = E0.length) (h1 : 1 ≤ n) (hl : n ≤ 12) (hk : KN' E0) (hv : EV w E0) (ho : w.ownsRow base 36 2 (.slice (some ⟨g, 0, none⟩) n c) n (eC E0)) :
    Calls Try.prog 93 #[.slice (some ⟨g, 0, none⟩) n c, .int .i64 0, .int .i64 n, .func (.func 55) #[] #[]] w (fun e w' => e = .returned (.tuple #[]) ∧ ∃ E : List FE, E.Perm E0 ∧ SRT n E ∧ w'.ownsRow base 36 2 (.slice (some ⟨g, 0, none⟩) n c) n (eC E) ∧ w.grownBy w' (some g)) := by
  have HN := Lib.hid hn
  have HK := Lib.hid hk
  have HV := Lib.hid hv
  have HO := Lib.hid ho
  have hg0 : w.grownBy w (some g) := ⟨rfl, rfl, rfl, Nat.le_refl _, fun _ _ _ => rfl⟩
  have HS1 : Hid (E0.Perm E0 ∧ SRT 1 E0) := ⟨List.Perm.refl _, fun a b h1 h2 => by omega⟩
  clear hn hk hv
  go_enter Try.func93, Try.ntmps93
  go_wp2_with (fail)
  go_loopw [8] (fun u8 wr => ∃ (i : Nat) (E : List FE), 1 ≤ i ∧ i ≤ n ∧ u8 = .int .i64 i ∧ Hid (E.Perm E0 ∧ SRT i E) ∧ wr.ownsRow base 36 2 (.slice (some ⟨g, 0, none⟩) n c) n (eC E) ∧ w.grownBy wr (some g)) (fun u8 _ => n - (intOf u8).toNat)
  case atStart => exact ⟨1, E0, Nat.le_refl _, h1, rfl, HS1, ho, hg0⟩
  case round =>
    clear ho hg0 HS1
    obtain ⟨wo, rfl⟩ : ∃ wo : World, wo = wr := ⟨_, rfl⟩
    obtain ⟨i, E, hi1, hi, rfl, HP, ho, hg⟩ := hrel
    by_cases hlt : i < n
    · have HMD : Hid (E.Perm E0 ∧ MID i i E) := ⟨HP.out.1, MID.start HP.out.2⟩
      clear HP
      go_wp2_with (fail)
      go_loopw [9] (fun u9 wr => ∃ (j : Nat) (E : List FE), j ≤ i ∧ u9 = .int .i64 j ∧ Hid (E.Perm E0 ∧ MID i j E) ∧ wr.ownsRow base 36 2 (.slice (some ⟨g, 0, none⟩) n c) n (eC E) ∧ w.grownBy wr (some g)) (fun u9 _ => (intOf u9).toNat)
      case atStart => exact ⟨i, E, Nat.le_refl _, rfl, HMD, ho, hg⟩
      case round =>
        clear ho hg HMD
        obtain ⟨ws, rfl⟩ : ∃ ws : World, ws = wr := ⟨_, rfl⟩
        obtain ⟨j, E, hj, rfl, HMD, ho, hg⟩ := hrel
        have hEl : E.length = n := by rw [HMD.out.1.length_eq]; exact HN.out.symm
        by_cases hj0 : 0 < j
        · have hjl : j < E.length := by omega
          have x1 := eC_at (l := E) (k := j) hjl
          have y1 := eC_at (l := E) (k := j - 1) (by omega)
          have hvs := HV.out.grown HO.out hg
          obtain ⟨Ax, cx, hx1, hx2, hx3⟩ := hvs _ (HMD.out.1.mem_iff.1 (ge_mem hjl))
          obtain ⟨Ay, cy, hy1, hy2, hy3⟩ := hvs _ (HMD.out.1.mem_iff.1 (ge_mem (show j - 1 < E.length by omega)))
          have hkn : KN' E := (HMD.out.1.map _).nodup_iff.2 HK.out
          have hne := kn_ne hkn (show j - 1 < j by omega) hjl
          have HPERM := Lib.hid ((swE_perm hj0 hjl).trans HMD.out.1)
          have HSTEP := Lib.hid (fun h => MID.step HMD.out.2 hj0 hj (by omega) h)
          have HSTOP := Lib.hid (fun h => MID.stop HMD.out.2 (.inr h))
          have HPE := Lib.hid HMD.out.1
          have s1 := eC_stored ho j (ge E (j - 1))
          have s2 := eC_stored s1.1 (j - 1) (ge E j)
          have s2' : _ ∧ _ := s2
          have s3 := grown_trans hg (grown_trans s1.2 s2.2)
          have hsw : ((E.set j (ge E (j - 1))).set (j - 1) (ge E j)) = swE E j := rfl
          rw [hsw] at s2
          have HLE : Hid (lessE (ge E j) (ge E (j - 1)) ↔ cmpPol (ge E j).2.1 (ge E (j - 1)).2.1 < 0) := cmpPol_less.symm
          have HGE : Hid (¬ cmpPol (ge E j).2.1 (ge E (j - 1)).2.1 < 0 → lessE (ge E (j - 1)) (ge E j)) := fun h => less_or h (fun e => hne e.symm)
          generalize hSW : swE E j = SW at *
          have hcx := fun (W : World) (a : IS W W.heap.size Ax (ge E j).2.1) (b : IS W W.heap.size Ay (ge E (j - 1)).2.1) => i_facCmp Ax Ay _ cx _ cy (((ge E j).2.2 : Nat) : Int) (((ge E (j - 1)).2.2 : Nat) : Int) (ge E j).2.1 (ge E (j - 1)).2.1 W rfl rfl hx3 hy3 a b
          have hisx := fun W (hb : Below ws.heap.size ws W) => (hx2.call hb).is
          have hisy := fun W (hb : Below ws.heap.size ws W) => (hy2.call hb).is
          have hc1 := fun W hb => hcx W (hisx W hb) (hisy W hb)
          generalize hxd : ge E (j - 1) = y at *
          generalize hyd : ge E j = x at *
          obtain ⟨xv, xf, xt⟩ := x
          obtain ⟨yv, yf, yt⟩ := y
          simp only at x1 y1 hx1 hy1 hx2 hy2 hx3 hy3 hc1 s1 s2 HLE HGE
          subst hx1
          subst hy1
          clear hcx hisx hisy s2' hsw hkn hne hvs
          have hs1' : IntKind.i64.wrap ((j : Int) - 1) = (j : Int) - 1 := IntWalk.i64_in _ (by omega)
          have hs2' : ((j : Int) - 1).toNat = j - 1 := by omega
          have hs3' : 1 ≤ (j : Int) := by omega
          have hs4' : 0 ≤ (j : Int) - 1 := by omega
          have hs5' : (j : Int) - 1 < n := by omega
          have hs6' : (j : Int) < n := by omega
          have e1 := own_hsrc ho ⟨g, 0, none⟩ rfl (j * 2) _ x1.1
          have e2 := own_hsrc ho ⟨g, 0, none⟩ rfl (j * 2 + 1) _ x1.2
          have e3 := own_hsrc ho ⟨g, 0, none⟩ rfl ((j - 1) * 2) _ y1.1
          have e4 := own_hsrc ho ⟨g, 0, none⟩ rfl ((j - 1) * 2 + 1) _ y1.2
          rw [Go.WideShapes.add_plain, Nat.zero_add] at e1 e2 e3 e4
          have r1 := fun d os => cell_regrown e1 d os
          have r2 := fun d os => cell_regrown e2 d os
          have r3 := fun d os => cell_regrown e3 d os
          have r4 := fun d os => cell_regrown e4 d os
          have HX := Lib.hid x1
          have HY := Lib.hid y1
          have HSC := Lib.hid (fun (w5 : World) (ho5 : w5.ownsRow base 36 2 (.slice (some ⟨g, 0, none⟩) n c) n (eC E)) => (show ((((w5.setCell ⟨g, j * 2, none⟩ (.slice Ay yf.length cy)).setCell ⟨g, j * 2 + 1, none⟩ (.int .i64 (yt : Int))).setCell ⟨g, (j - 1) * 2, none⟩ (.slice Ax xf.length cx)).setCell ⟨g, (j - 1) * 2 + 1, none⟩ (.int .i64 (xt : Int))).ownsRow base 36 2 (.slice (some ⟨g, 0, none⟩) n c) n (eC SW) ∧ w5.grownBy ((((w5.setCell ⟨g, j * 2, none⟩ (.slice Ay yf.length cy)).setCell ⟨g, j * 2 + 1, none⟩ (.int .i64 (yt : Int))).setCell ⟨g, (j - 1) * 2, none⟩ (.slice Ax xf.length cx)).setCell ⟨g, (j - 1) * 2 + 1, none⟩ (.int .i64 (xt : Int))) (some g) from by
            have t1 := eC_stored ho5 j (.slice Ay yf.length cy, yf, yt)
            have t2 := eC_stored t1.1 (j - 1) (.slice Ax xf.length cx, xf, xt)
            have hsw2 : (E.set j (.slice Ay yf.length cy, yf, yt)).set (j - 1) (.slice Ax xf.length cx, xf, xt) = SW := by rw [← hSW]; unfold swE; rw [hxd, hyd]
            rw [hsw2] at t2
            exact ⟨t2.1, grown_trans t1.2 t2.2⟩))
          clear x1 y1 s1 s2 s3 e1 e2 e3 e4 hSW hxd hyd hx2 hy2
          by_cases hcv0 : cmpPol xf yf < 0
          · have HM2 := Lib.hid (HSTEP.out (HLE.out.2 hcv0))
            have hcb := cmpPol_b xf yf
            generalize xf.length = nx at *
            generalize yf.length = ny at *
            generalize cmpPol xf yf = cv at *
            clear HLE HGE HSTOP HSTEP
            go_wp2_with (fail)
            refine wp_region_quiet_below (by kernel_rfl) (by kernel_rfl) ?_
            repeat (first | go_big_quiet_step ((go_at_call 55; go_loud (exact Calls.regrown_of (hc1 _ (below_regrown _ _ _))))) | quiet_step ((go_at_call 55; go_loud (exact Calls.regrown_of (hc1 _ (below_regrown _ _ _))))))
            refine wpQuiet_nil ?_
            intro _ hw'
            obtain ⟨⟨dq, osq⟩, hw''⟩ := hw'
            subst hw''
            have hb5 := below_regrown ws dq osq
            generalize Go.Sort.grow (redrawn ws dq) osq = w5 at *
            have ho5 := own_below ho hb5
            have e1 := own_hsrc ho5 ⟨g, 0, none⟩ rfl (j * 2) _ HX.out.1
            have e2 := own_hsrc ho5 ⟨g, 0, none⟩ rfl (j * 2 + 1) _ HX.out.2
            have e3 := own_hsrc ho5 ⟨g, 0, none⟩ rfl ((j - 1) * 2) _ HY.out.1
            have e4 := own_hsrc ho5 ⟨g, 0, none⟩ rfl ((j - 1) * 2 + 1) _ HY.out.2
            rw [Go.WideShapes.add_plain, Nat.zero_add] at e1 e2 e3 e4
            have z1 := ho5.frozenAt (j * 2)
            have z2 := ho5.frozenAt (j * 2 + 1)
            have z3 := ho5.frozenAt ((j - 1) * 2)
            have z4 := ho5.frozenAt ((j - 1) * 2 + 1)
            have hsc := HSC.out w5.drew (ho5 : (w5.drew).ownsRow base 36 2 (.slice (some ⟨g, 0, none⟩) n c) n (eC E))
            have hgg := grown_trans hg (grown_any (row := some g) hb5)
            have HSW := Lib.hid hsc
            clear ho ho5 r1 r2 r3 r4 hsc HSC hc1
            go_wp2_with (fail)
            go_region_law (fail)
            all_goals
              go_wp2_with (fail)
              obtain ⟨w1', w3'⟩ := HSW.out
              have hg9 := grown_trans (show w.grownBy w5.drew (some g) from grown_drewN hgg 1) w3'
              go_roundw
              case rel => exact ⟨j - 1, SW, by omega, by go_num, ⟨HPERM.out, HM2.out⟩, w1', by first | exact hg9 | exact grown_drewN hg9 1⟩
              case measure => simp [intOf]; omega
          · have HS2 := Lib.hid (And.intro HPE.out (HSTOP.out (HGE.out hcv0)))
            have hcb := cmpPol_b xf yf
            have hcv : ¬ cmpPol xf yf < 0 := hcv0
            generalize xf.length = nx at *
            generalize yf.length = ny at *
            generalize cmpPol xf yf = cv at *
            clear HLE HGE HSTOP HSTEP HSC hcv0
            go_wp2_with (fail)
            refine wp_region_quiet_below (by kernel_rfl) (by kernel_rfl) ?_
            repeat (first | go_big_quiet_step ((go_at_call 55; go_loud (exact Calls.regrown_of (hc1 _ (below_regrown _ _ _))))) | quiet_step ((go_at_call 55; go_loud (exact Calls.regrown_of (hc1 _ (below_regrown _ _ _))))))
            refine wpQuiet_nil ?_
            intro _ hw'
            obtain ⟨⟨dq, osq⟩, hw''⟩ := hw'
            subst hw''
            have hb5 := below_regrown ws dq osq
            generalize Go.Sort.grow (redrawn ws dq) osq = w5 at *
            go_wp2_with (fail)
            refine ⟨⟨i + 1, E, by omega, by omega, by go_num, HS2, own_below ho hb5, grown_trans hg (grown_any hb5)⟩, ?_⟩
            simp [intOf]; omega
        · have hng : ¬ (0 : Int) < (j : Int) := by omega
          have HS2 : Hid (E.Perm E0 ∧ SRT (i + 1) E) := ⟨HMD.out.1, MID.stop HMD.out.2 (.inl (by omega))⟩
          go_wp2_with (go_quiet (fail))
          go_roundw
          case rel => exact ⟨i + 1, E, by omega, by omega, by go_num, HS2, own_dr ho _, grown_drewN hg _⟩
          case measure => simp [intOf]; omega
    · obtain rfl : i = n := by omega
      go_wp2_with (fail)
      go_end0
      exact ⟨rfl, E, HP.out.1, HP.out.2, ho, hg⟩
/-- What the sort answers. -/
def SRF (g n c base : Nat) (E0 : List FE) (w : World) (e : Ending) (w' : World) : Prop := e = .returned (.tuple #[]) ∧ ∃ E : List FE, E.Perm E0 ∧ SRT n E ∧ w'.ownsRow base 36 2 (.slice (some ⟨g, 0, none⟩) n c) n (eC E) ∧ w.grownBy w' (some g)
set_option maxHeartbeats 1000000 in
theorem c_pdqF (g n c base : Nat) (lim : Int) (E0 : List FE) (w : World) (hn : n = E0.length) (h1 : 1 ≤ n) (hl : n ≤ 12) (hk : KN' E0) (hv : EV w E0) (ho : w.ownsRow base 36 2 (.slice (some ⟨g, 0, none⟩) n c) n (eC E0)) :
    Calls Try.prog 78 #[.slice (some ⟨g, 0, none⟩) n c, .int .i64 0, .int .i64 n, .int .i64 lim, .func (.func 55) #[] #[]] w (SRF g n c base E0 w) := by
  have hins := c_insF g n c base E0 w hn h1 hl hk hv ho
  have h12 : (n : Int) ≤ 12 := by omega
  clear hn hk hv ho
  go_enter Try.func78, Try.ntmps78
  go_wp2_with (fail)
  go_loopw [1, 2] (fun u1 u2 wr => u1 = .int .i64 0 ∧ u2 = .int .i64 n ∧ wr = w) (fun _ _ _ => 0)
  case atStart => exact ⟨rfl, rfl, rfl⟩
  case round =>
    obtain ⟨rfl, rfl, rfl⟩ := hrel
    go_wp2_with (go_at_call 93; refine hins.mono ?_; rintro e w2 ⟨rfl, ho2⟩)
    first
      | go_end0
      | refine bodyPost_ret (results_none rfl _ _ _) rfl ?_
    exact ⟨rfl, ho2⟩
set_option maxHeartbeats 1000000 in
theorem c_sortF (g n c base : Nat) (E0 : List FE) (w : World) (hn : n = E0.length) (h1 : 1 ≤ n) (hl : n ≤ 12) (hk : KN' E0) (hv : EV w E0) (ho : w.ownsRow base 36 2 (.slice (some ⟨g, 0, none⟩) n c) n (eC E0)) :
    Calls Try.prog 54 #[.slice (some ⟨g, 0, none⟩) n c, .func (.func 55) #[] #[]] w (SRF g n c base E0 w) := by
  have hp := fun lim m => c_pdqF g n c base lim E0 (w.drewN m) hn h1 hl hk hv ho
  have hlen := fun W => c_len n h1 hl W
  have hw1 : IntKind.u64.wrap (n : Int) = (n : Int) := by first | exact IntWalk.u64_in _ (by omega) (by omega) | (unfold IntKind.wrap; simp [IntKind.bits, IntKind.signed]; omega)
  clear hn hk hv ho
  go_enter Try.func54, Try.ntmps54
  go_wp2_with (first
    | (go_at_call 79; refine (hlen _).mono ?_; rintro e w2 ⟨v, rfl, m, rfl⟩)
    | (go_at_call 78; refine (hp _ _).mono ?_; rintro e w3 ⟨rfl, E, hE1, hE2, ho2, hg2⟩))
  first
    | go_end0
    | refine bodyPost_ret (results_none rfl _ _ _) rfl ?_
  exact ⟨rfl, E, hE1, hE2, ho2, undrewG hg2⟩
end Go.Proofs.Ytifaccppbhbfhaa
