/- TypesOf: the program's insertion sort. -/
import Derived.Test.YtglijcdnnaekkaaGreatA162
import Derived.Lib.QuietBelow
import Derived.Deep.RegionLaw
namespace Go.Proofs.YtglijcdnnaekkaaGreat
set_option linter.unusedVariables false
set_option linter.unusedSimpArgs false
open Go.RowKit

def midL (ll : List (List Int)) (i j : Nat) : List (List Int) := (srt ll i).take j ++ [gl ll i] ++ (srt ll i).drop j ++ ll.drop (i + 1)
def outL (ll : List (List Int)) (i : Nat) : List (List Int) := srt ll i ++ ll.drop i
theorem midL_len {ll : List (List Int)} {i j : Nat} (hi : i < ll.length) (hj : j ≤ i) : (midL ll i j).length = ll.length := by
  unfold midL
  simp [srt_len]
  omega
theorem midL_gl {ll : List (List Int)} {i j : Nat} (hj : j ≤ i) (k : Nat) : gl (midL ll i j) k = if k < j then gl (srt ll i) k else if k = j then gl ll i else if k ≤ i then gl (srt ll i) (k - 1) else gl ll k := by
  unfold midL
  have l1 : ((srt ll i).take j).length = j := by rw [List.length_take, srt_len]; omega
  have l2 : ((srt ll i).drop j).length = i - j := by rw [List.length_drop, srt_len]
  rw [gl_app, gl_app, gl_app, List.length_append, List.length_append, l1, l2, List.length_singleton]
  by_cases h1 : k < j
  · rw [if_pos (by omega), if_pos (by omega), if_pos h1, if_pos h1, gl_take h1]
  · by_cases h2 : k = j
    · subst h2
      rw [if_pos (by omega), if_pos (by omega), if_neg h1, if_neg h1, if_pos rfl, Nat.sub_self]; rfl
    · by_cases h3 : k ≤ i
      · rw [if_pos (by omega), if_neg (by omega), if_neg h1, if_neg h2, if_pos h3, gl_drop]
        congr 1; omega
      · rw [if_neg (by omega), if_neg h1, if_neg h2, if_neg h3, gl_drop]
        congr 1; omega
def sw (j k : Nat) : Nat := if k = j then j - 1 else if k = j - 1 then j else k
theorem sw_eq1 (j : Nat) : sw j j = j - 1 := if_pos rfl
theorem sw_eq2 {j : Nat} (h : 0 < j) : sw j (j - 1) = j := by unfold sw; rw [if_neg (by omega), if_pos rfl]
theorem sw_eq3 {j k : Nat} (h1 : ¬ k = j) (h2 : ¬ k = j - 1) : sw j k = k := by unfold sw; rw [if_neg h1, if_neg h2]
theorem sw_inj {j : Nat} (hj : 0 < j) (a b : Nat) (h : sw j a = sw j b) : a = b := by
  by_cases a1 : a = j
  · by_cases b1 : b = j
    · omega
    · by_cases b2 : b = j - 1
      · rw [a1, b2, sw_eq1, sw_eq2 hj] at h; omega
      · rw [a1, sw_eq1, sw_eq3 b1 b2] at h; omega
  · by_cases a2 : a = j - 1
    · by_cases b1 : b = j
      · rw [a2, b1, sw_eq1, sw_eq2 hj] at h; omega
      · by_cases b2 : b = j - 1
        · omega
        · rw [a2, sw_eq2 hj, sw_eq3 b1 b2] at h; omega
    · by_cases b1 : b = j
      · rw [b1, sw_eq1, sw_eq3 a1 a2] at h; omega
      · by_cases b2 : b = j - 1
        · rw [b2, sw_eq2 hj, sw_eq3 a1 a2] at h; omega
        · rw [sw_eq3 a1 a2, sw_eq3 b1 b2] at h; exact h
theorem midL_sw {ll : List (List Int)} {i j : Nat} (h0 : 0 < j) (hj : j ≤ i) (k : Nat) : gl (midL ll i (j - 1)) k = gl (midL ll i j) (sw j k) := by
  rw [midL_gl (by omega), midL_gl hj]
  by_cases h1 : k = j
  · subst h1
    rw [sw_eq1, if_neg (by omega), if_neg (by omega), if_pos (by omega), if_pos (by omega)]
  · by_cases h2 : k = j - 1
    · subst h2
      rw [sw_eq2 h0]
      simp
    · rw [sw_eq3 h1 h2]
      by_cases h3 : k < j - 1
      · rw [if_pos h3, if_pos (by omega)]
      · rw [if_neg h3, if_neg h2, if_neg (show ¬ k < j by omega), if_neg h1]
theorem mid_start {ll : List (List Int)} {i : Nat} (hi : i < ll.length) : midL ll i i = outL ll i := by
  unfold midL outL
  rw [List.take_of_length_le (by rw [srt_len]; exact Nat.le_refl _), List.drop_eq_nil_of_le (by rw [srt_len]; exact Nat.le_refl _), List.append_nil, List.append_assoc, List.drop_eq_getElem_cons hi, gl_eq hi]
  rfl
theorem mid_end (ll : List (List Int)) (i : Nat) : midL ll i (atF (gl ll i) (srt ll i) i) = outL ll (i + 1) := rfl
theorem out_one {ll : List (List Int)} (h : 0 < ll.length) : outL ll 1 = ll := by
  have e := mid_end ll 0
  rw [show atF (gl ll 0) (srt ll 0) 0 = 0 from rfl, mid_start h] at e
  rw [← e]
  rfl
theorem out_all (ll : List (List Int)) : outL ll ll.length = srt ll ll.length := by
  unfold outL; simp
theorem srt_mem {ll : List (List Int)} : ∀ i, i ≤ ll.length → ∀ a ∈ srt ll i, a ∈ ll
  | 0, _, a, h => by simp [srt] at h
  | i + 1, hi, a, h => by
    unfold srt at h
    rw [List.mem_append, List.mem_append] at h
    rcases h with (h | h) | h
    · exact srt_mem i (by omega) a (List.mem_of_mem_take h)
    · rw [List.mem_singleton.1 h]; exact gl_mem (by omega)
    · exact srt_mem i (by omega) a (List.mem_of_mem_drop h)
theorem srt_row {ll : List (List Int)} (h : ∀ k, k < ll.length → (gl ll k).length ≤ 6) : ∀ i, i ≤ ll.length → ∀ k, k < i → (gl (srt ll i) k).length ≤ 6 := fun i hi k hk => by
  have hm := srt_mem i hi _ (gl_mem (ll := srt ll i) (i := k) (by rw [srt_len]; exact hk))
  obtain ⟨j, hj, e⟩ := mem_gl.1 hm
  rw [← e]
  exact h j hj
theorem grown_any {w w' : World} {row : Option Nat} (hb : Below w.heap.size w w') : w.grownBy w' row := ⟨hb.os, hb.tape, hb.output, hb.size, fun i hi _ => hb.block i hi⟩
theorem i_cmpB (A A' : Option Addr) (n c n' c' : Nat) (xs ys : List Int) (w : World) (hn : n = xs.length) (hn' : n' = ys.length) (hl : n ≤ 6) (hl' : n' ≤ 6) (hs : IS w w.heap.size A xs) (hs' : IS w w.heap.size A' ys) :
    Calls Tryz.prog 83 #[.slice A n c, .slice A' n' c'] w (M (.int .i64 (cmpT xs ys)) w) :=
  (i_compareTypes A A' n c n' c' xs ys w w.heap.size w.heap.size hn hn' (by omega) (by omega) hs hs').mono fun e w' ⟨he, q, os, hw⟩ => ⟨he, by rw [hw]; exact below_regrown w (w.drawn + q) os⟩
/-- Two neighbours changed. -/
theorem swap_rows {w : World} {base g n c j : Nat} {va : List Value} {ll ll' : List (List Int)} (hj : 0 < j) (hlt : j < va.length) (ho : w.ownsRow base 24 1 (.slice (some ⟨g, 0, none⟩) n c) n va) (hr : RowsO w base va ll) (hsw : ∀ k, gl ll' k = gl ll (sw j k)) (hl : ll'.length = ll.length) :
    ∃ va', ((w.setCell ⟨g, j, none⟩ (gv va (j - 1))).setCell ⟨g, j - 1, none⟩ (gv va j)).ownsRow base 24 1 (.slice (some ⟨g, 0, none⟩) n c) n va' ∧ RowsO ((w.setCell ⟨g, j, none⟩ (gv va (j - 1))).setCell ⟨g, j - 1, none⟩ (gv va j)) base va' ll' ∧ w.grownBy ((w.setCell ⟨g, j, none⟩ (gv va (j - 1))).setCell ⟨g, j - 1, none⟩ (gv va j)) (some g) := by
  have s1 := ho.stored j (gv va (j - 1))
  have s2 := s1.1.stored (j - 1) (gv va j)
  have hg := grown_trans s1.2 s2.2
  have hne : ∀ i, i < va.length → (gv va i).ownBlock = none ∨ (gv va i).ownBlock ≠ some g := fun i hi => by
    have := own_ne (hr.2.1 i hi) ho (by decide)
    simpa [Value.ownBlock] using this
  refine ⟨_, s2.1, ?_, hg⟩
  refine RowsO.perm (sw j) (hr.kept hg hne) (by simp) hl (fun k hk => ?_) (fun k hk => hsw k) (fun k hk => ?_) (sw_inj hj)
  · unfold gv
    rw [List.getD_eq_getElem?_getD, List.getD_eq_getElem?_getD]
    by_cases h1 : k = j
    · subst h1
      rw [sw_eq1, List.getElem?_set_ne (by omega), List.getElem?_set_self hlt]
      simp [gv]
    · by_cases h2 : k = j - 1
      · subst h2
        rw [sw_eq2 hj, List.getElem?_set_self (by rw [List.length_set]; omega)]
        simp [gv]
      · rw [sw_eq3 h1 h2, List.getElem?_set_ne (by omega), List.getElem?_set_ne (by omega)]
        try simp
  · by_cases h1 : k = j
    · rw [h1, sw_eq1]; omega
    · by_cases h2 : k = j - 1
      · rw [h2, sw_eq2 hj]; omega
      · rw [sw_eq3 h1 h2]; exact hk
set_option maxRecDepth 10000 in
set_option maxHeartbeats 4000000 in
theorem c_insSort (g n c base : Nat) (vs : List Value) (ll : List (List Int)) (w : World) (hn : n = ll.length) (h1 : 1 ≤ n) (hl : n ≤ 12) (hrow : ∀ k, k < n → (gl ll k).length ≤ 6) (ho : w.ownsRow base 24 1 (.slice (some ⟨g, 0, none⟩) n c) n vs) (hr : RowsO w base vs ll) :
    Calls Tryz.prog 181 #[.slice (some ⟨g, 0, none⟩) n c, .int .i64 0, .int .i64 n, .func (.func 83) #[] #[]] w (fun e w' => e = .returned (.tuple #[]) ∧ ∃ vs', w'.ownsRow base 24 1 (.slice (some ⟨g, 0, none⟩) n c) n vs' ∧ RowsO w' base vs' (srt ll n) ∧ w.grownBy w' (some g)) := by
  have HN := Lib.hid hn
  have HO1 := Lib.hid (out_one (ll := ll) (by omega))
  have HOA := Lib.hid (out_all ll)
  have HROW := Lib.hid hrow
  have HROW2 := Lib.hid (srt_row (ll := ll) (fun k hk => hrow k (by omega)))
  have hg0 : w.grownBy w (some g) := ⟨rfl, rfl, rfl, Nat.le_refl _, fun _ _ _ => rfl⟩
  clear hn hrow
  go_enter Tryz.func181, Tryz.ntmps181
  go_wp2_with (fail)
  go_loopw [8] (fun u8 wr => ∃ (i : Nat) (va : List Value), 1 ≤ i ∧ i ≤ n ∧ u8 = .int .i64 i ∧ wr.ownsRow base 24 1 (.slice (some ⟨g, 0, none⟩) n c) n va ∧ RowsO wr base va (outL ll i) ∧ w.grownBy wr (some g)) (fun u8 _ => n - (intOf u8).toNat)
  case atStart => exact ⟨1, vs, Nat.le_refl _, h1, rfl, ho, by rw [HO1.out]; exact hr, hg0⟩
  case round =>
    clear ho hr hg0
    obtain ⟨wo, rfl⟩ : ∃ wo : World, wo = wr := ⟨_, rfl⟩
    obtain ⟨i, va, hi1, hi, rfl, ho, hr, hg⟩ := hrel
    by_cases hlt : i < n
    · have HMS := Lib.hid (mid_start (ll := ll) (i := i) (by rw [← HN.out]; exact hlt))
      have HME := Lib.hid (mid_end ll i)
      have hatl := atF_le (gl ll i) (srt ll i) i
      have hyes := fun t h => atF_yes (x := gl ll i) (l := srt ll i) (k := t) h
      have hno := fun t h => atF_no (x := gl ll i) (l := srt ll i) (k := t) h
      generalize hAT : atF (gl ll i) (srt ll i) i = at' at *
      have HAT := Lib.hid hAT
      have HYES := Lib.hid hyes
      have HNO := Lib.hid hno
      clear hAT hyes hno
      go_wp2_with (fail)
      go_loopw [9] (fun u9 wr => ∃ (j : Nat) (va : List Value), j ≤ i ∧ u9 = .int .i64 j ∧ Hid (at' = atF (gl ll i) (srt ll i) j) ∧ wr.ownsRow base 24 1 (.slice (some ⟨g, 0, none⟩) n c) n va ∧ RowsO wr base va (midL ll i j) ∧ w.grownBy wr (some g)) (fun u9 _ => (intOf u9).toNat)
      case atStart => exact ⟨i, va, Nat.le_refl _, rfl, hidP HAT.out.symm, ho, by rw [HMS.out]; exact hr, hg⟩
      case round =>
        clear ho hr hg
        obtain ⟨ws, rfl⟩ : ∃ ws : World, ws = wr := ⟨_, rfl⟩
        obtain ⟨j, va, hj, rfl, HT, ho, hr, hg⟩ := hrel
        by_cases hj0 : 0 < j
        · have hvl : va.length = n := by have := hr.1; rw [midL_len (by rw [← HN.out]; exact hlt) hj] at this; rw [this, HN.out]
          have e1 := own_hsrc ho ⟨g, 0, none⟩ rfl j _ (gv_at (vs := va) (i := j) (by omega))
          have e2 := own_hsrc ho ⟨g, 0, none⟩ rfl (j - 1) _ (gv_at (vs := va) (i := j - 1) (by omega))
          rw [Go.WideShapes.add_plain, Nat.zero_add] at e1 e2
          have hx1 := hr.2.1 j (by omega)
          have hx2 := hr.2.1 (j - 1) (by omega)
          rw [midL_gl hj, if_neg (by omega), if_pos rfl] at hx1
          rw [midL_gl hj, if_pos (by omega)] at hx2
          obtain ⟨Ax, cx, hvx, _⟩ := own_slice' hx1
          obtain ⟨Ay, cy, hvy, _⟩ := own_slice' hx2
          have hgw := (ho.lt g rfl).2
          have hc1 := fun (W : World) (hb : Below ws.heap.size ws W) => i_cmpB Ax Ay (gl ll i).length cx (gl (srt ll i) (j - 1)).length cy (gl ll i) (gl (srt ll i) (j - 1)) W rfl rfl (HROW.out i hlt) (by have := HROW2.out i (by rw [← HN.out]; omega) (j - 1) (by omega); exact this) ((show IS ws ws.heap.size Ax (gl ll i) from (show OwnI ws base (.slice Ax (gl ll i).length cx) (gl ll i) by rw [← hvx]; exact hx1).is rfl).call hb) ((show IS ws ws.heap.size Ay (gl (srt ll i) (j - 1)) from (show OwnI ws base (.slice Ay (gl (srt ll i) (j - 1)).length cy) (gl (srt ll i) (j - 1)) by rw [← hvy]; exact hx2).is rfl).call hb)
          have hyes := HYES.out (j - 1)
          have hno := HNO.out (j - 1)
          rw [Nat.sub_add_cancel hj0] at hyes hno
          have hcb := cmpT_bef (gl ll i) (gl (srt ll i) (j - 1))
          have hs1' : IntKind.i64.wrap ((j : Int) - 1) = (j : Int) - 1 := IntWalk.i64_in _ (by omega)
          have hs2' : ((j : Int) - 1).toNat = j - 1 := by omega
          have hs3' : 1 ≤ (j : Int) := by omega
          have hs4' : 0 ≤ (j : Int) - 1 := by omega
          have hs5' : (j : Int) - 1 < n := by omega
          have hs6' : (j : Int) < n := by omega
          have hvx0 := Lib.hid hvx
          have hvy0 := Lib.hid hvy
          rw [hvx] at e1
          rw [hvy] at e2
          have r1 := fun d os => cell_regrown e1 d os
          have r2 := fun d os => cell_regrown e2 d os
          clear hx1 hx2 hvx hvy e1 e2
          generalize cmpT (gl ll i) (gl (srt ll i) (j - 1)) = cv at *
          cases hbe : bef (gl ll i) (gl (srt ll i) (j - 1))
          · have hcv : ¬ cv < 0 := by rw [hcb, hbe]; decide
            have HAT2 := Lib.hid (hno hbe)
            clear hno hyes hbe hcb
            go_wp2_with (fail)
            refine wp_region_quiet_below (by kernel_rfl) (by kernel_rfl) ?_
            repeat (first | go_big_quiet_step ((go_at_call 83; go_loud (exact Calls.regrown_of (hc1 _ (below_regrown _ _ _))))) | quiet_step ((go_at_call 83; go_loud (exact Calls.regrown_of (hc1 _ (below_regrown _ _ _))))))
            refine wpQuiet_nil ?_
            intro _ hw'
            obtain ⟨⟨dq, osq⟩, hw''⟩ := hw'
            subst hw''
            have hb5 := below_regrown ws dq osq
            generalize Go.Sort.grow (redrawn ws dq) osq = w5 at *
            go_wp2_with (fail)
            have hat0 : j = at' := by rw [HT.out, HAT2.out]
            subst hat0
            have hr5 := hr.below hb5
            rw [HME.out] at hr5
            refine ⟨⟨i + 1, va, by omega, by omega, by go_num, own_below ho hb5, hr5, grown_trans hg (grown_any hb5)⟩, ?_⟩
            simp [intOf]; omega
          · have hcv : cv < 0 := by rw [hcb]; exact hbe
            have HT2 := Lib.hid (HT.out.trans (hyes hbe))
            clear hno hyes hbe hcb
            go_wp2_with (fail)
            refine wp_region_quiet_below (by kernel_rfl) (by kernel_rfl) ?_
            repeat (first | go_big_quiet_step ((go_at_call 83; go_loud (exact Calls.regrown_of (hc1 _ (below_regrown _ _ _))))) | quiet_step ((go_at_call 83; go_loud (exact Calls.regrown_of (hc1 _ (below_regrown _ _ _))))))
            refine wpQuiet_nil ?_
            intro _ hw'
            obtain ⟨⟨dq, osq⟩, hw''⟩ := hw'
            subst hw''
            have hb5 := below_regrown ws dq osq
            generalize Go.Sort.grow (redrawn ws dq) osq = w5 at *
            have ho5 := own_below ho hb5
            have hr5 := hr.below hb5
            have e1 := own_hsrc ho5 ⟨g, 0, none⟩ rfl j _ (gv_at (vs := va) (i := j) (by omega))
            have e2 := own_hsrc ho5 ⟨g, 0, none⟩ rfl (j - 1) _ (gv_at (vs := va) (i := j - 1) (by omega))
            rw [Go.WideShapes.add_plain, Nat.zero_add] at e1 e2
            have z1 := ho5.frozenAt j
            have z2 := ho5.frozenAt (j - 1)
            have hsw := (swap_rows hj0 (show j < va.length by omega) (ho5 : (w5.drew).ownsRow base 24 1 (.slice (some ⟨g, 0, none⟩) n c) n va) (show RowsO w5.drew base va (midL ll i j) from hr5) (midL_sw (ll := ll) hj0 hj) (show (midL ll i (j - 1)).length = (midL ll i j).length by rw [midL_len (by rw [← HN.out]; exact hlt) (by omega), midL_len (by rw [← HN.out]; exact hlt) hj]))
            rw [hvx0.out, hvy0.out] at hsw
            rw [hvx0.out] at e1
            rw [hvy0.out] at e2
            have HSW := Lib.hid hsw
            have hgg := grown_trans hg (grown_any (row := some g) hb5)
            clear hr hr5 ho ho5 hvx0 hvy0 r1 r2 hsw
            generalize (gl ll i).length = nx at *
            generalize (gl (srt ll i) (j - 1)).length = ny at *
            go_wp2_with (fail)
            go_region_law (fail)
            all_goals
              go_wp2_with (fail)
              obtain ⟨va', w1', w2', w3'⟩ := HSW.out
              have hg9 := grown_trans hgg w3'
              go_roundw
              case rel => exact ⟨j - 1, va', by omega, by go_num, HT2.out, w1', w2', by first | exact grown_drewN hg9 1 | exact hg9⟩
              case measure => simp [intOf]; omega
        · have hng : ¬ (0 : Int) < (j : Int) := by omega
          have hat0 : j = at' := by have h := HT.out; have e : j = 0 := (by omega); rw [e] at h; rw [e, h]; rfl
          subst hat0
          rw [HME.out] at hr
          have HRR := Lib.hid hr
          clear hr
          go_wp2_with (go_quiet (fail))
          go_roundw
          case rel => exact ⟨i + 1, va, by omega, by omega, by go_num, own_dr ho _, HRR.out.drewN _, grown_drewN hg _⟩
          case measure => simp [intOf]; omega
    · obtain rfl : i = n := by omega
      have e : outL ll i = srt ll i := by rw [HN.out]; exact HOA.out
      rw [e] at hr
      have HRR := Lib.hid hr
      clear hr e
      go_wp2_with (fail)
      go_end0
      exact ⟨rfl, va, ho, HRR.out, hg⟩
end Go.Proofs.YtglijcdnnaekkaaGreat
