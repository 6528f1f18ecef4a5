/- Lists that are the same; types in a group. -/
import Derived.Test.YtkhadipfibllnaaA99
import Derived.Test.YtkhadipfibllnaaA96
namespace Go.Proofs.Ytkhadipfibllnaa
set_option linter.unusedVariables false
set_option linter.unusedSimpArgs false
open Go.RowKit

theorem ext_len {xs ys : List Int} (h : xs.length = ys.length) (h' : ∀ k, k < xs.length → gt xs k = gt ys k) : xs = ys := gt_ext h h'
set_option maxHeartbeats 1000000 in
theorem s_same (A A' : Option Addr) (n c n' c' : Nat) (xs ys : List Int) (w : World) (B B' : Nat) (hn : n = xs.length) (hn' : n' = ys.length) (hl : n ≤ 1048576) (hl' : n' ≤ 1048576) (hs : IS w B A xs) (hs' : IS w B' A' ys) :
    Calls Try.prog 82 #[.slice A n c, .slice A' n' c'] w (Q (.bool (decide (xs = ys))) w) := by
  have HN := Lib.hid hn
  have HN' := Lib.hid hn'
  clear hn hn'
  by_cases hne : n = n'
  · subst hne
    go_enter Try.func82, Try.ntmps82
    go_wp2_with (fail)
    go_loopw [5] (fun u wr => ∃ k : Nat, k ≤ n ∧ u = .int .i64 k ∧ Hid (∀ j, j < k → gt xs j = gt ys j) ∧ ∃ m, wr = w.drewN m) (fun u _ => n - (intOf u).toNat)
    case atStart => exact ⟨0, Nat.zero_le _, rfl, fun j hj => by omega, 0, rfl⟩
    case round =>
      obtain ⟨k, hk, rfl, HE, m, rfl⟩ := hrel
      by_cases hlt : k < n
      · obtain ⟨b, off, rfl, hbb, hcell⟩ := IS.at hs (k := k) (by rw [← HN.out]; exact hlt)
        obtain ⟨b', off', rfl, hbb', hcell'⟩ := IS.at hs' (k := k) (by rw [← HN'.out]; exact hlt)
        have h1 := hcell k (by rw [← HN.out]; exact hlt)
        have h2 := hcell' k (by rw [← HN'.out]; exact hlt)
        clear hcell hcell'
        by_cases heq : gt xs k = gt ys k
        · rw [← heq] at h2
          have hn2 : ∀ j, j < k + 1 → gt xs j = gt ys j := fun j hj => by
            by_cases hjk : j = k
            · subst hjk; exact heq
            · exact HE.out j (by omega)
          have HE2 := Lib.hid hn2
          clear hn2 heq
          go_wp2_with (go_quiet (fail))
          go_roundw
          case rel => exact ⟨k + 1, by omega, by go_num, HE2.out, by first | exact dq1 | exact dq2⟩
          case measure => simp [intOf]; omega
        · have hf : decide (xs = ys) = false := by
            rw [decide_eq_false_iff_not]
            intro h
            rw [h] at heq
            exact heq rfl
          have HF := Lib.hid hf
          have ht : (gt xs k == gt ys k) = false := by rw [beq_eq_false_iff_ne]; exact heq
          clear hf heq
          generalize gt xs k = x at *
          generalize gt ys k = y at *
          go_wp2_with (go_quiet (fail))
          go_ret
          exact ⟨ret_bool HF.out.symm, by first | exact dq1 | exact dq2⟩
      · obtain rfl : k = n := by omega
        have hf : decide (xs = ys) = true := by
          rw [decide_eq_true_eq]
          exact ext_len (by rw [← HN.out, ← HN'.out]) (fun j hj => HE.out j (by rw [HN.out]; exact hj))
        have HF := Lib.hid hf
        clear hf
        go_wp2_with (fail)
        go_ret
        exact ⟨ret_bool HF.out.symm, by first | exact dq1 | exact dq2⟩
  · have hf : decide (xs = ys) = false := by
      rw [decide_eq_false_iff_not]
      intro h
      exact hne (by rw [HN.out, HN'.out, h])
    have HF := Lib.hid hf
    have hz : ¬ (n : Int) = (n' : Int) := by omega
    clear hf
    go_enter Try.func82, Try.ntmps82
    go_wp2_with (fail)
    go_ret
    exact ⟨ret_bool HF.out.symm, 0, rfl⟩
set_option maxHeartbeats 1000000 in
theorem i_same (A A' : Option Addr) (n c n' c' : Nat) (xs ys : List Int) (w : World) (B B' : Nat) (hn : n = xs.length) (hn' : n' = ys.length) (hl : n ≤ 1048576) (hl' : n' ≤ 1048576) (hs : IS w B A xs) (hs' : IS w B' A' ys) :
    Calls Try.prog 85 #[.slice A n c, .slice A' n' c'] w (Q (.bool (decide (xs = ys))) w) := by
  have HN := Lib.hid hn
  have HN' := Lib.hid hn'
  clear hn hn'
  by_cases hne : n = n'
  · subst hne
    go_enter Try.func85, Try.ntmps85
    go_wp2_with (fail)
    go_loopw [13] (fun u wr => ∃ k : Nat, k ≤ n ∧ u = .int .i64 k ∧ Hid (∀ j, j < k → gt xs j = gt ys j) ∧ ∃ m, wr = w.drewN m) (fun u _ => n - (intOf u).toNat)
    case atStart => exact ⟨0, Nat.zero_le _, rfl, fun j hj => by omega, 0, rfl⟩
    case round =>
      obtain ⟨k, hk, rfl, HE, m, rfl⟩ := hrel
      by_cases hlt : k < n
      · obtain ⟨b, off, rfl, hbb, hcell⟩ := IS.at hs (k := k) (by rw [← HN.out]; exact hlt)
        obtain ⟨b', off', rfl, hbb', hcell'⟩ := IS.at hs' (k := k) (by rw [← HN'.out]; exact hlt)
        have h1 := hcell k (by rw [← HN.out]; exact hlt)
        have h2 := hcell' k (by rw [← HN'.out]; exact hlt)
        clear hcell hcell'
        by_cases heq : gt xs k = gt ys k
        · rw [← heq] at h2
          have hn2 : ∀ j, j < k + 1 → gt xs j = gt ys j := fun j hj => by
            by_cases hjk : j = k
            · subst hjk; exact heq
            · exact HE.out j (by omega)
          have HE2 := Lib.hid hn2
          clear hn2 heq
          go_wp2_with (go_quiet (fail))
          go_roundw
          case rel => exact ⟨k + 1, by omega, by go_num, HE2.out, by first | exact dq1 | exact dq2⟩
          case measure => simp [intOf]; omega
        · have hf : decide (xs = ys) = false := by
            rw [decide_eq_false_iff_not]
            intro h
            rw [h] at heq
            exact heq rfl
          have HF := Lib.hid hf
          have ht : (gt xs k == gt ys k) = false := by rw [beq_eq_false_iff_ne]; exact heq
          clear hf heq
          generalize gt xs k = x at *
          generalize gt ys k = y at *
          go_wp2_with (go_quiet (fail))
          go_ret
          exact ⟨ret_bool HF.out.symm, by first | exact dq1 | exact dq2⟩
      · obtain rfl : k = n := by omega
        have hf : decide (xs = ys) = true := by
          rw [decide_eq_true_eq]
          exact ext_len (by rw [← HN.out, ← HN'.out]) (fun j hj => HE.out j (by rw [HN.out]; exact hj))
        have HF := Lib.hid hf
        clear hf
        go_wp2_with (fail)
        go_ret
        exact ⟨ret_bool HF.out.symm, by first | exact dq1 | exact dq2⟩
  · have hf : decide (xs = ys) = false := by
      rw [decide_eq_false_iff_not]
      intro h
      exact hne (by rw [HN.out, HN'.out, h])
    have HF := Lib.hid hf
    have hz : ¬ (n : Int) = (n' : Int) := by omega
    clear hf
    go_enter Try.func85, Try.ntmps85
    go_wp2_with (fail)
    go_ret
    exact ⟨ret_bool HF.out.symm, 0, rfl⟩
set_option maxRecDepth 10000 in
set_option maxHeartbeats 4000000 in
theorem s_l21Type (A : Option Addr) (n c : Nat) (a : List Int) (w : World) (hn1 : 1 ≤ n) (hn6 : n ≤ 6) (ha : InR n a) (hs : IS w w.heap.size A a) :
    Calls Try.prog 103 #[.slice A n c] w (MI w.heap.size (cycL a).length (tyS a) w) := by
  have hcy := s_cycles A n c a w hn1 hn6 ha hs
  have hle := cycL_len a
  rw [ha.1] at hle
  have hty : tyS a = insS (lnL (cycL a)) (cycL a).length := by
    have h := insS_sort (lnL (cycL a))
    rw [show (lnL (cycL a)).length = (cycL a).length by simp [lnL]] at h
    rw [h]; rfl
  generalize tyS a = ty at *
  generalize cycL a = ll at *
  generalize hL : ll.length = L at *
  have hll : (lnL ll).length = L := by rw [← hL]; simp [lnL]
  have HL := Lib.hid hL
  have HTY := Lib.hid hty
  have HLL := Lib.hid hll
  clear hL hty ha hs hll
  unfold MII at hcy
  rw [HL.out] at hcy
  obtain ⟨i0, hi, hz0, hz1, hz2⟩ := info_parts infoI64
  go_enter Try.func103, Try.ntmps103
  go_wp2_with (go_at_call 137; refine hcy.mono ?_; rintro e w2 ⟨A', c', vs, rfl, ho, hr, hb2⟩)
  have hii := OwnII.ii ho hr
  have hz2' := hb2.size
  clear ho hr
  go_loopw [4, 5] (fun u3 u9 wr => ∃ k : Nat, k ≤ L ∧ u9 = .int .i64 k ∧ wr.ownsRow w2.heap.size 2 1 u3 k (ints (lnL (ll.take k))) ∧ Below w2.heap.size w2 wr) (fun _ u9 _ => L - (intOf u9).toNat)
  case atStart => exact ⟨0, Nat.zero_le _, rfl, World.ownsRow_lit w2 #[] 0 (Nat.le_refl _) (by simp [maxLen]) rfl, (Below.refl _ _).alloc (Nat.le_refl _) _⟩
  case round =>
    obtain ⟨ws, rfl⟩ : ∃ ws : World, ws = wr := ⟨_, rfl⟩
    obtain ⟨k, hk, rfl, hown, hb⟩ := hrel
    obtain ⟨A3, c3, rfl, _⟩ := own_slice' hown
    have hsz := hb.size
    by_cases hlt : k < L
    · have hkl : k < ll.length := by rw [HL.out]; exact hlt
      obtain ⟨b, off, rfl, hbb, hcell⟩ := hii.at hkl
      obtain ⟨Ac, cc, e1, _, _, _⟩ := hcell k hkl
      have e1 := (hb.cell (p := ⟨b, off + k, none⟩) hbb).trans e1
      have hst := lnL_take hkl
      generalize (gl ll k).length = m at *
      have HST := Lib.hid hst
      clear hst hcell
      go_wp2_with (first
        | (at_builtin; refine wpList_append_src rfl (.tmp 15) (.tmp 21) 28 rfl w2.heap.size 2 i0 (.int .i64 0) 1 8 Try.underlying28 hi hz0 hz1 hz2 rfl (by omega) (.slice A3 k c3) k (ints (lnL (ll.take k))) rfl (World.ownsRow.alloc hown _) (some ⟨ws.heap.size, 0, none⟩) 1 1 [.int .i64 (m : Int)] rfl rfl (one_src ws _ _) (by intro h; cases h) (by intro u hu; simp at hu; subst hu; rfl) (by simp only [maxLen]; omega) (by omega) (by simp; omega) ?_; intro v7 w7 hown7 hg7 hat7)
        | go_in)
      go_roundw
      case rel => exact ⟨k + 1, by omega, by go_num, by rw [HST.out, ints_snoc]; exact hown7, (hb.alloc hsz _).grown hg7 (by simp; omega) (fun g hg => (hown.lt g hg).1)⟩
      case measure => simp [intOf]; omega
    · obtain rfl : k = L := by omega
      rw [List.take_of_length_le (by rw [HL.out]; exact Nat.le_refl _)] at hown
      have his := own_isn hown HLL.out.symm
      go_wp2_with (go_at_call 138; refine (s_l11Sorted A3 k c3 (lnL ll) _ HLL.out.symm (by omega) his).mono ?_; rintro e w5 ⟨v, rfl, hown5, hb5⟩)
      go_ret
      have hz5 := hb.size
      exact ⟨_, rfl, by rw [HTY.out]; exact own_mono hown5 (by omega), bel_call (hb2.trans (hb.mono hz2')) hb5⟩
/-- Some permutation of the group has the type. -/
def hasT (n : Nat) (l xs : List Int) : Bool := (memL n l).any fun a => decide (tyS a = xs)
theorem tyS_len (a : List Int) : (tyS a).length = (cycL a).length := by simp [tyS, lnL]
set_option maxRecDepth 10000 in
set_option maxHeartbeats 2000000 in
theorem i_hasTy1 (A Ax : Option Addr) (n c m d gx : Nat) (a xs : List Int) (w : World) (hn1 : 1 ≤ n) (hn6 : n ≤ 6) (ha : InR n a) (hs : IS w w.heap.size A a) (hm : m = xs.length) (hml : m ≤ 1048576) (hxs : IS w w.heap.size Ax xs) (hgx : gx < w.heap.size) (hx : w.cell? ⟨gx, 0, none⟩ = some (.slice Ax m d)) :
    Calls Try.prog 104 #[.slice A n c, .pointer (some ⟨gx, 0, none⟩)] w (M (.bool (decide (tyS a = xs))) w) := by
  have hc := i_cycleType A n c a w.drew hn1 hn6 ha hs
  have hle := cycL_len a
  rw [ha.1] at hle
  have htl := tyS_len a
  generalize tyS a = ty at *
  generalize (cycL a).length = L at *
  have HTL := Lib.hid htl.symm
  have HM := Lib.hid hm
  clear htl hm ha hs
  go_enter Try.func104, Try.ntmps104
  go_wp2_with (fail)
  go_region_law
    (go_simp; first
      | (go_at_call 105; refine hc.mono ?_; rintro e w2 ⟨v, rfl, ho, hb2⟩; obtain ⟨A2, c2, rfl, _⟩ := own_slice' ho; have hb2' := undrew (n := 1) hb2; have d0 := (hb2'.cell (p := ⟨gx, 0, none⟩) hgx).trans hx)
      | (go_at_call 85; refine (i_same A2 Ax L c2 m d ty xs w2 w2.heap.size w2.heap.size HTL.out HM.out (by omega) hml (own_isn ho HTL.out) (hxs.call hb2')).mono ?_; rintro e w3 ⟨rfl, nq, rfl⟩))
  all_goals
    go_wp2_with (fail)
    go_ret
    exact ⟨rfl, below_drewN hb2' _⟩
end Go.Proofs.Ytkhadipfibllnaa
