/- Contracts: GroupNamed, SizeOf, IsSolvableName. -/
import Derived.Test.YtkhadipfibllnaaA81
namespace Go.Proofs.Ytkhadipfibllnaa
set_option linter.unusedVariables false
set_option linter.unusedSimpArgs false
open Go.RowKit

set_option maxHeartbeats 2000000 in
theorem i_groupNamed_no (s : ByteArray) (hs : NoN s) (w : World) : Calls Try.prog 55 #[.string s] w (GRB w.heap.size 0 [] false w) := by
  have HS := Lib.hid hs
  clear hs
  have B0 := BK.new w 30 #[.int .i64 0, .slice none 0 0]
  have hb0 := (Below.refl w.heap.size w).alloc (Nat.le_refl _) (.cells #[.int .i64 0, .slice none 0 0] 30)
  go_enter Try.func55, Try.ntmps55
  go_wp2_with (go_at_call 94; refine (i_library _).mono ?_; rintro e w1 ⟨b, rfl, hlib, hb1⟩; have hbx1 := B0.below hb1 (by simp); have hbw1 := bel_call hb0 hb1; clear B0 hb0)
  go_loopw [8] (fun u8 wr => ∃ k : Nat, k ≤ 14 ∧ u8 = .int .i64 k ∧ LIBR wr wr.heap.size b ∧ BK wr w.heap.size 30 #[.int .i64 0, .slice none 0 0] ∧ Below w.heap.size w wr) (fun u8 _ => 14 - (intOf u8).toNat)
  case atStart => exact ⟨0, Nat.zero_le _, rfl, hlib, hbx1, hbw1⟩
  case round =>
    clear hlib hbx1 hbw1 hb1
    obtain ⟨ws, rfl⟩ : ∃ ws : World, ws = wr := ⟨_, rfl⟩
    obtain ⟨k, hk, rfl, hlib, hbx, hbw⟩ := hrel
    have hszw := hbw.size
    by_cases hk14 : k < 14
    · obtain ⟨nb, A, c, hn, e0, e1, e2, hii⟩ := hlib.2 k (by omega)
      have hlibA := fun o => ((hlib.below ((Below.refl _ _).alloc (Nat.le_refl _) o)).more (by simp : ws.heap.size ≤ (ws.alloc o).heap.size))
      have hbxA := fun o => hbx.alloc o
      have ht : (nb.toList == s.toList) = false := by
        rw [hn, beq_eq_false_iff_ne]
        intro h; exact HS.out k hk14 h.symm
      generalize hG : (lbG k).length = G at *
      clear hn hii hG
      go_wp2_with (fail)
      go_roundw
      case rel => exact ⟨k + 1, by omega, by go_num, hlibA _, hbxA _, hbw.alloc hszw _⟩
      case measure => simp [intOf]; omega
    · obtain rfl : k = 14 := by omega
      obtain ⟨f2, f3, fz2, fz3⟩ := hbx.two
      go_wp2_with (fail)
      have h5 := (hbx.set 0 (.int .i64 0)).set 1 (.slice none 0 0)
      have hb9 := (hbw.setCell (p := ⟨w.heap.size, 0, none⟩) (by simp) (.int .i64 0)).setCell (p := ⟨w.heap.size, 1, none⟩) (by simp) (.slice none 0 0)
      generalize ((ws.setCell ⟨w.heap.size, 0, none⟩ (.int .i64 0)).setCell ⟨w.heap.size, 1, none⟩ (.slice none 0 0)) = w9 at *
      obtain ⟨d0, d1, _, _⟩ := BK.two (x := .int .i64 0) (y := .slice none 0 0) (by simpa using h5)
      (try simp only [Exit.inBlock, Exit.then])
      refine bodyPost_ret (v := .tuple #[.agg #[.int .i64 0, .slice none 0 0], .bool false]) (by simp [results, Try.results55, go_sem, d0, d1]; try rfl) rfl ?_
      exact ⟨_, rfl, World.ownsRow_nil _ _ _ _, hb9⟩
theorem i_groupNamed (s : ByteArray) (p : Int) (l : List Int) (code : Int) (h : NV s p l code) (w : World) : Calls Try.prog 55 #[.string s] w (GRB w.heap.size p l (code == 0) w) := by
  rcases h with ⟨i, hi, hs, rfl, rfl, rfl⟩ | ⟨hs, rfl, rfl, rfl⟩
  · exact i_groupNamed_yes i hi s hs w
  · exact i_groupNamed_no s hs w
theorem nv_code {s : ByteArray} {p : Int} {l : List Int} {code : Int} (h : NV s p l code) : (code = 0 ∨ (code = 4 ∧ p = 0 ∧ l = [])) ∧ l.length ≤ 720 := by
  rcases h with ⟨i, hi, hs, rfl, rfl, rfl⟩ | ⟨hs, rfl, rfl, rfl⟩
  · refine ⟨.inl rfl, ?_⟩
    obtain ⟨p1, p2, g1, g2, hg⟩ := lb_in i hi
    have h1 := (RG_gi hg).1
    have h2 := lsL_len (RG (lbP i) (lbG i)).2
    have h3 := (fact_le (k := lbP i) (by omega)).2
    unfold RK
    omega
  · exact ⟨.inr ⟨rfl, rfl, rfl⟩, by simp⟩
set_option maxHeartbeats 2000000 in
theorem i_GroupNamed (s : ByteArray) (p : Int) (l : List Int) (code : Int) (h : NV s p l code) (w : World) : Calls Try.prog 19 #[.string s] w (GRC w.heap.size p l code w) := by
  have hg := fun W => i_groupNamed s p l code h W
  have hc := nv_code h
  clear h
  have B0 := BK.new w 30 #[.int .i64 0, .slice none 0 0]
  have hb0 := (Below.refl w.heap.size w).alloc (Nat.le_refl _) (.cells #[.int .i64 0, .slice none 0 0] 30)
  rcases hc with ⟨rfl | ⟨rfl, rfl, rfl⟩, _⟩
  · generalize hL : l.length = L at *
    have HL := Lib.hid hL
    clear hL
    have hg : ∀ W, Calls Try.prog 55 #[.string s] W (GRB W.heap.size p l true W) := hg
    go_enter Try.func19, Try.ntmps19
    go_wp2_with (go_at_call 55; refine (hg _).mono ?_; rintro e w1 ⟨v, rfl, ho, hb1⟩; obtain ⟨Ar, cr, rfl, _⟩ := own_slice' ho; rw [HL.out]; have hbx1 := (B0.below hb1 (by simp)).alloc (.cells #[.int .i64 p, .slice Ar L cr] 30); have hbw1 := bel_call hb0 hb1; clear B0 hb0; obtain ⟨f2, f3, fz2, fz3⟩ := hbx1.two; obtain ⟨c0, c1, _, _⟩ := BK.two (BK.new w1 30 #[.int .i64 p, .slice Ar L cr]))
    have z1 := hb1.size
    simp only [World.size_alloc] at z1
    rw [HL.out] at ho
    have ho5 := World.ownsRow.alloc ho (.cells #[.int .i64 p, .slice Ar L cr] 30)
    simp only [World.size_alloc] at ho5
    have hbw := hbw1.alloc (by omega) (.cells #[.int .i64 p, .slice Ar L cr] 30)
    have hbx5 := hbx1
    generalize w1.alloc (.cells #[.int .i64 p, .slice Ar L cr] 30) = w5 at *
    have h5 := (hbx5.set 0 (.int .i64 p)).set 1 (.slice Ar L cr)
    have hb9 := (hbw.setCell (p := ⟨w.heap.size, 0, none⟩) (by simp; try omega) (.int .i64 p)).setCell (p := ⟨w.heap.size, 1, none⟩) (by simp; try omega) (.slice Ar L cr)
    have ho9 := ownsRow_setCell_below (ownsRow_setCell_below ho5 (a := ⟨w.heap.size, 0, none⟩) (by simp; try omega) (.int .i64 p)) (a := ⟨w.heap.size, 1, none⟩) (by simp; try omega) (.slice Ar L cr)
    generalize ((w5.setCell ⟨w.heap.size, 0, none⟩ (.int .i64 p)).setCell ⟨w.heap.size, 1, none⟩ (.slice Ar L cr)) = w9 at *
    obtain ⟨d0, d1, _, _⟩ := BK.two (x := .int .i64 p) (y := .slice Ar L cr) (by simpa using h5)
    (try simp only [Exit.inBlock, Exit.then])
    refine bodyPost_ret (v := .tuple #[.agg #[.int .i64 p, .slice Ar L cr], .int .i64 0]) (by simp [results, Try.results19, go_sem, d0, d1]; try rfl) rfl ?_
    exact ⟨_, rfl, by rw [HL.out]; exact own_mono ho9 (by omega), hb9⟩
  · have hg : ∀ W, Calls Try.prog 55 #[.string s] W (GRB W.heap.size 0 [] false W) := hg
    go_enter Try.func19, Try.ntmps19
    go_wp2_with (go_at_call 55; refine (hg _).mono ?_; rintro e w1 ⟨v, rfl, ho, hb1⟩; obtain ⟨Ar, cr, rfl, _⟩ := own_slice' ho; have hbx1 := (B0.below hb1 (by simp)).alloc (.cells #[.int .i64 0, .slice Ar 0 cr] 30); have hbw1 := bel_call hb0 hb1; clear B0 hb0; obtain ⟨f2, f3, fz2, fz3⟩ := hbx1.two)
    have z1 := hb1.size
    simp only [World.size_alloc] at z1
    have hbw := hbw1.alloc (by omega) (.cells #[.int .i64 0, .slice Ar 0 cr] 30)
    generalize w1.alloc (.cells #[.int .i64 0, .slice Ar 0 cr] 30) = w5 at *
    have h5 := (hbx1.set 0 (.int .i64 0)).set 1 (.slice none 0 0)
    have hb9 := (hbw.setCell (p := ⟨w.heap.size, 0, none⟩) (by simp) (.int .i64 0)).setCell (p := ⟨w.heap.size, 1, none⟩) (by simp) (.slice none 0 0)
    generalize ((w5.setCell ⟨w.heap.size, 0, none⟩ (.int .i64 0)).setCell ⟨w.heap.size, 1, none⟩ (.slice none 0 0)) = w9 at *
    obtain ⟨d0, d1, _, _⟩ := BK.two (x := .int .i64 0) (y := .slice none 0 0) (by simpa using h5)
    (try simp only [Exit.inBlock, Exit.then])
    refine bodyPost_ret (v := .tuple #[.agg #[.int .i64 0, .slice none 0 0], .int .i64 4]) (by simp [results, Try.results19, go_sem, d0, d1]; try rfl) rfl ?_
    exact ⟨_, rfl, World.ownsRow_nil _ _ _ _, hb9⟩
set_option maxHeartbeats 2000000 in
theorem s_GroupNamed (s : ByteArray) (p : Int) (l : List Int) (code : Int) (h : NV s p l code) (w : World) : Calls Try.prog 18 #[.string s] w (GRC w.heap.size p l code w) := by
  have B0 := BK.new w 30 #[.int .i64 0, .slice none 0 0]
  have hb0 := (Below.refl w.heap.size w).alloc (Nat.le_refl _) (.cells #[.int .i64 0, .slice none 0 0] 30)
  rcases h with ⟨i, hi, hs, rfl, rfl, rfl⟩ | ⟨hs, rfl, rfl, rfl⟩
  · have hp := fun W => s_l24Points i hi s hs W
    have hg := fun W => s_l24Group i hi s hs W
    have hp1 := (lb_in i hi).1
    clear hs
    generalize RK (lbP i) (lbG i) = R at *
    generalize lbP i = p at *
    have hpz : ((p : Int) == 0) = false := by rw [beq_eq_false_iff_ne]; omega
    generalize hL : R.length = L at *
    have HL := Lib.hid hL
    clear hL
    go_enter Try.func18, Try.ntmps18
    go_wp2_with (first
      | (go_at_call 53; refine (hp _).mono ?_; rintro e w1 ⟨rfl, hb1⟩)
      | (go_at_call 54; refine (hg _).mono ?_; rintro e w5 ⟨v, rfl, ho5, hb5⟩; obtain ⟨Ar, cr, rfl, _⟩ := own_slice' ho5; rw [HL.out]; have z1 := hb1.size; simp only [World.size_alloc] at z1; have hbx5 := (B0.below hb1 (by simp)).below hb5 (by omega); obtain ⟨f2, f3, fz2, fz3⟩ := hbx5.two))
    have hbw := bel_call (bel_call hb0 hb1) hb5
    rw [HL.out] at ho5
    have h5 := (hbx5.set 0 (.int .i64 (p : Int))).set 1 (.slice Ar L cr)
    have hb9 := (hbw.setCell (p := ⟨w.heap.size, 0, none⟩) (by simp; try omega) (.int .i64 (p : Int))).setCell (p := ⟨w.heap.size, 1, none⟩) (by simp; try omega) (.slice Ar L cr)
    have ho9 := ownsRow_setCell_below (ownsRow_setCell_below ho5 (a := ⟨w.heap.size, 0, none⟩) (by simp; try omega) (.int .i64 (p : Int))) (a := ⟨w.heap.size, 1, none⟩) (by simp; try omega) (.slice Ar L cr)
    generalize ((w5.setCell ⟨w.heap.size, 0, none⟩ (.int .i64 (p : Int))).setCell ⟨w.heap.size, 1, none⟩ (.slice Ar L cr)) = w9 at *
    obtain ⟨d0, d1, _, _⟩ := BK.two (x := .int .i64 (p : Int)) (y := .slice Ar L cr) (by simpa using h5)
    (try simp only [Exit.inBlock, Exit.then])
    refine bodyPost_ret (v := .tuple #[.agg #[.int .i64 (p : Int), .slice Ar L cr], .int .i64 0]) (by simp [results, Try.results18, go_sem, d0, d1]; try rfl) rfl ?_
    exact ⟨_, rfl, by rw [HL.out]; exact own_mono ho9 (by omega), hb9⟩
  · obtain ⟨f2, f3, fz2, fz3⟩ := B0.two
    go_enter Try.func18, Try.ntmps18
    go_wp2_with (go_at_call 53; refine (s_l24Points_no s hs _).mono ?_; rintro e w1 ⟨rfl, nq, rfl⟩)
    have hbw := below_drewN hb0 nq
    have h5 := ((B0.drewN nq).set 0 (.int .i64 0)).set 1 (.slice none 0 0)
    generalize (w.alloc (.cells #[.int .i64 0, .slice none 0 0] 30)).drewN nq = w5 at *
    have hb9 := (hbw.setCell (p := ⟨w.heap.size, 0, none⟩) (by simp) (.int .i64 0)).setCell (p := ⟨w.heap.size, 1, none⟩) (by simp) (.slice none 0 0)
    generalize ((w5.setCell ⟨w.heap.size, 0, none⟩ (.int .i64 0)).setCell ⟨w.heap.size, 1, none⟩ (.slice none 0 0)) = w9 at *
    obtain ⟨d0, d1, _, _⟩ := BK.two (x := .int .i64 0) (y := .slice none 0 0) (by simpa using h5)
    (try simp only [Exit.inBlock, Exit.then])
    refine bodyPost_ret (v := .tuple #[.agg #[.int .i64 0, .slice none 0 0], .int .i64 4]) (by simp [results, Try.results18, go_sem, d0, d1]; try rfl) rfl ?_
    exact ⟨_, rfl, World.ownsRow_nil _ _ _ _, hb9⟩
set_option maxHeartbeats 1000000 in
theorem i_SizeOf (s : ByteArray) (p : Int) (l : List Int) (code : Int) (h : NV s p l code) (w : World) : Calls Try.prog 24 #[.string s] w (M2 (l.length : Nat) code w) := by
  have hg := fun W => i_GroupNamed s p l code h W
  have hc := (nv_code h).2
  clear h
  generalize hL : l.length = L at *
  have HL := Lib.hid hL
  clear hL
  go_enter Try.func24, Try.ntmps24
  go_wp2_with (first
    | (go_at_call 19; refine (hg _).mono ?_; rintro e w1 ⟨v, rfl, ho, hb1⟩; obtain ⟨Ar, cr, rfl, _⟩ := own_slice' ho; rw [HL.out]; obtain ⟨c0, c1, _, _⟩ := BK.two (BK.new w1 30 #[.int .i64 p, .slice Ar L cr]))
    | go_in)
  go_ret2
  exact ⟨rfl, hb1.alloc hb1.size _⟩
set_option maxRecDepth 100000 in
theorem grp_ranks (p : Int) (v : Value) (W : World) : (Instr.field 30 (.agg #[.int .i64 p, v]) 1).run Try.prog W = .ok v W := by
  first | rfl | kernel_rfl | (simp [Instr.field]; rfl) | (unfold Instr.field; simp [go_sem])
set_option maxRecDepth 10000 in
set_option maxHeartbeats 1000000 in
theorem s_SizeOf (s : ByteArray) (p : Int) (l : List Int) (code : Int) (h : NV s p l code) (w : World) : Calls Try.prog 23 #[.string s] w (M2 (l.length : Nat) code w) := by
  rcases h with ⟨i, hi, hs, rfl, rfl, rfl⟩ | ⟨hs, rfl, rfl, rfl⟩
  · have hp := fun W => s_l24Points i hi s hs W
    have hg := fun W => s_l24Group i hi s hs W
    have hp1 := (lb_in i hi).1
    clear hs
    generalize RK (lbP i) (lbG i) = R at *
    generalize lbP i = p at *
    have hpz : ((p : Int) == 0) = false := by rw [beq_eq_false_iff_ne]; omega
    generalize hL : R.length = L at *
    have HL := Lib.hid hL
    clear hL
    go_enter Try.func23, Try.ntmps23
    go_wp2_with (first
      | (go_at_call 53; refine (hp _).mono ?_; rintro e w1 ⟨rfl, hb1⟩)
      | (go_at_call 54; refine (hg _).mono ?_; rintro e w5 ⟨v, rfl, ho5, hb5⟩; obtain ⟨Ar, cr, rfl, _⟩ := own_slice' ho5; rw [HL.out]; have hfl := fun W => grp_ranks (p : Int) (.slice Ar L cr) W))
    go_ret2
    exact ⟨rfl, bel_call hb1 hb5⟩
  · go_enter Try.func23, Try.ntmps23
    go_wp2_with (go_at_call 53; refine (s_l24Points_no s hs _).mono ?_; rintro e w1 ⟨rfl, nq, rfl⟩)
    go_ret2
    exact ⟨rfl, below_drewN (Below.refl _ _) _⟩
set_option maxHeartbeats 1000000 in
theorem law_SizeOf (s : ByteArray) (w : World) : Calls Try.prog 5 #[.string s] w (M (.bool true) w) := by
  obtain ⟨p, l, code, h⟩ := nv_ex s
  have h1 := fun W => s_SizeOf s p l code h W
  have h2 := fun W => i_SizeOf s p l code h W
  clear h
  generalize ((l.length : Nat) : Int) = L at *
  by_cases hbig : 1048576 < s.size
  · go_enter Try.func5, Try.ntmps5
    go_wp2_with (fail)
    go_ret
    exact ⟨rfl, Below.refl _ _⟩
  · go_enter Try.func5, Try.ntmps5
    go_wp2_with (first
      | (go_at_call 23; refine (h1 _).mono ?_; rintro e w1 ⟨rfl, hb1⟩)
      | (go_at_call 24; refine (h2 _).mono ?_; rintro e w2 ⟨rfl, hb2⟩))
    go_ret
    exact ⟨rfl, bel_call hb1 hb2⟩
end Go.Proofs.Ytkhadipfibllnaa
