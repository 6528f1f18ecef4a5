/- Contracts: GroupNamed, SizeOf, IsSolvableName. -/
import Derived.Test.YtcbjfdeigpdbdaaA81
namespace Go.Proofs.Ytcbjfdeigpdbdaa
set_option linter.unusedVariables false
set_option linter.unusedSimpArgs false
open Go.RowKit

set_option maxHeartbeats 2000000 in
theorem i_groupNamed_no (s : ByteArray) (hs : NoN s) (w : World) : Calls Try.prog 117 #[.string s] w (GRB w.heap.size 0 [] false w) := by
  have HS := Lib.hid hs
  clear hs
  have B0 := BK.new w 39 #[.int .i64 0, .slice none 0 0]
  have hb0 := (Below.refl w.heap.size w).alloc (Nat.le_refl _) (.cells #[.int .i64 0, .slice none 0 0] 39)
  go_enter Try.func117, Try.ntmps117
  go_wp2_with (go_at_call 118; refine (i_library _).mono ?_; rintro e w1 ⟨b, rfl, hlib, hb1⟩; have hbx1 := B0.below hb1 (by simp); have hbw1 := bel_call hb0 hb1; clear B0 hb0)
  go_loopw [8] (fun u8 wr => ∃ k : Nat, k ≤ 14 ∧ u8 = .int .i64 k ∧ LIBR wr wr.heap.size b ∧ BK wr w.heap.size 39 #[.int .i64 0, .slice none 0 0] ∧ Below w.heap.size w wr) (fun u8 _ => 14 - (intOf u8).toNat)
  case atStart => exact ⟨0, Nat.zero_le _, rfl, hlib, hbx1, hbw1⟩
  case round =>
    clear hlib hbx1 hbw1 hb1
    obtain ⟨ws, rfl⟩ : ∃ ws : World, ws = wr := ⟨_, rfl⟩
    obtain ⟨k, hk, rfl, hlib, hbx, hbw⟩ := hrel
    have hszw := hbw.size
    by_cases hk14 : k < 14
    · obtain ⟨nb, A, c, hn, e0, e1, e2, hii⟩ := hlib.2 k (by omega)
      have hlibA := fun o => ((hlib.below ((Below.refl _ _).alloc (Nat.le_refl _) o)).more (by simp : ws.heap.size ≤ (ws.alloc o).heap.size))
      have hbxA := fun o => hbx.alloc o
      have ht : (nb.toList == s.toList) = false := by
        rw [hn, beq_eq_false_iff_ne]
        intro h; exact HS.out k hk14 h.symm
      generalize hG : (lbG k).length = G at *
      clear hn hii hG
      go_wp2_with (fail)
      go_roundw
      case rel => exact ⟨k + 1, by omega, by go_num, hlibA _, hbxA _, hbw.alloc hszw _⟩
      case measure => simp [intOf]; omega
    · obtain rfl : k = 14 := by omega
      obtain ⟨f2, f3, fz2, fz3⟩ := hbx.two
      go_wp2_with (fail)
      have h5 := (hbx.set 0 (.int .i64 0)).set 1 (.slice none 0 0)
      have hb9 := (hbw.setCell (p := ⟨w.heap.size, 0, none⟩) (by simp) (.int .i64 0)).setCell (p := ⟨w.heap.size, 1, none⟩) (by simp) (.slice none 0 0)
      generalize ((ws.setCell ⟨w.heap.size, 0, none⟩ (.int .i64 0)).setCell ⟨w.heap.size, 1, none⟩ (.slice none 0 0)) = w9 at *
      obtain ⟨d0, d1, _, _⟩ := BK.two (x := .int .i64 0) (y := .slice none 0 0) (by simpa using h5)
      (try simp only [Exit.inBlock, Exit.then])
      refine bodyPost_ret (v := .tuple #[.agg #[.int .i64 0, .slice none 0 0], .bool false]) (by simp [results, Try.results117, go_sem, d0, d1]; try rfl) rfl ?_
      exact ⟨_, rfl, World.ownsRow_nil _ _ _ _, hb9⟩
theorem i_groupNamed (s : ByteArray) (p : Int) (l : List Int) (code : Int) (h : NV s p l code) (w : World) : Calls Try.prog 117 #[.string s] w (GRB w.heap.size p l (code == 0) w) := by
  rcases h with ⟨i, hi, hs, rfl, rfl, rfl⟩ | ⟨hs, rfl, rfl, rfl⟩
  · exact i_groupNamed_yes i hi s hs w
  · exact i_groupNamed_no s hs w
theorem nv_code {s : ByteArray} {p : Int} {l : List Int} {code : Int} (h : NV s p l code) : (code = 0 ∨ (code = 4 ∧ p = 0 ∧ l = [])) ∧ l.length ≤ 720 := by
  rcases h with ⟨i, hi, hs, rfl, rfl, rfl⟩ | ⟨hs, rfl, rfl, rfl⟩
  · refine ⟨.inl rfl, ?_⟩
    obtain ⟨p1, p2, g1, g2, hg⟩ := lb_in i hi
    have h1 := (RG_gi hg).1
    have h2 := lsL_len (RG (lbP i) (lbG i)).2
    have h3 := (fact_le (k := lbP i) (by omega)).2
    unfold RK
    omega
  · exact ⟨.inr ⟨rfl, rfl, rfl⟩, by simp⟩
set_option maxHeartbeats 2000000 in
theorem i_GroupNamed (s : ByteArray) (p : Int) (l : List Int) (code : Int) (h : NV s p l code) (w : World) : Calls Try.prog 66 #[.string s] w (GRC w.heap.size p l code w) := by
  have hg := fun W => i_groupNamed s p l code h W
  have hc := nv_code h
  clear h
  have B0 := BK.new w 39 #[.int .i64 0, .slice none 0 0]
  have hb0 := (Below.refl w.heap.size w).alloc (Nat.le_refl _) (.cells #[.int .i64 0, .slice none 0 0] 39)
  rcases hc with ⟨rfl | ⟨rfl, rfl, rfl⟩, _⟩
  · generalize hL : l.length = L at *
    have HL := Lib.hid hL
    clear hL
    have hg : ∀ W, Calls Try.prog 117 #[.string s] W (GRB W.heap.size p l true W) := hg
    go_enter Try.func66, Try.ntmps66
    go_wp2_with (go_at_call 117; refine (hg _).mono ?_; rintro e w1 ⟨v, rfl, ho, hb1⟩; obtain ⟨Ar, cr, rfl, _⟩ := own_slice' ho; rw [HL.out]; have hbx1 := (B0.below hb1 (by simp)).alloc (.cells #[.int .i64 p, .slice Ar L cr] 39); have hbw1 := bel_call hb0 hb1; clear B0 hb0; obtain ⟨f2, f3, fz2, fz3⟩ := hbx1.two; obtain ⟨c0, c1, _, _⟩ := BK.two (BK.new w1 39 #[.int .i64 p, .slice Ar L cr]))
    have z1 := hb1.size
    simp only [World.size_alloc] at z1
    rw [HL.out] at ho
    have ho5 := World.ownsRow.alloc ho (.cells #[.int .i64 p, .slice Ar L cr] 39)
    simp only [World.size_alloc] at ho5
    have hbw := hbw1.alloc (by omega) (.cells #[.int .i64 p, .slice Ar L cr] 39)
    have hbx5 := hbx1
    generalize w1.alloc (.cells #[.int .i64 p, .slice Ar L cr] 39) = w5 at *
    have h5 := (hbx5.set 0 (.int .i64 p)).set 1 (.slice Ar L cr)
    have hb9 := (hbw.setCell (p := ⟨w.heap.size, 0, none⟩) (by simp; try omega) (.int .i64 p)).setCell (p := ⟨w.heap.size, 1, none⟩) (by simp; try omega) (.slice Ar L cr)
    have ho9 := ownsRow_setCell_below (ownsRow_setCell_below ho5 (a := ⟨w.heap.size, 0, none⟩) (by simp; try omega) (.int .i64 p)) (a := ⟨w.heap.size, 1, none⟩) (by simp; try omega) (.slice Ar L cr)
    generalize ((w5.setCell ⟨w.heap.size, 0, none⟩ (.int .i64 p)).setCell ⟨w.heap.size, 1, none⟩ (.slice Ar L cr)) = w9 at *
    obtain ⟨d0, d1, _, _⟩ := BK.two (x := .int .i64 p) (y := .slice Ar L cr) (by simpa using h5)
    (try simp only [Exit.inBlock, Exit.then])
    refine bodyPost_ret (v := .tuple #[.agg #[.int .i64 p, .slice Ar L cr], .int .i64 0]) (by simp [results, Try.results66, go_sem, d0, d1]; try rfl) rfl ?_
    exact ⟨_, rfl, by rw [HL.out]; exact own_mono ho9 (by omega), hb9⟩
  · have hg : ∀ W, Calls Try.prog 117 #[.string s] W (GRB W.heap.size 0 [] false W) := hg
    go_enter Try.func66, Try.ntmps66
    go_wp2_with (go_at_call 117; refine (hg _).mono ?_; rintro e w1 ⟨v, rfl, ho, hb1⟩; obtain ⟨Ar, cr, rfl, _⟩ := own_slice' ho; have hbx1 := (B0.below hb1 (by simp)).alloc (.cells #[.int .i64 0, .slice Ar 0 cr] 39); have hbw1 := bel_call hb0 hb1; clear B0 hb0; obtain ⟨f2, f3, fz2, fz3⟩ := hbx1.two)
    have z1 := hb1.size
    simp only [World.size_alloc] at z1
    have hbw := hbw1.alloc (by omega) (.cells #[.int .i64 0, .slice Ar 0 cr] 39)
    generalize w1.alloc (.cells #[.int .i64 0, .slice Ar 0 cr] 39) = w5 at *
    have h5 := (hbx1.set 0 (.int .i64 0)).set 1 (.slice none 0 0)
    have hb9 := (hbw.setCell (p := ⟨w.heap.size, 0, none⟩) (by simp) (.int .i64 0)).setCell (p := ⟨w.heap.size, 1, none⟩) (by simp) (.slice none 0 0)
    generalize ((w5.setCell ⟨w.heap.size, 0, none⟩ (.int .i64 0)).setCell ⟨w.heap.size, 1, none⟩ (.slice none 0 0)) = w9 at *
    obtain ⟨d0, d1, _, _⟩ := BK.two (x := .int .i64 0) (y := .slice none 0 0) (by simpa using h5)
    (try simp only [Exit.inBlock, Exit.then])
    refine bodyPost_ret (v := .tuple #[.agg #[.int .i64 0, .slice none 0 0], .int .i64 4]) (by simp [results, Try.results66, go_sem, d0, d1]; try rfl) rfl ?_
    exact ⟨_, rfl, World.ownsRow_nil _ _ _ _, hb9⟩
set_option maxRecDepth 100000 in
theorem grp_ranks (p : Int) (v : Value) (W : World) : (Instr.field 39 (.agg #[.int .i64 p, v]) 1).run Try.prog W = .ok v W := by
  first | rfl | kernel_rfl | (simp [Instr.field]; rfl) | (unfold Instr.field; simp [go_sem])
end Go.Proofs.Ytcbjfdeigpdbdaa
