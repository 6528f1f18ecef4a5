/- Several parts of the proof in one text; each part says what it shows. Nothing is assumed. -/
import Derived.Test.YtglijcdnnaekkaaGreatA80
import Derived.Test.YtglijcdnnaekkaaGreatA20
/- Contracts: groups by their names. -/
namespace Go.Proofs.YtglijcdnnaekkaaGreat
set_option linter.unusedVariables false
set_option linter.unusedSimpArgs false
open Go.RowKit

theorem BK.tri {w : World} {g : Nat} {t : TypeId} {x y z : Value} (h : BK w g t #[x, y, z]) : w.cell? ⟨g, 0, none⟩ = some x ∧ w.cell? ⟨g, 1, none⟩ = some y ∧ w.cell? ⟨g, 2, none⟩ = some z := ⟨(h.cell 0).trans rfl, (h.cell 1).trans rfl, (h.cell 2).trans rfl⟩
theorem bk_three (w : World) (t t' : TypeId) (cs cs' : Array Value) : BK ((w.alloc (.cells cs t)).alloc (.cells cs' t')) w.heap.size t cs := (two_boxes w t t' cs cs').1
set_option maxHeartbeats 1000000 in
theorem i_libgroup (i : Nat) (hi : i < 14) (A : Option Addr) (G c : Nat) (hG : G = (lbG i).length) (nb : ByteArray) (w : World) (hii : II w w.heap.size A (lbG i)) : Calls Tryz.prog 167 #[.agg #[.string nb, .int .i64 (lbP i : Nat), .slice A G c]] w (GR w.heap.size (lbP i : Nat) (RK (lbP i) (lbG i)) w) := by
  obtain ⟨p1, p2, g1, g2, hg⟩ := lb_in i hi
  have hgen := fun W (hb : Below w.heap.size w W) => i_generate (lbP i) A G c (lbG i) W p1 (by omega) hG (by omega) ((hii.below hb).more hb.size) hg
  rw [← hG] at g1 g2
  clear hg hii hG
  generalize hR : RK (lbP i) (lbG i) = R at *
  generalize lbP i = p at *
  clear hR
  generalize hL : R.length = L at *
  have HL := Lib.hid hL
  clear hL
  have hb0 := two_alloc w (.cells #[.string nb, .int .i64 (p : Int), .slice A G c] 156) (.cells #[.int .i64 0, .slice none 0 0] 26)
  have hB2 := (two_boxes w 156 26 #[.string nb, .int .i64 (p : Int), .slice A G c] #[.int .i64 0, .slice none 0 0]).2
  obtain ⟨c0, c1, c2⟩ := BK.tri (bk_three w 156 26 #[.string nb, .int .i64 (p : Int), .slice A G c] #[.int .i64 0, .slice none 0 0])
  go_enter Tryz.func167, Tryz.ntmps167
  go_wp2_with (first
    | (go_at_call 196; refine (hgen _ (two_alloc w _ _)).mono ?_; rintro e w5 ⟨v3, rfl, ho5, hb5⟩; obtain ⟨Ar, cr, rfl, _⟩ := own_slice' ho5; rw [HL.out]; have z5 := hb5.size; simp only [World.size_alloc] at z5; have hbx5 := hB2.below hb5 (by simp); obtain ⟨f2, f3, fz2, fz3⟩ := hbx5.two))
  have hbw := bel_call hb0 hb5
  rw [HL.out] at ho5
  simp only [World.size_alloc] at ho5
  have h5 := (hbx5.set 0 (.int .i64 (p : Int))).set 1 (.slice Ar L cr)
  have hb9 := (hbw.setCell (p := ⟨w.heap.size + 1, 0, none⟩) (by simp; try omega) (.int .i64 (p : Int))).setCell (p := ⟨w.heap.size + 1, 1, none⟩) (by simp; try omega) (.slice Ar L cr)
  have ho9 := ownsRow_setCell_below (ownsRow_setCell_below ho5 (a := ⟨w.heap.size + 1, 0, none⟩) (by simp; try omega) (.int .i64 (p : Int))) (a := ⟨w.heap.size + 1, 1, none⟩) (by simp; try omega) (.slice Ar L cr)
  generalize ((w5.setCell ⟨w.heap.size + 1, 0, none⟩ (.int .i64 (p : Int))).setCell ⟨w.heap.size + 1, 1, none⟩ (.slice Ar L cr)) = w9 at *
  obtain ⟨d0, d1, _, _⟩ := BK.two (x := .int .i64 (p : Int)) (y := .slice Ar L cr) (by simpa using h5)
  (try simp only [Exit.inBlock, Exit.then])
  refine bodyPost_ret (v := .agg #[.int .i64 (p : Int), .slice Ar L cr]) (by simp [results, Tryz.results167, go_sem, d0, d1]; try rfl) rfl ?_
  exact ⟨_, rfl, by rw [HL.out]; exact own_mono ho9 (by omega), hb9⟩
/-- What a name stands for: points, ranks, code. -/
def NV (s : ByteArray) (p : Int) (l : List Int) (code : Int) : Prop := (∃ i, i < 14 ∧ s.toList = lbN i ∧ p = (lbP i : Nat) ∧ l = RK (lbP i) (lbG i) ∧ code = 0) ∨ (NoN s ∧ p = 0 ∧ l = [] ∧ code = 4)
theorem nv_ex (s : ByteArray) : ∃ p l code, NV s p l code := by
  by_cases h : ∃ i, i < 14 ∧ s.toList = lbN i
  · obtain ⟨i, h1, h2⟩ := h
    exact ⟨_, _, _, .inl ⟨i, h1, h2, rfl, rfl, rfl⟩⟩
  · exact ⟨_, _, _, .inr ⟨fun i hi he => h ⟨i, hi, he⟩, rfl, rfl, rfl⟩⟩
theorem lbN_inj : ∀ i, i < 14 → ∀ j, j < 14 → lbN i = lbN j → i = j := by
  have h : ∀ i j : Fin 14, lbN i = lbN j → i = j := by decide +kernel
  intro i hi j hj e
  have := h ⟨i, hi⟩ ⟨j, hj⟩ e
  simpa using this
def GRB (base : Nat) (p : Int) (l : List Int) (b : Bool) (w : World) (e : Ending) (w' : World) : Prop := ∃ v, e = .returned (.tuple #[.agg #[.int .i64 p, v], .bool b]) ∧ w'.ownsRow base 2 1 v l.length (ints l) ∧ Below w.heap.size w w'
def GRC (base : Nat) (p : Int) (l : List Int) (c : Int) (w : World) (e : Ending) (w' : World) : Prop := ∃ v, e = .returned (.tuple #[.agg #[.int .i64 p, v], .int .i64 c]) ∧ w'.ownsRow base 2 1 v l.length (ints l) ∧ Below w.heap.size w w'
set_option maxHeartbeats 2000000 in
theorem i_groupNamed_yes (i : Nat) (hi : i < 14) (s : ByteArray) (hs : s.toList = lbN i) (w : World) : Calls Tryz.prog 156 #[.string s] w (GRB w.heap.size (lbP i : Nat) (RK (lbP i) (lbG i)) true w) := by
  have hgr := fun A G c hG nb W hii => i_libgroup i hi A G c hG nb W hii
  have hinj := fun j (hj : j < 14) (he : lbN j = lbN i) => lbN_inj j hj i hi he
  have HGR := Lib.hid hgr
  have HINJ := Lib.hid hinj
  have HS := Lib.hid hs
  clear hgr hinj hs
  generalize hR : RK (lbP i) (lbG i) = R at *
  clear hR
  generalize hL : R.length = L at *
  have HL := Lib.hid hL
  clear hL
  have B0 := BK.new w 26 #[.int .i64 0, .slice none 0 0]
  have hb0 := (Below.refl w.heap.size w).alloc (Nat.le_refl _) (.cells #[.int .i64 0, .slice none 0 0] 26)
  go_enter Tryz.func156, Tryz.ntmps156
  go_wp2_with (go_at_call 192; refine (i_library _).mono ?_; rintro e w1 ⟨b, rfl, hlib, hb1⟩; have hbx1 := B0.below hb1 (by simp); have hbw1 := bel_call hb0 hb1; clear B0 hb0)
  go_loopw [8] (fun u8 wr => ∃ k : Nat, k ≤ i ∧ u8 = .int .i64 k ∧ LIBR wr wr.heap.size b ∧ BK wr w.heap.size 26 #[.int .i64 0, .slice none 0 0] ∧ Below w.heap.size w wr) (fun u8 _ => 14 - (intOf u8).toNat)
  case atStart => exact ⟨0, Nat.zero_le _, rfl, hlib, hbx1, hbw1⟩
  case round =>
    clear hlib hbx1 hbw1 hb1
    obtain ⟨ws, rfl⟩ : ∃ ws : World, ws = wr := ⟨_, rfl⟩
    obtain ⟨k, hk, rfl, hlib, hbx, hbw⟩ := hrel
    obtain ⟨nb, A, c, hn, e0, e1, e2, hii⟩ := hlib.2 k (by omega)
    have hk14 : k < 14 := by omega
    have hlibA := fun o => ((hlib.below ((Below.refl _ _).alloc (Nat.le_refl _) o)).more (by simp : ws.heap.size ≤ (ws.alloc o).heap.size))
    have hbxA := fun o => hbx.alloc o
    have hszw := hbw.size
    by_cases hki : k = i
    · subst hki
      have ht : (nb.toList == s.toList) = true := by rw [hn, HS.out]; simp
      generalize hG : (lbG k).length = G at *
      have HG := Lib.hid hG
      have B9 := BK.new ws 156 #[.string nb, .int .i64 ((lbP k : Nat) : Int), .slice A G c]
      obtain ⟨d0, d1, d2⟩ := B9.tri
      have hiiA := (hii.below ((Below.refl ws.heap.size ws).alloc (Nat.le_refl _) (.cells #[.string nb, .int .i64 ((lbP k : Nat) : Int), .slice A G c] 156))).more (by simp : ws.heap.size ≤ (ws.alloc (.cells #[.string nb, .int .i64 ((lbP k : Nat) : Int), .slice A G c] 156)).heap.size)
      have hbwA := hbw.alloc hszw (.cells #[.string nb, .int .i64 ((lbP k : Nat) : Int), .slice A G c] 156)
      clear hn hii hG
      have hlt0 := hbx.lt
      go_wp2_with (go_at_call 167; go_loud (refine (HGR.out A G c (by first | rfl | exact HG.out.symm) nb _ hiiA).mono ?_; rintro e w5 ⟨v3, rfl, ho5, hb5⟩; obtain ⟨Ar, cr, rfl, _⟩ := own_slice' ho5; rw [HL.out]; have z5 := hb5.size; simp only [World.size_alloc] at z5; have hbx5 := (hbxA (.cells #[.string nb, .int .i64 ((lbP k : Nat) : Int), .slice A G c] 156)).below hb5 (by simp; omega); obtain ⟨f2, f3, fz2, fz3⟩ := hbx5.two))
      have hbw := bel_call hbwA hb5
      rw [HL.out] at ho5
      simp only [World.size_alloc] at ho5
      have h5 := (hbx5.set 0 (.int .i64 ((lbP k : Nat) : Int))).set 1 (.slice Ar L cr)
      have hb9 := (hbw.setCell (p := ⟨w.heap.size, 0, none⟩) (by simp; try omega) (.int .i64 ((lbP k : Nat) : Int))).setCell (p := ⟨w.heap.size, 1, none⟩) (by simp; try omega) (.slice Ar L cr)
      have ho9 := ownsRow_setCell_below (ownsRow_setCell_below ho5 (a := ⟨w.heap.size, 0, none⟩) (by simp; try omega) (.int .i64 ((lbP k : Nat) : Int))) (a := ⟨w.heap.size, 1, none⟩) (by simp; try omega) (.slice Ar L cr)
      generalize ((w5.setCell ⟨w.heap.size, 0, none⟩ (.int .i64 ((lbP k : Nat) : Int))).setCell ⟨w.heap.size, 1, none⟩ (.slice Ar L cr)) = w9 at *
      obtain ⟨d0, d1, _, _⟩ := BK.two (x := .int .i64 ((lbP k : Nat) : Int)) (y := .slice Ar L cr) (by simpa using h5)
      (try simp only [Exit.inBlock, Exit.then])
      refine bodyPost_ret (v := .tuple #[.agg #[.int .i64 ((lbP k : Nat) : Int), .slice Ar L cr], .bool true]) (by simp [results, Tryz.results156, go_sem, d0, d1]; try rfl) rfl ?_
      exact ⟨_, rfl, by rw [HL.out]; exact own_mono ho9 (by omega), hb9⟩
    · have ht : (nb.toList == s.toList) = false := by
        rw [hn, HS.out, beq_eq_false_iff_ne]
        intro h; exact hki (HINJ.out k hk14 h)
      generalize hG : (lbG k).length = G at *
      clear hn hii hG
      go_wp2_with (fail)
      go_roundw
      case rel => exact ⟨k + 1, by omega, by go_num, hlibA _, hbxA _, hbw.alloc hszw _⟩
      case measure => simp [intOf]; omega
end Go.Proofs.YtglijcdnnaekkaaGreat
/- Contracts: GroupNamed, SizeOf, IsSolvableName. -/
namespace Go.Proofs.YtglijcdnnaekkaaGreat
set_option linter.unusedVariables false
set_option linter.unusedSimpArgs false
open Go.RowKit

set_option maxHeartbeats 2000000 in
theorem i_groupNamed_no (s : ByteArray) (hs : NoN s) (w : World) : Calls Tryz.prog 156 #[.string s] w (GRB w.heap.size 0 [] false w) := by
  have HS := Lib.hid hs
  clear hs
  have B0 := BK.new w 26 #[.int .i64 0, .slice none 0 0]
  have hb0 := (Below.refl w.heap.size w).alloc (Nat.le_refl _) (.cells #[.int .i64 0, .slice none 0 0] 26)
  go_enter Tryz.func156, Tryz.ntmps156
  go_wp2_with (go_at_call 192; refine (i_library _).mono ?_; rintro e w1 ⟨b, rfl, hlib, hb1⟩; have hbx1 := B0.below hb1 (by simp); have hbw1 := bel_call hb0 hb1; clear B0 hb0)
  go_loopw [8] (fun u8 wr => ∃ k : Nat, k ≤ 14 ∧ u8 = .int .i64 k ∧ LIBR wr wr.heap.size b ∧ BK wr w.heap.size 26 #[.int .i64 0, .slice none 0 0] ∧ Below w.heap.size w wr) (fun u8 _ => 14 - (intOf u8).toNat)
  case atStart => exact ⟨0, Nat.zero_le _, rfl, hlib, hbx1, hbw1⟩
  case round =>
    clear hlib hbx1 hbw1 hb1
    obtain ⟨ws, rfl⟩ : ∃ ws : World, ws = wr := ⟨_, rfl⟩
    obtain ⟨k, hk, rfl, hlib, hbx, hbw⟩ := hrel
    have hszw := hbw.size
    by_cases hk14 : k < 14
    · obtain ⟨nb, A, c, hn, e0, e1, e2, hii⟩ := hlib.2 k (by omega)
      have hlibA := fun o => ((hlib.below ((Below.refl _ _).alloc (Nat.le_refl _) o)).more (by simp : ws.heap.size ≤ (ws.alloc o).heap.size))
      have hbxA := fun o => hbx.alloc o
      have ht : (nb.toList == s.toList) = false := by
        rw [hn, beq_eq_false_iff_ne]
        intro h; exact HS.out k hk14 h.symm
      generalize hG : (lbG k).length = G at *
      clear hn hii hG
      go_wp2_with (fail)
      go_roundw
      case rel => exact ⟨k + 1, by omega, by go_num, hlibA _, hbxA _, hbw.alloc hszw _⟩
      case measure => simp [intOf]; omega
    · obtain rfl : k = 14 := by omega
      obtain ⟨f2, f3, fz2, fz3⟩ := hbx.two
      go_wp2_with (fail)
      have h5 := (hbx.set 0 (.int .i64 0)).set 1 (.slice none 0 0)
      have hb9 := (hbw.setCell (p := ⟨w.heap.size, 0, none⟩) (by simp) (.int .i64 0)).setCell (p := ⟨w.heap.size, 1, none⟩) (by simp) (.slice none 0 0)
      generalize ((ws.setCell ⟨w.heap.size, 0, none⟩ (.int .i64 0)).setCell ⟨w.heap.size, 1, none⟩ (.slice none 0 0)) = w9 at *
      obtain ⟨d0, d1, _, _⟩ := BK.two (x := .int .i64 0) (y := .slice none 0 0) (by simpa using h5)
      (try simp only [Exit.inBlock, Exit.then])
      refine bodyPost_ret (v := .tuple #[.agg #[.int .i64 0, .slice none 0 0], .bool false]) (by simp [results, Tryz.results156, go_sem, d0, d1]; try rfl) rfl ?_
      exact ⟨_, rfl, World.ownsRow_nil _ _ _ _, hb9⟩
theorem i_groupNamed (s : ByteArray) (p : Int) (l : List Int) (code : Int) (h : NV s p l code) (w : World) : Calls Tryz.prog 156 #[.string s] w (GRB w.heap.size p l (code == 0) w) := by
  rcases h with ⟨i, hi, hs, rfl, rfl, rfl⟩ | ⟨hs, rfl, rfl, rfl⟩
  · exact i_groupNamed_yes i hi s hs w
  · exact i_groupNamed_no s hs w
theorem nv_code {s : ByteArray} {p : Int} {l : List Int} {code : Int} (h : NV s p l code) : (code = 0 ∨ (code = 4 ∧ p = 0 ∧ l = [])) ∧ l.length ≤ 720 := by
  rcases h with ⟨i, hi, hs, rfl, rfl, rfl⟩ | ⟨hs, rfl, rfl, rfl⟩
  · refine ⟨.inl rfl, ?_⟩
    obtain ⟨p1, p2, g1, g2, hg⟩ := lb_in i hi
    have h1 := (RG_gi hg).1
    have h2 := lsL_len (RG (lbP i) (lbG i)).2
    have h3 := (fact_le (k := lbP i) (by omega)).2
    unfold RK
    omega
  · exact ⟨.inr ⟨rfl, rfl, rfl⟩, by simp⟩
set_option maxHeartbeats 2000000 in
theorem i_GroupNamed (s : ByteArray) (p : Int) (l : List Int) (code : Int) (h : NV s p l code) (w : World) : Calls Tryz.prog 94 #[.string s] w (GRC w.heap.size p l code w) := by
  have hg := fun W => i_groupNamed s p l code h W
  have hc := nv_code h
  clear h
  have B0 := BK.new w 26 #[.int .i64 0, .slice none 0 0]
  have hb0 := (Below.refl w.heap.size w).alloc (Nat.le_refl _) (.cells #[.int .i64 0, .slice none 0 0] 26)
  rcases hc with ⟨rfl | ⟨rfl, rfl, rfl⟩, _⟩
  · generalize hL : l.length = L at *
    have HL := Lib.hid hL
    clear hL
    have hg : ∀ W, Calls Tryz.prog 156 #[.string s] W (GRB W.heap.size p l true W) := hg
    go_enter Tryz.func94, Tryz.ntmps94
    go_wp2_with (go_at_call 156; refine (hg _).mono ?_; rintro e w1 ⟨v, rfl, ho, hb1⟩; obtain ⟨Ar, cr, rfl, _⟩ := own_slice' ho; rw [HL.out]; have hbx1 := (B0.below hb1 (by simp)).alloc (.cells #[.int .i64 p, .slice Ar L cr] 26); have hbw1 := bel_call hb0 hb1; clear B0 hb0; obtain ⟨f2, f3, fz2, fz3⟩ := hbx1.two; obtain ⟨c0, c1, _, _⟩ := BK.two (BK.new w1 26 #[.int .i64 p, .slice Ar L cr]))
    have z1 := hb1.size
    simp only [World.size_alloc] at z1
    rw [HL.out] at ho
    have ho5 := World.ownsRow.alloc ho (.cells #[.int .i64 p, .slice Ar L cr] 26)
    simp only [World.size_alloc] at ho5
    have hbw := hbw1.alloc (by omega) (.cells #[.int .i64 p, .slice Ar L cr] 26)
    have hbx5 := hbx1
    generalize w1.alloc (.cells #[.int .i64 p, .slice Ar L cr] 26) = w5 at *
    have h5 := (hbx5.set 0 (.int .i64 p)).set 1 (.slice Ar L cr)
    have hb9 := (hbw.setCell (p := ⟨w.heap.size, 0, none⟩) (by simp; try omega) (.int .i64 p)).setCell (p := ⟨w.heap.size, 1, none⟩) (by simp; try omega) (.slice Ar L cr)
    have ho9 := ownsRow_setCell_below (ownsRow_setCell_below ho5 (a := ⟨w.heap.size, 0, none⟩) (by simp; try omega) (.int .i64 p)) (a := ⟨w.heap.size, 1, none⟩) (by simp; try omega) (.slice Ar L cr)
    generalize ((w5.setCell ⟨w.heap.size, 0, none⟩ (.int .i64 p)).setCell ⟨w.heap.size, 1, none⟩ (.slice Ar L cr)) = w9 at *
    obtain ⟨d0, d1, _, _⟩ := BK.two (x := .int .i64 p) (y := .slice Ar L cr) (by simpa using h5)
    (try simp only [Exit.inBlock, Exit.then])
    refine bodyPost_ret (v := .tuple #[.agg #[.int .i64 p, .slice Ar L cr], .int .i64 0]) (by simp [results, Tryz.results94, go_sem, d0, d1]; try rfl) rfl ?_
    exact ⟨_, rfl, by rw [HL.out]; exact own_mono ho9 (by omega), hb9⟩
  · have hg : ∀ W, Calls Tryz.prog 156 #[.string s] W (GRB W.heap.size 0 [] false W) := hg
    go_enter Tryz.func94, Tryz.ntmps94
    go_wp2_with (go_at_call 156; refine (hg _).mono ?_; rintro e w1 ⟨v, rfl, ho, hb1⟩; obtain ⟨Ar, cr, rfl, _⟩ := own_slice' ho; have hbx1 := (B0.below hb1 (by simp)).alloc (.cells #[.int .i64 0, .slice Ar 0 cr] 26); have hbw1 := bel_call hb0 hb1; clear B0 hb0; obtain ⟨f2, f3, fz2, fz3⟩ := hbx1.two)
    have z1 := hb1.size
    simp only [World.size_alloc] at z1
    have hbw := hbw1.alloc (by omega) (.cells #[.int .i64 0, .slice Ar 0 cr] 26)
    generalize w1.alloc (.cells #[.int .i64 0, .slice Ar 0 cr] 26) = w5 at *
    have h5 := (hbx1.set 0 (.int .i64 0)).set 1 (.slice none 0 0)
    have hb9 := (hbw.setCell (p := ⟨w.heap.size, 0, none⟩) (by simp) (.int .i64 0)).setCell (p := ⟨w.heap.size, 1, none⟩) (by simp) (.slice none 0 0)
    generalize ((w5.setCell ⟨w.heap.size, 0, none⟩ (.int .i64 0)).setCell ⟨w.heap.size, 1, none⟩ (.slice none 0 0)) = w9 at *
    obtain ⟨d0, d1, _, _⟩ := BK.two (x := .int .i64 0) (y := .slice none 0 0) (by simpa using h5)
    (try simp only [Exit.inBlock, Exit.then])
    refine bodyPost_ret (v := .tuple #[.agg #[.int .i64 0, .slice none 0 0], .int .i64 4]) (by simp [results, Tryz.results94, go_sem, d0, d1]; try rfl) rfl ?_
    exact ⟨_, rfl, World.ownsRow_nil _ _ _ _, hb9⟩
set_option maxRecDepth 100000 in
theorem grp_ranks (p : Int) (v : Value) (W : World) : (Instr.field 26 (.agg #[.int .i64 p, v]) 1).run Tryz.prog W = .ok v W := by
  first | rfl | kernel_rfl | (simp [Instr.field]; rfl) | (unfold Instr.field; simp [go_sem])
end Go.Proofs.YtglijcdnnaekkaaGreat
/- Walks: IsSolvableName; the law of GroupNamed. -/
namespace Go.Proofs.YtglijcdnnaekkaaGreat
set_option linter.unusedVariables false
set_option linter.unusedSimpArgs false
open Go.RowKit

def MBI (b : Bool) (c : Int) (w : World) (e : Ending) (w' : World) : Prop := e = .returned (.tuple #[.bool b, .int .i64 c]) ∧ Below w.heap.size w w'
end Go.Proofs.YtglijcdnnaekkaaGreat
