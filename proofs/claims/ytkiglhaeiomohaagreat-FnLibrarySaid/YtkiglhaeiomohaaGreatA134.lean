/- Is a conjugate of one group part of another, on the side of the reference. -/
import Derived.Test.YtkiglhaeiomohaaGreatA133
import Derived.Deep.RegionHeld3
namespace Go.Proofs.YtkiglhaeiomohaaGreat
set_option linter.unusedVariables false
set_option linter.unusedSimpArgs false
open Go.RowKit

theorem rkC_in {n : Nat} {a l : List Int} (hn : 1 ≤ n) (ha : InR n a) (hk : InK n l) : InK n (rkC (cjM n a l)) ∧ (rkC (cjM n a l)).length ≤ fact n := by
  have hcl := cjM_len n a l
  have hrkl : ∀ k, k < (cjM n a l).length → rk (gl (cjM n a l) k) < fact n := fun k h => by
    have h1 := (cjM_in hn ha hk (k := k) (by omega)).1
    have h2 := rk_lt (gl (cjM n a l) k)
    rw [h1] at h2
    exact h2
  have hfin : rkC (cjM n a l) = lsL (flS (fact n) (cjM n a l) (cjM n a l).length) :=
    ranks_listed (fun r => flS_mem (F := fact n) (ms := cjM n a l) hrkl _ (Nat.le_refl _) r)
  rw [hfin]
  have hl := lsL_len (flS (fact n) (cjM n a l) (cjM n a l).length)
  rw [flS_len] at hl
  refine ⟨fun k hk2 => ?_, hl⟩
  obtain ⟨r, h1, h2, _⟩ := lsL_mem.1 (gt_mem hk2)
  rw [flS_len] at h2
  rw [h1]
  omega
def cgA (n : Nat) (l l' : List Int) (r : Nat) : Bool := decide ((cmL (fgS (fact n) l' l'.length) (rkC (cjM n (wrL n r) l))).length = (rkC (cjM n (wrL n r) l)).length)
def cgB (n : Nat) (l l' : List Int) : Bool := (List.range (fact n)).any fun r => cgA n l l' r
theorem cgB_yes {n : Nat} {l l' : List Int} {r : Nat} (h : r < fact n) (ht : cgA n l l' r = true) : cgB n l l' = true := by
  unfold cgB
  rw [List.any_eq_true]
  exact ⟨r, by simpa using h, ht⟩
theorem cgB_no {n : Nat} {l l' : List Int} (h : ∀ r, r < fact n → cgA n l l' r = false) : cgB n l l' = false := by
  unfold cgB
  rw [List.any_eq_false]
  intro r hr
  rw [h r (by simpa using hr)]
  simp
theorem cg_close {b n X c3 g : Nat} {A3 : Option Addr} {xr : List Int} {ws w3 : World} (hB : BK w3 g 41 #[.int .i64 0, .slice none 0 0]) (ho : w3.ownsRow b 2 1 (.slice A3 X c3) X (ints xr)) (hne : (Value.slice A3 X c3).ownBlock ≠ some g) (hX : X = xr.length) (hb : Below ws.heap.size ws w3) (hg : ws.heap.size ≤ g) :
    BK ((w3.setCell ⟨g, 0, none⟩ (.int .i64 (n : Int))).setCell ⟨g, 1, none⟩ (.slice A3 X c3)) g 41 #[.int .i64 (n : Int), .slice A3 X c3] ∧ IS ((w3.setCell ⟨g, 0, none⟩ (.int .i64 (n : Int))).setCell ⟨g, 1, none⟩ (.slice A3 X c3)) ((w3.setCell ⟨g, 0, none⟩ (.int .i64 (n : Int))).setCell ⟨g, 1, none⟩ (.slice A3 X c3)).heap.size A3 xr ∧ Below ws.heap.size ws ((w3.setCell ⟨g, 0, none⟩ (.int .i64 (n : Int))).setCell ⟨g, 1, none⟩ (.slice A3 X c3)) := by
  refine ⟨?_, ?_, (hb.setCell (p := ⟨g, 0, none⟩) hg _).setCell (p := ⟨g, 1, none⟩) hg _⟩
  · have h := (hB.set 0 (.int .i64 (n : Int))).set 1 (.slice A3 X c3)
    simpa using h
  · exact own_isn (ownsRow_setCell_other (ownsRow_setCell_other ho (a := ⟨g, 0, none⟩) hne _) (a := ⟨g, 1, none⟩) hne _) hX
theorem cg_close2 {b n X c3 : Nat} {A3 : Option Addr} {xr : List Int} {ws w3 : World} (ho : w3.ownsRow b 2 1 (.slice A3 X c3) X (ints xr)) (hX : X = xr.length) (hb : Below ws.heap.size ws w3) :
    BK (w3.alloc (.cells #[.int .i64 (n : Int), .slice A3 X c3] 41)) w3.heap.size 41 #[.int .i64 (n : Int), .slice A3 X c3] ∧ IS (w3.alloc (.cells #[.int .i64 (n : Int), .slice A3 X c3] 41)) (w3.alloc (.cells #[.int .i64 (n : Int), .slice A3 X c3] 41)).heap.size A3 xr ∧ Below ws.heap.size ws (w3.alloc (.cells #[.int .i64 (n : Int), .slice A3 X c3] 41)) :=
  ⟨BK.new _ _ _, own_isn (World.ownsRow.alloc ho _) hX, hb.alloc hb.size _⟩
theorem keepC3 {w' W W9 : World} {p1 p2 p3 : Addr} {x1 x2 x3 : Value} (h1 : p1.block < w'.heap.size) (h2 : p2.block < w'.heap.size) (h3 : p3.block < w'.heap.size) (hS : Below w'.heap.size w' W ∧ W.cell? p1 = some x1 ∧ W.cell? p2 = some x2 ∧ W.cell? p3 = some x3) (hb : Below W.heap.size W W9) :
    Below w'.heap.size w' W9 ∧ W9.cell? p1 = some x1 ∧ W9.cell? p2 = some x2 ∧ W9.cell? p3 = some x3 := by
  have hz := hS.1.size
  exact ⟨bel_call hS.1 hb, (hb.cell (by omega)).trans hS.2.1, (hb.cell (by omega)).trans hS.2.2.1, (hb.cell (by omega)).trans hS.2.2.2⟩
theorem size_lt_alloc (W : World) (o : Obj) : W.heap.size < (W.alloc o).heap.size := by rw [World.size_alloc]; exact Nat.lt_succ_self _
set_option maxRecDepth 100000 in
set_option maxHeartbeats 4000000 in
theorem s_l24Conjugate (n : Nat) (A A' : Option Addr) (L c L' c' : Nat) (l l' : List Int) (w : World) (hn : 1 ≤ n) (hn6 : n ≤ 6) (hL : L = l.length) (hl : L ≤ 1000) (hL' : L' = l'.length) (hl' : L' ≤ 1000) (hk : InK n l) (hk' : InK n l') (hs : IS w w.heap.size A l) (hs' : IS w w.heap.size A' l') :
    Calls Tryz.prog 47 #[.agg #[.int .i64 n, .slice A L c], .agg #[.int .i64 n, .slice A' L' c']] w (M (.bool (cgB n l l')) w) := by
  have hF1 := fact_le hn6
  have hfa := fun W => s_factN n W hn6
  have hyes := fun r => cgB_yes (n := n) (l := l) (l' := l') (r := r)
  have hno := cgB_no (n := n) (l := l) (l' := l')
  have hwith := fun r h W => s_l21With n r W hn hn6 h
  have hcon := fun r (h : r < fact n) Aa ca W h1 h2 => s_conjugate n A Aa L c ca l (wrL n r) W hn hn6 hL hl hk (wrL_in h) h1 h2
  have hin := fun r (h : r < fact n) => rkC_in hn (wrL_in h) hk
  have hcom := fun r (h : r < fact n) Ac cc W h1 h2 => s_l22Common n Ac A' (rkC (cjM n (wrL n r) l)).length cc L' c' (rkC (cjM n (wrL n r) l)) l' W hn6 rfl (Nat.le_trans (hin r h).2 (Nat.le_trans hF1.2 (by omega))) hL' hl' (hin r h).1 hk' h1 h2
  have hcga : ∀ r, cgA n l l' r = decide ((cmL (fgS (fact n) l' L') (rkC (cjM n (wrL n r) l))).length = (rkC (cjM n (wrL n r) l)).length) := fun r => by rw [hL']; rfl
  have hwl := fun r (h : r < fact n) => (wrL_in h).1
  have hcl := fun r => cmL_le (fgS (fact n) l' L') (rkC (cjM n (wrL n r) l))
  have hin2 := fun r (h : r < fact n) => (hin r h).2
  generalize fgS (fact n) l' L' = fl at *
  generalize cgB n l l' = CB at *
  generalize cgA n l l' = ca at *
  generalize fact n = F at *
  obtain ⟨hF1, hF2⟩ := hF1
  have HY := Lib.hid hyes
  have HNO := Lib.hid hno
  have HCA := Lib.hid hcga
  have HWL := Lib.hid hwl
  have HCL := Lib.hid hcl
  have HIN := Lib.hid hin2
  have HWITH := Lib.hid hwith
  have HCON := Lib.hid hcon
  have HCOM := Lib.hid hcom
  obtain ⟨B1, B2⟩ := two_boxes w 41 41 #[.int .i64 (n : Int), .slice A L c] #[.int .i64 (n : Int), .slice A' L' c']
  have hb0 := two_alloc w (.cells #[.int .i64 (n : Int), .slice A L c] 41) (.cells #[.int .i64 (n : Int), .slice A' L' c'] 41)
  have hz0 : ((w.alloc (.cells #[.int .i64 (n : Int), .slice A L c] 41)).alloc (.cells #[.int .i64 (n : Int), .slice A' L' c'] 41)).heap.size = w.heap.size + 2 := by simp
  have hs0 := hs.call hb0
  have hs0' := hs'.call hb0
  clear hyes hno hcga hwl hcl hin2 hwith hcon hcom hin hL hL' hk hk' hs hs'
  go_enter Tryz.func47, Tryz.ntmps47
  go_wp2_with (fail)
  generalize (w.alloc (.cells #[.int .i64 (n : Int), .slice A L c] 41)).alloc (.cells #[.int .i64 (n : Int), .slice A' L' c'] 41) = w0 at *
  have hBx : ∀ (W : World), Below w0.heap.size w0 W → BK W w.heap.size 41 #[.int .i64 (n : Int), .slice A L c] ∧ BK W (w.heap.size + 1) 41 #[.int .i64 (n : Int), .slice A' L' c'] := fun W h => ⟨B1.below h (by omega), B2.below h (by omega)⟩
  clear B1 B2
  go_loopw [5] (fun u5 wr => ∃ r : Nat, r ≤ F ∧ u5 = .int .i64 r ∧ Hid (∀ j, j < r → ca j = false) ∧ Below w0.heap.size w0 wr) (fun u5 _ => F - (intOf u5).toNat)
  case atStart => exact ⟨0, Nat.zero_le _, rfl, fun j hj => by omega, Below.refl _ _⟩
  case round =>
    obtain ⟨ws, rfl⟩ : ∃ ws : World, ws = wr := ⟨_, rfl⟩
    obtain ⟨r, hr, rfl, HI, hb⟩ := hrel
    have hsz := hb.size
    obtain ⟨f0, f1, _, _⟩ := (hBx _ hb).1.two
    obtain ⟨f2, f3, _, _⟩ := (hBx _ hb).2.two
    by_cases hlt : r < F
    · have hcaE := HCA.out r
      have hclE := HCL.out r
      have hinE := HIN.out r hlt
      have hwith := HWITH.out r hlt
      have hcon := HCON.out r hlt
      have hcom := HCOM.out r hlt
      have hwlE := HWL.out r hlt
      generalize wrL n r = a at *
      generalize rkC (cjM n a l) = xr at *
      generalize hX : xr.length = X at *
      generalize hY : (cmL fl xr).length = Y at *
      have HX := Lib.hid hX.symm
      have HCAE := Lib.hid hcaE
      have HWLE := Lib.hid hwlE
      clear hX hY hcaE hwlE
      go_wp2_with (go_at_call 51; refine (hfa _).mono ?_; rintro e w4 ⟨rfl, nq, rfl⟩)
      have hsx := fun W (h : Below ws.heap.size ws W) => (hs0.call hb).call h
      have hsy := fun W (h : Below ws.heap.size ws W) => (hs0'.call hb).call h
      have hBy := fun W (h : Below ws.heap.size ws W) => hBx W (hb.trans (h.mono hsz))
      have hsA := fun W (h : Below ws.heap.size ws W) => hsx _ (h.alloc h.size (.cells #[.int .i64 0, .slice none 0 0] 41))
      have hAB := fun (d : Nat) (o : Obj) => (below_drewN (Below.refl ws.heap.size ws) d).alloc (Nat.le_refl _) o
      have fA0 : ∀ d o, ((ws.drewN d).alloc o).cell? ⟨w.heap.size, 0, none⟩ = some (.int .i64 (n : Int)) := fun d o => (hBy _ (hAB d o)).1.two.1
      have fA1 : ∀ d o, ((ws.drewN d).alloc o).cell? ⟨w.heap.size, 1, none⟩ = some (.slice A L c) := fun d o => (hBy _ (hAB d o)).1.two.2.1
      have fA2 : ∀ d o, ((ws.drewN d).alloc o).cell? ⟨w.heap.size + 1, 0, none⟩ = some (.int .i64 (n : Int)) := fun d o => (hBy _ (hAB d o)).2.two.1
      refine Code.wp_mono (Q := fun e a' w' => match e with | .normal => ∃ (g : Nat) (A3 : Option Addr) (c3 : Nat) (v14 v15 v16 v17 v18 v19 : Value), a' = { tmps := #[.agg #[.int .i64 (n : Int), .slice A L c], .agg #[.int .i64 (n : Int), .slice A' L' c'], .pointer (some ⟨w.heap.size, 0, none⟩), .pointer (some ⟨w.heap.size + 1, 0, none⟩), u4, .int .i64 (r : Int), .pointer (some ⟨g, 0, none⟩), .int .i64 (r : Int), .pointer (some ⟨w.heap.size + 1, 0, none⟩), .int .i64 (n : Int), .int .i64 (F : Int), .bool true, u12, u13, v14, v15, v16, v17, v18, v19, u20, u21, u22, u23, u24, u25, u26, u27, u28, u29, u30, u31], defers := [] } ∧ BK w' g 41 #[.int .i64 (n : Int), .slice A3 X c3] ∧ IS w' w'.heap.size A3 xr ∧ Below ws.heap.size ws w' | _ => False) ?_ ?_
      rotate_left
      · go_region_law
          (first
            | (go_simp; go_at_call 50; refine (hwith _).mono ?_; rintro e w2 ⟨v2, rfl, ho2, hb2⟩; obtain ⟨A2, c2, rfl, _⟩ := own_slice' ho2; have hbw2 : Below ws.heap.size ws w2 := (by first | exact ⟨hb2.os, hb2.tape, hb2.output, hb2.size, hb2.block⟩ | exact bel_call ((below_drewN (Below.refl ws.heap.size ws) _).alloc (Nat.le_refl _) _) hb2); obtain ⟨k0, k1, _, _⟩ := (hBy _ hbw2).1.two; obtain ⟨k2, k3, _, _⟩ := (hBy _ hbw2).2.two; have gB0 : ∀ o, (w2.alloc o).cell? ⟨w.heap.size, 0, none⟩ = some (.int .i64 (n : Int)) := fun o => (hBy _ (hbw2.alloc hbw2.size o)).1.two.1; have gB1 : ∀ o, (w2.alloc o).cell? ⟨w.heap.size, 1, none⟩ = some (.slice A L c) := fun o => (hBy _ (hbw2.alloc hbw2.size o)).1.two.2.1)
            | (go_simp; go_at_call 63; refine (hcon A2 c2 _ (hsA _ hbw2) (own_isn (World.ownsRow.alloc ho2 _) HWLE.out.symm)).mono ?_; rintro e w3 ⟨v3, rfl, ho3, hb3⟩; obtain ⟨A3, c3, rfl, _⟩ := own_slice' ho3; rw [← HX.out] at ho3 ⊢; have hbw3 : Below ws.heap.size ws w3 := (bel_call (hbw2.alloc hbw2.size _) hb3); have B6 := (BK.new w2 41 #[.int .i64 0, .slice none 0 0]).below hb3 (by simp); obtain ⟨k4, k5, kz4, kz5⟩ := B6.two)
            | (go_simp; go_at_call 63; refine (hcon A2 c2 _ (hsx _ hbw2) (own_isn ho2 HWLE.out.symm)).mono ?_; rintro e w3 ⟨v3, rfl, ho3, hb3⟩; obtain ⟨A3, c3, rfl, _⟩ := own_slice' ho3; rw [← HX.out] at ho3 ⊢; have hbw3 : Below ws.heap.size ws w3 := (bel_call hbw2 hb3); have B6 : BK w3 ws.heap.size 41 #[.int .i64 0, .slice none 0 0] := BK.below (BK.below (BK.new (ws.drewN (nq + 1)) _ _) hb2 (size_lt_alloc _ _)) hb3 (Nat.lt_of_lt_of_le (size_lt_alloc (ws.drewN (nq + 1)) _) hb2.size); obtain ⟨k4, k5, kz4, kz5⟩ := B6.two)
            | (go_simp; go_at_call 63; refine (hcon A2 c2 _ (hsx _ hbw2) (own_isn ho2 HWLE.out.symm)).mono ?_; rintro e w3 ⟨v3, rfl, ho3, hb3⟩; obtain ⟨A3, c3, rfl, _⟩ := own_slice' ho3; rw [← HX.out] at ho3 ⊢; have hbw3 : Below ws.heap.size ws w3 := (bel_call hbw2 hb3)))
        all_goals
          refine ⟨_, A3, c3, _, _, _, _, _, _, rfl, ?_⟩
          first
            | exact cg_close B6 ho3 (fun h => by have h1 := (ho3.lt _ h).1; have h2 := hb2.size; have h3 := hb3.size; simp at h1 h2 h3; omega) HX.out hbw3 (by have h2 := hbw2.size; omega)
            | exact cg_close2 ho3 HX.out hbw3
      intro e a' w' hq
      match e, hq with
      | .normal, ⟨g, A3, c3, v14, v15, v16, v17, v18, v19, hae, hB6, hi6, hb6⟩ =>
        subst hae
        obtain ⟨p0, p1, _, _⟩ := hB6.two
        obtain ⟨p2, p3, _, _⟩ := (hBy _ hb6).2.two
        have hz6 := hb6.size
        have hz0' := hb.size
        have hgl := hB6.lt
        have hh1 : w.heap.size + 1 < w'.heap.size := by omega
        have hiW := fun W (h : Below w'.heap.size w' W ∧ W.cell? ⟨w.heap.size + 1, 0, none⟩ = some (.int .i64 (n : Int)) ∧ W.cell? ⟨w.heap.size + 1, 1, none⟩ = some (.slice A' L' c') ∧ W.cell? ⟨g, 1, none⟩ = some (.slice A3 X c3)) => hi6.call h.1
        have hsW := fun W (h : Below w'.heap.size w' W ∧ W.cell? ⟨w.heap.size + 1, 0, none⟩ = some (.int .i64 (n : Int)) ∧ W.cell? ⟨w.heap.size + 1, 1, none⟩ = some (.slice A' L' c') ∧ W.cell? ⟨g, 1, none⟩ = some (.slice A3 X c3)) => (hsy w' hb6).call h.1
        have hst : Below w'.heap.size w' w'.drew ∧ w'.drew.cell? ⟨w.heap.size + 1, 0, none⟩ = some (.int .i64 (n : Int)) ∧ w'.drew.cell? ⟨w.heap.size + 1, 1, none⟩ = some (.slice A' L' c') ∧ w'.drew.cell? ⟨g, 1, none⟩ = some (.slice A3 X c3) := ⟨(Below.refl _ _).drew, p2, p3, p1⟩
        clear hsx hsy hsA hBy hwith hcon fA0 fA1 fA2 hAB f0 f1 f2 f3 p0 p1 p2 p3 hB6 hi6 hs0 hs0'
        go_wp2_with (fail)
        go_region_held3 (fun W => Below w'.heap.size w' W ∧ W.cell? ⟨w.heap.size + 1, 0, none⟩ = some (.int .i64 (n : Int)) ∧ W.cell? ⟨w.heap.size + 1, 1, none⟩ = some (.slice A' L' c') ∧ W.cell? ⟨g, 1, none⟩ = some (.slice A3 X c3)) ((first | exact hst | (refine keepC3 hh1 hh1 hgl ?_ hb9; assumption)))
          (first | (go_at_call 90; refine (hcom A3 c3 _ (hiW _ (by assumption)) (hsW _ (by assumption))).mono ?_; rintro e w9 ⟨v9, rfl, ho9, hb9⟩; obtain ⟨A9, c9, rfl, _⟩ := own_slice' ho9) | fail)
        have hS9 : Below w'.heap.size w' w9 ∧ w9.cell? ⟨w.heap.size + 1, 0, none⟩ = some (.int .i64 (n : Int)) ∧ w9.cell? ⟨w.heap.size + 1, 1, none⟩ = some (.slice A' L' c') ∧ w9.cell? ⟨g, 1, none⟩ = some (.slice A3 X c3) := by assumption
        have hb9' := bel_call (hb.trans (hb6.mono hsz)) hS9.1
        clear hst hS9 hiW hsW hcom
        by_cases hYX : Y = X
        · have ht : (((Y : Nat) : Int) == (X : Int)) = true := by rw [beq_iff_eq]; omega
          have hct : ca r = true := by rw [HCAE.out]; simp [hYX]
          have hCB := HY.out r hlt hct
          have HCB := Lib.hid hCB
          clear hCB hct hYX
          go_wp2_with (fail)
          go_ret
          exact ⟨ret_bool HCB.out.symm, bel_call hb0 hb9'⟩
        · have ht : (((Y : Nat) : Int) == (X : Int)) = false := by rw [beq_eq_false_iff_ne]; omega
          have hct : ca r = false := by rw [HCAE.out]; simp [hYX]
          have HI2 : Hid (∀ j, j < r + 1 → ca j = false) := fun j hj => by
            by_cases hjr : j = r
            · subst hjr; exact hct
            · exact HI.out j (by omega)
          clear hct hYX
          go_wp2_with (fail)
          go_roundw
          case rel => exact ⟨r + 1, by omega, by go_num, HI2.out, hb9'⟩
          case measure => simp [intOf]; omega
    · obtain rfl : F = r := by omega
      have hCB := HNO.out (fun j hj => HI.out j hj)
      have HCB := Lib.hid hCB
      clear hCB
      go_wp2_with (go_at_call 51; refine (hfa _).mono ?_; rintro e w4 ⟨rfl, nq, rfl⟩)
      go_ret
      exact ⟨ret_bool HCB.out.symm, below_drewN (bel_call hb0 hb) _⟩
end Go.Proofs.YtkiglhaeiomohaaGreat
