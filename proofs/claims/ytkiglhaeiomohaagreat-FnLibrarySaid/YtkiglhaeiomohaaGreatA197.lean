/- Draws of a group to be named. -/
import Derived.Test.YtkiglhaeiomohaaGreatA194
import Derived.Test.YtkiglhaeiomohaaGreatA196
namespace Go.Proofs.YtkiglhaeiomohaaGreat
set_option linter.unusedVariables false
set_option linter.unusedSimpArgs false
open Go.RowKit

theorem src_dr {w : World} {g : Nat} (h : SRC w g) : SRC w.drew g := h
theorem up_dr {g B q : Nat} {w w' : World} (h : Up g B (w.drew.drewN q) w') : Up g B w w' := ⟨h.os, h.tape, h.output, h.size, h.block⟩
/-- Any group, in memory of the call's own. -/
def GB (w : World) (e : Ending) (w' : World) : Prop := ∃ (p : Int) (A : Option Addr) (L c : Nat) (l : List Int), e = .returned (.agg #[.int .i64 p, .slice A L c]) ∧ L = l.length ∧ L ≤ 1000 ∧ IS w' w'.heap.size A l ∧ Below w.heap.size w w'
/-- A group is stored into the result's cell, and handed back. -/
theorem gb_close {w W : World} {L c lo : Nat} {A : Option Addr} {l : List Int} {x y : Value} (p : Int) (hB : BK W w.heap.size 41 #[x, y]) (hb : Below w.heap.size w W) (hL : L = l.length) (hl : L ≤ 1000) (ho : ISF W lo A l) (hlo : w.heap.size < lo) :
    ((W.setCell ⟨w.heap.size, 0, none⟩ (.int .i64 p)).setCell ⟨w.heap.size, 1, none⟩ (.slice A L c)).cell? ⟨w.heap.size, 0, none⟩ = some (.int .i64 p) ∧ ((W.setCell ⟨w.heap.size, 0, none⟩ (.int .i64 p)).setCell ⟨w.heap.size, 1, none⟩ (.slice A L c)).cell? ⟨w.heap.size, 1, none⟩ = some (.slice A L c) ∧
    GB w (.returned (.agg #[.int .i64 p, .slice A L c])) ((W.setCell ⟨w.heap.size, 0, none⟩ (.int .i64 p)).setCell ⟨w.heap.size, 1, none⟩ (.slice A L c)) := by
  have h5 := (hB.set 0 (.int .i64 p)).set 1 (.slice A L c)
  obtain ⟨d0, d1, _, _⟩ := BK.two (x := .int .i64 p) (y := .slice A L c) (by simpa using h5)
  refine ⟨d0, d1, p, A, L, c, l, rfl, hL, hl, fun h0 => ?_, (hb.setCell (p := ⟨w.heap.size, 0, none⟩) (Nat.le_refl _) _).setCell (p := ⟨w.heap.size, 1, none⟩) (Nat.le_refl _) _⟩
  obtain ⟨b, off, h1, h2, h3, h4⟩ := ho h0
  exact ⟨b, off, h1, by simpa [World.setCell] using h3, fun k hk => cell_two_other (by omega) (h4 k hk) _ _⟩
set_option maxRecDepth 20000 in
set_option maxHeartbeats 2000000 in
theorem s_DrawNameOf (A : Option Addr) (n c : Nat) (w : World) (hn : n ≤ 4096) (hs : YB w w.heap.size A n) : Calls Tryz.prog 22 #[.slice A n c] w (GB w) := by
  have B0 := BK.new w 41 #[.int .i64 0, .slice none 0 0]
  have hb0 := (Below.refl w.heap.size w).alloc (Nat.le_refl _) (.cells #[.int .i64 0, .slice none 0 0] 41)
  have hf := s_l01From A n c _ hn (hs.call hb0)
  have hz0 : (w.alloc (.cells #[.int .i64 0, .slice none 0 0] 41)).heap.size = w.heap.size + 1 := World.size_alloc _ _
  rw [hz0] at hf
  have hnx := fun W n h1 h => s_nextI (w.heap.size + 1) n h1 W h
  have hdr := fun W h => s_l22Draw (w.heap.size + 1) W h
  have hnm := fun W => s_l24Names W
  go_enter Tryz.func22, Tryz.ntmps22
  go_wp2_with (fail)
  refine hf.mono ?_
  rintro e w1 ⟨rfl, hs1, hb1⟩
  generalize w.alloc (.cells #[.int .i64 0, .slice none 0 0] 41) = w0 at *
  have B1 := B0.below hb1 (by omega)
  have b1 : Below w.heap.size w w1 := hb0.trans (hb1.mono (by omega))
  have hz1 : w.heap.size + 1 < w1.heap.size := hs1.lt
  clear B0 hb0 hb1 hf hs
  go_wp2_with (fail)
  refine (hnx _ 3 (by omega) hs1).mono ?_
  rintro e w2 ⟨k, rfl, hk, hs2, hu2⟩
  have b2 : Below w.heap.size w w2 := b1.trans ((hu2.mono (B' := w.heap.size) (by omega)).below (by omega))
  have B2 : BK w2 w.heap.size 41 #[.int .i64 0, .slice none 0 0] := by
    unfold BK at B1 ⊢
    rw [hu2.block _ (by omega) (by omega)]
    exact B1
  have hz2 := hu2.size
  clear B1 b1 hs1 hu2
  by_cases hk0 : k = 0
  · have hz : ((k : Int) == 0) = true := by rw [beq_iff_eq]; omega
    clear hk0
    go_wp2_with (fail)
    refine (hdr _ hs2).mono ?_
    rintro e w3 ⟨p, A3, L, c3, l, rfl, hL, hl, hif, hs3, hu3⟩
    have B3 : BK w3 w.heap.size 41 #[.int .i64 0, .slice none 0 0] := by
      unfold BK at B2 ⊢
      rw [hu3.block _ (by omega) (by omega)]
      exact B2
    have b3 : Below w.heap.size w w3 := b2.trans ((hu3.mono (B' := w.heap.size) (by omega)).below (by omega))
    obtain ⟨_, _, f0, f1⟩ := B3.two
    obtain ⟨d0, d1, hG⟩ := gb_close (c := c3) p B3 b3 hL hl hif (by omega)
    obtain ⟨q0, q1, _, _⟩ := B3.two
    clear hL hl hif hs3 hu3 B2 b2
    go_wp2_with (fail)
    generalize (w3.setCell ⟨w.heap.size, 0, none⟩ (.int .i64 p)).setCell ⟨w.heap.size, 1, none⟩ (.slice A3 L c3) = w7 at *
    refine bodyPost_ret (v := .agg #[.int .i64 p, .slice A3 L c3]) (by simp [results, Tryz.results22, go_sem, d0, d1]) rfl ?_
    exact hG
  · have hz : ((k : Int) == 0) = false := by rw [beq_eq_false_iff_ne]; omega
    clear hk0
    go_wp2_with (fail)
    refine (hnm _).mono ?_
    rintro e w3 ⟨bn, rfl, hnb, hb3, hbw⟩
    have hs3 := hs2.call hb3
    have B3 := B2.below hb3 (by omega)
    have b3 := bel_call b2 hb3
    have hz3 := hb3.size
    clear B2 b2 hs2 hb3
    go_wp2_with (fail)
    refine (hnx _ 13 (by omega) hs3).mono ?_
    rintro e w4 ⟨i, rfl, hi, hs4, hu4⟩
    have hi14 : i < 14 := by omega
    obtain ⟨nb, hnbe, hc⟩ := hnb.2 i (by omega)
    have hc := (hu4.cell (p := ⟨bn, i, none⟩) hnb.1 (by show bn ≠ _; omega)).trans hc
    have b4 : Below w.heap.size w w4 := b3.trans ((hu4.mono (B' := w.heap.size) (by omega)).below (by omega))
    have B4 : BK w4 w.heap.size 41 #[.int .i64 0, .slice none 0 0] := by
      unfold BK at B3 ⊢
      rw [hu4.block _ (by omega) (by omega)]
      exact B3
    have hz4 := hu4.size
    have hgr := fun W => s_l24Group i hi14 nb hnbe W
    unfold GR at hgr
    have hRl := RK_len i hi14
    have hRi := RK_in i hi14
    obtain ⟨p1, p2, _⟩ := lb_in i hi14
    generalize RK (lbP i) (lbG i) = R at *
    generalize lbP i = p at *
    generalize hRL : R.length = L at *
    have HRL := Lib.hid hRL.symm
    clear hRL hnb hnbe B3 b3 hs3 hu4
    go_wp2_with (fail)
    refine (hgr _).mono ?_
    rintro e w5 ⟨v5, rfl, o5, hb5⟩
    obtain ⟨A5, c5, rfl, _⟩ := own_slice' o5
    have hb6 := (Below.refl w5.heap.size w5).alloc (Nat.le_refl _) (.cells #[.int .i64 (p : Int), .slice A5 L c5] 41)
    have G6 := BK.new w5 41 #[.int .i64 (p : Int), .slice A5 L c5]
    have o6 := own_below o5 hb6
    have hb56 := bel_call hb5 hb6
    have hs6 := hs4.call hb56
    have B6 := B4.below hb56 (by omega)
    have b6 := bel_call b4 hb56
    have hz5 := hb5.size
    have hz6 : (w5.alloc (.cells #[.int .i64 (p : Int), .slice A5 L c5] 41)).heap.size = w5.heap.size + 1 := World.size_alloc _ _
    clear o5 hb5 hs4 B4 b4 hgr hc hb56
    go_wp2_with (fail)
    generalize w5.alloc (.cells #[.int .i64 (p : Int), .slice A5 L c5] 41) = w6 at *
    have hfn := fun W => s_factN p W (by omega)
    have hwn := fun r W h => s_l21With p r W p1 (by omega) h
    have hwi := fun r (h : r < fact p) => wrL_in h
    have hcj := fun Aa ca (r : Nat) W (hr : r < fact p) h h' => s_conjugate p A5 Aa L c5 ca R (wrL p r) W p1 (by omega) HRL.out hRl hRi (wrL_in hr) h h'
    have hcl := fun r (hr : r < fact p) => (rkC_in p1 (wrL_in hr) hRi).2
    have hf7 := fact_720 (n := p) (by omega)
    have hfp := fact_pos p
    unfold GR at hcj
    generalize fact p = F at *
    have HWI := Lib.hid hwi
    have HCL := Lib.hid hcl
    obtain ⟨g0, g1, _, _⟩ := G6.two
    have hS6 : w6.drew.cell? ⟨w5.heap.size, 0, none⟩ = some (.int .i64 (p : Int)) ∧ w6.drew.cell? ⟨w5.heap.size, 1, none⟩ = some (.slice A5 L c5) := ⟨g0, g1⟩
    clear g0 g1 hwi hRi hcl hnx hdr hnm
    go_region_held3 (fun W => W.cell? ⟨w5.heap.size, 0, none⟩ = some (.int .i64 (p : Int)) ∧ W.cell? ⟨w5.heap.size, 1, none⟩ = some (.slice A5 L c5)) ((first | exact hS11 _ _ | exact hS10 | exact hS9 | exact hS8 | exact hS6))
      (first
        | (go_at_call 51; refine (hfn _).mono ?_; rintro e w7 ⟨rfl, q7, rfl⟩)
        | (go_at_call 48; refine (s_nextI (w.heap.size + 1) (F : Nat) (by omega) _ (by first | exact (src_dr hs6).drewN _ | exact hs6.drewN _ | exact hs6)).mono ?_; rintro e w8 ⟨k8, rfl, hk8, hs8, hu8⟩; have hu8 : Up (w.heap.size + 1) w6.heap.size w6 w8 := ⟨hu8.os, hu8.tape, hu8.output, hu8.size, hu8.block⟩; have hk8 := Int.ofNat_lt.mp hk8; have G8 : BK w8 w5.heap.size 41 #[.int .i64 (p : Int), .slice A5 L c5] := (by unfold BK at G6 ⊢; rw [hu8.block _ (by omega) (by omega)]; exact G6); have hS8 : w8.cell? ⟨w5.heap.size, 0, none⟩ = some (.int .i64 (p : Int)) ∧ w8.cell? ⟨w5.heap.size, 1, none⟩ = some (.slice A5 L c5) := ⟨G8.two.1, G8.two.2.1⟩)
        | (go_at_call 50; refine (hwn k8 _ hk8).mono ?_; rintro e w9 ⟨v9, rfl, o9, hb9⟩; obtain ⟨A9, c9, rfl, _⟩ := own_slice' o9; have G9 := G8.below hb9 G8.lt; have hS9 : w9.cell? ⟨w5.heap.size, 0, none⟩ = some (.int .i64 (p : Int)) ∧ w9.cell? ⟨w5.heap.size, 1, none⟩ = some (.slice A5 L c5) := ⟨G9.two.1, G9.two.2.1⟩; have o8 := own_below (up_own (B := 0) o6 hu8 (by omega)) hb9)
        | (go_at_call 63; refine (hcj A9 c9 k8 _ hk8 (own_isn o8 HRL.out) (own_isn o9 (HWI.out k8 hk8).1.symm)).mono ?_; rintro e w10 ⟨v10, rfl, o10, hb10⟩; obtain ⟨A10, c10, rfl, _⟩ := own_slice' o10; have hz8 := hu8.size; have hz9 := hb9.size; have B8 : BK w8 w.heap.size 41 #[.int .i64 0, .slice none 0 0] := (by unfold BK at B6 ⊢; rw [hu8.block _ (by omega) (by omega)]; exact B6); have B10 := (B8.below hb9 (by omega)).below hb10 (by omega); obtain ⟨r0, r1, rf0, rf1⟩ := B10.two; have G10 := G9.below hb10 G9.lt; have hS10 : w10.cell? ⟨w5.heap.size, 0, none⟩ = some (.int .i64 (p : Int)) ∧ w10.cell? ⟨w5.heap.size, 1, none⟩ = some (.slice A5 L c5) := ⟨G10.two.1, G10.two.2.1⟩; have hS11 := fun x y => And.intro (cell_two_other (r := w.heap.size) (by omega) hS10.1 x y) (cell_two_other (r := w.heap.size) (by omega) hS10.2 x y)))
    have b10 : Below w.heap.size w w10 := bel_call (bel_call (b6.trans ((hu8.mono (B' := w.heap.size) (by omega)).below (by omega))) hb9) hb10
    have hlen := HCL.out k8 hk8
    generalize rkC (cjM p (wrL p k8) R) = T at *
    obtain ⟨d0, d1, hG⟩ := gb_close (c := c10) (l := T) p B10 b10 rfl (by omega) (own_isf o10 rfl (Nat.le_refl _)) (by omega)
    clear B10 b10 o10 hS6 hS8 hS9 hS10 hS11
    generalize (w10.setCell ⟨w.heap.size, 0, none⟩ (.int .i64 (p : Int))).setCell ⟨w.heap.size, 1, none⟩ (.slice A10 T.length c10) = w11 at *
    go_wp2_with (fail)
    refine bodyPost_ret (v := .agg #[.int .i64 (p : Int), .slice A10 T.length c10]) (by simp [results, Tryz.results22, go_sem, d0, d1]) rfl ?_
    exact hG
end Go.Proofs.YtkiglhaeiomohaaGreat
