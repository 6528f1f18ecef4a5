/- Draws of groups, rarely of others. -/
import Derived.Test.YthjoegoeaiemdaaA193
import Derived.Deep.RegionHeld3
namespace Go.Proofs.Ythjoegoeaiemdaa
set_option linter.unusedVariables false
set_option linter.unusedSimpArgs false
open Go.RowKit

/-- A slice of int64 in a block of the call's own. -/
def ISF (w : World) (lo : Nat) (A : Option Addr) (l : List Int) : Prop := 0 < l.length → ∃ b off, A = some ⟨b, off, none⟩ ∧ lo ≤ b ∧ b < w.heap.size ∧ ∀ k, k < l.length → w.cell? ⟨b, off + k, none⟩ = some (.int .i64 (gt l k))
theorem ISF.is {w : World} {lo : Nat} {A : Option Addr} {l : List Int} (h : ISF w lo A l) : IS w w.heap.size A l := fun h0 => by
  obtain ⟨b, off, h1, _, h2, h3⟩ := h h0
  exact ⟨b, off, h1, h2, h3⟩
theorem own_isf {w : World} {base lo n c : Nat} {A : Option Addr} {l : List Int} (h : w.ownsRow base 2 1 (.slice A n c) n (ints l)) (hn : n = l.length) (hb : lo ≤ base) : ISF w lo A l := fun h0 => by
  obtain ⟨g, rfl, h1, h2, h3⟩ := own_src h (by omega)
  exact ⟨g, 0, rfl, by omega, h2, fun k hk => by rw [Nat.zero_add]; exact h3 k _ (ints_at (l := l) hk)⟩
/-- Any group at all. -/
def GD (g : Nat) (w : World) (e : Ending) (w' : World) : Prop := ∃ (p : Int) (A : Option Addr) (L c : Nat) (l : List Int), e = .returned (.agg #[.int .i64 p, .slice A L c]) ∧ L = l.length ∧ L ≤ 1000 ∧ ISF w' w.heap.size A l ∧ SRC w' g ∧ Up g w.heap.size w w'
theorem cell_two_other {w : World} {r s i : Nat} {v : Value} (hrs : r ≠ s) (h : w.cell? ⟨s, i, none⟩ = some v) (x y : Value) : ((w.setCell ⟨r, 0, none⟩ x).setCell ⟨r, 1, none⟩ y).cell? ⟨s, i, none⟩ = some v := by
  have ne0 : ∀ j, (⟨r, j, none⟩ : Addr) ≠ ⟨s, i, none⟩ := fun j e => by injection e with e; exact hrs e
  rw [World.cell?_setCell_other (h := ne0 1), World.cell?_setCell_other (h := ne0 0), h]
set_option maxRecDepth 20000 in
set_option maxHeartbeats 2000000 in
theorem s_l22Draw (g : Nat) (w : World) (hs : SRC w g) : Calls Try.prog 60 #[.pointer (some ⟨g, 0, none⟩)] w (GD g w) := by
  have hv := fun W h => s_l22Valid g W h
  have hnx := fun W n h1 h => s_nextI g n h1 W h
  have hgw := hs.lt
  have hs0 := hs.call ((Below.refl w.heap.size w).alloc (Nat.le_refl _) (.cells #[.int .i64 0, .slice none 0 0] 26))
  have B0 := BK.new w 26 #[.int .i64 0, .slice none 0 0]
  have u0 : Up g w.heap.size w (w.alloc (.cells #[.int .i64 0, .slice none 0 0] 26)) := Up.of ((Below.refl w.heap.size w).alloc (Nat.le_refl _) (.cells #[.int .i64 0, .slice none 0 0] 26))
  have hz0 : (w.alloc (.cells #[.int .i64 0, .slice none 0 0] 26)).heap.size = w.heap.size + 1 := World.size_alloc _ _
  go_enter Try.func60, Try.ntmps60
  go_wp2_with (fail)
  refine (hv _ hs0).mono ?_
  rintro e w1 ⟨n, gens, hn1, hn5, hin, A1, c1, rfl, o1, hs1, hu1⟩
  obtain ⟨hp0, hpF⟩ := RK_posG hin
  have hfl := fact_720 (n := n) (by omega)
  have hfac := fun W => s_factN n W (by omega)
  have hfp := fact_pos n
  generalize RK n gens = l at *
  generalize hL : l.length = L at *
  have HL := Lib.hid hL.symm
  generalize fact n = F at *
  have u1 := u0.call hu1
  generalize w.alloc (.cells #[.int .i64 0, .slice none 0 0] 26) = w0 at *
  have hz1 := hu1.size
  have B1 : BK w1 w.heap.size 26 #[.int .i64 0, .slice none 0 0] := by
    unfold BK at B0 ⊢
    rw [hu1.block _ (by omega) (by omega)]
    exact B0
  have hb1 := (Below.refl w1.heap.size w1).alloc (Nat.le_refl _) (.cells #[.int .i64 (n : Int), .slice A1 L c1] 26)
  have G1 := BK.new w1 26 #[.int .i64 (n : Int), .slice A1 L c1]
  have hs2 := hs1.call hb1
  have o2 := own_below o1 hb1
  have B2 := B1.below hb1 (by omega)
  have u2 := u1.thenB hb1
  have hz2 : (w1.alloc (.cells #[.int .i64 (n : Int), .slice A1 L c1] 26)).heap.size = w1.heap.size + 1 := World.size_alloc _ _
  clear hL hu1 u0 u1 B0 B1 hs0 hs1 o1 hv hin
  go_wp2_with (fail)
  refine (hnx _ 24 (by omega) hs2).mono ?_
  rintro e w3 ⟨k, rfl, hk, hs3, hu3⟩
  generalize w1.alloc (.cells #[.int .i64 (n : Int), .slice A1 L c1] 26) = w2 at *
  have hz3 := hu3.size
  have B3 : BK w3 w.heap.size 26 #[.int .i64 0, .slice none 0 0] := by
    unfold BK at B2 ⊢
    rw [hu3.block _ (by omega) (by omega)]
    exact B2
  have G3 : BK w3 w1.heap.size 26 #[.int .i64 (n : Int), .slice A1 L c1] := by
    unfold BK at G1 ⊢
    rw [hu3.block _ (by omega) (by omega)]
    exact G1
  have u3 := u2.call hu3
  have o3 := up_own (B := 0) o2 hu3 (by omega)
  obtain ⟨d0, d1, _, _⟩ := G3.two
  obtain ⟨r0, r1, rf0, rf1⟩ := B3.two
  clear B2 G1 u2 o2 hs2 hu3 hnx
  have hk4 : k = 0 ∨ k = 1 ∨ k = 2 ∨ 2 < k := by omega
  rcases hk4 with rfl | rfl | rfl | hk2
  · obtain ⟨g1, rfl, hg1, hg1', hc1⟩ := own_src o3 (by omega)
    have hown := s_l01Own ⟨g1, 0, none⟩ L c1 l w3.drew HL.out (by omega) (fun j u hj => by rw [Go.WideShapes.add_plain, Nat.zero_add]; exact hc1 j u hj) (fun j => by rw [Go.WideShapes.add_plain]; exact hg1')
    have hf1 : IntKind.i64.wrap ((F : Int) - 1) = (F : Int) - 1 := IntWalk.i64_in _ (by omega)
    obtain ⟨i0, hi, hz0', hz1', hz2'⟩ := info_parts infoI64
    clear hc1 hk hs
    go_wp2_with (fail)
    have hS3 : w3.drew.cell? ⟨w1.heap.size, 0, none⟩ = some (.int .i64 (n : Int)) ∧ w3.drew.cell? ⟨w1.heap.size, 1, none⟩ = some (.slice (some ⟨g1, 0, none⟩) L c1) := ⟨d0, d1⟩
    clear d0 d1
    go_region_held3 (fun W => W.cell? ⟨w1.heap.size, 0, none⟩ = some (.int .i64 (n : Int)) ∧ W.cell? ⟨w1.heap.size, 1, none⟩ = some (.slice (some ⟨g1, 0, none⟩) L c1)) ((first | exact hS7 _ _ | exact hS6 | exact hS5a _ | exact hS5d | exact hS5 | exact hS3))
      (first
        | ((refine step_append_own (by rfl) (.tmp 14) (.tmp 19) 24 (by rfl) w3.heap.size 2 i0 (.int .i64 0) 1 8 Try.underlying24 hi hz0' hz1' hz2' rfl (by omega) (.slice A5 L c5) L (ints l) (by rfl) (World.ownsRow.alloc o5 _) ⟨w5.heap.size, 0, none⟩ 1 1 [.int .i64 ((F : Int) - 1)] (by rfl) (by rfl) (one_src_dr w5 q5 _ _ _ rfl) (fun u hu => by rw [List.mem_singleton.1 hu]; rfl) (by simp only [maxLen]; omega) (by omega) (by have : w3.heap.size ≤ w5.heap.size := hz5; simp; try omega) ?_; intro v6 w6 o6 g6 at6; obtain ⟨A6, c6, rfl, _⟩ := own_slice' o6; have hne6 := fun r (h : r < w3.heap.size) (e : some r = (Value.slice A5 L c5).ownBlock) => Nat.lt_irrefl _ (Nat.lt_of_lt_of_le h (o5.lt _ e.symm).1); have B6 := BK.kept ((B5.drewN q5).alloc _) g6 (fun e => hne6 _ (by omega) e); obtain ⟨r6, r7, rf6, rf7⟩ := B6.two; have G6 := BK.kept ((G5.drewN q5).alloc _) g6 (fun e => hne6 _ (by omega) e); have hS6 : w6.cell? ⟨w1.heap.size, 0, none⟩ = some (.int .i64 (n : Int)) ∧ w6.cell? ⟨w1.heap.size, 1, none⟩ = some (.slice (some ⟨g1, 0, none⟩) L c1) := ⟨G6.two.1, G6.two.2.1⟩; have hS7 := fun x y => And.intro (cell_two_other (r := w.heap.size) (by omega) hS6.1 x y) (cell_two_other (r := w.heap.size) (by omega) hS6.2 x y)))
        | (go_at_call 119; refine (hfac _).mono ?_; rintro e w5' ⟨rfl, q5, rfl⟩; have d5a : ∀ o, ((w5.drewN q5).alloc o).cell? ⟨w1.heap.size, 0, none⟩ = some (.int .i64 (n : Int)) := fun o => ((G5.drewN q5).alloc o).two.1; have hS5d : (w5.drewN q5).cell? ⟨w1.heap.size, 0, none⟩ = some (.int .i64 (n : Int)) ∧ (w5.drewN q5).cell? ⟨w1.heap.size, 1, none⟩ = some (.slice (some ⟨g1, 0, none⟩) L c1) := ⟨G5.two.1, G5.two.2.1⟩; have hS5a : ∀ o, ((w5.drewN q5).alloc o).cell? ⟨w1.heap.size, 0, none⟩ = some (.int .i64 (n : Int)) ∧ ((w5.drewN q5).alloc o).cell? ⟨w1.heap.size, 1, none⟩ = some (.slice (some ⟨g1, 0, none⟩) L c1) := fun o => ⟨((G5.drewN q5).alloc o).two.1, ((G5.drewN q5).alloc o).two.2.1⟩)
        | (go_at_call 118; refine hown.mono ?_; rintro e w5 ⟨v5, rfl, o5, hb5⟩; obtain ⟨A5, c5, rfl, _⟩ := own_slice' o5; have hb5 := undrew (n := 1) hb5; have hz5 := hb5.size; have G5 := G3.below hb5 (by show w1.heap.size < w3.heap.size; omega); have d5 := G5.two.1; have B5 := B3.below hb5 (by show w.heap.size < w3.heap.size; omega); have hS5 : w5.cell? ⟨w1.heap.size, 0, none⟩ = some (.int .i64 (n : Int)) ∧ w5.cell? ⟨w1.heap.size, 1, none⟩ = some (.slice (some ⟨g1, 0, none⟩) L c1) := ⟨G5.two.1, G5.two.2.1⟩))
    all_goals
      have hg5 : g < w3.heap.size := by omega
      have hb6 := ((below_drewN (Below.refl w5.heap.size w5) q5).alloc (Nat.le_refl _) (.cells #[.int .i64 ((F : Int) - 1)] 2))
      have hs6 := (((hs3.call hb5).call hb6)).grown g6 (fun x hx => Nat.lt_of_lt_of_le hg5 (o5.lt x hx).1)
      have u6 := (u3.thenB hb5).trans (Up.of ((hb6.mono (B' := w.heap.size) (by have : w3.heap.size ≤ w5.heap.size := hz5; omega)).grown g6 (by have : w3.heap.size ≤ w5.heap.size := hz5; simp; omega) (fun x hx => by have h3 : w3.heap.size ≤ x := (o5.lt x hx).1; omega)))
      rw [← ints_snoc] at o6
      obtain ⟨e0, e1, hs7, u7, o7⟩ := gv_close (w := w) (.int .i64 (n : Int)) hs6 B6 hgw (Nat.le_refl _) u6 o6 (by omega)
      generalize (w6.setCell ⟨w.heap.size, 0, none⟩ (.int .i64 (n : Int))).setCell ⟨w.heap.size, 1, none⟩ (.slice A6 (L + 1) c6) = w7 at *
      go_wp2_with (fail)
      refine bodyPost_ret (v := .agg #[.int .i64 (n : Int), .slice A6 (L + 1) c6]) (by simp [results, Try.results60, go_sem, e0, e1]) rfl ?_
      have hl1 : L + 1 = (l ++ [(F : Int) - 1]).length := by rw [List.length_append, ← HL.out]; rfl
      exact ⟨n, A6, L + 1, c6, l ++ [(F : Int) - 1], rfl, hl1, by omega, own_isf o7 hl1 (by omega), hs7, u7⟩
  · have hpk := fun x W h => s_pick3 g 0 7 x W h
    have hs3d : SRC w3.drew g := hs3
    have d1a := (((Below.refl w3.heap.size w3).alloc (Nat.le_refl _) (.cells #[.int .i64 0, .int .i64 7, .int .i64 ((n : Int) + 1)] 2)).cell (p := ⟨w1.heap.size, 1, none⟩) (by show w1.heap.size < _; omega)).trans d1
    have hw1 : IntKind.i64.wrap ((n : Int) + 1) = (n : Int) + 1 := IntWalk.i64_in _ (by omega)
    go_wp2_with (fail)
    go_region_law
      (go_simp; first
        | (go_at_call 78; refine (hpk ((n : Int) + 1) _ hs3d).mono ?_; rintro e w6 ⟨p6, rfl, _, hs6, hu6⟩; have hu6 : Up g w3.heap.size w3 w6 := ⟨hu6.os, hu6.tape, hu6.output, hu6.size, hu6.block⟩; have hz6 := hu6.size; have d6 := (hu6.cell (p := ⟨w1.heap.size, 1, none⟩) (by show w1.heap.size < _; omega) (by show w1.heap.size ≠ _; omega)).trans d1; have r6 := (hu6.cell (p := ⟨w.heap.size, 0, none⟩) (by show w.heap.size < _; omega) (by show w.heap.size ≠ _; omega)).trans r0; have r7 := (hu6.cell (p := ⟨w.heap.size, 1, none⟩) (by show w.heap.size < _; omega) (by show w.heap.size ≠ _; omega)).trans r1; have B6 : BK w6 w.heap.size 26 #[.int .i64 0, .slice none 0 0] := (by unfold BK at B3 ⊢; rw [hu6.block _ (by omega) (by omega)]; exact B3); obtain ⟨_, _, rf6, rf7⟩ := B6.two))
    all_goals
      have u6 := u3.call hu6
      have o6 := up_own (B := 0) o3 hu6 (by omega)
      obtain ⟨d0, d1, hs7, u7, o7⟩ := gv_close (w := w) (.int .i64 p6) hs6 B6 hgw (Nat.le_refl _) u6 o6 (by omega)
      generalize (w6.setCell ⟨w.heap.size, 0, none⟩ (.int .i64 p6)).setCell ⟨w.heap.size, 1, none⟩ (.slice A1 L c1) = w7 at *
      go_wp2_with (fail)
      refine bodyPost_ret (v := .agg #[.int .i64 p6, .slice A1 L c1]) (by simp [results, Try.results60, go_sem, d0, d1]) rfl ?_
      exact ⟨p6, A1, L, c1, l, rfl, HL.out, by omega, own_isf o7 HL.out (by omega), hs7, u7⟩
  · obtain ⟨g1, rfl, hg1, hg1', hc1⟩ := own_src o3 (by omega)
    have hcap := (own_cap o3).1
    have hL1 : (1 : Int) ≤ (L : Int) := by omega
    go_wp2_with (fail)
    have hc1' : ∀ j, j < L → w3.cell? ⟨g1, j, none⟩ = some (.int .i64 (gt l j)) := fun j hj => hc1 j _ (ints_at (l := l) (by rw [← HL.out]; exact hj))
    have htl : L - 1 = l.tail.length := by rw [List.length_tail, ← HL.out]
    have hgt : ∀ j, gt l.tail j = gt l (j + 1) := fun j => by cases l <;> simp [gt]
    have hg1n : g1 ≠ w.heap.size := by omega
    have hb3 : Below w.heap.size w3 w3 := Below.refl _ _
    have HTL := Lib.hid htl
    have HGT := Lib.hid hgt
    have HC := Lib.hid hc1'
    have hfin : ∀ (A2 : Option Addr) (m c2 : Nat), m = L - 1 → (0 < m → A2 = some ⟨g1, 1, none⟩) → GD g w (.returned (.agg #[.int .i64 (n : Int), .slice A2 m c2])) ((w3.setCell ⟨w.heap.size, 0, none⟩ (.int .i64 (n : Int))).setCell ⟨w.heap.size, 1, none⟩ (.slice A2 m c2)).drew ∧ ((w3.setCell ⟨w.heap.size, 0, none⟩ (.int .i64 (n : Int))).setCell ⟨w.heap.size, 1, none⟩ (.slice A2 m c2)).drew.cell? ⟨w.heap.size, 0, none⟩ = some (.int .i64 (n : Int)) ∧ ((w3.setCell ⟨w.heap.size, 0, none⟩ (.int .i64 (n : Int))).setCell ⟨w.heap.size, 1, none⟩ (.slice A2 m c2)).drew.cell? ⟨w.heap.size, 1, none⟩ = some (.slice A2 m c2) := fun A2 m c2 hm hA => by
      have hb : Below w.heap.size w3 ((w3.setCell ⟨w.heap.size, 0, none⟩ (.int .i64 (n : Int))).setCell ⟨w.heap.size, 1, none⟩ (.slice A2 m c2)).drew := (((Below.refl w.heap.size w3).setCell (p := ⟨w.heap.size, 0, none⟩) (Nat.le_refl _) _).setCell (p := ⟨w.heap.size, 1, none⟩) (Nat.le_refl _) _).drew
      have h5 := (B3.set 0 (.int .i64 (n : Int))).set 1 (.slice A2 m c2)
      obtain ⟨q0, q1, _, _⟩ := BK.two (x := .int .i64 (n : Int)) (y := .slice A2 m c2) (by simpa using h5)
      refine ⟨⟨n, A2, m, c2, l.tail, rfl, hm.trans HTL.out, by omega, fun h0 => ?_, hs3.below hb hgw, u3.trans (Up.of hb)⟩, q0, q1⟩
      have hA2 := hA (by have := HTL.out; omega)
      subst hA2
      refine ⟨g1, 1, rfl, by omega, by have := hb.size; omega, fun j hj => ?_⟩
      show ((w3.setCell ⟨w.heap.size, 0, none⟩ (.int .i64 (n : Int))).setCell ⟨w.heap.size, 1, none⟩ _).cell? ⟨g1, 1 + j, none⟩ = _
      have ne0 : ∀ i, (⟨w.heap.size, i, none⟩ : Addr) ≠ ⟨g1, 1 + j, none⟩ := fun i e => by injection e with e; exact hg1n e.symm
      rw [HGT.out, World.cell?_setCell_other (h := ne0 1), World.cell?_setCell_other (h := ne0 0), Nat.add_comm 1 j]
      exact HC.out (j + 1) (by have := HTL.out; omega)
    clear hc1' htl hgt
    by_cases hc : c1 = 1
    · subst hc
      have hL' : L - 1 = 0 := by omega
      have hf := hfin (some ⟨g1, 0, none⟩) 0 0 hL'.symm (by omega)
      rw [hL'] at hfin
      go_region_law (fail)
      all_goals
        obtain ⟨f1, f2, f3⟩ := hf
        generalize ((w3.setCell ⟨w.heap.size, 0, none⟩ (.int .i64 (n : Int))).setCell ⟨w.heap.size, 1, none⟩ (.slice (some ⟨g1, 0, none⟩) 0 0)).drew = w7 at *
        go_wp2_with (fail)
        refine bodyPost_ret (v := .agg #[.int .i64 (n : Int), .slice (some ⟨g1, 0, none⟩) 0 0]) (by simp [results, Try.results60, go_sem, f2, f3]) rfl ?_
        exact f1
    · have hf := hfin (some ⟨g1, 1, none⟩) (L - 1) (c1 - 1) rfl (fun _ => rfl)
      go_region_law (fail)
      all_goals
        obtain ⟨f1, f2, f3⟩ := hf
        generalize ((w3.setCell ⟨w.heap.size, 0, none⟩ (.int .i64 (n : Int))).setCell ⟨w.heap.size, 1, none⟩ (.slice (some ⟨g1, 1, none⟩) (L - 1) (c1 - 1))).drew = w7 at *
        go_wp2_with (fail)
        refine bodyPost_ret (v := .agg #[.int .i64 (n : Int), .slice (some ⟨g1, 1, none⟩) (L - 1) (c1 - 1)]) (by simp [results, Try.results60, go_sem, f2, f3]) rfl ?_
        exact f1
  · have t0 : ((k : Int) == 0) = false := by rw [beq_eq_false_iff_ne]; omega
    have t1 : ((k : Int) == 1) = false := by rw [beq_eq_false_iff_ne]; omega
    have t2 : ((k : Int) == 2) = false := by rw [beq_eq_false_iff_ne]; omega
    go_wp2_with (fail)
    obtain ⟨d0, d1, hs7, u7, o7⟩ := gv_close (w := w) (.int .i64 (n : Int)) hs3 B3 hgw (Nat.le_refl _) u3 o3 (by omega)
    generalize (w3.setCell ⟨w.heap.size, 0, none⟩ (.int .i64 (n : Int))).setCell ⟨w.heap.size, 1, none⟩ (.slice A1 L c1) = w7 at *
    refine bodyPost_ret (v := .agg #[.int .i64 (n : Int), .slice A1 L c1]) (by simp [results, Try.results60, go_sem, d0, d1]) rfl ?_
    exact ⟨n, A1, L, c1, l, rfl, HL.out, by omega, own_isf o7 HL.out (by omega), hs7, u7⟩
end Go.Proofs.Ythjoegoeaiemdaa
