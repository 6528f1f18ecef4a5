/- Is a conjugate of one group part of another, on the side of the reference. -/
import Derived.Test.YtglijcdnnaekkaaGreatA133
import Derived.Deep.RegionHeld3
namespace Go.Proofs.YtglijcdnnaekkaaGreat
set_option linter.unusedVariables false
set_option linter.unusedSimpArgs false
open Go.RowKit

theorem rkC_in {n : Nat} {a l : List Int} (hn : 1 ≤ n) (ha : InR n a) (hk : InK n l) : InK n (rkC (cjM n a l)) ∧ (rkC (cjM n a l)).length ≤ fact n := by
  have hcl := cjM_len n a l
  have hrkl : ∀ k, k < (cjM n a l).length → rk (gl (cjM n a l) k) < fact n := fun k h => by
    have h1 := (cjM_in hn ha hk (k := k) (by omega)).1
    have h2 := rk_lt (gl (cjM n a l) k)
    rw [h1] at h2
    exact h2
  have hfin : rkC (cjM n a l) = lsL (flS (fact n) (cjM n a l) (cjM n a l).length) :=
    ranks_listed (fun r => flS_mem (F := fact n) (ms := cjM n a l) hrkl _ (Nat.le_refl _) r)
  rw [hfin]
  have hl := lsL_len (flS (fact n) (cjM n a l) (cjM n a l).length)
  rw [flS_len] at hl
  refine ⟨fun k hk2 => ?_, hl⟩
  obtain ⟨r, h1, h2, _⟩ := lsL_mem.1 (gt_mem hk2)
  rw [flS_len] at h2
  rw [h1]
  omega
def cgA (n : Nat) (l l' : List Int) (r : Nat) : Bool := decide ((cmL (fgS (fact n) l' l'.length) (rkC (cjM n (wrL n r) l))).length = (rkC (cjM n (wrL n r) l)).length)
def cgB (n : Nat) (l l' : List Int) : Bool := (List.range (fact n)).any fun r => cgA n l l' r
theorem cgB_yes {n : Nat} {l l' : List Int} {r : Nat} (h : r < fact n) (ht : cgA n l l' r = true) : cgB n l l' = true := by
  unfold cgB
  rw [List.any_eq_true]
  exact ⟨r, by simpa using h, ht⟩
theorem cgB_no {n : Nat} {l l' : List Int} (h : ∀ r, r < fact n → cgA n l l' r = false) : cgB n l l' = false := by
  unfold cgB
  rw [List.any_eq_false]
  intro r hr
  rw [h r (by simpa using hr)]
  simp
theorem cg_close {b n X c3 g : Nat} {A3 : Option Addr} {xr : List Int} {ws w3 : World} (hB : BK w3 g 26 #[.int .i64 0, .slice none 0 0]) (ho : w3.ownsRow b 2 1 (.slice A3 X c3) X (ints xr)) (hne : (Value.slice A3 X c3).ownBlock ≠ some g) (hX : X = xr.length) (hb : Below ws.heap.size ws w3) (hg : ws.heap.size ≤ g) :
    BK ((w3.setCell ⟨g, 0, none⟩ (.int .i64 (n : Int))).setCell ⟨g, 1, none⟩ (.slice A3 X c3)) g 26 #[.int .i64 (n : Int), .slice A3 X c3] ∧ IS ((w3.setCell ⟨g, 0, none⟩ (.int .i64 (n : Int))).setCell ⟨g, 1, none⟩ (.slice A3 X c3)) ((w3.setCell ⟨g, 0, none⟩ (.int .i64 (n : Int))).setCell ⟨g, 1, none⟩ (.slice A3 X c3)).heap.size A3 xr ∧ Below ws.heap.size ws ((w3.setCell ⟨g, 0, none⟩ (.int .i64 (n : Int))).setCell ⟨g, 1, none⟩ (.slice A3 X c3)) := by
  refine ⟨?_, ?_, (hb.setCell (p := ⟨g, 0, none⟩) hg _).setCell (p := ⟨g, 1, none⟩) hg _⟩
  · have h := (hB.set 0 (.int .i64 (n : Int))).set 1 (.slice A3 X c3)
    simpa using h
  · exact own_isn (ownsRow_setCell_other (ownsRow_setCell_other ho (a := ⟨g, 0, none⟩) hne _) (a := ⟨g, 1, none⟩) hne _) hX
theorem cg_close2 {b n X c3 : Nat} {A3 : Option Addr} {xr : List Int} {ws w3 : World} (ho : w3.ownsRow b 2 1 (.slice A3 X c3) X (ints xr)) (hX : X = xr.length) (hb : Below ws.heap.size ws w3) :
    BK (w3.alloc (.cells #[.int .i64 (n : Int), .slice A3 X c3] 26)) w3.heap.size 26 #[.int .i64 (n : Int), .slice A3 X c3] ∧ IS (w3.alloc (.cells #[.int .i64 (n : Int), .slice A3 X c3] 26)) (w3.alloc (.cells #[.int .i64 (n : Int), .slice A3 X c3] 26)).heap.size A3 xr ∧ Below ws.heap.size ws (w3.alloc (.cells #[.int .i64 (n : Int), .slice A3 X c3] 26)) :=
  ⟨BK.new _ _ _, own_isn (World.ownsRow.alloc ho _) hX, hb.alloc hb.size _⟩
theorem keepC3 {w' W W9 : World} {p1 p2 p3 : Addr} {x1 x2 x3 : Value} (h1 : p1.block < w'.heap.size) (h2 : p2.block < w'.heap.size) (h3 : p3.block < w'.heap.size) (hS : Below w'.heap.size w' W ∧ W.cell? p1 = some x1 ∧ W.cell? p2 = some x2 ∧ W.cell? p3 = some x3) (hb : Below W.heap.size W W9) :
    Below w'.heap.size w' W9 ∧ W9.cell? p1 = some x1 ∧ W9.cell? p2 = some x2 ∧ W9.cell? p3 = some x3 := by
  have hz := hS.1.size
  exact ⟨bel_call hS.1 hb, (hb.cell (by omega)).trans hS.2.1, (hb.cell (by omega)).trans hS.2.2.1, (hb.cell (by omega)).trans hS.2.2.2⟩
theorem size_lt_alloc (W : World) (o : Obj) : W.heap.size < (W.alloc o).heap.size := by rw [World.size_alloc]; exact Nat.lt_succ_self _
end Go.Proofs.YtglijcdnnaekkaaGreat
