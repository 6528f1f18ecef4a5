/- Contracts: copies and equality of slices of residues. -/
import Derived.Test.YtnagocbjhbaelaaA50
import Derived.Test.YtnagocbjhbaelaaA45
import Derived.Test.YtnagocbjhbaelaaA44
import Derived.Laws.MakeOwn
namespace Go.Proofs.Ytnagocbjhbaelaa
set_option linter.unusedVariables false
set_option linter.unusedSimpArgs false
open Go.RowKit

theorem below_drew1 {B : Nat} {a w : World} (h : Below B a w) : Below B a w.drew := h.drew
theorem BK.three {w : World} {g : Nat} {t : TypeId} {x y z : Value} (h : BK w g t #[x, y, z]) : w.cell? ⟨g, 0, none⟩ = some x ∧ w.cell? ⟨g, 1, none⟩ = some y ∧ w.cell? ⟨g, 2, none⟩ = some z ∧ w.frozen? ⟨g, 0, none⟩ = false ∧ w.frozen? ⟨g, 1, none⟩ = false ∧ w.frozen? ⟨g, 2, none⟩ = false :=
  ⟨h.cell 0, h.cell 1, h.cell 2, h.frozen 0, h.frozen 1, h.frozen 2⟩
set_option maxHeartbeats 1000000 in
theorem l_toResidue (a b c : Int) (w : World) : Calls Try.prog 33 #[.agg #[.int .i64 a, .int .i64 b, .int .i64 c]] w (M (.agg #[.int .i64 a, .int .i64 b, .int .i64 c]) w) := by
  go_enter Try.func33, Try.ntmps33
  go_wp2_with (fail)
  obtain ⟨B1, B2, B3⟩ := three_boxes w 55 51 51 #[.int .i64 a, .int .i64 b, .int .i64 c] #[.int .i64 0, .int .i64 0, .int .i64 0] #[.int .i64 0, .int .i64 0, .int .i64 0]
  have hb3 : Below w.heap.size w (((w.alloc (.cells #[.int .i64 a, .int .i64 b, .int .i64 c] 55)).alloc (.cells #[.int .i64 0, .int .i64 0, .int .i64 0] 51)).alloc (.cells #[.int .i64 0, .int .i64 0, .int .i64 0] 51)) := (two_alloc w _ _).alloc (by simp <;> omega) _
  refine (l_toRing _ _ _).mono ?_
  rintro e w1 ⟨rfl, hb1⟩
  have b1 := bel_call hb3 hb1
  have C1 := B1.of_below hb1
  have C2 := B2.of_below hb1
  have C3 := B3.of_below hb1
  have hz := C3.lt
  clear B1 B2 B3 hb3 hb1
  obtain ⟨c0, c1, c2, _, _, _⟩ := C1.three
  obtain ⟨d0, d1, d2, d3, d4, d5⟩ := C2.three
  obtain ⟨e0, e1, e2, e3, e4, e5⟩ := C3.three
  go_wp2_with (fail)
  clear c0 c1 c2 d0 d1 d2 d3 d4 d5 e0 e1 e2 e3 e4 e5
  generalize hwf : ((((((w1.setCell ⟨w.heap.size + 1 + 1, 0, none⟩ (.int .i64 a)).setCell ⟨w.heap.size + 1 + 1, 1, none⟩ (.int .i64 b)).setCell ⟨w.heap.size + 1 + 1, 2, none⟩ (.int .i64 c)).setCell ⟨w.heap.size + 1, 0, none⟩ (.int .i64 a)).setCell ⟨w.heap.size + 1, 1, none⟩ (.int .i64 b)).setCell ⟨w.heap.size + 1, 2, none⟩ (.int .i64 c)) = wf
  have hbf : Below w.heap.size w wf := by
    rw [← hwf]
    have hsz := b1.size
    exact ((((((b1.setCell (by simp; omega) _).setCell (by simp; omega) _).setCell (by simp; omega) _).setCell (by simp) _).setCell (by simp) _).setCell (by simp) _)
  have hR : BK wf (w.heap.size + 1) 51 #[.int .i64 a, .int .i64 b, .int .i64 c] := by
    rw [← hwf]
    exact ((((((C2.far (p := ⟨w.heap.size + 1 + 1, 0, none⟩) (by simp) (.int .i64 a)).far (p := ⟨w.heap.size + 1 + 1, 1, none⟩) (by simp) (.int .i64 b)).far (p := ⟨w.heap.size + 1 + 1, 2, none⟩) (by simp) (.int .i64 c)).set 0 (.int .i64 a)).set 1 (.int .i64 b)).set 2 (.int .i64 c))
  obtain ⟨q0, q1, q2, _, _, _⟩ := hR.three
  clear hwf hR C1 C2 C3
  refine bodyPost_ret (by simp [results, Try.results33, go_sem, q0, q1, q2]; try rfl) rfl ?_
  exact ⟨rfl, hbf⟩
theorem infoRes : (Try.prog.info? 51).map (fun i => (i.zero, i.size, i.bytes)) = some (some (.agg #[.int .i64 0, .int .i64 0, .int .i64 0]), 3, 24) := by kernel_rfl
/-- A slice of residues that a call has made. -/
def NT (w : World) (B : Nat) (g : Nat) (l : List Z3) : Prop := B ≤ g ∧ ∃ cs : Array Value, BK w g 51 cs ∧ cs.size = l.length * 3 ∧ ∀ k, k < l.length →
  cs[k * 3]? = some (.int .i64 (g3 l k).1) ∧ cs[k * 3 + 1]? = some (.int .i64 (g3 l k).2.1) ∧ cs[k * 3 + 2]? = some (.int .i64 (g3 l k).2.2)
theorem NT.is {w : World} {B g : Nat} {l : List Z3} (h : NT w B g l) : IT w w.heap.size (some ⟨g, 0, none⟩) l := fun _ => by
  obtain ⟨_, cs, h1, h2, h3⟩ := h
  exact ⟨g, 0, rfl, h1.lt, fun k hk => by simp only [Nat.zero_add]; rw [h1.cell, h1.cell, h1.cell]; exact h3 k hk⟩
theorem NT.below {w w' : World} {B B' g : Nat} {l : List Z3} (h : NT w B g l) (hb : Below B' w w') (hg : g < B') : NT w' B g l := by
  obtain ⟨h0, cs, h1, h2, h3⟩ := h
  exact ⟨h0, cs, h1.below hb hg, h2, h3⟩
theorem NT.lt {w : World} {B g : Nat} {l : List Z3} (h : NT w B g l) : g < w.heap.size := by
  obtain ⟨h0, cs, h1, h2, h3⟩ := h
  exact h1.lt
theorem set3_at {cs : Array Value} {k j n : Nat} {x y z : Value} (hz : cs.size = n * 3) (hk : k < n) (hj : j < n) :
    let cs' := ((cs.setIfInBounds (k * 3) x).setIfInBounds (k * 3 + 1) y).setIfInBounds (k * 3 + 2) z
    (j = k → cs'[j * 3]? = some x ∧ cs'[j * 3 + 1]? = some y ∧ cs'[j * 3 + 2]? = some z) ∧
    (j ≠ k → cs'[j * 3]? = cs[j * 3]? ∧ cs'[j * 3 + 1]? = cs[j * 3 + 1]? ∧ cs'[j * 3 + 2]? = cs[j * 3 + 2]?) := by
  intro cs'
  refine ⟨fun h => ?_, fun h => ?_⟩
  · subst h
    refine ⟨?_, ?_, ?_⟩ <;> simp only [cs', Array.getElem?_setIfInBounds, Array.size_setIfInBounds] <;> (repeat (first | rw [if_pos trivial] | rw [if_pos (by omega)] | rw [if_neg (by omega)]))
  · refine ⟨?_, ?_, ?_⟩ <;> simp only [cs', Array.getElem?_setIfInBounds, Array.size_setIfInBounds] <;> (repeat rw [if_neg (by omega)])
theorem run_make3 (t e : TypeId) (z : Value) (bytes size : Nat) (ht : Try.prog.underlying t = some (.slice e)) (hinfo : (Try.prog.info? e).map (fun i => (i.zero, i.size, i.bytes)) = some (some z, size, bytes))
    (kl kc : IntKind) (n : Nat) (hbytes : bytes * n ≤ 281474976710656) (h63 : n ≤ 9223372036854775807) (w : World) :
    (Instr.makeSlice t (.int kl (n : Int)) (.int kc (n : Int))).run Try.prog w = .ok (.slice (some ⟨w.heap.size, 0, none⟩) n n) (w.alloc (.cells (madeCells z.cells (n * size)) e)) := by
  obtain ⟨i, hi, hzz⟩ := Option.map_eq_some_iff.1 hinfo
  simp only [Prod.mk.injEq] at hzz
  obtain ⟨hz, hs, hb⟩ := hzz
  have hb' : (i.bytes : Int) * (n : Int) ≤ 281474976710656 := by
    have h : ((i.bytes * n : Nat) : Int) ≤ 281474976710656 := by rw [hb]; omega
    rwa [Int.natCast_mul] at h
  have hr := run_make (P := Try.prog) w t e i z ht hi hz kl kc n n (by omega) (Int.le_refl _) hb' (by omega)
  simp only [Int.toNat_natCast, hs] at hr
  exact hr
set_option maxHeartbeats 1000000 in
theorem l_toResidueS (A : Option Addr) (n c : Nat) (l : List Z3) (w : World) (hn : n = l.length) (hl : n ≤ 1048576) (hs : IT w w.heap.size A l) :
    Calls Try.prog 9 #[.slice A n c] w fun e w' => ∃ g, e = .returned (.slice (some ⟨g, 0, none⟩) n n) ∧ NT w' w.heap.size g l ∧ Below w.heap.size w w' := by
  have hmk := fun W => run_make3 26 51 _ _ _ Try.underlying26 infoRes .i64 .i64 n (by omega) (by omega) W
  have hmz := size_madeCells (Value.cells (.agg #[.int .i64 0, .int .i64 0, .int .i64 0])) (n * 3)
  generalize madeCells (Value.cells (.agg #[.int .i64 0, .int .i64 0, .int .i64 0])) (n * 3) = cs0 at hmk hmz
  have HN := Lib.hid hn
  have HMZ := Lib.hid hmz
  clear hn hmz
  go_enter Try.func9, Try.ntmps9
  go_wp2_with (fail)
  go_loopw [4] (fun u wr => ∃ k : Nat, k ≤ n ∧ u = .int .i64 k ∧ Below w.heap.size w wr ∧ ∃ cs : Array Value, BK wr w.heap.size 51 cs ∧ cs.size = n * 3 ∧ ∀ j, j < k → cs[j * 3]? = some (.int .i64 (g3 l j).1) ∧ cs[j * 3 + 1]? = some (.int .i64 (g3 l j).2.1) ∧ cs[j * 3 + 2]? = some (.int .i64 (g3 l j).2.2)) (fun u _ => n - (intOf u).toNat)
  case atStart => exact ⟨0, Nat.zero_le _, rfl, BoxB w _, _, BK.new _ _ _, HMZ.out, fun j hj => by omega⟩
  case round =>
    clear hmk
    obtain ⟨k, hk, rfl, hb, cs, hB, hz, hj⟩ := hrel
    have HZ := Lib.hid hz
    have HJ := Lib.hid hj
    clear hz hj
    by_cases hlt : k < n
    · obtain ⟨b, off, rfl, hbb, hcell⟩ := IT.at hs (k := k) (by rw [← HN.out]; exact hlt)
      obtain ⟨h0, h1, h2⟩ := hcell k (by rw [← HN.out]; exact hlt)
      have i0 := (hb.cell (p := ⟨b, off + k * 3, none⟩) hbb).trans h0
      have i1 := (hb.cell (p := ⟨b, off + k * 3 + 1, none⟩) hbb).trans h1
      have i2 := (hb.cell (p := ⟨b, off + k * 3 + 2, none⟩) hbb).trans h2
      have HCELL := Lib.hid hcell
      clear hcell h0 h1 h2
      have hsz := hb.size
      have hgl := hB.lt
      obtain ⟨wo, rfl⟩ : ∃ wo : World, wo = wr := ⟨_, rfl⟩
      go_wp2_with (fail)
      refine (l_toResidue _ _ _ _).mono ?_
      rintro e w1 ⟨rfl, hb1⟩
      have b1 := bel_call hb hb1
      have hB1 := hB.of_below hb1
      have hf0 := hB1.frozen (k * 3)
      have hf1 := hB1.frozen (k * 3 + 1)
      have hf2 := hB1.frozen (k * 3 + 2)
      have o0 := hB1.cell (k * 3)
      have o1 := hB1.cell (k * 3 + 1)
      have o2 := hB1.cell (k * 3 + 2)
      rw [Array.getElem?_eq_getElem (by rw [HZ.out]; omega)] at o0 o1 o2
      generalize cs[k * 3]'(by rw [HZ.out]; omega) = ov0 at o0
      generalize cs[k * 3 + 1]'(by rw [HZ.out]; omega) = ov1 at o1
      generalize cs[k * 3 + 2]'(by rw [HZ.out]; omega) = ov2 at o2
      clear hb1 i0 i1 i2
      go_wp2_with (fail)
      go_roundw
      case rel =>
        refine ⟨k + 1, by omega, by go_num, ?_, _, ((hB1.set (k * 3) _).set (k * 3 + 1) _).set (k * 3 + 2) _, ?_, fun j hj => ?_⟩
        · exact ((b1.setCell (Nat.le_refl _) _).setCell (Nat.le_refl _) _).setCell (Nat.le_refl _) _
        · simp only [Array.size_setIfInBounds]; exact HZ.out
        · obtain ⟨t1, t2⟩ := set3_at (j := j) (x := .int .i64 (g3 l k).1) (y := .int .i64 (g3 l k).2.1) (z := .int .i64 (g3 l k).2.2) HZ.out hlt (show j < n by omega)
          by_cases hx : j = k
          · have := t1 hx
            subst hx
            exact this
          · have := t2 hx
            rw [this.1, this.2.1, this.2.2]
            exact HJ.out j (by omega)
      case measure => simp [intOf]; omega
    · obtain rfl : k = n := by omega
      go_wp2_with (fail)
      go_ret
      exact ⟨_, rfl, ⟨Nat.le_refl _, cs, hB, by rw [HZ.out, HN.out], fun j hj => HJ.out j (by rw [HN.out]; exact hj)⟩, hb⟩
set_option maxHeartbeats 400000 in
theorem l_eqRing (a b : Int) (w : World) : Calls Try.prog 68 #[.agg #[.int .i64 a, .int .i64 b], .agg #[.int .i64 a, .int .i64 b]] w (M (.bool true) w) := by
  go_enter Try.func68, Try.ntmps68
  go_wp2_with (first | go_quiet (fail))
  go_ret
  exact ⟨rfl, two_alloc w _ _⟩
set_option maxHeartbeats 1000000 in
theorem l_eqResidue (a b c : Int) (w : World) : Calls Try.prog 36 #[.agg #[.int .i64 a, .int .i64 b, .int .i64 c], .agg #[.int .i64 a, .int .i64 b, .int .i64 c]] w (M (.bool true) w) := by
  go_enter Try.func36, Try.ntmps36
  go_wp2_with (fail)
  obtain ⟨B1, B2⟩ := two_boxes w 51 51 #[.int .i64 a, .int .i64 b, .int .i64 c] #[.int .i64 a, .int .i64 b, .int .i64 c]
  refine (l_eqRing _ _ _).mono ?_
  rintro e w1 ⟨rfl, hb1⟩
  have b1 := bel_call (two_alloc w _ _) hb1
  obtain ⟨c0, c1, c2, _, _, _⟩ := (B1.of_below hb1).three
  obtain ⟨d0, d1, d2, _, _, _⟩ := (B2.of_below hb1).three
  go_wp2_with (fail)
  go_ret
  exact ⟨rfl, b1⟩
set_option maxHeartbeats 1000000 in
theorem l_eqResidueS (A A' : Option Addr) (n c n' c' : Nat) (l : List Z3) (w : World) (B B' : Nat) (hn : n = l.length) (hn' : n' = l.length) (hl : n ≤ 9223372036854775807) (hB : B ≤ w.heap.size) (hB' : B' ≤ w.heap.size) (hs : IT w B A l) (hs' : IT w B' A' l) :
    Calls Try.prog 11 #[.slice A n c, .slice A' n' c'] w (M (.bool true) w) := by
  obtain rfl : n' = n := by omega
  have HN := Lib.hid hn
  clear hn hn'
  go_enter Try.func11, Try.ntmps11
  go_wp2_with (fail)
  go_loopw [5] (fun u wr => ∃ k : Nat, k ≤ n' ∧ u = .int .i64 k ∧ Below w.heap.size w wr) (fun u _ => n' - (intOf u).toNat)
  case atStart => exact ⟨0, Nat.zero_le _, rfl, Below.refl _ _⟩
  case round =>
    obtain ⟨k, hk, rfl, hb⟩ := hrel
    obtain ⟨wo, rfl⟩ : ∃ wo : World, wo = wr := ⟨_, rfl⟩
    by_cases hlt : k < n'
    · obtain ⟨b, off, rfl, hbb, hcell⟩ := IT.at hs (k := k) (by rw [← HN.out]; exact hlt)
      obtain ⟨b', off', rfl, hbb', hcell'⟩ := IT.at hs' (k := k) (by rw [← HN.out]; exact hlt)
      obtain ⟨h0, h1, h2⟩ := hcell k (by rw [← HN.out]; exact hlt)
      obtain ⟨j0, j1, j2⟩ := hcell' k (by rw [← HN.out]; exact hlt)
      have e0 := (hb.cell (p := ⟨b, off + k * 3, none⟩) (by simp; omega)).trans h0
      have e1 := (hb.cell (p := ⟨b, off + k * 3 + 1, none⟩) (by simp; omega)).trans h1
      have e2 := (hb.cell (p := ⟨b, off + k * 3 + 2, none⟩) (by simp; omega)).trans h2
      have f0 := (hb.cell (p := ⟨b', off' + k * 3, none⟩) (by simp; omega)).trans j0
      have f1 := (hb.cell (p := ⟨b', off' + k * 3 + 1, none⟩) (by simp; omega)).trans j1
      have f2 := (hb.cell (p := ⟨b', off' + k * 3 + 2, none⟩) (by simp; omega)).trans j2
      clear hcell hcell' h0 h1 h2 j0 j1 j2
      go_wp2_with (fail)
      go_region_held3 (fun w' => w'.cell? ⟨b, off + k * 3, none⟩ = some (.int .i64 (g3 l k).1) ∧ w'.cell? ⟨b, off + k * 3 + 1, none⟩ = some (.int .i64 (g3 l k).2.1) ∧ w'.cell? ⟨b, off + k * 3 + 2, none⟩ = some (.int .i64 (g3 l k).2.2) ∧ w'.cell? ⟨b', off' + k * 3, none⟩ = some (.int .i64 (g3 l k).1) ∧ w'.cell? ⟨b', off' + k * 3 + 1, none⟩ = some (.int .i64 (g3 l k).2.1) ∧ w'.cell? ⟨b', off' + k * 3 + 2, none⟩ = some (.int .i64 (g3 l k).2.2)) ((first | exact ⟨e0, e1, e2, f0, f1, f2⟩ | (have hq := bel_call (below_drew1 hb) hb5; have hz := hb.size; exact ⟨(hb5.cell (by simp; omega)).trans e0, (hb5.cell (by simp; omega)).trans e1, (hb5.cell (by simp; omega)).trans e2, (hb5.cell (by simp; omega)).trans f0, (hb5.cell (by simp; omega)).trans f1, (hb5.cell (by simp; omega)).trans f2⟩)))
        (first | (go_at_call 36; refine (l_eqResidue _ _ _ _).mono ?_; rintro e w5 ⟨rfl, hb5⟩))
      have hq := bel_call (below_drew1 hb) hb5
      go_wp2_with (fail)
      go_roundw
      case rel => exact ⟨k + 1, by omega, by go_num, hq⟩
      case measure => simp [intOf]; omega
    · obtain rfl : k = n' := by omega
      go_wp2_with (fail)
      go_ret
      exact ⟨rfl, hb⟩
end Go.Proofs.Ytnagocbjhbaelaa
