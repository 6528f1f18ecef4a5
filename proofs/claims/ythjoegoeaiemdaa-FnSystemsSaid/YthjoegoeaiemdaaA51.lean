/- Contracts: copies and equality of slices of residues. -/
import Derived.Test.YthjoegoeaiemdaaA50
import Derived.Test.YthjoegoeaiemdaaA45
import Derived.Test.YthjoegoeaiemdaaA44
import Derived.Laws.MakeOwn
namespace Go.Proofs.Ythjoegoeaiemdaa
set_option linter.unusedVariables false
set_option linter.unusedSimpArgs false
open Go.RowKit

theorem below_drew1 {B : Nat} {a w : World} (h : Below B a w) : Below B a w.drew := h.drew
theorem BK.three {w : World} {g : Nat} {t : TypeId} {x y z : Value} (h : BK w g t #[x, y, z]) : w.cell? ⟨g, 0, none⟩ = some x ∧ w.cell? ⟨g, 1, none⟩ = some y ∧ w.cell? ⟨g, 2, none⟩ = some z ∧ w.frozen? ⟨g, 0, none⟩ = false ∧ w.frozen? ⟨g, 1, none⟩ = false ∧ w.frozen? ⟨g, 2, none⟩ = false :=
  ⟨h.cell 0, h.cell 1, h.cell 2, h.frozen 0, h.frozen 1, h.frozen 2⟩
theorem infoRes : (Try.prog.info? 95).map (fun i => (i.zero, i.size, i.bytes)) = some (some (.agg #[.int .i64 0, .int .i64 0, .int .i64 0]), 3, 24) := by kernel_rfl
/-- A slice of residues that a call has made. -/
def NT (w : World) (B : Nat) (g : Nat) (l : List Z3) : Prop := B ≤ g ∧ ∃ cs : Array Value, BK w g 95 cs ∧ cs.size = l.length * 3 ∧ ∀ k, k < l.length →
  cs[k * 3]? = some (.int .i64 (g3 l k).1) ∧ cs[k * 3 + 1]? = some (.int .i64 (g3 l k).2.1) ∧ cs[k * 3 + 2]? = some (.int .i64 (g3 l k).2.2)
theorem NT.is {w : World} {B g : Nat} {l : List Z3} (h : NT w B g l) : IT w w.heap.size (some ⟨g, 0, none⟩) l := fun _ => by
  obtain ⟨_, cs, h1, h2, h3⟩ := h
  exact ⟨g, 0, rfl, h1.lt, fun k hk => by simp only [Nat.zero_add]; rw [h1.cell, h1.cell, h1.cell]; exact h3 k hk⟩
theorem NT.below {w w' : World} {B B' g : Nat} {l : List Z3} (h : NT w B g l) (hb : Below B' w w') (hg : g < B') : NT w' B g l := by
  obtain ⟨h0, cs, h1, h2, h3⟩ := h
  exact ⟨h0, cs, h1.below hb hg, h2, h3⟩
theorem NT.lt {w : World} {B g : Nat} {l : List Z3} (h : NT w B g l) : g < w.heap.size := by
  obtain ⟨h0, cs, h1, h2, h3⟩ := h
  exact h1.lt
theorem set3_at {cs : Array Value} {k j n : Nat} {x y z : Value} (hz : cs.size = n * 3) (hk : k < n) (hj : j < n) :
    let cs' := ((cs.setIfInBounds (k * 3) x).setIfInBounds (k * 3 + 1) y).setIfInBounds (k * 3 + 2) z
    (j = k → cs'[j * 3]? = some x ∧ cs'[j * 3 + 1]? = some y ∧ cs'[j * 3 + 2]? = some z) ∧
    (j ≠ k → cs'[j * 3]? = cs[j * 3]? ∧ cs'[j * 3 + 1]? = cs[j * 3 + 1]? ∧ cs'[j * 3 + 2]? = cs[j * 3 + 2]?) := by
  intro cs'
  refine ⟨fun h => ?_, fun h => ?_⟩
  · subst h
    refine ⟨?_, ?_, ?_⟩ <;> simp only [cs', Array.getElem?_setIfInBounds, Array.size_setIfInBounds] <;> (repeat (first | rw [if_pos trivial] | rw [if_pos (by omega)] | rw [if_neg (by omega)]))
  · refine ⟨?_, ?_, ?_⟩ <;> simp only [cs', Array.getElem?_setIfInBounds, Array.size_setIfInBounds] <;> (repeat rw [if_neg (by omega)])
theorem run_make3 (t e : TypeId) (z : Value) (bytes size : Nat) (ht : Try.prog.underlying t = some (.slice e)) (hinfo : (Try.prog.info? e).map (fun i => (i.zero, i.size, i.bytes)) = some (some z, size, bytes))
    (kl kc : IntKind) (n : Nat) (hbytes : bytes * n ≤ 281474976710656) (h63 : n ≤ 9223372036854775807) (w : World) :
    (Instr.makeSlice t (.int kl (n : Int)) (.int kc (n : Int))).run Try.prog w = .ok (.slice (some ⟨w.heap.size, 0, none⟩) n n) (w.alloc (.cells (madeCells z.cells (n * size)) e)) := by
  obtain ⟨i, hi, hzz⟩ := Option.map_eq_some_iff.1 hinfo
  simp only [Prod.mk.injEq] at hzz
  obtain ⟨hz, hs, hb⟩ := hzz
  have hb' : (i.bytes : Int) * (n : Int) ≤ 281474976710656 := by
    have h : ((i.bytes * n : Nat) : Int) ≤ 281474976710656 := by rw [hb]; omega
    rwa [Int.natCast_mul] at h
  have hr := run_make (P := Try.prog) w t e i z ht hi hz kl kc n n (by omega) (Int.le_refl _) hb' (by omega)
  simp only [Int.toNat_natCast, hs] at hr
  exact hr
end Go.Proofs.Ythjoegoeaiemdaa
