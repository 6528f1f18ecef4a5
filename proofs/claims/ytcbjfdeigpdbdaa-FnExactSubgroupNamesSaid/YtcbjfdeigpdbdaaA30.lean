/- Contracts and walk: ClosenessAt. -/
import Derived.Test.YtcbjfdeigpdbdaaA29
import Derived.Test.YtcbjfdeigpdbdaaA24
import Derived.IntWalk
namespace Go.Proofs.Ytcbjfdeigpdbdaa
set_option linter.unusedVariables false
set_option linter.unusedSimpArgs false
open Go.RowKit

theorem two_boxes (w : World) (t t' : TypeId) (cs cs' : Array Value) : BK ((w.alloc (.cells cs t)).alloc (.cells cs' t')) w.heap.size t cs ∧ BK ((w.alloc (.cells cs t)).alloc (.cells cs' t')) (w.heap.size + 1) t' cs' := by
  refine ⟨(BK.new w t cs).alloc _, ?_⟩
  have h := BK.new (w.alloc (.cells cs t)) t' cs'
  rw [World.size_alloc] at h
  exact h
theorem BK.two {w : World} {g : Nat} {t : TypeId} {x y : Value} (h : BK w g t #[x, y]) : w.cell? ⟨g, 0, none⟩ = some x ∧ w.cell? ⟨g, 1, none⟩ = some y ∧ w.frozen? ⟨g, 0, none⟩ = false ∧ w.frozen? ⟨g, 1, none⟩ = false :=
  ⟨h.cell 0, h.cell 1, h.frozen 0, h.frozen 1⟩
theorem BK.of_below {w w' : World} {g : Nat} {t : TypeId} {cs : Array Value} (h : BK w g t cs) (hb : Below w.heap.size w w') : BK w' g t cs := h.below hb h.lt
def sm4 (a b c d : Int) : Bool := inB a (-1000000) 1000000 && (inB b (-1000000) 1000000 && (inB c (-1000000) 1000000 && inB d (-1000000) 1000000))
def twoC (a b c d : Int) : Int := if sm4 a b c d then 0 else 2
theorem inB_le {d : Int} (h1 : 1 ≤ d) : inB d (-1000000) 1000000 = decide (d ≤ 1000000) := by
  rw [Bool.eq_iff_iff, decide_eq_true_iff]
  exact ⟨fun h => (inB_true h).2, fun h => inB_mk (by omega) h⟩
def g4 (a b c d : Int) (k : Nat) : Int := gt [a, b, c, d] k
theorem g4_all {a b c d : Int} (h : ∀ k, k < 4 → inB (g4 a b c d k) (-1000000) 1000000 = true) : sm4 a b c d = true := by
  have h0 := h 0 (by omega)
  have h1 := h 1 (by omega)
  have h2 := h 2 (by omega)
  have h3 := h 3 (by omega)
  simp [g4, gt] at h0 h1 h2 h3
  unfold sm4
  rw [h0, h1, h2, h3]; rfl
theorem g4_not {a b c d : Int} {k : Nat} (hk : k < 4) (h : inB (g4 a b c d k) (-1000000) 1000000 = false) : sm4 a b c d = false := by
  have hk' : k = 0 ∨ k = 1 ∨ k = 2 ∨ k = 3 := by omega
  unfold sm4
  rcases hk' with rfl | rfl | rfl | rfl <;> simp [g4, gt] at h <;> simp [h]
end Go.Proofs.Ytcbjfdeigpdbdaa
