/- Walks: GeometricSum. -/
import Derived.Test.YthjoegoeaiemdaaA43
namespace Go.Proofs.Ythjoegoeaiemdaa
set_option linter.unusedVariables false
set_option linter.unusedSimpArgs false
open Go.RowKit

theorem BK.one {w : World} {g : Nat} {t : TypeId} {x : Value} (h : BK w g t #[x]) : w.cell? ⟨g, 0, none⟩ = some x ∧ w.frozen? ⟨g, 0, none⟩ = false := ⟨h.cell 0, h.frozen 0⟩
noncomputable def gsC (p n x : Int) : Int := if rgC p n x = 0 then (if x % p = 0 then 0 else 5) else rgC p n x
noncomputable def gsV (p n x : Int) : Int := if gsC p n x = 0 then invM ((1 - x) % ((p.toNat ^ n.toNat : Nat) : Int)).toNat (p.toNat ^ n.toNat) else 0
theorem rgC_0 {p n x : Int} (h : rgC p n x = 0) : ringB p n = true ∧ inB x 0 (((p.toNat ^ n.toNat : Nat) : Int) - 1) = true := by
  unfold rgC at h
  cases h1 : ringB p n <;> cases h2 : inB x 0 (((p.toNat ^ n.toNat : Nat) : Int) - 1) <;> rw [h1, h2] at h <;> simp at h
  exact ⟨rfl, rfl⟩
theorem keepS3 {w0 w1 w2 : World} {g : Nat} {a b c : Value} (hg : g + 1 < w0.heap.size)
    (h : Below w0.heap.size w0 w1 ∧ w1.cell? ⟨g, 0, none⟩ = some a ∧ w1.cell? ⟨g, 1, none⟩ = some b ∧ w1.cell? ⟨g + 1, 0, none⟩ = some c) (hb : Below w1.heap.size w1 w2) :
    Below w0.heap.size w0 w2 ∧ w2.cell? ⟨g, 0, none⟩ = some a ∧ w2.cell? ⟨g, 1, none⟩ = some b ∧ w2.cell? ⟨g + 1, 0, none⟩ = some c := by
  obtain ⟨h0, h1, h2, h3⟩ := h
  have hs := h0.size
  refine ⟨h0.trans (hb.mono hs), ?_, ?_, ?_⟩
  · rw [hb.cell (by simp; omega)]; exact h1
  · rw [hb.cell (by simp; omega)]; exact h2
  · rw [hb.cell (by simp; omega)]; exact h3
theorem gsC_0 {p n x : Int} (h : gsC p n x = 0) : ringB p n = true ∧ inB x 0 (((p.toNat ^ n.toNat : Nat) : Int) - 1) = true ∧ x % p = 0 := by
  unfold gsC at h
  by_cases h1 : rgC p n x = 0
  · rw [if_pos h1] at h
    by_cases h2 : x % p = 0
    · have := rgC_0 h1
      exact ⟨this.1, this.2, h2⟩
    · rw [if_neg h2] at h; cases h
  · rw [if_neg h1] at h; exact absurd h h1
theorem three_boxes (w : World) (t t' t'' : TypeId) (cs cs' cs'' : Array Value) : BK (((w.alloc (.cells cs t)).alloc (.cells cs' t')).alloc (.cells cs'' t'')) w.heap.size t cs ∧ BK (((w.alloc (.cells cs t)).alloc (.cells cs' t')).alloc (.cells cs'' t'')) (w.heap.size + 1) t' cs' ∧ BK (((w.alloc (.cells cs t)).alloc (.cells cs' t')).alloc (.cells cs'' t'')) (w.heap.size + 1 + 1) t'' cs'' := by
  obtain ⟨h1, h2⟩ := two_boxes w t t' cs cs'
  refine ⟨h1.alloc _, h2.alloc _, ?_⟩
  have h := BK.new ((w.alloc (.cells cs t)).alloc (.cells cs' t')) t'' cs''
  rw [World.size_alloc, World.size_alloc] at h
  exact h
end Go.Proofs.Ythjoegoeaiemdaa
