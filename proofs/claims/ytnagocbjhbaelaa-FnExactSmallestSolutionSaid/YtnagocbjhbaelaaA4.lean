/- Contracts: slices of int64 that are copied, compared, summed. -/
import Derived.Test.YtnagocbjhbaelaaA2
import Derived.Deep.OwnRows
namespace Go.Proofs.Ytnagocbjhbaelaa
set_option linter.unusedVariables false
set_option linter.unusedSimpArgs false
open Go.RowKit Go.Deep

/-- Block g is just the cells cs of type t, none frozen. -/
def BK (w : World) (g : Nat) (t : TypeId) (cs : Array Value) : Prop := w.heap[g]? = some (.cells cs t (0, 0))
section
variable {w w' : World} {g : Nat} {t : TypeId} {cs : Array Value}
theorem BK.lt (h : BK w g t cs) : g < w.heap.size := by
  rcases Nat.lt_or_ge g w.heap.size with hlt | hge
  · exact hlt
  · unfold BK at h; rw [Array.getElem?_eq_none hge] at h; cases h
theorem BK.cell (h : BK w g t cs) (i : Nat) : w.cell? ⟨g, i, none⟩ = cs[i]? := by
  unfold BK at h; simp [World.cell?, h]
theorem BK.frozen (h : BK w g t cs) (i : Nat) : w.frozen? ⟨g, i, none⟩ = false := by
  unfold BK at h; simp [World.frozen?, h]
theorem BK.new (w : World) (t : TypeId) (cs : Array Value) : BK (w.alloc (.cells cs t)) w.heap.size t cs := heap_alloc_new w _
theorem BK.drewN (h : BK w g t cs) (n : Nat) : BK (w.drewN n) g t cs := h
theorem BK.alloc (h : BK w g t cs) (o : Obj) : BK (w.alloc o) g t cs := (Below.heap_alloc w o g h.lt).trans h
theorem BK.set (h : BK w g t cs) (i : Nat) (u : Value) : BK (w.setCell ⟨g, i, none⟩ u) g t (cs.setIfInBounds i u) := by
  unfold BK at h ⊢; simp [World.setCell, Array.getElem?_modify, h]
theorem BK.far (h : BK w g t cs) {p : Addr} (hp : g ≠ p.block) (u : Value) : BK (w.setCell p u) g t cs := (Below.heap_setCell w p u g hp).trans h
theorem BK.below {B : Nat} (h : BK w g t cs) (hb : Below B w w') (hg : g < B) : BK w' g t cs := (hb.block g hg).trans h
end
section
variable {w w' : World} {B : Nat} {A : Option Addr} {xs : List Int}
theorem IS.below (h : IS w B A xs) (hb : Below B w w') : IS w' B A xs := fun hp => by
  obtain ⟨b, off, h1, h2, h3⟩ := h hp
  exact ⟨b, off, h1, h2, fun k hk => (hb.cell (p := ⟨b, off + k, none⟩) h2).trans (h3 k hk)⟩
theorem IS.more {B' : Nat} (h : IS w B A xs) (hB : B ≤ B') : IS w B' A xs := fun hp => by
  obtain ⟨b, off, h1, h2, h3⟩ := h hp
  exact ⟨b, off, h1, by omega, h3⟩
theorem IS.at (h : IS w B A xs) {k : Nat} (hk : k < xs.length) : ∃ b off, A = some ⟨b, off, none⟩ ∧ b < B ∧ ∀ j, j < xs.length → w.cell? ⟨b, off + j, none⟩ = some (.int .i64 (gt xs j)) := h (by omega)
end
theorem gt_mem {xs : List Int} {k : Nat} (h : k < xs.length) : gt xs k ∈ xs := by
  unfold gt; rw [List.getD_eq_getElem?_getD, List.getElem?_eq_getElem h]; exact List.getElem_mem h
theorem R64.gt {xs : List Int} (h : R64 xs) {k : Nat} (hk : k < xs.length) : -9223372036854775808 ≤ gt xs k ∧ gt xs k ≤ 9223372036854775807 := h _ (gt_mem hk)
theorem gt_ext {xs ys : List Int} (h : xs.length = ys.length) (h' : ∀ k, k < xs.length → Go.Proofs.Ytnagocbjhbaelaa.gt xs k = Go.Proofs.Ytnagocbjhbaelaa.gt ys k) : xs = ys := by
  apply List.ext_getElem h
  intro i h1 h2
  have := h' i h1
  simpa [Go.Proofs.Ytnagocbjhbaelaa.gt, List.getElem?_eq_getElem h1, List.getElem?_eq_getElem h2] using this
/-- A slice of int64 made by the call: block g from B on, all of it. -/
def NS (w : World) (B : Nat) (g : Nat) (xs : List Int) : Prop := B ≤ g ∧ ∃ cs : Array Value, BK w g 2 cs ∧ cs.size = xs.length ∧ ∀ k, k < xs.length → cs[k]? = some (.int .i64 (gt xs k))
theorem NS.is {w : World} {B g : Nat} {xs : List Int} (h : NS w B g xs) : IS w w.heap.size (some ⟨g, 0, none⟩) xs := fun _ => by
  obtain ⟨_, cs, h1, h2, h3⟩ := h
  exact ⟨g, 0, rfl, h1.lt, fun k hk => by rw [Nat.zero_add, h1.cell]; exact h3 k hk⟩
theorem NS.below {w w' : World} {B B' g : Nat} {xs : List Int} (h : NS w B g xs) (hb : Below B' w w') (hg : g < B') : NS w' B g xs := by
  obtain ⟨h0, cs, h1, h2, h3⟩ := h
  exact ⟨h0, cs, h1.below hb hg, h2, h3⟩
theorem NS.lt {w : World} {B g : Nat} {xs : List Int} (h : NS w B g xs) : g < w.heap.size := by
  obtain ⟨h0, cs, h1, h2, h3⟩ := h
  exact h1.lt
theorem infoI64 : (Try.prog.info? 2).map (fun i => (i.zero, i.size, i.bytes)) = some (some (.int .i64 0), 1, 8) := by kernel_rfl
end Go.Proofs.Ytnagocbjhbaelaa
