/- Several parts of the proof in one text; each part says what it shows. Nothing is assumed. -/
import Derived.Test.YtjfinniebijgbaaDoorA80
import Derived.Test.YtjfinniebijgbaaDoorA20
/- Contracts: groups by their names. -/
namespace Go.Proofs.YtjfinniebijgbaaDoor
set_option linter.unusedVariables false
set_option linter.unusedSimpArgs false
open Go.RowKit

theorem BK.tri {w : World} {g : Nat} {t : TypeId} {x y z : Value} (h : BK w g t #[x, y, z]) : w.cell? ⟨g, 0, none⟩ = some x ∧ w.cell? ⟨g, 1, none⟩ = some y ∧ w.cell? ⟨g, 2, none⟩ = some z := ⟨(h.cell 0).trans rfl, (h.cell 1).trans rfl, (h.cell 2).trans rfl⟩
theorem bk_three (w : World) (t t' : TypeId) (cs cs' : Array Value) : BK ((w.alloc (.cells cs t)).alloc (.cells cs' t')) w.heap.size t cs := (two_boxes w t t' cs cs').1
/-- What a name stands for: points, ranks, code. -/
def NV (s : ByteArray) (p : Int) (l : List Int) (code : Int) : Prop := (∃ i, i < 14 ∧ s.toList = lbN i ∧ p = (lbP i : Nat) ∧ l = RK (lbP i) (lbG i) ∧ code = 0) ∨ (NoN s ∧ p = 0 ∧ l = [] ∧ code = 4)
theorem nv_ex (s : ByteArray) : ∃ p l code, NV s p l code := by
  by_cases h : ∃ i, i < 14 ∧ s.toList = lbN i
  · obtain ⟨i, h1, h2⟩ := h
    exact ⟨_, _, _, .inl ⟨i, h1, h2, rfl, rfl, rfl⟩⟩
  · exact ⟨_, _, _, .inr ⟨fun i hi he => h ⟨i, hi, he⟩, rfl, rfl, rfl⟩⟩
theorem lbN_inj : ∀ i, i < 14 → ∀ j, j < 14 → lbN i = lbN j → i = j := by
  have h : ∀ i j : Fin 14, lbN i = lbN j → i = j := by decide +kernel
  intro i hi j hj e
  have := h ⟨i, hi⟩ ⟨j, hj⟩ e
  simpa using this
def GRB (base : Nat) (p : Int) (l : List Int) (b : Bool) (w : World) (e : Ending) (w' : World) : Prop := ∃ v, e = .returned (.tuple #[.agg #[.int .i64 p, v], .bool b]) ∧ w'.ownsRow base 2 1 v l.length (ints l) ∧ Below w.heap.size w w'
def GRC (base : Nat) (p : Int) (l : List Int) (c : Int) (w : World) (e : Ending) (w' : World) : Prop := ∃ v, e = .returned (.tuple #[.agg #[.int .i64 p, v], .int .i64 c]) ∧ w'.ownsRow base 2 1 v l.length (ints l) ∧ Below w.heap.size w w'
end Go.Proofs.YtjfinniebijgbaaDoor
/- Contracts: GroupNamed, SizeOf, IsSolvableName. -/
namespace Go.Proofs.YtjfinniebijgbaaDoor
set_option linter.unusedVariables false
set_option linter.unusedSimpArgs false
open Go.RowKit

theorem nv_code {s : ByteArray} {p : Int} {l : List Int} {code : Int} (h : NV s p l code) : (code = 0 ∨ (code = 4 ∧ p = 0 ∧ l = [])) ∧ l.length ≤ 720 := by
  rcases h with ⟨i, hi, hs, rfl, rfl, rfl⟩ | ⟨hs, rfl, rfl, rfl⟩
  · refine ⟨.inl rfl, ?_⟩
    obtain ⟨p1, p2, g1, g2, hg⟩ := lb_in i hi
    have h1 := (RG_gi hg).1
    have h2 := lsL_len (RG (lbP i) (lbG i)).2
    have h3 := (fact_le (k := lbP i) (by omega)).2
    unfold RK
    omega
  · exact ⟨.inr ⟨rfl, rfl, rfl⟩, by simp⟩
end Go.Proofs.YtjfinniebijgbaaDoor
/- Walks: IsSolvableName; the law of GroupNamed. -/
namespace Go.Proofs.YtjfinniebijgbaaDoor
set_option linter.unusedVariables false
set_option linter.unusedSimpArgs false
open Go.RowKit

def MBI (b : Bool) (c : Int) (w : World) (e : Ending) (w' : World) : Prop := e = .returned (.tuple #[.bool b, .int .i64 c]) ∧ Below w.heap.size w w'
end Go.Proofs.YtjfinniebijgbaaDoor
