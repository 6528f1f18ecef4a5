/- Several parts of the proof in one text; each part says what it shows. Nothing is assumed. -/
import Derived.Test.YtjfinniebijgbaaDoorA8
/- Contracts and walks: IsPolynomial, IsSmall, IsModerate, CompareRational. -/
namespace Go.Proofs.YtjfinniebijgbaaDoor
set_option linter.unusedVariables false
set_option linter.unusedSimpArgs false
open Go.RowKit

/-- All numbers lie within B. -/
def AllP (b : Int) (xs : List Int) : Prop := ∀ k, k < xs.length → inB (gt xs k) (-b) b = true
noncomputable def allB (b : Int) (xs : List Int) : Bool := @decide (AllP b xs) (Classical.propDecidable _)
theorem allB_t {b : Int} {xs : List Int} (h : AllP b xs) : allB b xs = true := by simp [allB, h]
theorem allB_f {b : Int} {xs : List Int} (h : ¬ AllP b xs) : allB b xs = false := by simp [allB, h]
theorem allB_p {b : Int} {xs : List Int} (h : allB b xs = true) : AllP b xs := by simpa [allB] using h
def lastI (xs : List Int) : Int := gt xs (xs.length - 1)
noncomputable def polyB (xs : List Int) : Bool := allB 1000000 xs && (decide (xs.length ≤ 9) && (decide (xs.length = 0) || lastI xs != 0))
noncomputable def smallPB (xs : List Int) : Bool := allB 60 xs && (polyB xs && decide (2 ≤ xs.length ∧ xs.length ≤ 5))
noncomputable def modB (xs : List Int) : Bool := allB 20 xs && (smallPB xs && lastI xs == 1)
theorem IS.dr {w wr : World} {B : Nat} {A : Option Addr} {xs : List Int} (h : IS w B A xs) (hd : DR w wr) : IS wr B A xs := by
  obtain ⟨m, rfl⟩ := hd; exact h
theorem IS.last {w : World} {B : Nat} {A : Option Addr} {xs : List Int} (h : IS w B A xs) {n : Nat} (hn : n = xs.length) (h0 : 0 < n) : ∃ b off, A = some ⟨b, off, none⟩ ∧ w.cell? ⟨b, off + (n - 1), none⟩ = some (.int .i64 (lastI xs)) := by
  obtain ⟨b, off, h1, _, h3⟩ := h.at (k := n - 1) (by omega)
  refine ⟨b, off, h1, ?_⟩
  rw [h3 (n - 1) (by omega), lastI, hn]
end Go.Proofs.YtjfinniebijgbaaDoor
/- Contracts and walks: IsPolynomial, IsSmall, IsModerate of the program; CompareRational. -/
namespace Go.Proofs.YtjfinniebijgbaaDoor
set_option linter.unusedVariables false
set_option linter.unusedSimpArgs false
open Go.RowKit

end Go.Proofs.YtjfinniebijgbaaDoor
/- Contracts and walks: the program's IsPolynomial, IsSmall, IsModerate; the law of IsModerate. -/
namespace Go.Proofs.YtjfinniebijgbaaDoor
set_option linter.unusedVariables false
set_option linter.unusedSimpArgs false
open Go.RowKit

theorem smallPB_len {xs : List Int} (h : smallPB xs = true) : 2 ≤ xs.length ∧ xs.length ≤ 5 := by
  unfold smallPB at h; simp at h; exact h.2.2
def monB (xs : List Int) : Bool := decide (0 < xs.length) && lastI xs == 1
end Go.Proofs.YtjfinniebijgbaaDoor
