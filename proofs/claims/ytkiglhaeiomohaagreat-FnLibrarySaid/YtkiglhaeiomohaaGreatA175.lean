/- Groups that a law opens, sizes, copies; the law of OrbitsOf. -/
import Derived.Test.YtkiglhaeiomohaaGreatA174
namespace Go.Proofs.YtkiglhaeiomohaaGreat
set_option linter.unusedVariables false
set_option linter.unusedSimpArgs false
open Go.ChangeShapes Go.WideShapes Go.ChangeAt Go.RowKit

theorem open_isc {H : Type} {enc : TypeId × Value → H} {P : Program} {w : World} {fuel : Nat} {t e : TypeId} {v : Value} {y : DataW H × List MemPlace} (ht : P.underlying t = some (.slice e)) (he : P.underlying e = some (.int .i64)) (hc : P.cellsOf e = 1)
    (hf : DataW.trod enc P w 0 (fun _ => true) true fuel t [v] = some y) (hlt : ∀ x ∈ y.2, x.block < w.heap.size) :
    ∃ A n c xs, v = .slice A n c ∧ n = xs.length ∧ n ≤ c ∧ c ≤ maxLen ∧ R64 xs ∧ IS w w.heap.size A xs := by
  rcases open_ints ht he hc hf with ⟨hcs, hx⟩ | ⟨a, n, c, zs, hcs, _, hl, hm, hz, hx, hcell, hwz⟩
  · simp at hcs
    subst hcs
    exact ⟨none, 0, 0, [], rfl, rfl, Nat.le_refl _, by simp [maxLen], fun x hx => by simp at hx, fun h => by simp at h⟩
  · simp at hcs
    subst hcs
    simp at hz
    subst hx
    refine ⟨some a, n, c, zs.take n, rfl, by simp; omega, hl, hm, fun x hx => ?_, fun h => ?_⟩
    · exact wf64 (hwz x (List.mem_of_mem_take hx))
    · simp at h
      obtain ⟨b, off, rfl, hcc⟩ := Go.ints_at hcell (by omega)
      refine ⟨b, off, rfl, ?_, fun k hk => ?_⟩
      · have := hlt (.cell b off) (MemPlace.mem_row.2 ⟨0, by omega, by simp⟩)
        exact this
      · simp at hk
        rw [hcc k (by omega)]
        simp [gt, hk]
        rw [List.getElem?_eq_getElem (by omega)]; rfl
theorem open_grp {H : Type} {enc : TypeId × Value → H} {P : Program} {w : World} {B : Nat} {t ti ts : TypeId} {f0 f1 : Field} {v : Value} {d : DataW H} {p : List MemPlace} (hs : P.underlying t = some (.struct #[f0, f1])) (hone : Go.Deep.oneCellFields P #[f0, f1] = true) (hC : P.cellsOf t = 2)
    (h0 : f0.type = ti) (h1 : f1.type = ts) (hi : P.underlying ti = some (.int .i64)) (hts : P.underlying ts = some (.slice ti)) (hc : P.cellsOf ti = 1)
    (hv : Value.okWide P w .any B t v) (h : DataW.Trod enc P w 0 (fun _ => true) true t v d p) (hlt : ∀ x ∈ p, x.block < w.heap.size) :
    ∃ q A n c xs, v = .agg #[.int .i64 q, .slice A n c] ∧ n = xs.length ∧ n ≤ c ∧ c ≤ maxLen ∧ R64 xs ∧ IS w w.heap.size A xs := by
  obtain ⟨v0, v1, y0, y1, m, rfl, rfl, rfl, hy0, hy1⟩ := Joins.open_agg2 hs hone hC hv h
  subst h0
  subst h1
  obtain ⟨q, eq, _, _⟩ := DataW.trod_int hi hy0
  simp at eq
  subst eq
  obtain ⟨A, n, c, xs, rfl, h2⟩ := open_isc hts hi hc hy1 (fun x hx => hlt x (by simp [hx]))
  exact ⟨q, A, n, c, xs, rfl, h2⟩
end Go.Proofs.YtkiglhaeiomohaaGreat
