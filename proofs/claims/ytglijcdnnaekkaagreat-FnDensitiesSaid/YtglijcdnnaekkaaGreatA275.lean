/- Types of permutations: how many there are, in plain terms. -/
import Derived.Test.YtglijcdnnaekkaaGreatA271
import Derived.Test.YtglijcdnnaekkaaGreatA190
import Derived.Test.YtglijcdnnaekkaaGreatA164
import Derived.Test.YtglijcdnnaekkaaGreatA241
namespace Go.Proofs.YtglijcdnnaekkaaGreat
set_option linter.unusedVariables false
set_option linter.unusedSimpArgs false
open Go.RowKit

/-- All types of n points, by fuel. -/
def tyF : Nat → Nat → Nat → List (List Int)
  | 0, _, _ => []
  | f + 1, k, n => if n = 0 then [[]] else if k ≤ n then (tyF f k (n - k)).map (fun l => (k : Int) :: l) ++ tyF f (k + 1) n else []
theorem tyF_eq : ∀ f n k, n + (n + 1 - k) ≤ f → 1 ≤ k → tyF (f + 1) k n = tyL k n
  | f, 0, k, _, _ => by rw [tyL_zero]; simp [tyF]
  | f, n + 1, k, h, h1 => by
    by_cases hk : k ≤ n + 1
    · rw [tyL_step h1 hk]
      unfold tyF
      rw [if_neg (by omega), if_pos hk]
      obtain ⟨f', rfl⟩ : ∃ f', f = f' + 1 := ⟨f - 1, by omega⟩
      rw [tyF_eq f' (n + 1 - k) k (by omega) h1, tyF_eq f' (n + 1) (k + 1) (by omega) (by omega)]
    · rw [tyL_end (by omega) (by omega)]
      unfold tyF
      rw [if_neg (by omega), if_neg hk]
def typC (xs : List Int) : Bool := ((List.range xs.length).all fun k => decide (1 ≤ gt xs k) && (decide (gt xs k ≤ 6) && (decide (k = 0) || decide (gt xs (k - 1) ≤ gt xs k)))) && (decide (1 ≤ xs.sum) && decide (xs.sum ≤ 6))
theorem typC_p {xs : List Int} (h : typC xs = true) : TypeP xs := by
  unfold typC at h
  rw [Bool.and_eq_true, Bool.and_eq_true, List.all_eq_true] at h
  obtain ⟨h1, h2, h3⟩ := h
  refine ⟨fun k hk => ?_, of_decide_eq_true h2, of_decide_eq_true h3⟩
  have := h1 k (List.mem_range.2 hk)
  rw [Bool.and_eq_true, Bool.and_eq_true, Bool.or_eq_true] at this
  refine ⟨of_decide_eq_true this.1, of_decide_eq_true this.2.1, fun h0 => ?_⟩
  rcases this.2.2 with e | e
  · have := of_decide_eq_true e; omega
  · exact of_decide_eq_true e
def szC (xs : List Int) : Int := (szF xs xs.length).1
theorem soV_szC {xs : List Int} (h : TypeP xs) : soV xs = szC xs ∧ sgC xs = 0 := by
  unfold soV sgC szC
  rw [← typeB_t h]
  exact ⟨rfl, rfl⟩
def tyR (n r : Nat) : List Int := tyI (wrL n r)
def cntR (n : Nat) (t : List Int) : Nat := ((List.range (fact n)).filter fun r => decide (tyR n r = t)).length
def tyK (n : Nat) : Bool := (tyF 20 1 n).all fun t => typC t && (decide (t.sum = (n : Int)) && decide ((cntR n t : Int) = szC t))
set_option maxRecDepth 100000 in
theorem ty_k0 : ∀ n : Fin 6, tyK (n + 1) = true := by decide +kernel
set_option maxRecDepth 100000 in
theorem ty_k1 : ∀ n : Fin 6, ((List.range (fact (n + 1))).all fun r => (tyF 20 1 (n + 1)).any fun t => decide (tyR (n + 1) r = t)) = true := by decide +kernel
set_option maxRecDepth 100000 in
theorem ty_k2 : ∀ n : Fin 6, decide ((((srt (tyF 20 1 (n + 1)) (tyF 20 1 (n + 1)).length).map szC).sum = (fact (n + 1) : Nat)) && decide ((srt (tyF 20 1 (n + 1)) (tyF 20 1 (n + 1)).length).all typC = true)) = true := by decide +kernel
end Go.Proofs.YtglijcdnnaekkaaGreat
