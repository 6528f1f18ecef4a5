/- Sets of points: the program's side. -/
import Derived.Test.YthjoegoeaiemdaaA201
import Derived.Test.YthjoegoeaiemdaaA16
namespace Go.Proofs.Ythjoegoeaiemdaa
set_option linter.unusedVariables false
set_option linter.unusedSimpArgs false
open Go.RowKit

def sI (n c f : Nat) : List (List Int) := (subL n c f).map tJ
theorem sI_zero (n f : Nat) : sI n 0 f = [[]] := by unfold sI; rw [sub_zero]; rfl
theorem sI_step {n c f : Nat} (h : f + (c + 1) ≤ n) : sI n (c + 1) f = (sI n c (f + 1)).map (fun l => (f : Int) :: l) ++ sI n (c + 1) (f + 1) := by
  unfold sI
  rw [sub_step h, List.map_append, List.map_map, List.map_map]
  rfl
theorem sI_end {n c f : Nat} (h : ¬ f + (c + 1) ≤ n) : sI n (c + 1) f = [] := by unfold sI; rw [sub_end h]; rfl
theorem sI_small : ∀ n c f : Fin 8, (sI n c f).length ≤ 64 := by decide +kernel
theorem sI_le {n c f : Nat} (hn : n ≤ 6) (hf : f ≤ n + 1) : (sI n c f).length ≤ 64 := by
  by_cases hc : c < 8
  · exact sI_small ⟨n, by omega⟩ ⟨c, hc⟩ ⟨f, by omega⟩
  · obtain ⟨c, rfl⟩ : ∃ d, c = d + 1 := ⟨c - 1, by omega⟩
    rw [sI_end (by omega)]
    simp
theorem sI_row {n c f : Nat} (hf : f ≤ n) {l : List Int} (h : l ∈ sI n c f) : l.length = c := by
  unfold sI at h
  obtain ⟨p, hp, rfl⟩ := List.mem_map.1 h
  rw [tJ_len]
  exact ((sub_mem hf p).1 hp).1
end Go.Proofs.Ythjoegoeaiemdaa
