/- Walks of laws with one slice as argument and a slice of int64 and a code as results. -/
import Derived.Test.YtcbjfdeigpdbdaaA18
namespace Go.Proofs.Ytcbjfdeigpdbdaa
set_option linter.unusedVariables false
set_option linter.unusedSimpArgs false
open Go.RowKit

theorem undrew {B : Nat} {w w' : World} {n : Nat} (h : Below B (w.drewN n) w') : Below B w w' := ⟨h.os, h.tape, h.output, h.size, h.block⟩
theorem undrewG {w w' : World} {n : Nat} {row : Option Nat} (h : (w.drewN n).grownBy w' row) : w.grownBy w' row := ⟨h.os, h.tape, h.output, h.size, h.block⟩
theorem NS.own' {w : World} {B g n : Nat} {xs : List Int} (h : NS w B g xs) (hn : n = xs.length) (hl : n ≤ 1048576) : w.ownsRow B 2 1 (.slice (some ⟨g, 0, none⟩) n n) n (ints xs) := by
  subst hn; exact h.own (by simp only [maxLen]; omega)
theorem kept_ge {w2 w' w'' : World} {b e s n : Nat} {v : Value} {xs : List Value} {row : Option Nat} (h : w2.ownsRow b e s v n xs) (hk : w'.ownsRow b e s v n xs) (hg : w'.grownBy w'' row) (hr : ∀ g, row = some g → w2.heap.size ≤ g) : w''.ownsRow b e s v n xs := by
  refine hk.kept hg ?_
  cases hv : v.ownBlock with
  | none => exact .inl rfl
  | some g =>
    refine .inr fun he => ?_
    have h1 := (h.lt g hv).2
    have h2 := hr g he.symm
    omega
theorem kept_lt {w' w'' : World} {b e s n : Nat} {v : Value} {xs : List Value} {row : Option Nat} (hk : w'.ownsRow b e s v n xs) (hg : w'.grownBy w'' row) (hr : ∀ g, row = some g → g < b) : w''.ownsRow b e s v n xs := by
  refine hk.kept hg ?_
  cases hv : v.ownBlock with
  | none => exact .inl rfl
  | some g =>
    refine .inr fun he => ?_
    have h1 := (hk.lt g hv).1
    have h2 := hr g he.symm
    omega
theorem l_mark1 (A : Option Addr) (n c base : Nat) (l : List Int) (w : World) (hn : n = l.length) (hl : n ≤ 1048576) (ho : w.ownsRow base 2 1 (.slice A n c) n (ints l)) :
    Calls Try.prog 13 #[.slice A n c, .int .i64 1] w (fun e w' => e = .returned (.int .i64 (1 + (n : Int))) ∧ w'.ownsRow base 2 1 (.slice A n c) n (ints (marks 1 n)) ∧ w.grownBy w' (Value.slice A n c).ownBlock) := by
  have h := l_markInt64S A n c 1 base l w hn hl (by omega) ho
  have e : (((1 + n : Nat)) : Int) = 1 + (n : Int) := by simp
  rw [e] at h
  exact h
theorem l_held1 (A : Option Addr) (n c B : Nat) (w : World) (hl : n ≤ 1048576) (hs : IS w B A (marks 1 n)) :
    Calls Try.prog 14 #[.slice A n c, .int .i64 1] w (Q (.int .i64 (1 + (n : Int))) w) := by
  have h := l_heldInt64S A n c 1 B w hl (by omega) hs
  have e : (((1 + n : Nat)) : Int) = 1 + (n : Int) := by simp
  rw [e] at h
  exact h
theorem spL_len (xs : List Int) : (spL xs).length ≤ 1048576 := by unfold spL; split <;> simp
end Go.Proofs.Ytcbjfdeigpdbdaa
