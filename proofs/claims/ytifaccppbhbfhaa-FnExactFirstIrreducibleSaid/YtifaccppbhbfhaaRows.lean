/-
  No cell of these rows narrows 'for every input' (looked for: loops, veiled, ifaces, maps, wideKeys, modest, calm, conditions, laid).
  DERIVED. THE GIVEN ROWS OF THIS SEAT. 4 by the template 'for every input the law returns true; each argument reads behind the call as it read before'; 0 by the template 'total and deterministic' (their statements: YtifaccppbhbfhaaTotals.lean).
  GIVEN WITH THE SEED: the statements are not yours to turn. If you find one false, say at which input.
  Laid BY PROGRAM, IN A SANDBOX (cutbox-rows.mjs): the forced cells as the released guide's own fill.sh prints them over the translation 89e2b5b2603a0fa2… (all of the seat's roots in one cut). By AI agents, Wed Nov 11 2026. No macro, syntax, notation, axiom, sorry.
-/
import Derived.Test.YtifaccppbhbfhaaChecked
import GoSem.Claim
import GoSem.ClaimJoined
import GoSem.ClaimMapViews
import Derived.JoinedTies
import Derived.KernelRfl
namespace Go.Proofs.Ytifaccppbhbfhaa
/- THE CELL 'sum', in the pinned program and in every row, IS THE sha256 OF THE DUMP (.gsa) THAT YtifaccppbhbfhaaProg.lean LOADS. Nothing in Lean hashes anything: it is a label: what it is worth is what the hold of that sum in a sandbox is worth. -/
noncomputable def Try.pinned : Pinned := { name := "ytifaccppbhbfhaa", sum := "89e2b5b2603a0fa2e025474226907b09802c411852b3042c09d44ce78ffeede8", checked := Try.checked }
namespace Rows
def none {H : Type} : Left H := { results := [], args := [] }

/-- 'laws.FnExactIsUnramified': WHATEVER THE INPUT: true; the input reads as it did. -/
def fnExactIsUnramifiedSpec : ChangeSpec := { name := "fnExactIsUnramified", fn := fun _ => fun
  | [d1, d2] => { results := [.lit (.bool true)], args := [d1, d2] }
  | _ => none }
def fnExactIsUnramifiedRow : OpenClaim := { program := "ytifaccppbhbfhaa", sum := "89e2b5b2603a0fa2e025474226907b09802c411852b3042c09d44ce78ffeede8", func := "loop.example/g01000/laws.FnExactIsUnramified", spec := "fnExactIsUnramified", unfollowed := true, recurses := true, apart := false }
def FnExactIsUnramifiedSaid : Prop := fnExactIsUnramifiedRow.holds Try.pinned (OpenSpec.ofChange fnExactIsUnramifiedSpec)

/-- ITS FALSE NEIGHBOUR: 'it returns false'. Refute it at one input. -/
def fnExactIsUnramifiedWrong : ChangeSpec := { name := "fnExactIsUnramified", fn := fun _ => fun
  | [d1, d2] => { results := [.lit (.bool false)], args := [d1, d2] }
  | _ => none }
def FnExactIsUnramifiedWrongFalsely : Prop := fnExactIsUnramifiedRow.holds Try.pinned (OpenSpec.ofChange fnExactIsUnramifiedWrong)

/-- 'laws.FnExactIsIrreducible': WHATEVER THE INPUT: true; the input reads as it did. -/
def fnExactIsIrreducibleSpec : ChangeSpec := { name := "fnExactIsIrreducible", fn := fun _ => fun
  | [d1, d2] => { results := [.lit (.bool true)], args := [d1, d2] }
  | _ => none }
def fnExactIsIrreducibleRow : OpenClaim := { program := "ytifaccppbhbfhaa", sum := "89e2b5b2603a0fa2e025474226907b09802c411852b3042c09d44ce78ffeede8", func := "loop.example/g01000/laws.FnExactIsIrreducible", spec := "fnExactIsIrreducible", unfollowed := true, recurses := true, apart := false }
def FnExactIsIrreducibleSaid : Prop := fnExactIsIrreducibleRow.holds Try.pinned (OpenSpec.ofChange fnExactIsIrreducibleSpec)

/-- ITS FALSE NEIGHBOUR: 'it returns false'. Refute it at one input. -/
def fnExactIsIrreducibleWrong : ChangeSpec := { name := "fnExactIsIrreducible", fn := fun _ => fun
  | [d1, d2] => { results := [.lit (.bool false)], args := [d1, d2] }
  | _ => none }
def FnExactIsIrreducibleWrongFalsely : Prop := fnExactIsIrreducibleRow.holds Try.pinned (OpenSpec.ofChange fnExactIsIrreducibleWrong)

/-- 'laws.FnExactSmallestFactor': WHATEVER THE INPUT: true; the input reads as it did. -/
def fnExactSmallestFactorSpec : ChangeSpec := { name := "fnExactSmallestFactor", fn := fun _ => fun
  | [d1, d2] => { results := [.lit (.bool true)], args := [d1, d2] }
  | _ => none }
def fnExactSmallestFactorRow : OpenClaim := { program := "ytifaccppbhbfhaa", sum := "89e2b5b2603a0fa2e025474226907b09802c411852b3042c09d44ce78ffeede8", func := "loop.example/g01000/laws.FnExactSmallestFactor", spec := "fnExactSmallestFactor", unfollowed := true, recurses := true, apart := false }
def FnExactSmallestFactorSaid : Prop := fnExactSmallestFactorRow.holds Try.pinned (OpenSpec.ofChange fnExactSmallestFactorSpec)

/-- ITS FALSE NEIGHBOUR: 'it returns false'. Refute it at one input. -/
def fnExactSmallestFactorWrong : ChangeSpec := { name := "fnExactSmallestFactor", fn := fun _ => fun
  | [d1, d2] => { results := [.lit (.bool false)], args := [d1, d2] }
  | _ => none }
def FnExactSmallestFactorWrongFalsely : Prop := fnExactSmallestFactorRow.holds Try.pinned (OpenSpec.ofChange fnExactSmallestFactorWrong)

/-- 'laws.FnExactFirstIrreducible': WHATEVER THE INPUT: true; the input reads as it did. -/
def fnExactFirstIrreducibleSpec : ChangeSpec := { name := "fnExactFirstIrreducible", fn := fun _ => fun
  | [d1, d2] => { results := [.lit (.bool true)], args := [d1, d2] }
  | _ => none }
def fnExactFirstIrreducibleRow : OpenClaim := { program := "ytifaccppbhbfhaa", sum := "89e2b5b2603a0fa2e025474226907b09802c411852b3042c09d44ce78ffeede8", func := "loop.example/g01000/laws.FnExactFirstIrreducible", spec := "fnExactFirstIrreducible", unfollowed := true, recurses := true, apart := false }
def FnExactFirstIrreducibleSaid : Prop := fnExactFirstIrreducibleRow.holds Try.pinned (OpenSpec.ofChange fnExactFirstIrreducibleSpec)

/-- ITS FALSE NEIGHBOUR: 'it returns false'. Refute it at one input. -/
def fnExactFirstIrreducibleWrong : ChangeSpec := { name := "fnExactFirstIrreducible", fn := fun _ => fun
  | [d1, d2] => { results := [.lit (.bool false)], args := [d1, d2] }
  | _ => none }
def FnExactFirstIrreducibleWrongFalsely : Prop := fnExactFirstIrreducibleRow.holds Try.pinned (OpenSpec.ofChange fnExactFirstIrreducibleWrong)

/- THE SECOND FORM. 'bulk': how many values and letters a reading holds, each counted each time it is reached (what is shared counts as often as it is met; a slice's spare places count too). A statement '..UptoSaid' is the law's where the arguments, and the package variables that the reading takes, are together of bulk at most 1048576: NARROWER than '..Said'. Prove '..Said' where nothing that the law and all that it calls make is longer than what came in: it says more and counts as full. Else prove '..UptoSaid'. A law counts once. -/
mutual
def uptoBulk {H : Type} : DataW H → Nat
  | .lit (.string bytes) => bytes.length + 1
  | .lit _ => 1
  | .nil => 1
  | .ptr d => uptoBulk d + 1
  | .slice elems spare => uptoBulkAll elems + uptoBulkAll spare + 1
  | .agg parts => uptoBulkAll parts + 1
  | .iface _ d => uptoBulk d + 1
  | .map entries => uptoBulkEntries entries + 1
  | .held _ => 1
def uptoBulkAll {H : Type} : List (DataW H) → Nat
  | [] => 0
  | d :: r => uptoBulk d + uptoBulkAll r
def uptoBulkEntries {H : Type} : List (Lit × DataW H) → Nat
  | [] => 0
  | x :: r => uptoBulkEntry x + uptoBulkEntries r
def uptoBulkEntry {H : Type} : Lit × DataW H → Nat
  | (.string bytes, d) => bytes.length + uptoBulk d + 1
  | (_, d) => uptoBulk d + 1
 end
def uptoSmall : (H : Type) → List (DataW H) → Bool := fun _ ds => decide (uptoBulkAll ds ≤ 1048576)
def OpenSpec.upto (s : _root_.Go.ChangeSpec) : _root_.Go.OpenSpec := { _root_.Go.OpenSpec.ofChange s with cond := some uptoSmall }

/-- 'laws.FnExactIsUnramified', WHERE WHAT IT READS IS OF BULK AT MOST 1048576: true; the input reads as it did. -/
def fnExactIsUnramifiedUptoRow : OpenClaim := { program := "ytifaccppbhbfhaa", sum := "89e2b5b2603a0fa2e025474226907b09802c411852b3042c09d44ce78ffeede8", func := "loop.example/g01000/laws.FnExactIsUnramified", spec := "fnExactIsUnramified", unfollowed := true, recurses := true, apart := false, narrowed := true }
def FnExactIsUnramifiedUptoSaid : Prop := fnExactIsUnramifiedUptoRow.holds Try.pinned (OpenSpec.upto fnExactIsUnramifiedSpec)

/-- 'laws.FnExactIsIrreducible', WHERE WHAT IT READS IS OF BULK AT MOST 1048576: true; the input reads as it did. -/
def fnExactIsIrreducibleUptoRow : OpenClaim := { program := "ytifaccppbhbfhaa", sum := "89e2b5b2603a0fa2e025474226907b09802c411852b3042c09d44ce78ffeede8", func := "loop.example/g01000/laws.FnExactIsIrreducible", spec := "fnExactIsIrreducible", unfollowed := true, recurses := true, apart := false, narrowed := true }
def FnExactIsIrreducibleUptoSaid : Prop := fnExactIsIrreducibleUptoRow.holds Try.pinned (OpenSpec.upto fnExactIsIrreducibleSpec)

/-- 'laws.FnExactSmallestFactor', WHERE WHAT IT READS IS OF BULK AT MOST 1048576: true; the input reads as it did. -/
def fnExactSmallestFactorUptoRow : OpenClaim := { program := "ytifaccppbhbfhaa", sum := "89e2b5b2603a0fa2e025474226907b09802c411852b3042c09d44ce78ffeede8", func := "loop.example/g01000/laws.FnExactSmallestFactor", spec := "fnExactSmallestFactor", unfollowed := true, recurses := true, apart := false, narrowed := true }
def FnExactSmallestFactorUptoSaid : Prop := fnExactSmallestFactorUptoRow.holds Try.pinned (OpenSpec.upto fnExactSmallestFactorSpec)

/-- 'laws.FnExactFirstIrreducible', WHERE WHAT IT READS IS OF BULK AT MOST 1048576: true; the input reads as it did. -/
def fnExactFirstIrreducibleUptoRow : OpenClaim := { program := "ytifaccppbhbfhaa", sum := "89e2b5b2603a0fa2e025474226907b09802c411852b3042c09d44ce78ffeede8", func := "loop.example/g01000/laws.FnExactFirstIrreducible", spec := "fnExactFirstIrreducible", unfollowed := true, recurses := true, apart := false, narrowed := true }
def FnExactFirstIrreducibleUptoSaid : Prop := fnExactFirstIrreducibleUptoRow.holds Try.pinned (OpenSpec.upto fnExactFirstIrreducibleSpec)

end Rows
end Go.Proofs.Ytifaccppbhbfhaa
