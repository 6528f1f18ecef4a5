/-
  No cell of these rows narrows 'for every input' (looked for: loops, veiled, ifaces, maps, wideKeys, modest, calm, conditions, laid).
  DERIVED. THE GIVEN ROWS OF THIS SEAT. 12 by the template 'for every input the law returns true; each argument reads behind the call as it read before'; 0 by the template 'total and deterministic' (their statements: YtlhkpepnklbnfaaTotals.lean).
  GIVEN WITH THE SEED: the statements are not yours to turn. If you find one false, say at which input.
  Laid BY PROGRAM, IN A SANDBOX (cutbox-rows.mjs): the forced cells as the released guide's own fill.sh prints them over the translation 0676a8666936f934… (all of the seat's roots in one cut). By AI agents, Wed Nov 11 2026. No macro, syntax, notation, axiom, sorry.
-/
import Derived.Test.YtlhkpepnklbnfaaChecked
import GoSem.Claim
import GoSem.ClaimJoined
import GoSem.ClaimMapViews
import Derived.JoinedTies
import Derived.KernelRfl
namespace Go.Proofs.Ytlhkpepnklbnfaa
/- THE CELL 'sum', in the pinned program and in every row, IS THE sha256 OF THE DUMP (.gsa) THAT YtlhkpepnklbnfaaProg.lean LOADS. Nothing in Lean hashes anything: it is a label: what it is worth is what the hold of that sum in a sandbox is worth. -/
noncomputable def Try.pinned : Pinned := { name := "ytlhkpepnklbnfaa", sum := "0676a8666936f9348423ce3f969c3dd4434de05e3686b7ca3dc2f84f9547cdc2", checked := Try.checked }
namespace Rows
def none {H : Type} : Left H := { results := [], args := [] }

/-- 'laws.FnExactClosenessAt': WHATEVER THE INPUT: true; the input reads as it did. -/
def fnExactClosenessAtSpec : ChangeSpec := { name := "fnExactClosenessAt", fn := fun _ => fun
  | [d1, d2, d3] => { results := [.lit (.bool true)], args := [d1, d2, d3] }
  | _ => none }
def fnExactClosenessAtRow : OpenClaim := { program := "ytlhkpepnklbnfaa", sum := "0676a8666936f9348423ce3f969c3dd4434de05e3686b7ca3dc2f84f9547cdc2", func := "loop.example/g01000/laws.FnExactClosenessAt", spec := "fnExactClosenessAt", apart := false }
def FnExactClosenessAtSaid : Prop := fnExactClosenessAtRow.holds Try.pinned (OpenSpec.ofChange fnExactClosenessAtSpec)

/-- ITS FALSE NEIGHBOUR: 'it returns false'. Refute it at one input. -/
def fnExactClosenessAtWrong : ChangeSpec := { name := "fnExactClosenessAt", fn := fun _ => fun
  | [d1, d2, d3] => { results := [.lit (.bool false)], args := [d1, d2, d3] }
  | _ => none }
def FnExactClosenessAtWrongFalsely : Prop := fnExactClosenessAtRow.holds Try.pinned (OpenSpec.ofChange fnExactClosenessAtWrong)

/-- 'laws.FnExactSumPolynomial': WHATEVER THE INPUT: true; the input reads as it did. -/
def fnExactSumPolynomialSpec : ChangeSpec := { name := "fnExactSumPolynomial", fn := fun _ => fun
  | [d] => { results := [.lit (.bool true)], args := [d] }
  | _ => none }
def fnExactSumPolynomialRow : OpenClaim := { program := "ytlhkpepnklbnfaa", sum := "0676a8666936f9348423ce3f969c3dd4434de05e3686b7ca3dc2f84f9547cdc2", func := "loop.example/g01000/laws.FnExactSumPolynomial", spec := "fnExactSumPolynomial", unfollowed := true, recurses := true, apart := false }
def FnExactSumPolynomialSaid : Prop := fnExactSumPolynomialRow.holds Try.pinned (OpenSpec.ofChange fnExactSumPolynomialSpec)

/-- ITS FALSE NEIGHBOUR: 'it returns false'. Refute it at one input. -/
def fnExactSumPolynomialWrong : ChangeSpec := { name := "fnExactSumPolynomial", fn := fun _ => fun
  | [d] => { results := [.lit (.bool false)], args := [d] }
  | _ => none }
def FnExactSumPolynomialWrongFalsely : Prop := fnExactSumPolynomialRow.holds Try.pinned (OpenSpec.ofChange fnExactSumPolynomialWrong)

/-- 'laws.FnExactCubicResolvent': WHATEVER THE INPUT: true; the input reads as it did. -/
def fnExactCubicResolventSpec : ChangeSpec := { name := "fnExactCubicResolvent", fn := fun _ => fun
  | [d] => { results := [.lit (.bool true)], args := [d] }
  | _ => none }
def fnExactCubicResolventRow : OpenClaim := { program := "ytlhkpepnklbnfaa", sum := "0676a8666936f9348423ce3f969c3dd4434de05e3686b7ca3dc2f84f9547cdc2", func := "loop.example/g01000/laws.FnExactCubicResolvent", spec := "fnExactCubicResolvent", unfollowed := true, recurses := true, apart := false }
def FnExactCubicResolventSaid : Prop := fnExactCubicResolventRow.holds Try.pinned (OpenSpec.ofChange fnExactCubicResolventSpec)

/-- ITS FALSE NEIGHBOUR: 'it returns false'. Refute it at one input. -/
def fnExactCubicResolventWrong : ChangeSpec := { name := "fnExactCubicResolvent", fn := fun _ => fun
  | [d] => { results := [.lit (.bool false)], args := [d] }
  | _ => none }
def FnExactCubicResolventWrongFalsely : Prop := fnExactCubicResolventRow.holds Try.pinned (OpenSpec.ofChange fnExactCubicResolventWrong)

/-- 'laws.FnExactTransitiveNames': WHATEVER THE INPUT: true; the input reads as it did. -/
def fnExactTransitiveNamesSpec : ChangeSpec := { name := "fnExactTransitiveNames", fn := fun _ => fun
  | [d] => { results := [.lit (.bool true)], args := [d] }
  | _ => none }
def fnExactTransitiveNamesRow : OpenClaim := { program := "ytlhkpepnklbnfaa", sum := "0676a8666936f9348423ce3f969c3dd4434de05e3686b7ca3dc2f84f9547cdc2", func := "loop.example/g01000/laws.FnExactTransitiveNames", spec := "fnExactTransitiveNames", unfollowed := true, recurses := true, apart := false }
def FnExactTransitiveNamesSaid : Prop := fnExactTransitiveNamesRow.holds Try.pinned (OpenSpec.ofChange fnExactTransitiveNamesSpec)

/-- ITS FALSE NEIGHBOUR: 'it returns false'. Refute it at one input. -/
def fnExactTransitiveNamesWrong : ChangeSpec := { name := "fnExactTransitiveNames", fn := fun _ => fun
  | [d] => { results := [.lit (.bool false)], args := [d] }
  | _ => none }
def FnExactTransitiveNamesWrongFalsely : Prop := fnExactTransitiveNamesRow.holds Try.pinned (OpenSpec.ofChange fnExactTransitiveNamesWrong)

/-- 'laws.FnExactAbsoluteAt': WHATEVER THE INPUT: true; the input reads as it did. -/
def fnExactAbsoluteAtSpec : ChangeSpec := { name := "fnExactAbsoluteAt", fn := fun _ => fun
  | [d1, d2] => { results := [.lit (.bool true)], args := [d1, d2] }
  | _ => none }
def fnExactAbsoluteAtRow : OpenClaim := { program := "ytlhkpepnklbnfaa", sum := "0676a8666936f9348423ce3f969c3dd4434de05e3686b7ca3dc2f84f9547cdc2", func := "loop.example/g01000/laws.FnExactAbsoluteAt", spec := "fnExactAbsoluteAt", apart := false }
def FnExactAbsoluteAtSaid : Prop := fnExactAbsoluteAtRow.holds Try.pinned (OpenSpec.ofChange fnExactAbsoluteAtSpec)

/-- ITS FALSE NEIGHBOUR: 'it returns false'. Refute it at one input. -/
def fnExactAbsoluteAtWrong : ChangeSpec := { name := "fnExactAbsoluteAt", fn := fun _ => fun
  | [d1, d2] => { results := [.lit (.bool false)], args := [d1, d2] }
  | _ => none }
def FnExactAbsoluteAtWrongFalsely : Prop := fnExactAbsoluteAtRow.holds Try.pinned (OpenSpec.ofChange fnExactAbsoluteAtWrong)

/-- 'laws.FnExactProductOfAll': WHATEVER THE INPUT: true; the input reads as it did. -/
def fnExactProductOfAllSpec : ChangeSpec := { name := "fnExactProductOfAll", fn := fun _ => fun
  | [d] => { results := [.lit (.bool true)], args := [d] }
  | _ => none }
def fnExactProductOfAllRow : OpenClaim := { program := "ytlhkpepnklbnfaa", sum := "0676a8666936f9348423ce3f969c3dd4434de05e3686b7ca3dc2f84f9547cdc2", func := "loop.example/g01000/laws.FnExactProductOfAll", spec := "fnExactProductOfAll", apart := false }
def FnExactProductOfAllSaid : Prop := fnExactProductOfAllRow.holds Try.pinned (OpenSpec.ofChange fnExactProductOfAllSpec)

/-- ITS FALSE NEIGHBOUR: 'it returns false'. Refute it at one input. -/
def fnExactProductOfAllWrong : ChangeSpec := { name := "fnExactProductOfAll", fn := fun _ => fun
  | [d] => { results := [.lit (.bool false)], args := [d] }
  | _ => none }
def FnExactProductOfAllWrongFalsely : Prop := fnExactProductOfAllRow.holds Try.pinned (OpenSpec.ofChange fnExactProductOfAllWrong)

/-- 'laws.FnExactPrimitivePart': WHATEVER THE INPUT: true; the input reads as it did. -/
def fnExactPrimitivePartSpec : ChangeSpec := { name := "fnExactPrimitivePart", fn := fun _ => fun
  | [d] => { results := [.lit (.bool true)], args := [d] }
  | _ => none }
def fnExactPrimitivePartRow : OpenClaim := { program := "ytlhkpepnklbnfaa", sum := "0676a8666936f9348423ce3f969c3dd4434de05e3686b7ca3dc2f84f9547cdc2", func := "loop.example/g01000/laws.FnExactPrimitivePart", spec := "fnExactPrimitivePart", unfollowed := true, recurses := true, apart := false }
def FnExactPrimitivePartSaid : Prop := fnExactPrimitivePartRow.holds Try.pinned (OpenSpec.ofChange fnExactPrimitivePartSpec)

/-- ITS FALSE NEIGHBOUR: 'it returns false'. Refute it at one input. -/
def fnExactPrimitivePartWrong : ChangeSpec := { name := "fnExactPrimitivePart", fn := fun _ => fun
  | [d] => { results := [.lit (.bool false)], args := [d] }
  | _ => none }
def FnExactPrimitivePartWrongFalsely : Prop := fnExactPrimitivePartRow.holds Try.pinned (OpenSpec.ofChange fnExactPrimitivePartWrong)

/-- 'laws.FnExactGeometricSum': WHATEVER THE INPUT: true; the input reads as it did. -/
def fnExactGeometricSumSpec : ChangeSpec := { name := "fnExactGeometricSum", fn := fun _ => fun
  | [d1, d2] => { results := [.lit (.bool true)], args := [d1, d2] }
  | _ => none }
def fnExactGeometricSumRow : OpenClaim := { program := "ytlhkpepnklbnfaa", sum := "0676a8666936f9348423ce3f969c3dd4434de05e3686b7ca3dc2f84f9547cdc2", func := "loop.example/g01000/laws.FnExactGeometricSum", spec := "fnExactGeometricSum", unfollowed := true, recurses := true, apart := false }
def FnExactGeometricSumSaid : Prop := fnExactGeometricSumRow.holds Try.pinned (OpenSpec.ofChange fnExactGeometricSumSpec)

/-- ITS FALSE NEIGHBOUR: 'it returns false'. Refute it at one input. -/
def fnExactGeometricSumWrong : ChangeSpec := { name := "fnExactGeometricSum", fn := fun _ => fun
  | [d1, d2] => { results := [.lit (.bool false)], args := [d1, d2] }
  | _ => none }
def FnExactGeometricSumWrongFalsely : Prop := fnExactGeometricSumRow.holds Try.pinned (OpenSpec.ofChange fnExactGeometricSumWrong)

/-- 'laws.FnExactStrassmannCount': WHATEVER THE INPUT: true; the input reads as it did. -/
def fnExactStrassmannCountSpec : ChangeSpec := { name := "fnExactStrassmannCount", fn := fun _ => fun
  | [d1, d2] => { results := [.lit (.bool true)], args := [d1, d2] }
  | _ => none }
def fnExactStrassmannCountRow : OpenClaim := { program := "ytlhkpepnklbnfaa", sum := "0676a8666936f9348423ce3f969c3dd4434de05e3686b7ca3dc2f84f9547cdc2", func := "loop.example/g01000/laws.FnExactStrassmannCount", spec := "fnExactStrassmannCount", unfollowed := true, recurses := true, apart := false }
def FnExactStrassmannCountSaid : Prop := fnExactStrassmannCountRow.holds Try.pinned (OpenSpec.ofChange fnExactStrassmannCountSpec)

/-- ITS FALSE NEIGHBOUR: 'it returns false'. Refute it at one input. -/
def fnExactStrassmannCountWrong : ChangeSpec := { name := "fnExactStrassmannCount", fn := fun _ => fun
  | [d1, d2] => { results := [.lit (.bool false)], args := [d1, d2] }
  | _ => none }
def FnExactStrassmannCountWrongFalsely : Prop := fnExactStrassmannCountRow.holds Try.pinned (OpenSpec.ofChange fnExactStrassmannCountWrong)

/-- 'laws.FnExactResolventRoots': WHATEVER THE INPUT: true; the input reads as it did. -/
def fnExactResolventRootsSpec : ChangeSpec := { name := "fnExactResolventRoots", fn := fun _ => fun
  | [d] => { results := [.lit (.bool true)], args := [d] }
  | _ => none }
def fnExactResolventRootsRow : OpenClaim := { program := "ytlhkpepnklbnfaa", sum := "0676a8666936f9348423ce3f969c3dd4434de05e3686b7ca3dc2f84f9547cdc2", func := "loop.example/g01000/laws.FnExactResolventRoots", spec := "fnExactResolventRoots", unfollowed := true, recurses := true, apart := false }
def FnExactResolventRootsSaid : Prop := fnExactResolventRootsRow.holds Try.pinned (OpenSpec.ofChange fnExactResolventRootsSpec)

/-- ITS FALSE NEIGHBOUR: 'it returns false'. Refute it at one input. -/
def fnExactResolventRootsWrong : ChangeSpec := { name := "fnExactResolventRoots", fn := fun _ => fun
  | [d] => { results := [.lit (.bool false)], args := [d] }
  | _ => none }
def FnExactResolventRootsWrongFalsely : Prop := fnExactResolventRootsRow.holds Try.pinned (OpenSpec.ofChange fnExactResolventRootsWrong)

/-- 'laws.FnExactSupportOf': WHATEVER THE INPUT: true; the input reads as it did. -/
def fnExactSupportOfSpec : ChangeSpec := { name := "fnExactSupportOf", fn := fun _ => fun
  | [d] => { results := [.lit (.bool true)], args := [d] }
  | _ => none }
def fnExactSupportOfRow : OpenClaim := { program := "ytlhkpepnklbnfaa", sum := "0676a8666936f9348423ce3f969c3dd4434de05e3686b7ca3dc2f84f9547cdc2", func := "loop.example/g01000/laws.FnExactSupportOf", spec := "fnExactSupportOf", apart := false }
def FnExactSupportOfSaid : Prop := fnExactSupportOfRow.holds Try.pinned (OpenSpec.ofChange fnExactSupportOfSpec)

/-- ITS FALSE NEIGHBOUR: 'it returns false'. Refute it at one input. -/
def fnExactSupportOfWrong : ChangeSpec := { name := "fnExactSupportOf", fn := fun _ => fun
  | [d] => { results := [.lit (.bool false)], args := [d] }
  | _ => none }
def FnExactSupportOfWrongFalsely : Prop := fnExactSupportOfRow.holds Try.pinned (OpenSpec.ofChange fnExactSupportOfWrong)

/-- 'laws.FnExactDoesSolve': WHATEVER THE INPUT: true; the input reads as it did. -/
def fnExactDoesSolveSpec : ChangeSpec := { name := "fnExactDoesSolve", fn := fun _ => fun
  | [d1, d2] => { results := [.lit (.bool true)], args := [d1, d2] }
  | _ => none }
def fnExactDoesSolveRow : OpenClaim := { program := "ytlhkpepnklbnfaa", sum := "0676a8666936f9348423ce3f969c3dd4434de05e3686b7ca3dc2f84f9547cdc2", func := "loop.example/g01000/laws.FnExactDoesSolve", spec := "fnExactDoesSolve", apart := false }
def FnExactDoesSolveSaid : Prop := fnExactDoesSolveRow.holds Try.pinned (OpenSpec.ofChange fnExactDoesSolveSpec)

/-- ITS FALSE NEIGHBOUR: 'it returns false'. Refute it at one input. -/
def fnExactDoesSolveWrong : ChangeSpec := { name := "fnExactDoesSolve", fn := fun _ => fun
  | [d1, d2] => { results := [.lit (.bool false)], args := [d1, d2] }
  | _ => none }
def FnExactDoesSolveWrongFalsely : Prop := fnExactDoesSolveRow.holds Try.pinned (OpenSpec.ofChange fnExactDoesSolveWrong)

/- THE SECOND FORM. 'bulk': how many values and letters a reading holds, each counted each time it is reached (what is shared counts as often as it is met; a slice's spare places count too). A statement '..UptoSaid' is the law's where the arguments, and the package variables that the reading takes, are together of bulk at most 1048576: NARROWER than '..Said'. Prove '..Said' where nothing that the law and all that it calls make is longer than what came in: it says more and counts as full. Else prove '..UptoSaid'. A law counts once. -/
mutual
def uptoBulk {H : Type} : DataW H → Nat
  | .lit (.string bytes) => bytes.length + 1
  | .lit _ => 1
  | .nil => 1
  | .ptr d => uptoBulk d + 1
  | .slice elems spare => uptoBulkAll elems + uptoBulkAll spare + 1
  | .agg parts => uptoBulkAll parts + 1
  | .iface _ d => uptoBulk d + 1
  | .map entries => uptoBulkEntries entries + 1
  | .held _ => 1
def uptoBulkAll {H : Type} : List (DataW H) → Nat
  | [] => 0
  | d :: r => uptoBulk d + uptoBulkAll r
def uptoBulkEntries {H : Type} : List (Lit × DataW H) → Nat
  | [] => 0
  | x :: r => uptoBulkEntry x + uptoBulkEntries r
def uptoBulkEntry {H : Type} : Lit × DataW H → Nat
  | (.string bytes, d) => bytes.length + uptoBulk d + 1
  | (_, d) => uptoBulk d + 1
 end
def uptoSmall : (H : Type) → List (DataW H) → Bool := fun _ ds => decide (uptoBulkAll ds ≤ 1048576)
def OpenSpec.upto (s : _root_.Go.ChangeSpec) : _root_.Go.OpenSpec := { _root_.Go.OpenSpec.ofChange s with cond := some uptoSmall }

/-- 'laws.FnExactClosenessAt', WHERE WHAT IT READS IS OF BULK AT MOST 1048576: true; the input reads as it did. -/
def fnExactClosenessAtUptoRow : OpenClaim := { program := "ytlhkpepnklbnfaa", sum := "0676a8666936f9348423ce3f969c3dd4434de05e3686b7ca3dc2f84f9547cdc2", func := "loop.example/g01000/laws.FnExactClosenessAt", spec := "fnExactClosenessAt", apart := false, narrowed := true }
def FnExactClosenessAtUptoSaid : Prop := fnExactClosenessAtUptoRow.holds Try.pinned (OpenSpec.upto fnExactClosenessAtSpec)

/-- 'laws.FnExactSumPolynomial', WHERE WHAT IT READS IS OF BULK AT MOST 1048576: true; the input reads as it did. -/
def fnExactSumPolynomialUptoRow : OpenClaim := { program := "ytlhkpepnklbnfaa", sum := "0676a8666936f9348423ce3f969c3dd4434de05e3686b7ca3dc2f84f9547cdc2", func := "loop.example/g01000/laws.FnExactSumPolynomial", spec := "fnExactSumPolynomial", unfollowed := true, recurses := true, apart := false, narrowed := true }
def FnExactSumPolynomialUptoSaid : Prop := fnExactSumPolynomialUptoRow.holds Try.pinned (OpenSpec.upto fnExactSumPolynomialSpec)

/-- 'laws.FnExactCubicResolvent', WHERE WHAT IT READS IS OF BULK AT MOST 1048576: true; the input reads as it did. -/
def fnExactCubicResolventUptoRow : OpenClaim := { program := "ytlhkpepnklbnfaa", sum := "0676a8666936f9348423ce3f969c3dd4434de05e3686b7ca3dc2f84f9547cdc2", func := "loop.example/g01000/laws.FnExactCubicResolvent", spec := "fnExactCubicResolvent", unfollowed := true, recurses := true, apart := false, narrowed := true }
def FnExactCubicResolventUptoSaid : Prop := fnExactCubicResolventUptoRow.holds Try.pinned (OpenSpec.upto fnExactCubicResolventSpec)

/-- 'laws.FnExactTransitiveNames', WHERE WHAT IT READS IS OF BULK AT MOST 1048576: true; the input reads as it did. -/
def fnExactTransitiveNamesUptoRow : OpenClaim := { program := "ytlhkpepnklbnfaa", sum := "0676a8666936f9348423ce3f969c3dd4434de05e3686b7ca3dc2f84f9547cdc2", func := "loop.example/g01000/laws.FnExactTransitiveNames", spec := "fnExactTransitiveNames", unfollowed := true, recurses := true, apart := false, narrowed := true }
def FnExactTransitiveNamesUptoSaid : Prop := fnExactTransitiveNamesUptoRow.holds Try.pinned (OpenSpec.upto fnExactTransitiveNamesSpec)

/-- 'laws.FnExactAbsoluteAt', WHERE WHAT IT READS IS OF BULK AT MOST 1048576: true; the input reads as it did. -/
def fnExactAbsoluteAtUptoRow : OpenClaim := { program := "ytlhkpepnklbnfaa", sum := "0676a8666936f9348423ce3f969c3dd4434de05e3686b7ca3dc2f84f9547cdc2", func := "loop.example/g01000/laws.FnExactAbsoluteAt", spec := "fnExactAbsoluteAt", apart := false, narrowed := true }
def FnExactAbsoluteAtUptoSaid : Prop := fnExactAbsoluteAtUptoRow.holds Try.pinned (OpenSpec.upto fnExactAbsoluteAtSpec)

/-- 'laws.FnExactProductOfAll', WHERE WHAT IT READS IS OF BULK AT MOST 1048576: true; the input reads as it did. -/
def fnExactProductOfAllUptoRow : OpenClaim := { program := "ytlhkpepnklbnfaa", sum := "0676a8666936f9348423ce3f969c3dd4434de05e3686b7ca3dc2f84f9547cdc2", func := "loop.example/g01000/laws.FnExactProductOfAll", spec := "fnExactProductOfAll", apart := false, narrowed := true }
def FnExactProductOfAllUptoSaid : Prop := fnExactProductOfAllUptoRow.holds Try.pinned (OpenSpec.upto fnExactProductOfAllSpec)

/-- 'laws.FnExactPrimitivePart', WHERE WHAT IT READS IS OF BULK AT MOST 1048576: true; the input reads as it did. -/
def fnExactPrimitivePartUptoRow : OpenClaim := { program := "ytlhkpepnklbnfaa", sum := "0676a8666936f9348423ce3f969c3dd4434de05e3686b7ca3dc2f84f9547cdc2", func := "loop.example/g01000/laws.FnExactPrimitivePart", spec := "fnExactPrimitivePart", unfollowed := true, recurses := true, apart := false, narrowed := true }
def FnExactPrimitivePartUptoSaid : Prop := fnExactPrimitivePartUptoRow.holds Try.pinned (OpenSpec.upto fnExactPrimitivePartSpec)

/-- 'laws.FnExactGeometricSum', WHERE WHAT IT READS IS OF BULK AT MOST 1048576: true; the input reads as it did. -/
def fnExactGeometricSumUptoRow : OpenClaim := { program := "ytlhkpepnklbnfaa", sum := "0676a8666936f9348423ce3f969c3dd4434de05e3686b7ca3dc2f84f9547cdc2", func := "loop.example/g01000/laws.FnExactGeometricSum", spec := "fnExactGeometricSum", unfollowed := true, recurses := true, apart := false, narrowed := true }
def FnExactGeometricSumUptoSaid : Prop := fnExactGeometricSumUptoRow.holds Try.pinned (OpenSpec.upto fnExactGeometricSumSpec)

/-- 'laws.FnExactStrassmannCount', WHERE WHAT IT READS IS OF BULK AT MOST 1048576: true; the input reads as it did. -/
def fnExactStrassmannCountUptoRow : OpenClaim := { program := "ytlhkpepnklbnfaa", sum := "0676a8666936f9348423ce3f969c3dd4434de05e3686b7ca3dc2f84f9547cdc2", func := "loop.example/g01000/laws.FnExactStrassmannCount", spec := "fnExactStrassmannCount", unfollowed := true, recurses := true, apart := false, narrowed := true }
def FnExactStrassmannCountUptoSaid : Prop := fnExactStrassmannCountUptoRow.holds Try.pinned (OpenSpec.upto fnExactStrassmannCountSpec)

/-- 'laws.FnExactResolventRoots', WHERE WHAT IT READS IS OF BULK AT MOST 1048576: true; the input reads as it did. -/
def fnExactResolventRootsUptoRow : OpenClaim := { program := "ytlhkpepnklbnfaa", sum := "0676a8666936f9348423ce3f969c3dd4434de05e3686b7ca3dc2f84f9547cdc2", func := "loop.example/g01000/laws.FnExactResolventRoots", spec := "fnExactResolventRoots", unfollowed := true, recurses := true, apart := false, narrowed := true }
def FnExactResolventRootsUptoSaid : Prop := fnExactResolventRootsUptoRow.holds Try.pinned (OpenSpec.upto fnExactResolventRootsSpec)

/-- 'laws.FnExactSupportOf', WHERE WHAT IT READS IS OF BULK AT MOST 1048576: true; the input reads as it did. -/
def fnExactSupportOfUptoRow : OpenClaim := { program := "ytlhkpepnklbnfaa", sum := "0676a8666936f9348423ce3f969c3dd4434de05e3686b7ca3dc2f84f9547cdc2", func := "loop.example/g01000/laws.FnExactSupportOf", spec := "fnExactSupportOf", apart := false, narrowed := true }
def FnExactSupportOfUptoSaid : Prop := fnExactSupportOfUptoRow.holds Try.pinned (OpenSpec.upto fnExactSupportOfSpec)

/-- 'laws.FnExactDoesSolve', WHERE WHAT IT READS IS OF BULK AT MOST 1048576: true; the input reads as it did. -/
def fnExactDoesSolveUptoRow : OpenClaim := { program := "ytlhkpepnklbnfaa", sum := "0676a8666936f9348423ce3f969c3dd4434de05e3686b7ca3dc2f84f9547cdc2", func := "loop.example/g01000/laws.FnExactDoesSolve", spec := "fnExactDoesSolve", apart := false, narrowed := true }
def FnExactDoesSolveUptoSaid : Prop := fnExactDoesSolveUptoRow.holds Try.pinned (OpenSpec.upto fnExactDoesSolveSpec)

end Rows
end Go.Proofs.Ytlhkpepnklbnfaa
