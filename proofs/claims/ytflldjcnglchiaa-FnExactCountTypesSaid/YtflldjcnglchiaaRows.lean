/-
  No cell of these rows narrows 'for every input' (looked for: loops, veiled, ifaces, maps, wideKeys, modest, calm, conditions, laid).
  DERIVED. THE GIVEN ROWS OF THIS SEAT. 11 by the template 'for every input the law returns true; each argument reads behind the call as it read before'; 0 by the template 'total and deterministic' (their statements: YtflldjcnglchiaaTotals.lean).
  GIVEN WITH THE SEED: the statements are not yours to turn. If you find one false, say at which input.
  Laid BY PROGRAM, IN A SANDBOX (cutbox-rows.mjs): the forced cells as the released guide's own fill.sh prints them over the translation c81a0d47daa615c3… (all of the seat's roots in one cut). By AI agents, Wed Nov 11 2026. No macro, syntax, notation, axiom, sorry.
-/
import Derived.Test.YtflldjcnglchiaaChecked
import GoSem.Claim
import GoSem.ClaimJoined
import GoSem.ClaimMapViews
import Derived.JoinedTies
import Derived.KernelRfl
namespace Go.Proofs.Ytflldjcnglchiaa
/- THE CELL 'sum', in the pinned program and in every row, IS THE sha256 OF THE DUMP (.gsa) THAT YtflldjcnglchiaaProg.lean LOADS. Nothing in Lean hashes anything: it is a label: what it is worth is what the hold of that sum in a sandbox is worth. -/
noncomputable def Try.pinned : Pinned := { name := "ytflldjcnglchiaa", sum := "c81a0d47daa615c3c6418966f363124f991a70fc0151686c527b6c94f576f4b1", checked := Try.checked }
namespace Rows
def none {H : Type} : Left H := { results := [], args := [] }

/-- 'laws.FnExactCountTypes': WHATEVER THE INPUT: true; the input reads as it did. -/
def fnExactCountTypesSpec : ChangeSpec := { name := "fnExactCountTypes", fn := fun _ => fun
  | [d] => { results := [.lit (.bool true)], args := [d] }
  | _ => none }
def fnExactCountTypesRow : OpenClaim := { program := "ytflldjcnglchiaa", sum := "c81a0d47daa615c3c6418966f363124f991a70fc0151686c527b6c94f576f4b1", func := "loop.example/g01000/laws.FnExactCountTypes", spec := "fnExactCountTypes", recurses := true, apart := false }
def FnExactCountTypesSaid : Prop := fnExactCountTypesRow.holds Try.pinned (OpenSpec.ofChange fnExactCountTypesSpec)

/-- ITS FALSE NEIGHBOUR: 'it returns false'. Refute it at one input. -/
def fnExactCountTypesWrong : ChangeSpec := { name := "fnExactCountTypes", fn := fun _ => fun
  | [d] => { results := [.lit (.bool false)], args := [d] }
  | _ => none }
def FnExactCountTypesWrongFalsely : Prop := fnExactCountTypesRow.holds Try.pinned (OpenSpec.ofChange fnExactCountTypesWrong)

/-- 'laws.FnExactSizeOfRational': WHATEVER THE INPUT: true; the input reads as it did. -/
def fnExactSizeOfRationalSpec : ChangeSpec := { name := "fnExactSizeOfRational", fn := fun _ => fun
  | [d] => { results := [.lit (.bool true)], args := [d] }
  | _ => none }
def fnExactSizeOfRationalRow : OpenClaim := { program := "ytflldjcnglchiaa", sum := "c81a0d47daa615c3c6418966f363124f991a70fc0151686c527b6c94f576f4b1", func := "loop.example/g01000/laws.FnExactSizeOfRational", spec := "fnExactSizeOfRational", apart := false }
def FnExactSizeOfRationalSaid : Prop := fnExactSizeOfRationalRow.holds Try.pinned (OpenSpec.ofChange fnExactSizeOfRationalSpec)

/-- ITS FALSE NEIGHBOUR: 'it returns false'. Refute it at one input. -/
def fnExactSizeOfRationalWrong : ChangeSpec := { name := "fnExactSizeOfRational", fn := fun _ => fun
  | [d] => { results := [.lit (.bool false)], args := [d] }
  | _ => none }
def FnExactSizeOfRationalWrongFalsely : Prop := fnExactSizeOfRationalRow.holds Try.pinned (OpenSpec.ofChange fnExactSizeOfRationalWrong)

/-- 'laws.FnExactIsType': WHATEVER THE INPUT: true; the input reads as it did. -/
def fnExactIsTypeSpec : ChangeSpec := { name := "fnExactIsType", fn := fun _ => fun
  | [d] => { results := [.lit (.bool true)], args := [d] }
  | _ => none }
def fnExactIsTypeRow : OpenClaim := { program := "ytflldjcnglchiaa", sum := "c81a0d47daa615c3c6418966f363124f991a70fc0151686c527b6c94f576f4b1", func := "loop.example/g01000/laws.FnExactIsType", spec := "fnExactIsType", apart := false }
def FnExactIsTypeSaid : Prop := fnExactIsTypeRow.holds Try.pinned (OpenSpec.ofChange fnExactIsTypeSpec)

/-- ITS FALSE NEIGHBOUR: 'it returns false'. Refute it at one input. -/
def fnExactIsTypeWrong : ChangeSpec := { name := "fnExactIsType", fn := fun _ => fun
  | [d] => { results := [.lit (.bool false)], args := [d] }
  | _ => none }
def FnExactIsTypeWrongFalsely : Prop := fnExactIsTypeRow.holds Try.pinned (OpenSpec.ofChange fnExactIsTypeWrong)

/-- 'laws.FnExactIsModerate': WHATEVER THE INPUT: true; the input reads as it did. -/
def fnExactIsModerateSpec : ChangeSpec := { name := "fnExactIsModerate", fn := fun _ => fun
  | [d] => { results := [.lit (.bool true)], args := [d] }
  | _ => none }
def fnExactIsModerateRow : OpenClaim := { program := "ytflldjcnglchiaa", sum := "c81a0d47daa615c3c6418966f363124f991a70fc0151686c527b6c94f576f4b1", func := "loop.example/g01000/laws.FnExactIsModerate", spec := "fnExactIsModerate", unfollowed := true, recurses := true, apart := false }
def FnExactIsModerateSaid : Prop := fnExactIsModerateRow.holds Try.pinned (OpenSpec.ofChange fnExactIsModerateSpec)

/-- ITS FALSE NEIGHBOUR: 'it returns false'. Refute it at one input. -/
def fnExactIsModerateWrong : ChangeSpec := { name := "fnExactIsModerate", fn := fun _ => fun
  | [d] => { results := [.lit (.bool false)], args := [d] }
  | _ => none }
def FnExactIsModerateWrongFalsely : Prop := fnExactIsModerateRow.holds Try.pinned (OpenSpec.ofChange fnExactIsModerateWrong)

/-- 'laws.FnExactFieldDiscriminantPart': WHATEVER THE INPUT: true; the input reads as it did. -/
def fnExactFieldDiscriminantPartSpec : ChangeSpec := { name := "fnExactFieldDiscriminantPart", fn := fun _ => fun
  | [d] => { results := [.lit (.bool true)], args := [d] }
  | _ => none }
def fnExactFieldDiscriminantPartRow : OpenClaim := { program := "ytflldjcnglchiaa", sum := "c81a0d47daa615c3c6418966f363124f991a70fc0151686c527b6c94f576f4b1", func := "loop.example/g01000/laws.FnExactFieldDiscriminantPart", spec := "fnExactFieldDiscriminantPart", apart := false }
def FnExactFieldDiscriminantPartSaid : Prop := fnExactFieldDiscriminantPartRow.holds Try.pinned (OpenSpec.ofChange fnExactFieldDiscriminantPartSpec)

/-- ITS FALSE NEIGHBOUR: 'it returns false'. Refute it at one input. -/
def fnExactFieldDiscriminantPartWrong : ChangeSpec := { name := "fnExactFieldDiscriminantPart", fn := fun _ => fun
  | [d] => { results := [.lit (.bool false)], args := [d] }
  | _ => none }
def FnExactFieldDiscriminantPartWrongFalsely : Prop := fnExactFieldDiscriminantPartRow.holds Try.pinned (OpenSpec.ofChange fnExactFieldDiscriminantPartWrong)

/-- 'laws.FnExactFactorialValuation': WHATEVER THE INPUT: true; the input reads as it did. -/
def fnExactFactorialValuationSpec : ChangeSpec := { name := "fnExactFactorialValuation", fn := fun _ => fun
  | [d1, d2] => { results := [.lit (.bool true)], args := [d1, d2] }
  | _ => none }
def fnExactFactorialValuationRow : OpenClaim := { program := "ytflldjcnglchiaa", sum := "c81a0d47daa615c3c6418966f363124f991a70fc0151686c527b6c94f576f4b1", func := "loop.example/g01000/laws.FnExactFactorialValuation", spec := "fnExactFactorialValuation", apart := false }
def FnExactFactorialValuationSaid : Prop := fnExactFactorialValuationRow.holds Try.pinned (OpenSpec.ofChange fnExactFactorialValuationSpec)

/-- ITS FALSE NEIGHBOUR: 'it returns false'. Refute it at one input. -/
def fnExactFactorialValuationWrong : ChangeSpec := { name := "fnExactFactorialValuation", fn := fun _ => fun
  | [d1, d2] => { results := [.lit (.bool false)], args := [d1, d2] }
  | _ => none }
def FnExactFactorialValuationWrongFalsely : Prop := fnExactFactorialValuationRow.holds Try.pinned (OpenSpec.ofChange fnExactFactorialValuationWrong)

/-- 'laws.FnExactSignOfType': WHATEVER THE INPUT: true; the input reads as it did. -/
def fnExactSignOfTypeSpec : ChangeSpec := { name := "fnExactSignOfType", fn := fun _ => fun
  | [d] => { results := [.lit (.bool true)], args := [d] }
  | _ => none }
def fnExactSignOfTypeRow : OpenClaim := { program := "ytflldjcnglchiaa", sum := "c81a0d47daa615c3c6418966f363124f991a70fc0151686c527b6c94f576f4b1", func := "loop.example/g01000/laws.FnExactSignOfType", spec := "fnExactSignOfType", apart := false }
def FnExactSignOfTypeSaid : Prop := fnExactSignOfTypeRow.holds Try.pinned (OpenSpec.ofChange fnExactSignOfTypeSpec)

/-- ITS FALSE NEIGHBOUR: 'it returns false'. Refute it at one input. -/
def fnExactSignOfTypeWrong : ChangeSpec := { name := "fnExactSignOfType", fn := fun _ => fun
  | [d] => { results := [.lit (.bool false)], args := [d] }
  | _ => none }
def FnExactSignOfTypeWrongFalsely : Prop := fnExactSignOfTypeRow.holds Try.pinned (OpenSpec.ofChange fnExactSignOfTypeWrong)

/-- 'laws.FnExactBinomialValuation': WHATEVER THE INPUT: true; the input reads as it did. -/
def fnExactBinomialValuationSpec : ChangeSpec := { name := "fnExactBinomialValuation", fn := fun _ => fun
  | [d1, d2, d3] => { results := [.lit (.bool true)], args := [d1, d2, d3] }
  | _ => none }
def fnExactBinomialValuationRow : OpenClaim := { program := "ytflldjcnglchiaa", sum := "c81a0d47daa615c3c6418966f363124f991a70fc0151686c527b6c94f576f4b1", func := "loop.example/g01000/laws.FnExactBinomialValuation", spec := "fnExactBinomialValuation", apart := false }
def FnExactBinomialValuationSaid : Prop := fnExactBinomialValuationRow.holds Try.pinned (OpenSpec.ofChange fnExactBinomialValuationSpec)

/-- ITS FALSE NEIGHBOUR: 'it returns false'. Refute it at one input. -/
def fnExactBinomialValuationWrong : ChangeSpec := { name := "fnExactBinomialValuation", fn := fun _ => fun
  | [d1, d2, d3] => { results := [.lit (.bool false)], args := [d1, d2, d3] }
  | _ => none }
def FnExactBinomialValuationWrongFalsely : Prop := fnExactBinomialValuationRow.holds Try.pinned (OpenSpec.ofChange fnExactBinomialValuationWrong)

/-- 'laws.FnExactCountCarries': WHATEVER THE INPUT: true; the input reads as it did. -/
def fnExactCountCarriesSpec : ChangeSpec := { name := "fnExactCountCarries", fn := fun _ => fun
  | [d1, d2, d3] => { results := [.lit (.bool true)], args := [d1, d2, d3] }
  | _ => none }
def fnExactCountCarriesRow : OpenClaim := { program := "ytflldjcnglchiaa", sum := "c81a0d47daa615c3c6418966f363124f991a70fc0151686c527b6c94f576f4b1", func := "loop.example/g01000/laws.FnExactCountCarries", spec := "fnExactCountCarries", apart := false }
def FnExactCountCarriesSaid : Prop := fnExactCountCarriesRow.holds Try.pinned (OpenSpec.ofChange fnExactCountCarriesSpec)

/-- ITS FALSE NEIGHBOUR: 'it returns false'. Refute it at one input. -/
def fnExactCountCarriesWrong : ChangeSpec := { name := "fnExactCountCarries", fn := fun _ => fun
  | [d1, d2, d3] => { results := [.lit (.bool false)], args := [d1, d2, d3] }
  | _ => none }
def FnExactCountCarriesWrongFalsely : Prop := fnExactCountCarriesRow.holds Try.pinned (OpenSpec.ofChange fnExactCountCarriesWrong)

/-- 'laws.FnExactSizeOfType': WHATEVER THE INPUT: true; the input reads as it did. -/
def fnExactSizeOfTypeSpec : ChangeSpec := { name := "fnExactSizeOfType", fn := fun _ => fun
  | [d] => { results := [.lit (.bool true)], args := [d] }
  | _ => none }
def fnExactSizeOfTypeRow : OpenClaim := { program := "ytflldjcnglchiaa", sum := "c81a0d47daa615c3c6418966f363124f991a70fc0151686c527b6c94f576f4b1", func := "loop.example/g01000/laws.FnExactSizeOfType", spec := "fnExactSizeOfType", apart := false }
def FnExactSizeOfTypeSaid : Prop := fnExactSizeOfTypeRow.holds Try.pinned (OpenSpec.ofChange fnExactSizeOfTypeSpec)

/-- ITS FALSE NEIGHBOUR: 'it returns false'. Refute it at one input. -/
def fnExactSizeOfTypeWrong : ChangeSpec := { name := "fnExactSizeOfType", fn := fun _ => fun
  | [d] => { results := [.lit (.bool false)], args := [d] }
  | _ => none }
def FnExactSizeOfTypeWrongFalsely : Prop := fnExactSizeOfTypeRow.holds Try.pinned (OpenSpec.ofChange fnExactSizeOfTypeWrong)

/-- 'laws.FnExactCompareRational': WHATEVER THE INPUT: true; the input reads as it did. -/
def fnExactCompareRationalSpec : ChangeSpec := { name := "fnExactCompareRational", fn := fun _ => fun
  | [d1, d2] => { results := [.lit (.bool true)], args := [d1, d2] }
  | _ => none }
def fnExactCompareRationalRow : OpenClaim := { program := "ytflldjcnglchiaa", sum := "c81a0d47daa615c3c6418966f363124f991a70fc0151686c527b6c94f576f4b1", func := "loop.example/g01000/laws.FnExactCompareRational", spec := "fnExactCompareRational", unfollowed := true, recurses := true, apart := false }
def FnExactCompareRationalSaid : Prop := fnExactCompareRationalRow.holds Try.pinned (OpenSpec.ofChange fnExactCompareRationalSpec)

/-- ITS FALSE NEIGHBOUR: 'it returns false'. Refute it at one input. -/
def fnExactCompareRationalWrong : ChangeSpec := { name := "fnExactCompareRational", fn := fun _ => fun
  | [d1, d2] => { results := [.lit (.bool false)], args := [d1, d2] }
  | _ => none }
def FnExactCompareRationalWrongFalsely : Prop := fnExactCompareRationalRow.holds Try.pinned (OpenSpec.ofChange fnExactCompareRationalWrong)

/- THE SECOND FORM. 'bulk': how many values and letters a reading holds, each counted each time it is reached (what is shared counts as often as it is met; a slice's spare places count too). A statement '..UptoSaid' is the law's where the arguments, and the package variables that the reading takes, are together of bulk at most 1048576: NARROWER than '..Said'. Prove '..Said' where nothing that the law and all that it calls make is longer than what came in: it says more and counts as full. Else prove '..UptoSaid'. A law counts once. -/
mutual
def uptoBulk {H : Type} : DataW H → Nat
  | .lit (.string bytes) => bytes.length + 1
  | .lit _ => 1
  | .nil => 1
  | .ptr d => uptoBulk d + 1
  | .slice elems spare => uptoBulkAll elems + uptoBulkAll spare + 1
  | .agg parts => uptoBulkAll parts + 1
  | .iface _ d => uptoBulk d + 1
  | .map entries => uptoBulkEntries entries + 1
  | .held _ => 1
def uptoBulkAll {H : Type} : List (DataW H) → Nat
  | [] => 0
  | d :: r => uptoBulk d + uptoBulkAll r
def uptoBulkEntries {H : Type} : List (Lit × DataW H) → Nat
  | [] => 0
  | x :: r => uptoBulkEntry x + uptoBulkEntries r
def uptoBulkEntry {H : Type} : Lit × DataW H → Nat
  | (.string bytes, d) => bytes.length + uptoBulk d + 1
  | (_, d) => uptoBulk d + 1
 end
def uptoSmall : (H : Type) → List (DataW H) → Bool := fun _ ds => decide (uptoBulkAll ds ≤ 1048576)
def OpenSpec.upto (s : _root_.Go.ChangeSpec) : _root_.Go.OpenSpec := { _root_.Go.OpenSpec.ofChange s with cond := some uptoSmall }

/-- 'laws.FnExactCountTypes', WHERE WHAT IT READS IS OF BULK AT MOST 1048576: true; the input reads as it did. -/
def fnExactCountTypesUptoRow : OpenClaim := { program := "ytflldjcnglchiaa", sum := "c81a0d47daa615c3c6418966f363124f991a70fc0151686c527b6c94f576f4b1", func := "loop.example/g01000/laws.FnExactCountTypes", spec := "fnExactCountTypes", recurses := true, apart := false, narrowed := true }
def FnExactCountTypesUptoSaid : Prop := fnExactCountTypesUptoRow.holds Try.pinned (OpenSpec.upto fnExactCountTypesSpec)

/-- 'laws.FnExactSizeOfRational', WHERE WHAT IT READS IS OF BULK AT MOST 1048576: true; the input reads as it did. -/
def fnExactSizeOfRationalUptoRow : OpenClaim := { program := "ytflldjcnglchiaa", sum := "c81a0d47daa615c3c6418966f363124f991a70fc0151686c527b6c94f576f4b1", func := "loop.example/g01000/laws.FnExactSizeOfRational", spec := "fnExactSizeOfRational", apart := false, narrowed := true }
def FnExactSizeOfRationalUptoSaid : Prop := fnExactSizeOfRationalUptoRow.holds Try.pinned (OpenSpec.upto fnExactSizeOfRationalSpec)

/-- 'laws.FnExactIsType', WHERE WHAT IT READS IS OF BULK AT MOST 1048576: true; the input reads as it did. -/
def fnExactIsTypeUptoRow : OpenClaim := { program := "ytflldjcnglchiaa", sum := "c81a0d47daa615c3c6418966f363124f991a70fc0151686c527b6c94f576f4b1", func := "loop.example/g01000/laws.FnExactIsType", spec := "fnExactIsType", apart := false, narrowed := true }
def FnExactIsTypeUptoSaid : Prop := fnExactIsTypeUptoRow.holds Try.pinned (OpenSpec.upto fnExactIsTypeSpec)

/-- 'laws.FnExactIsModerate', WHERE WHAT IT READS IS OF BULK AT MOST 1048576: true; the input reads as it did. -/
def fnExactIsModerateUptoRow : OpenClaim := { program := "ytflldjcnglchiaa", sum := "c81a0d47daa615c3c6418966f363124f991a70fc0151686c527b6c94f576f4b1", func := "loop.example/g01000/laws.FnExactIsModerate", spec := "fnExactIsModerate", unfollowed := true, recurses := true, apart := false, narrowed := true }
def FnExactIsModerateUptoSaid : Prop := fnExactIsModerateUptoRow.holds Try.pinned (OpenSpec.upto fnExactIsModerateSpec)

/-- 'laws.FnExactFieldDiscriminantPart', WHERE WHAT IT READS IS OF BULK AT MOST 1048576: true; the input reads as it did. -/
def fnExactFieldDiscriminantPartUptoRow : OpenClaim := { program := "ytflldjcnglchiaa", sum := "c81a0d47daa615c3c6418966f363124f991a70fc0151686c527b6c94f576f4b1", func := "loop.example/g01000/laws.FnExactFieldDiscriminantPart", spec := "fnExactFieldDiscriminantPart", apart := false, narrowed := true }
def FnExactFieldDiscriminantPartUptoSaid : Prop := fnExactFieldDiscriminantPartUptoRow.holds Try.pinned (OpenSpec.upto fnExactFieldDiscriminantPartSpec)

/-- 'laws.FnExactFactorialValuation', WHERE WHAT IT READS IS OF BULK AT MOST 1048576: true; the input reads as it did. -/
def fnExactFactorialValuationUptoRow : OpenClaim := { program := "ytflldjcnglchiaa", sum := "c81a0d47daa615c3c6418966f363124f991a70fc0151686c527b6c94f576f4b1", func := "loop.example/g01000/laws.FnExactFactorialValuation", spec := "fnExactFactorialValuation", apart := false, narrowed := true }
def FnExactFactorialValuationUptoSaid : Prop := fnExactFactorialValuationUptoRow.holds Try.pinned (OpenSpec.upto fnExactFactorialValuationSpec)

/-- 'laws.FnExactSignOfType', WHERE WHAT IT READS IS OF BULK AT MOST 1048576: true; the input reads as it did. -/
def fnExactSignOfTypeUptoRow : OpenClaim := { program := "ytflldjcnglchiaa", sum := "c81a0d47daa615c3c6418966f363124f991a70fc0151686c527b6c94f576f4b1", func := "loop.example/g01000/laws.FnExactSignOfType", spec := "fnExactSignOfType", apart := false, narrowed := true }
def FnExactSignOfTypeUptoSaid : Prop := fnExactSignOfTypeUptoRow.holds Try.pinned (OpenSpec.upto fnExactSignOfTypeSpec)

/-- 'laws.FnExactBinomialValuation', WHERE WHAT IT READS IS OF BULK AT MOST 1048576: true; the input reads as it did. -/
def fnExactBinomialValuationUptoRow : OpenClaim := { program := "ytflldjcnglchiaa", sum := "c81a0d47daa615c3c6418966f363124f991a70fc0151686c527b6c94f576f4b1", func := "loop.example/g01000/laws.FnExactBinomialValuation", spec := "fnExactBinomialValuation", apart := false, narrowed := true }
def FnExactBinomialValuationUptoSaid : Prop := fnExactBinomialValuationUptoRow.holds Try.pinned (OpenSpec.upto fnExactBinomialValuationSpec)

/-- 'laws.FnExactCountCarries', WHERE WHAT IT READS IS OF BULK AT MOST 1048576: true; the input reads as it did. -/
def fnExactCountCarriesUptoRow : OpenClaim := { program := "ytflldjcnglchiaa", sum := "c81a0d47daa615c3c6418966f363124f991a70fc0151686c527b6c94f576f4b1", func := "loop.example/g01000/laws.FnExactCountCarries", spec := "fnExactCountCarries", apart := false, narrowed := true }
def FnExactCountCarriesUptoSaid : Prop := fnExactCountCarriesUptoRow.holds Try.pinned (OpenSpec.upto fnExactCountCarriesSpec)

/-- 'laws.FnExactSizeOfType', WHERE WHAT IT READS IS OF BULK AT MOST 1048576: true; the input reads as it did. -/
def fnExactSizeOfTypeUptoRow : OpenClaim := { program := "ytflldjcnglchiaa", sum := "c81a0d47daa615c3c6418966f363124f991a70fc0151686c527b6c94f576f4b1", func := "loop.example/g01000/laws.FnExactSizeOfType", spec := "fnExactSizeOfType", apart := false, narrowed := true }
def FnExactSizeOfTypeUptoSaid : Prop := fnExactSizeOfTypeUptoRow.holds Try.pinned (OpenSpec.upto fnExactSizeOfTypeSpec)

/-- 'laws.FnExactCompareRational', WHERE WHAT IT READS IS OF BULK AT MOST 1048576: true; the input reads as it did. -/
def fnExactCompareRationalUptoRow : OpenClaim := { program := "ytflldjcnglchiaa", sum := "c81a0d47daa615c3c6418966f363124f991a70fc0151686c527b6c94f576f4b1", func := "loop.example/g01000/laws.FnExactCompareRational", spec := "fnExactCompareRational", unfollowed := true, recurses := true, apart := false, narrowed := true }
def FnExactCompareRationalUptoSaid : Prop := fnExactCompareRationalUptoRow.holds Try.pinned (OpenSpec.upto fnExactCompareRationalSpec)

end Rows
end Go.Proofs.Ytflldjcnglchiaa
