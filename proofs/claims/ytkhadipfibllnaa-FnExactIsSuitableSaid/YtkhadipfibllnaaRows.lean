/-
  No cell of these rows narrows 'for every input' (looked for: loops, veiled, ifaces, maps, wideKeys, modest, calm, conditions, laid).
  DERIVED. THE GIVEN ROWS OF THIS SEAT. 10 by the template 'for every input the law returns true; each argument reads behind the call as it read before'; 0 by the template 'total and deterministic' (their statements: YtkhadipfibllnaaTotals.lean).
  GIVEN WITH THE SEED: the statements are not yours to turn. If you find one false, say at which input.
  Laid BY PROGRAM, IN A SANDBOX (cutbox-rows.mjs): the forced cells as the released guide's own fill.sh prints them over the translation 38584cf8d18b538e… (all of the seat's roots in one cut). By AI agents, Wed Nov 11 2026. No macro, syntax, notation, axiom, sorry.
-/
import Derived.Test.YtkhadipfibllnaaChecked
import GoSem.Claim
import GoSem.ClaimJoined
import GoSem.ClaimMapViews
import Derived.JoinedTies
import Derived.KernelRfl
namespace Go.Proofs.Ytkhadipfibllnaa
/- THE CELL 'sum', in the pinned program and in every row, IS THE sha256 OF THE DUMP (.gsa) THAT YtkhadipfibllnaaProg.lean LOADS. Nothing in Lean hashes anything: it is a label: what it is worth is what the hold of that sum in a sandbox is worth. -/
noncomputable def Try.pinned : Pinned := { name := "ytkhadipfibllnaa", sum := "38584cf8d18b538e552ccb44f06fcb2f68042ed223bda2c3dcd81b9acaa46ae6", checked := Try.checked }
namespace Rows
def none {H : Type} : Left H := { results := [], args := [] }

/-- 'laws.FnExactTransitiveNames': WHATEVER THE INPUT: true; the input reads as it did. -/
def fnExactTransitiveNamesSpec : ChangeSpec := { name := "fnExactTransitiveNames", fn := fun _ => fun
  | [d] => { results := [.lit (.bool true)], args := [d] }
  | _ => none }
def fnExactTransitiveNamesRow : OpenClaim := { program := "ytkhadipfibllnaa", sum := "38584cf8d18b538e552ccb44f06fcb2f68042ed223bda2c3dcd81b9acaa46ae6", func := "loop.example/g01000/laws.FnExactTransitiveNames", spec := "fnExactTransitiveNames", unfollowed := true, recurses := true, apart := false }
def FnExactTransitiveNamesSaid : Prop := fnExactTransitiveNamesRow.holds Try.pinned (OpenSpec.ofChange fnExactTransitiveNamesSpec)

/-- ITS FALSE NEIGHBOUR: 'it returns false'. Refute it at one input. -/
def fnExactTransitiveNamesWrong : ChangeSpec := { name := "fnExactTransitiveNames", fn := fun _ => fun
  | [d] => { results := [.lit (.bool false)], args := [d] }
  | _ => none }
def FnExactTransitiveNamesWrongFalsely : Prop := fnExactTransitiveNamesRow.holds Try.pinned (OpenSpec.ofChange fnExactTransitiveNamesWrong)

/-- 'laws.FnExactGroupNamed': WHATEVER THE INPUT: true; the input reads as it did. -/
def fnExactGroupNamedSpec : ChangeSpec := { name := "fnExactGroupNamed", fn := fun _ => fun
  | [d] => { results := [.lit (.bool true)], args := [d] }
  | _ => none }
def fnExactGroupNamedRow : OpenClaim := { program := "ytkhadipfibllnaa", sum := "38584cf8d18b538e552ccb44f06fcb2f68042ed223bda2c3dcd81b9acaa46ae6", func := "loop.example/g01000/laws.FnExactGroupNamed", spec := "fnExactGroupNamed", recurses := true, apart := false }
def FnExactGroupNamedSaid : Prop := fnExactGroupNamedRow.holds Try.pinned (OpenSpec.ofChange fnExactGroupNamedSpec)

/-- ITS FALSE NEIGHBOUR: 'it returns false'. Refute it at one input. -/
def fnExactGroupNamedWrong : ChangeSpec := { name := "fnExactGroupNamed", fn := fun _ => fun
  | [d] => { results := [.lit (.bool false)], args := [d] }
  | _ => none }
def FnExactGroupNamedWrongFalsely : Prop := fnExactGroupNamedRow.holds Try.pinned (OpenSpec.ofChange fnExactGroupNamedWrong)

/-- 'laws.FnExactSizeOf': WHATEVER THE INPUT: true; the input reads as it did. -/
def fnExactSizeOfSpec : ChangeSpec := { name := "fnExactSizeOf", fn := fun _ => fun
  | [d] => { results := [.lit (.bool true)], args := [d] }
  | _ => none }
def fnExactSizeOfRow : OpenClaim := { program := "ytkhadipfibllnaa", sum := "38584cf8d18b538e552ccb44f06fcb2f68042ed223bda2c3dcd81b9acaa46ae6", func := "loop.example/g01000/laws.FnExactSizeOf", spec := "fnExactSizeOf", recurses := true, apart := false }
def FnExactSizeOfSaid : Prop := fnExactSizeOfRow.holds Try.pinned (OpenSpec.ofChange fnExactSizeOfSpec)

/-- ITS FALSE NEIGHBOUR: 'it returns false'. Refute it at one input. -/
def fnExactSizeOfWrong : ChangeSpec := { name := "fnExactSizeOf", fn := fun _ => fun
  | [d] => { results := [.lit (.bool false)], args := [d] }
  | _ => none }
def FnExactSizeOfWrongFalsely : Prop := fnExactSizeOfRow.holds Try.pinned (OpenSpec.ofChange fnExactSizeOfWrong)

/-- 'laws.FnExactIsSolvableName': WHATEVER THE INPUT: true; the input reads as it did. -/
def fnExactIsSolvableNameSpec : ChangeSpec := { name := "fnExactIsSolvableName", fn := fun _ => fun
  | [d] => { results := [.lit (.bool true)], args := [d] }
  | _ => none }
def fnExactIsSolvableNameRow : OpenClaim := { program := "ytkhadipfibllnaa", sum := "38584cf8d18b538e552ccb44f06fcb2f68042ed223bda2c3dcd81b9acaa46ae6", func := "loop.example/g01000/laws.FnExactIsSolvableName", spec := "fnExactIsSolvableName", recurses := true, apart := false }
def FnExactIsSolvableNameSaid : Prop := fnExactIsSolvableNameRow.holds Try.pinned (OpenSpec.ofChange fnExactIsSolvableNameSpec)

/-- ITS FALSE NEIGHBOUR: 'it returns false'. Refute it at one input. -/
def fnExactIsSolvableNameWrong : ChangeSpec := { name := "fnExactIsSolvableName", fn := fun _ => fun
  | [d] => { results := [.lit (.bool false)], args := [d] }
  | _ => none }
def FnExactIsSolvableNameWrongFalsely : Prop := fnExactIsSolvableNameRow.holds Try.pinned (OpenSpec.ofChange fnExactIsSolvableNameWrong)

/-- 'laws.FnExactIsEvenName': WHATEVER THE INPUT: true; the input reads as it did. -/
def fnExactIsEvenNameSpec : ChangeSpec := { name := "fnExactIsEvenName", fn := fun _ => fun
  | [d] => { results := [.lit (.bool true)], args := [d] }
  | _ => none }
def fnExactIsEvenNameRow : OpenClaim := { program := "ytkhadipfibllnaa", sum := "38584cf8d18b538e552ccb44f06fcb2f68042ed223bda2c3dcd81b9acaa46ae6", func := "loop.example/g01000/laws.FnExactIsEvenName", spec := "fnExactIsEvenName", unfollowed := true, recurses := true, apart := false }
def FnExactIsEvenNameSaid : Prop := fnExactIsEvenNameRow.holds Try.pinned (OpenSpec.ofChange fnExactIsEvenNameSpec)

/-- ITS FALSE NEIGHBOUR: 'it returns false'. Refute it at one input. -/
def fnExactIsEvenNameWrong : ChangeSpec := { name := "fnExactIsEvenName", fn := fun _ => fun
  | [d] => { results := [.lit (.bool false)], args := [d] }
  | _ => none }
def FnExactIsEvenNameWrongFalsely : Prop := fnExactIsEvenNameRow.holds Try.pinned (OpenSpec.ofChange fnExactIsEvenNameWrong)

/-- 'laws.FnExactIsSuitable': WHATEVER THE INPUT: true; the input reads as it did. -/
def fnExactIsSuitableSpec : ChangeSpec := { name := "fnExactIsSuitable", fn := fun _ => fun
  | [d1, d2] => { results := [.lit (.bool true)], args := [d1, d2] }
  | _ => none }
def fnExactIsSuitableRow : OpenClaim := { program := "ytkhadipfibllnaa", sum := "38584cf8d18b538e552ccb44f06fcb2f68042ed223bda2c3dcd81b9acaa46ae6", func := "loop.example/g01000/laws.FnExactIsSuitable", spec := "fnExactIsSuitable", unfollowed := true, recurses := true, apart := false }
def FnExactIsSuitableSaid : Prop := fnExactIsSuitableRow.holds Try.pinned (OpenSpec.ofChange fnExactIsSuitableSpec)

/-- ITS FALSE NEIGHBOUR: 'it returns false'. Refute it at one input. -/
def fnExactIsSuitableWrong : ChangeSpec := { name := "fnExactIsSuitable", fn := fun _ => fun
  | [d1, d2] => { results := [.lit (.bool false)], args := [d1, d2] }
  | _ => none }
def FnExactIsSuitableWrongFalsely : Prop := fnExactIsSuitableRow.holds Try.pinned (OpenSpec.ofChange fnExactIsSuitableWrong)

/-- 'laws.FnExactSubgroupNames': WHATEVER THE INPUT: true; the input reads as it did. -/
def fnExactSubgroupNamesSpec : ChangeSpec := { name := "fnExactSubgroupNames", fn := fun _ => fun
  | [d] => { results := [.lit (.bool true)], args := [d] }
  | _ => none }
def fnExactSubgroupNamesRow : OpenClaim := { program := "ytkhadipfibllnaa", sum := "38584cf8d18b538e552ccb44f06fcb2f68042ed223bda2c3dcd81b9acaa46ae6", func := "loop.example/g01000/laws.FnExactSubgroupNames", spec := "fnExactSubgroupNames", unfollowed := true, recurses := true, apart := false }
def FnExactSubgroupNamesSaid : Prop := fnExactSubgroupNamesRow.holds Try.pinned (OpenSpec.ofChange fnExactSubgroupNamesSpec)

/-- ITS FALSE NEIGHBOUR: 'it returns false'. Refute it at one input. -/
def fnExactSubgroupNamesWrong : ChangeSpec := { name := "fnExactSubgroupNames", fn := fun _ => fun
  | [d] => { results := [.lit (.bool false)], args := [d] }
  | _ => none }
def FnExactSubgroupNamesWrongFalsely : Prop := fnExactSubgroupNamesRow.holds Try.pinned (OpenSpec.ofChange fnExactSubgroupNamesWrong)

/-- 'laws.FnExactCandidateNames': WHATEVER THE INPUT: true; the input reads as it did. -/
def fnExactCandidateNamesSpec : ChangeSpec := { name := "fnExactCandidateNames", fn := fun _ => fun
  | [d1, d2] => { results := [.lit (.bool true)], args := [d1, d2] }
  | _ => none }
def fnExactCandidateNamesRow : OpenClaim := { program := "ytkhadipfibllnaa", sum := "38584cf8d18b538e552ccb44f06fcb2f68042ed223bda2c3dcd81b9acaa46ae6", func := "loop.example/g01000/laws.FnExactCandidateNames", spec := "fnExactCandidateNames", unfollowed := true, recurses := true, apart := false }
def FnExactCandidateNamesSaid : Prop := fnExactCandidateNamesRow.holds Try.pinned (OpenSpec.ofChange fnExactCandidateNamesSpec)

/-- ITS FALSE NEIGHBOUR: 'it returns false'. Refute it at one input. -/
def fnExactCandidateNamesWrong : ChangeSpec := { name := "fnExactCandidateNames", fn := fun _ => fun
  | [d1, d2] => { results := [.lit (.bool false)], args := [d1, d2] }
  | _ => none }
def FnExactCandidateNamesWrongFalsely : Prop := fnExactCandidateNamesRow.holds Try.pinned (OpenSpec.ofChange fnExactCandidateNamesWrong)

/-- 'laws.FnExactDensityOf': WHATEVER THE INPUT: true; the input reads as it did. -/
def fnExactDensityOfSpec : ChangeSpec := { name := "fnExactDensityOf", fn := fun _ => fun
  | [d1, d2] => { results := [.lit (.bool true)], args := [d1, d2] }
  | _ => none }
def fnExactDensityOfRow : OpenClaim := { program := "ytkhadipfibllnaa", sum := "38584cf8d18b538e552ccb44f06fcb2f68042ed223bda2c3dcd81b9acaa46ae6", func := "loop.example/g01000/laws.FnExactDensityOf", spec := "fnExactDensityOf", inPlace := ["slices.overlaps[loop.example/g01000/impl.Share]"], unfollowed := true, recurses := true, apart := false }
def FnExactDensityOfSaid : Prop := fnExactDensityOfRow.holds Try.pinned (OpenSpec.ofChange fnExactDensityOfSpec)

/-- ITS FALSE NEIGHBOUR: 'it returns false'. Refute it at one input. -/
def fnExactDensityOfWrong : ChangeSpec := { name := "fnExactDensityOf", fn := fun _ => fun
  | [d1, d2] => { results := [.lit (.bool false)], args := [d1, d2] }
  | _ => none }
def FnExactDensityOfWrongFalsely : Prop := fnExactDensityOfRow.holds Try.pinned (OpenSpec.ofChange fnExactDensityOfWrong)

/-- 'laws.FnExactTypesOf': WHATEVER THE INPUT: true; the input reads as it did. -/
def fnExactTypesOfSpec : ChangeSpec := { name := "fnExactTypesOf", fn := fun _ => fun
  | [d] => { results := [.lit (.bool true)], args := [d] }
  | _ => none }
def fnExactTypesOfRow : OpenClaim := { program := "ytkhadipfibllnaa", sum := "38584cf8d18b538e552ccb44f06fcb2f68042ed223bda2c3dcd81b9acaa46ae6", func := "loop.example/g01000/laws.FnExactTypesOf", spec := "fnExactTypesOf", unfollowed := true, recurses := true, apart := false }
def FnExactTypesOfSaid : Prop := fnExactTypesOfRow.holds Try.pinned (OpenSpec.ofChange fnExactTypesOfSpec)

/-- ITS FALSE NEIGHBOUR: 'it returns false'. Refute it at one input. -/
def fnExactTypesOfWrong : ChangeSpec := { name := "fnExactTypesOf", fn := fun _ => fun
  | [d] => { results := [.lit (.bool false)], args := [d] }
  | _ => none }
def FnExactTypesOfWrongFalsely : Prop := fnExactTypesOfRow.holds Try.pinned (OpenSpec.ofChange fnExactTypesOfWrong)

/- THE SECOND FORM. 'bulk': how many values and letters a reading holds, each counted each time it is reached (what is shared counts as often as it is met; a slice's spare places count too). A statement '..UptoSaid' is the law's where the arguments, and the package variables that the reading takes, are together of bulk at most 1048576: NARROWER than '..Said'. Prove '..Said' where nothing that the law and all that it calls make is longer than what came in: it says more and counts as full. Else prove '..UptoSaid'. A law counts once. -/
mutual
def uptoBulk {H : Type} : DataW H → Nat
  | .lit (.string bytes) => bytes.length + 1
  | .lit _ => 1
  | .nil => 1
  | .ptr d => uptoBulk d + 1
  | .slice elems spare => uptoBulkAll elems + uptoBulkAll spare + 1
  | .agg parts => uptoBulkAll parts + 1
  | .iface _ d => uptoBulk d + 1
  | .map entries => uptoBulkEntries entries + 1
  | .held _ => 1
def uptoBulkAll {H : Type} : List (DataW H) → Nat
  | [] => 0
  | d :: r => uptoBulk d + uptoBulkAll r
def uptoBulkEntries {H : Type} : List (Lit × DataW H) → Nat
  | [] => 0
  | x :: r => uptoBulkEntry x + uptoBulkEntries r
def uptoBulkEntry {H : Type} : Lit × DataW H → Nat
  | (.string bytes, d) => bytes.length + uptoBulk d + 1
  | (_, d) => uptoBulk d + 1
 end
def uptoSmall : (H : Type) → List (DataW H) → Bool := fun _ ds => decide (uptoBulkAll ds ≤ 1048576)
def OpenSpec.upto (s : _root_.Go.ChangeSpec) : _root_.Go.OpenSpec := { _root_.Go.OpenSpec.ofChange s with cond := some uptoSmall }

/-- 'laws.FnExactTransitiveNames', WHERE WHAT IT READS IS OF BULK AT MOST 1048576: true; the input reads as it did. -/
def fnExactTransitiveNamesUptoRow : OpenClaim := { program := "ytkhadipfibllnaa", sum := "38584cf8d18b538e552ccb44f06fcb2f68042ed223bda2c3dcd81b9acaa46ae6", func := "loop.example/g01000/laws.FnExactTransitiveNames", spec := "fnExactTransitiveNames", unfollowed := true, recurses := true, apart := false, narrowed := true }
def FnExactTransitiveNamesUptoSaid : Prop := fnExactTransitiveNamesUptoRow.holds Try.pinned (OpenSpec.upto fnExactTransitiveNamesSpec)

/-- 'laws.FnExactGroupNamed', WHERE WHAT IT READS IS OF BULK AT MOST 1048576: true; the input reads as it did. -/
def fnExactGroupNamedUptoRow : OpenClaim := { program := "ytkhadipfibllnaa", sum := "38584cf8d18b538e552ccb44f06fcb2f68042ed223bda2c3dcd81b9acaa46ae6", func := "loop.example/g01000/laws.FnExactGroupNamed", spec := "fnExactGroupNamed", recurses := true, apart := false, narrowed := true }
def FnExactGroupNamedUptoSaid : Prop := fnExactGroupNamedUptoRow.holds Try.pinned (OpenSpec.upto fnExactGroupNamedSpec)

/-- 'laws.FnExactSizeOf', WHERE WHAT IT READS IS OF BULK AT MOST 1048576: true; the input reads as it did. -/
def fnExactSizeOfUptoRow : OpenClaim := { program := "ytkhadipfibllnaa", sum := "38584cf8d18b538e552ccb44f06fcb2f68042ed223bda2c3dcd81b9acaa46ae6", func := "loop.example/g01000/laws.FnExactSizeOf", spec := "fnExactSizeOf", recurses := true, apart := false, narrowed := true }
def FnExactSizeOfUptoSaid : Prop := fnExactSizeOfUptoRow.holds Try.pinned (OpenSpec.upto fnExactSizeOfSpec)

/-- 'laws.FnExactIsSolvableName', WHERE WHAT IT READS IS OF BULK AT MOST 1048576: true; the input reads as it did. -/
def fnExactIsSolvableNameUptoRow : OpenClaim := { program := "ytkhadipfibllnaa", sum := "38584cf8d18b538e552ccb44f06fcb2f68042ed223bda2c3dcd81b9acaa46ae6", func := "loop.example/g01000/laws.FnExactIsSolvableName", spec := "fnExactIsSolvableName", recurses := true, apart := false, narrowed := true }
def FnExactIsSolvableNameUptoSaid : Prop := fnExactIsSolvableNameUptoRow.holds Try.pinned (OpenSpec.upto fnExactIsSolvableNameSpec)

/-- 'laws.FnExactIsEvenName', WHERE WHAT IT READS IS OF BULK AT MOST 1048576: true; the input reads as it did. -/
def fnExactIsEvenNameUptoRow : OpenClaim := { program := "ytkhadipfibllnaa", sum := "38584cf8d18b538e552ccb44f06fcb2f68042ed223bda2c3dcd81b9acaa46ae6", func := "loop.example/g01000/laws.FnExactIsEvenName", spec := "fnExactIsEvenName", unfollowed := true, recurses := true, apart := false, narrowed := true }
def FnExactIsEvenNameUptoSaid : Prop := fnExactIsEvenNameUptoRow.holds Try.pinned (OpenSpec.upto fnExactIsEvenNameSpec)

/-- 'laws.FnExactIsSuitable', WHERE WHAT IT READS IS OF BULK AT MOST 1048576: true; the input reads as it did. -/
def fnExactIsSuitableUptoRow : OpenClaim := { program := "ytkhadipfibllnaa", sum := "38584cf8d18b538e552ccb44f06fcb2f68042ed223bda2c3dcd81b9acaa46ae6", func := "loop.example/g01000/laws.FnExactIsSuitable", spec := "fnExactIsSuitable", unfollowed := true, recurses := true, apart := false, narrowed := true }
def FnExactIsSuitableUptoSaid : Prop := fnExactIsSuitableUptoRow.holds Try.pinned (OpenSpec.upto fnExactIsSuitableSpec)

/-- 'laws.FnExactSubgroupNames', WHERE WHAT IT READS IS OF BULK AT MOST 1048576: true; the input reads as it did. -/
def fnExactSubgroupNamesUptoRow : OpenClaim := { program := "ytkhadipfibllnaa", sum := "38584cf8d18b538e552ccb44f06fcb2f68042ed223bda2c3dcd81b9acaa46ae6", func := "loop.example/g01000/laws.FnExactSubgroupNames", spec := "fnExactSubgroupNames", unfollowed := true, recurses := true, apart := false, narrowed := true }
def FnExactSubgroupNamesUptoSaid : Prop := fnExactSubgroupNamesUptoRow.holds Try.pinned (OpenSpec.upto fnExactSubgroupNamesSpec)

/-- 'laws.FnExactCandidateNames', WHERE WHAT IT READS IS OF BULK AT MOST 1048576: true; the input reads as it did. -/
def fnExactCandidateNamesUptoRow : OpenClaim := { program := "ytkhadipfibllnaa", sum := "38584cf8d18b538e552ccb44f06fcb2f68042ed223bda2c3dcd81b9acaa46ae6", func := "loop.example/g01000/laws.FnExactCandidateNames", spec := "fnExactCandidateNames", unfollowed := true, recurses := true, apart := false, narrowed := true }
def FnExactCandidateNamesUptoSaid : Prop := fnExactCandidateNamesUptoRow.holds Try.pinned (OpenSpec.upto fnExactCandidateNamesSpec)

/-- 'laws.FnExactDensityOf', WHERE WHAT IT READS IS OF BULK AT MOST 1048576: true; the input reads as it did. -/
def fnExactDensityOfUptoRow : OpenClaim := { program := "ytkhadipfibllnaa", sum := "38584cf8d18b538e552ccb44f06fcb2f68042ed223bda2c3dcd81b9acaa46ae6", func := "loop.example/g01000/laws.FnExactDensityOf", spec := "fnExactDensityOf", inPlace := ["slices.overlaps[loop.example/g01000/impl.Share]"], unfollowed := true, recurses := true, apart := false, narrowed := true }
def FnExactDensityOfUptoSaid : Prop := fnExactDensityOfUptoRow.holds Try.pinned (OpenSpec.upto fnExactDensityOfSpec)

/-- 'laws.FnExactTypesOf', WHERE WHAT IT READS IS OF BULK AT MOST 1048576: true; the input reads as it did. -/
def fnExactTypesOfUptoRow : OpenClaim := { program := "ytkhadipfibllnaa", sum := "38584cf8d18b538e552ccb44f06fcb2f68042ed223bda2c3dcd81b9acaa46ae6", func := "loop.example/g01000/laws.FnExactTypesOf", spec := "fnExactTypesOf", unfollowed := true, recurses := true, apart := false, narrowed := true }
def FnExactTypesOfUptoSaid : Prop := fnExactTypesOfUptoRow.holds Try.pinned (OpenSpec.upto fnExactTypesOfSpec)

end Rows
end Go.Proofs.Ytkhadipfibllnaa
