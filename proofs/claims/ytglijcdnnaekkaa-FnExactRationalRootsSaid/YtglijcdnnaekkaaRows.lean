/-
  No cell of these rows narrows 'for every input' (looked for: loops, veiled, ifaces, maps, wideKeys, modest, calm, conditions, laid).
  DERIVED. THE GIVEN ROWS OF THIS SEAT. 4 by the template 'for every input the law returns true; each argument reads behind the call as it read before'; 0 by the template 'total and deterministic' (their statements: YtglijcdnnaekkaaTotals.lean).
  GIVEN WITH THE SEED: the statements are not yours to turn. If you find one false, say at which input.
  Laid BY PROGRAM, IN A SANDBOX (cutbox-rows.mjs): the forced cells as the released guide's own fill.sh prints them over the translation cd105f6f5deb1bdc… (all of the seat's roots in one cut). By AI agents, Wed Nov 11 2026. No macro, syntax, notation, axiom, sorry.
-/
import Derived.Test.YtglijcdnnaekkaaChecked
import GoSem.Claim
import GoSem.ClaimJoined
import GoSem.ClaimMapViews
import Derived.JoinedTies
import Derived.KernelRfl
namespace Go.Proofs.Ytglijcdnnaekkaa
/- THE CELL 'sum', in the pinned program and in every row, IS THE sha256 OF THE DUMP (.gsa) THAT YtglijcdnnaekkaaProg.lean LOADS. Nothing in Lean hashes anything: it is a label: what it is worth is what the hold of that sum in a sandbox is worth. -/
noncomputable def Try.pinned : Pinned := { name := "ytglijcdnnaekkaa", sum := "cd105f6f5deb1bdc0118977308087a9a1a3828349456c36a10aa826985ca55ad", checked := Try.checked }
namespace Rows
def none {H : Type} : Left H := { results := [], args := [] }

/-- 'laws.FnExactRationalRoots': WHATEVER THE INPUT: true; the input reads as it did. -/
def fnExactRationalRootsSpec : ChangeSpec := { name := "fnExactRationalRoots", fn := fun _ => fun
  | [d] => { results := [.lit (.bool true)], args := [d] }
  | _ => none }
def fnExactRationalRootsRow : OpenClaim := { program := "ytglijcdnnaekkaa", sum := "cd105f6f5deb1bdc0118977308087a9a1a3828349456c36a10aa826985ca55ad", func := "loop.example/g01000/laws.FnExactRationalRoots", spec := "fnExactRationalRoots", unfollowed := true, recurses := true, apart := false }
def FnExactRationalRootsSaid : Prop := fnExactRationalRootsRow.holds Try.pinned (OpenSpec.ofChange fnExactRationalRootsSpec)

/-- ITS FALSE NEIGHBOUR: 'it returns false'. Refute it at one input. -/
def fnExactRationalRootsWrong : ChangeSpec := { name := "fnExactRationalRoots", fn := fun _ => fun
  | [d] => { results := [.lit (.bool false)], args := [d] }
  | _ => none }
def FnExactRationalRootsWrongFalsely : Prop := fnExactRationalRootsRow.holds Try.pinned (OpenSpec.ofChange fnExactRationalRootsWrong)

/-- 'laws.FnExactSharesOf': WHATEVER THE INPUT: true; the input reads as it did. -/
def fnExactSharesOfSpec : ChangeSpec := { name := "fnExactSharesOf", fn := fun _ => fun
  | [d] => { results := [.lit (.bool true)], args := [d] }
  | _ => none }
def fnExactSharesOfRow : OpenClaim := { program := "ytglijcdnnaekkaa", sum := "cd105f6f5deb1bdc0118977308087a9a1a3828349456c36a10aa826985ca55ad", func := "loop.example/g01000/laws.FnExactSharesOf", spec := "fnExactSharesOf", inPlace := ["slices.overlaps[loop.example/g01000/impl.Share]"], unfollowed := true, recurses := true, apart := false }
def FnExactSharesOfSaid : Prop := fnExactSharesOfRow.holds Try.pinned (OpenSpec.ofChange fnExactSharesOfSpec)

/-- ITS FALSE NEIGHBOUR: 'it returns false'. Refute it at one input. -/
def fnExactSharesOfWrong : ChangeSpec := { name := "fnExactSharesOf", fn := fun _ => fun
  | [d] => { results := [.lit (.bool false)], args := [d] }
  | _ => none }
def FnExactSharesOfWrongFalsely : Prop := fnExactSharesOfRow.holds Try.pinned (OpenSpec.ofChange fnExactSharesOfWrong)

/-- 'laws.FnExactDensityOf': WHATEVER THE INPUT: true; the input reads as it did. -/
def fnExactDensityOfSpec : ChangeSpec := { name := "fnExactDensityOf", fn := fun _ => fun
  | [d1, d2] => { results := [.lit (.bool true)], args := [d1, d2] }
  | _ => none }
def fnExactDensityOfRow : OpenClaim := { program := "ytglijcdnnaekkaa", sum := "cd105f6f5deb1bdc0118977308087a9a1a3828349456c36a10aa826985ca55ad", func := "loop.example/g01000/laws.FnExactDensityOf", spec := "fnExactDensityOf", inPlace := ["slices.overlaps[loop.example/g01000/impl.Share]"], unfollowed := true, recurses := true, apart := false }
def FnExactDensityOfSaid : Prop := fnExactDensityOfRow.holds Try.pinned (OpenSpec.ofChange fnExactDensityOfSpec)

/-- ITS FALSE NEIGHBOUR: 'it returns false'. Refute it at one input. -/
def fnExactDensityOfWrong : ChangeSpec := { name := "fnExactDensityOf", fn := fun _ => fun
  | [d1, d2] => { results := [.lit (.bool false)], args := [d1, d2] }
  | _ => none }
def FnExactDensityOfWrongFalsely : Prop := fnExactDensityOfRow.holds Try.pinned (OpenSpec.ofChange fnExactDensityOfWrong)

/-- 'laws.FnExactIsPrimitiveGroup': WHATEVER THE INPUT: true; the input reads as it did. -/
def fnExactIsPrimitiveGroupSpec : ChangeSpec := { name := "fnExactIsPrimitiveGroup", fn := fun _ => fun
  | [d] => { results := [.lit (.bool true)], args := [d] }
  | _ => none }
def fnExactIsPrimitiveGroupRow : OpenClaim := { program := "ytglijcdnnaekkaa", sum := "cd105f6f5deb1bdc0118977308087a9a1a3828349456c36a10aa826985ca55ad", func := "loop.example/g01000/laws.FnExactIsPrimitiveGroup", spec := "fnExactIsPrimitiveGroup", unfollowed := true, recurses := true, apart := false }
def FnExactIsPrimitiveGroupSaid : Prop := fnExactIsPrimitiveGroupRow.holds Try.pinned (OpenSpec.ofChange fnExactIsPrimitiveGroupSpec)

/-- ITS FALSE NEIGHBOUR: 'it returns false'. Refute it at one input. -/
def fnExactIsPrimitiveGroupWrong : ChangeSpec := { name := "fnExactIsPrimitiveGroup", fn := fun _ => fun
  | [d] => { results := [.lit (.bool false)], args := [d] }
  | _ => none }
def FnExactIsPrimitiveGroupWrongFalsely : Prop := fnExactIsPrimitiveGroupRow.holds Try.pinned (OpenSpec.ofChange fnExactIsPrimitiveGroupWrong)

/- THE SECOND FORM. 'bulk': how many values and letters a reading holds, each counted each time it is reached (what is shared counts as often as it is met; a slice's spare places count too). A statement '..UptoSaid' is the law's where the arguments, and the package variables that the reading takes, are together of bulk at most 1048576: NARROWER than '..Said'. Prove '..Said' where nothing that the law and all that it calls make is longer than what came in: it says more and counts as full. Else prove '..UptoSaid'. A law counts once. -/
mutual
def uptoBulk {H : Type} : DataW H → Nat
  | .lit (.string bytes) => bytes.length + 1
  | .lit _ => 1
  | .nil => 1
  | .ptr d => uptoBulk d + 1
  | .slice elems spare => uptoBulkAll elems + uptoBulkAll spare + 1
  | .agg parts => uptoBulkAll parts + 1
  | .iface _ d => uptoBulk d + 1
  | .map entries => uptoBulkEntries entries + 1
  | .held _ => 1
def uptoBulkAll {H : Type} : List (DataW H) → Nat
  | [] => 0
  | d :: r => uptoBulk d + uptoBulkAll r
def uptoBulkEntries {H : Type} : List (Lit × DataW H) → Nat
  | [] => 0
  | x :: r => uptoBulkEntry x + uptoBulkEntries r
def uptoBulkEntry {H : Type} : Lit × DataW H → Nat
  | (.string bytes, d) => bytes.length + uptoBulk d + 1
  | (_, d) => uptoBulk d + 1
 end
def uptoSmall : (H : Type) → List (DataW H) → Bool := fun _ ds => decide (uptoBulkAll ds ≤ 1048576)
def OpenSpec.upto (s : _root_.Go.ChangeSpec) : _root_.Go.OpenSpec := { _root_.Go.OpenSpec.ofChange s with cond := some uptoSmall }

/-- 'laws.FnExactRationalRoots', WHERE WHAT IT READS IS OF BULK AT MOST 1048576: true; the input reads as it did. -/
def fnExactRationalRootsUptoRow : OpenClaim := { program := "ytglijcdnnaekkaa", sum := "cd105f6f5deb1bdc0118977308087a9a1a3828349456c36a10aa826985ca55ad", func := "loop.example/g01000/laws.FnExactRationalRoots", spec := "fnExactRationalRoots", unfollowed := true, recurses := true, apart := false, narrowed := true }
def FnExactRationalRootsUptoSaid : Prop := fnExactRationalRootsUptoRow.holds Try.pinned (OpenSpec.upto fnExactRationalRootsSpec)

/-- 'laws.FnExactSharesOf', WHERE WHAT IT READS IS OF BULK AT MOST 1048576: true; the input reads as it did. -/
def fnExactSharesOfUptoRow : OpenClaim := { program := "ytglijcdnnaekkaa", sum := "cd105f6f5deb1bdc0118977308087a9a1a3828349456c36a10aa826985ca55ad", func := "loop.example/g01000/laws.FnExactSharesOf", spec := "fnExactSharesOf", inPlace := ["slices.overlaps[loop.example/g01000/impl.Share]"], unfollowed := true, recurses := true, apart := false, narrowed := true }
def FnExactSharesOfUptoSaid : Prop := fnExactSharesOfUptoRow.holds Try.pinned (OpenSpec.upto fnExactSharesOfSpec)

/-- 'laws.FnExactDensityOf', WHERE WHAT IT READS IS OF BULK AT MOST 1048576: true; the input reads as it did. -/
def fnExactDensityOfUptoRow : OpenClaim := { program := "ytglijcdnnaekkaa", sum := "cd105f6f5deb1bdc0118977308087a9a1a3828349456c36a10aa826985ca55ad", func := "loop.example/g01000/laws.FnExactDensityOf", spec := "fnExactDensityOf", inPlace := ["slices.overlaps[loop.example/g01000/impl.Share]"], unfollowed := true, recurses := true, apart := false, narrowed := true }
def FnExactDensityOfUptoSaid : Prop := fnExactDensityOfUptoRow.holds Try.pinned (OpenSpec.upto fnExactDensityOfSpec)

/-- 'laws.FnExactIsPrimitiveGroup', WHERE WHAT IT READS IS OF BULK AT MOST 1048576: true; the input reads as it did. -/
def fnExactIsPrimitiveGroupUptoRow : OpenClaim := { program := "ytglijcdnnaekkaa", sum := "cd105f6f5deb1bdc0118977308087a9a1a3828349456c36a10aa826985ca55ad", func := "loop.example/g01000/laws.FnExactIsPrimitiveGroup", spec := "fnExactIsPrimitiveGroup", unfollowed := true, recurses := true, apart := false, narrowed := true }
def FnExactIsPrimitiveGroupUptoSaid : Prop := fnExactIsPrimitiveGroupUptoRow.holds Try.pinned (OpenSpec.upto fnExactIsPrimitiveGroupSpec)

end Rows
end Go.Proofs.Ytglijcdnnaekkaa
