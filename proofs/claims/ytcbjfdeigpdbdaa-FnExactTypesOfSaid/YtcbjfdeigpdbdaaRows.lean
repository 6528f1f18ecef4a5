/-
  No cell of these rows narrows 'for every input' (looked for: loops, veiled, ifaces, maps, wideKeys, modest, calm, conditions, laid).
  DERIVED. THE GIVEN ROWS OF THIS SEAT. 6 by the template 'for every input the law returns true; each argument reads behind the call as it read before'; 0 by the template 'total and deterministic' (their statements: YtcbjfdeigpdbdaaTotals.lean).
  GIVEN WITH THE SEED: the statements are not yours to turn. If you find one false, say at which input.
  Laid BY PROGRAM, IN A SANDBOX (cutbox-rows.mjs): the forced cells as the released guide's own fill.sh prints them over the translation fd260300fc2738c6… (all of the seat's roots in one cut). By AI agents, Wed Nov 11 2026. No macro, syntax, notation, axiom, sorry.
-/
import Derived.Test.YtcbjfdeigpdbdaaChecked
import GoSem.Claim
import GoSem.ClaimJoined
import GoSem.ClaimMapViews
import Derived.JoinedTies
import Derived.KernelRfl
namespace Go.Proofs.Ytcbjfdeigpdbdaa
/- THE CELL 'sum', in the pinned program and in every row, IS THE sha256 OF THE DUMP (.gsa) THAT YtcbjfdeigpdbdaaProg.lean LOADS. Nothing in Lean hashes anything: it is a label: what it is worth is what the hold of that sum in a sandbox is worth. -/
noncomputable def Try.pinned : Pinned := { name := "ytcbjfdeigpdbdaa", sum := "fd260300fc2738c69696e131a9a7e8a90c1d6d20d2e8490cfe3e304c26922e8c", checked := Try.checked }
namespace Rows
def none {H : Type} : Left H := { results := [], args := [] }

/-- 'laws.FnExactDepressPolynomial': WHATEVER THE INPUT: true; the input reads as it did. -/
def fnExactDepressPolynomialSpec : ChangeSpec := { name := "fnExactDepressPolynomial", fn := fun _ => fun
  | [d] => { results := [.lit (.bool true)], args := [d] }
  | _ => none }
def fnExactDepressPolynomialRow : OpenClaim := { program := "ytcbjfdeigpdbdaa", sum := "fd260300fc2738c69696e131a9a7e8a90c1d6d20d2e8490cfe3e304c26922e8c", func := "loop.example/g01000/laws.FnExactDepressPolynomial", spec := "fnExactDepressPolynomial", unfollowed := true, recurses := true, apart := false }
def FnExactDepressPolynomialSaid : Prop := fnExactDepressPolynomialRow.holds Try.pinned (OpenSpec.ofChange fnExactDepressPolynomialSpec)

/-- ITS FALSE NEIGHBOUR: 'it returns false'. Refute it at one input. -/
def fnExactDepressPolynomialWrong : ChangeSpec := { name := "fnExactDepressPolynomial", fn := fun _ => fun
  | [d] => { results := [.lit (.bool false)], args := [d] }
  | _ => none }
def FnExactDepressPolynomialWrongFalsely : Prop := fnExactDepressPolynomialRow.holds Try.pinned (OpenSpec.ofChange fnExactDepressPolynomialWrong)

/-- 'laws.FnExactTypesOf': WHATEVER THE INPUT: true; the input reads as it did. -/
def fnExactTypesOfSpec : ChangeSpec := { name := "fnExactTypesOf", fn := fun _ => fun
  | [d] => { results := [.lit (.bool true)], args := [d] }
  | _ => none }
def fnExactTypesOfRow : OpenClaim := { program := "ytcbjfdeigpdbdaa", sum := "fd260300fc2738c69696e131a9a7e8a90c1d6d20d2e8490cfe3e304c26922e8c", func := "loop.example/g01000/laws.FnExactTypesOf", spec := "fnExactTypesOf", unfollowed := true, recurses := true, apart := false }
def FnExactTypesOfSaid : Prop := fnExactTypesOfRow.holds Try.pinned (OpenSpec.ofChange fnExactTypesOfSpec)

/-- ITS FALSE NEIGHBOUR: 'it returns false'. Refute it at one input. -/
def fnExactTypesOfWrong : ChangeSpec := { name := "fnExactTypesOf", fn := fun _ => fun
  | [d] => { results := [.lit (.bool false)], args := [d] }
  | _ => none }
def FnExactTypesOfWrongFalsely : Prop := fnExactTypesOfRow.holds Try.pinned (OpenSpec.ofChange fnExactTypesOfWrong)

/-- 'laws.FnExactOrbitsOf': WHATEVER THE INPUT: true; the input reads as it did. -/
def fnExactOrbitsOfSpec : ChangeSpec := { name := "fnExactOrbitsOf", fn := fun _ => fun
  | [d] => { results := [.lit (.bool true)], args := [d] }
  | _ => none }
def fnExactOrbitsOfRow : OpenClaim := { program := "ytcbjfdeigpdbdaa", sum := "fd260300fc2738c69696e131a9a7e8a90c1d6d20d2e8490cfe3e304c26922e8c", func := "loop.example/g01000/laws.FnExactOrbitsOf", spec := "fnExactOrbitsOf", unfollowed := true, recurses := true, apart := false }
def FnExactOrbitsOfSaid : Prop := fnExactOrbitsOfRow.holds Try.pinned (OpenSpec.ofChange fnExactOrbitsOfSpec)

/-- ITS FALSE NEIGHBOUR: 'it returns false'. Refute it at one input. -/
def fnExactOrbitsOfWrong : ChangeSpec := { name := "fnExactOrbitsOf", fn := fun _ => fun
  | [d] => { results := [.lit (.bool false)], args := [d] }
  | _ => none }
def FnExactOrbitsOfWrongFalsely : Prop := fnExactOrbitsOfRow.holds Try.pinned (OpenSpec.ofChange fnExactOrbitsOfWrong)

/-- 'laws.FnExactSubgroupNames': WHATEVER THE INPUT: true; the input reads as it did. -/
def fnExactSubgroupNamesSpec : ChangeSpec := { name := "fnExactSubgroupNames", fn := fun _ => fun
  | [d] => { results := [.lit (.bool true)], args := [d] }
  | _ => none }
def fnExactSubgroupNamesRow : OpenClaim := { program := "ytcbjfdeigpdbdaa", sum := "fd260300fc2738c69696e131a9a7e8a90c1d6d20d2e8490cfe3e304c26922e8c", func := "loop.example/g01000/laws.FnExactSubgroupNames", spec := "fnExactSubgroupNames", unfollowed := true, recurses := true, apart := false }
def FnExactSubgroupNamesSaid : Prop := fnExactSubgroupNamesRow.holds Try.pinned (OpenSpec.ofChange fnExactSubgroupNamesSpec)

/-- ITS FALSE NEIGHBOUR: 'it returns false'. Refute it at one input. -/
def fnExactSubgroupNamesWrong : ChangeSpec := { name := "fnExactSubgroupNames", fn := fun _ => fun
  | [d] => { results := [.lit (.bool false)], args := [d] }
  | _ => none }
def FnExactSubgroupNamesWrongFalsely : Prop := fnExactSubgroupNamesRow.holds Try.pinned (OpenSpec.ofChange fnExactSubgroupNamesWrong)

/-- 'laws.FnExactCandidateNames': WHATEVER THE INPUT: true; the input reads as it did. -/
def fnExactCandidateNamesSpec : ChangeSpec := { name := "fnExactCandidateNames", fn := fun _ => fun
  | [d1, d2] => { results := [.lit (.bool true)], args := [d1, d2] }
  | _ => none }
def fnExactCandidateNamesRow : OpenClaim := { program := "ytcbjfdeigpdbdaa", sum := "fd260300fc2738c69696e131a9a7e8a90c1d6d20d2e8490cfe3e304c26922e8c", func := "loop.example/g01000/laws.FnExactCandidateNames", spec := "fnExactCandidateNames", unfollowed := true, recurses := true, apart := false }
def FnExactCandidateNamesSaid : Prop := fnExactCandidateNamesRow.holds Try.pinned (OpenSpec.ofChange fnExactCandidateNamesSpec)

/-- ITS FALSE NEIGHBOUR: 'it returns false'. Refute it at one input. -/
def fnExactCandidateNamesWrong : ChangeSpec := { name := "fnExactCandidateNames", fn := fun _ => fun
  | [d1, d2] => { results := [.lit (.bool false)], args := [d1, d2] }
  | _ => none }
def FnExactCandidateNamesWrongFalsely : Prop := fnExactCandidateNamesRow.holds Try.pinned (OpenSpec.ofChange fnExactCandidateNamesWrong)

/-- 'laws.FnExactSharesOf': WHATEVER THE INPUT: true; the input reads as it did. -/
def fnExactSharesOfSpec : ChangeSpec := { name := "fnExactSharesOf", fn := fun _ => fun
  | [d] => { results := [.lit (.bool true)], args := [d] }
  | _ => none }
def fnExactSharesOfRow : OpenClaim := { program := "ytcbjfdeigpdbdaa", sum := "fd260300fc2738c69696e131a9a7e8a90c1d6d20d2e8490cfe3e304c26922e8c", func := "loop.example/g01000/laws.FnExactSharesOf", spec := "fnExactSharesOf", inPlace := ["slices.overlaps[loop.example/g01000/impl.Share]"], unfollowed := true, recurses := true, apart := false }
def FnExactSharesOfSaid : Prop := fnExactSharesOfRow.holds Try.pinned (OpenSpec.ofChange fnExactSharesOfSpec)

/-- ITS FALSE NEIGHBOUR: 'it returns false'. Refute it at one input. -/
def fnExactSharesOfWrong : ChangeSpec := { name := "fnExactSharesOf", fn := fun _ => fun
  | [d] => { results := [.lit (.bool false)], args := [d] }
  | _ => none }
def FnExactSharesOfWrongFalsely : Prop := fnExactSharesOfRow.holds Try.pinned (OpenSpec.ofChange fnExactSharesOfWrong)

/- THE SECOND FORM. 'bulk': how many values and letters a reading holds, each counted each time it is reached (what is shared counts as often as it is met; a slice's spare places count too). A statement '..UptoSaid' is the law's where the arguments, and the package variables that the reading takes, are together of bulk at most 1048576: NARROWER than '..Said'. Prove '..Said' where nothing that the law and all that it calls make is longer than what came in: it says more and counts as full. Else prove '..UptoSaid'. A law counts once. -/
mutual
def uptoBulk {H : Type} : DataW H → Nat
  | .lit (.string bytes) => bytes.length + 1
  | .lit _ => 1
  | .nil => 1
  | .ptr d => uptoBulk d + 1
  | .slice elems spare => uptoBulkAll elems + uptoBulkAll spare + 1
  | .agg parts => uptoBulkAll parts + 1
  | .iface _ d => uptoBulk d + 1
  | .map entries => uptoBulkEntries entries + 1
  | .held _ => 1
def uptoBulkAll {H : Type} : List (DataW H) → Nat
  | [] => 0
  | d :: r => uptoBulk d + uptoBulkAll r
def uptoBulkEntries {H : Type} : List (Lit × DataW H) → Nat
  | [] => 0
  | x :: r => uptoBulkEntry x + uptoBulkEntries r
def uptoBulkEntry {H : Type} : Lit × DataW H → Nat
  | (.string bytes, d) => bytes.length + uptoBulk d + 1
  | (_, d) => uptoBulk d + 1
 end
def uptoSmall : (H : Type) → List (DataW H) → Bool := fun _ ds => decide (uptoBulkAll ds ≤ 1048576)
def OpenSpec.upto (s : _root_.Go.ChangeSpec) : _root_.Go.OpenSpec := { _root_.Go.OpenSpec.ofChange s with cond := some uptoSmall }

/-- 'laws.FnExactDepressPolynomial', WHERE WHAT IT READS IS OF BULK AT MOST 1048576: true; the input reads as it did. -/
def fnExactDepressPolynomialUptoRow : OpenClaim := { program := "ytcbjfdeigpdbdaa", sum := "fd260300fc2738c69696e131a9a7e8a90c1d6d20d2e8490cfe3e304c26922e8c", func := "loop.example/g01000/laws.FnExactDepressPolynomial", spec := "fnExactDepressPolynomial", unfollowed := true, recurses := true, apart := false, narrowed := true }
def FnExactDepressPolynomialUptoSaid : Prop := fnExactDepressPolynomialUptoRow.holds Try.pinned (OpenSpec.upto fnExactDepressPolynomialSpec)

/-- 'laws.FnExactTypesOf', WHERE WHAT IT READS IS OF BULK AT MOST 1048576: true; the input reads as it did. -/
def fnExactTypesOfUptoRow : OpenClaim := { program := "ytcbjfdeigpdbdaa", sum := "fd260300fc2738c69696e131a9a7e8a90c1d6d20d2e8490cfe3e304c26922e8c", func := "loop.example/g01000/laws.FnExactTypesOf", spec := "fnExactTypesOf", unfollowed := true, recurses := true, apart := false, narrowed := true }
def FnExactTypesOfUptoSaid : Prop := fnExactTypesOfUptoRow.holds Try.pinned (OpenSpec.upto fnExactTypesOfSpec)

/-- 'laws.FnExactOrbitsOf', WHERE WHAT IT READS IS OF BULK AT MOST 1048576: true; the input reads as it did. -/
def fnExactOrbitsOfUptoRow : OpenClaim := { program := "ytcbjfdeigpdbdaa", sum := "fd260300fc2738c69696e131a9a7e8a90c1d6d20d2e8490cfe3e304c26922e8c", func := "loop.example/g01000/laws.FnExactOrbitsOf", spec := "fnExactOrbitsOf", unfollowed := true, recurses := true, apart := false, narrowed := true }
def FnExactOrbitsOfUptoSaid : Prop := fnExactOrbitsOfUptoRow.holds Try.pinned (OpenSpec.upto fnExactOrbitsOfSpec)

/-- 'laws.FnExactSubgroupNames', WHERE WHAT IT READS IS OF BULK AT MOST 1048576: true; the input reads as it did. -/
def fnExactSubgroupNamesUptoRow : OpenClaim := { program := "ytcbjfdeigpdbdaa", sum := "fd260300fc2738c69696e131a9a7e8a90c1d6d20d2e8490cfe3e304c26922e8c", func := "loop.example/g01000/laws.FnExactSubgroupNames", spec := "fnExactSubgroupNames", unfollowed := true, recurses := true, apart := false, narrowed := true }
def FnExactSubgroupNamesUptoSaid : Prop := fnExactSubgroupNamesUptoRow.holds Try.pinned (OpenSpec.upto fnExactSubgroupNamesSpec)

/-- 'laws.FnExactCandidateNames', WHERE WHAT IT READS IS OF BULK AT MOST 1048576: true; the input reads as it did. -/
def fnExactCandidateNamesUptoRow : OpenClaim := { program := "ytcbjfdeigpdbdaa", sum := "fd260300fc2738c69696e131a9a7e8a90c1d6d20d2e8490cfe3e304c26922e8c", func := "loop.example/g01000/laws.FnExactCandidateNames", spec := "fnExactCandidateNames", unfollowed := true, recurses := true, apart := false, narrowed := true }
def FnExactCandidateNamesUptoSaid : Prop := fnExactCandidateNamesUptoRow.holds Try.pinned (OpenSpec.upto fnExactCandidateNamesSpec)

/-- 'laws.FnExactSharesOf', WHERE WHAT IT READS IS OF BULK AT MOST 1048576: true; the input reads as it did. -/
def fnExactSharesOfUptoRow : OpenClaim := { program := "ytcbjfdeigpdbdaa", sum := "fd260300fc2738c69696e131a9a7e8a90c1d6d20d2e8490cfe3e304c26922e8c", func := "loop.example/g01000/laws.FnExactSharesOf", spec := "fnExactSharesOf", inPlace := ["slices.overlaps[loop.example/g01000/impl.Share]"], unfollowed := true, recurses := true, apart := false, narrowed := true }
def FnExactSharesOfUptoSaid : Prop := fnExactSharesOfUptoRow.holds Try.pinned (OpenSpec.upto fnExactSharesOfSpec)

end Rows
end Go.Proofs.Ytcbjfdeigpdbdaa
