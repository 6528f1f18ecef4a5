/-
  No cell of these rows narrows 'for every input' (looked for: loops, veiled, ifaces, maps, wideKeys, modest, calm, conditions, laid).
  DERIVED. THE GIVEN ROWS OF THIS SEAT. 4 by the template 'for every input the law returns true; each argument reads behind the call as it read before'; 0 by the template 'total and deterministic' (their statements: YtglijcdnnaekkaaGreatTotals.lean).
  GIVEN WITH THE SEED: the statements are not yours to turn. If you find one false, say at which input.
  Laid BY PROGRAM, IN A SANDBOX (cutbox-rows.mjs): the forced cells as the released guide's own fill.sh prints them over the translation f61c5d74278d42bd… (all of the seat's roots in one cut). By AI agents, Wed Nov 11 2026. No macro, syntax, notation, axiom, sorry.
-/
import Derived.Test.YtglijcdnnaekkaaGreatChecked
import GoSem.Claim
import GoSem.ClaimJoined
import GoSem.ClaimMapViews
import Derived.JoinedTies
import Derived.KernelRfl
namespace Go.Proofs.YtglijcdnnaekkaaGreat
/- THE CELL 'sum', in the pinned program and in every row, IS THE sha256 OF THE DUMP (.gsa) THAT YtglijcdnnaekkaaGreatProg.lean LOADS. Nothing in Lean hashes anything: it is a label: what it is worth is what the hold of that sum in a sandbox is worth. -/
noncomputable def Tryz.pinned : Pinned := { name := "ytglijcdnnaekkaagreat", sum := "f61c5d74278d42bda504d7742fdac9ac9f3836590ec299b5a2eb1bca21db0d0d", checked := Tryz.checked }
namespace Rows
def none {H : Type} : Left H := { results := [], args := [] }

/-- 'laws.FnBlocks': WHATEVER THE INPUT: true; the input reads as it did. -/
def fnBlocksSpec : ChangeSpec := { name := "fnBlocks", fn := fun _ => fun
  | [d] => { results := [.lit (.bool true)], args := [d] }
  | _ => none }
def fnBlocksRow : OpenClaim := { program := "ytglijcdnnaekkaagreat", sum := "f61c5d74278d42bda504d7742fdac9ac9f3836590ec299b5a2eb1bca21db0d0d", func := "loop.example/g01000/laws.FnBlocks", spec := "fnBlocks", unfollowed := true, recurses := true, apart := false }
def FnBlocksSaid : Prop := fnBlocksRow.holds Tryz.pinned (OpenSpec.ofChange fnBlocksSpec)

/-- ITS FALSE NEIGHBOUR: 'it returns false'. Refute it at one input. -/
def fnBlocksWrong : ChangeSpec := { name := "fnBlocks", fn := fun _ => fun
  | [d] => { results := [.lit (.bool false)], args := [d] }
  | _ => none }
def FnBlocksWrongFalsely : Prop := fnBlocksRow.holds Tryz.pinned (OpenSpec.ofChange fnBlocksWrong)

/-- 'laws.FnShares': WHATEVER THE INPUT: true; the input reads as it did. -/
def fnSharesSpec : ChangeSpec := { name := "fnShares", fn := fun _ => fun
  | [d] => { results := [.lit (.bool true)], args := [d] }
  | _ => none }
def fnSharesRow : OpenClaim := { program := "ytglijcdnnaekkaagreat", sum := "f61c5d74278d42bda504d7742fdac9ac9f3836590ec299b5a2eb1bca21db0d0d", func := "loop.example/g01000/laws.FnShares", spec := "fnShares", inPlace := ["slices.overlaps[loop.example/g01000/impl.Share]"], unfollowed := true, recurses := true, apart := false }
def FnSharesSaid : Prop := fnSharesRow.holds Tryz.pinned (OpenSpec.ofChange fnSharesSpec)

/-- ITS FALSE NEIGHBOUR: 'it returns false'. Refute it at one input. -/
def fnSharesWrong : ChangeSpec := { name := "fnShares", fn := fun _ => fun
  | [d] => { results := [.lit (.bool false)], args := [d] }
  | _ => none }
def FnSharesWrongFalsely : Prop := fnSharesRow.holds Tryz.pinned (OpenSpec.ofChange fnSharesWrong)

/-- 'laws.FnDensities': WHATEVER THE INPUT: true; the input reads as it did. -/
def fnDensitiesSpec : ChangeSpec := { name := "fnDensities", fn := fun _ => fun
  | [d] => { results := [.lit (.bool true)], args := [d] }
  | _ => none }
def fnDensitiesRow : OpenClaim := { program := "ytglijcdnnaekkaagreat", sum := "f61c5d74278d42bda504d7742fdac9ac9f3836590ec299b5a2eb1bca21db0d0d", func := "loop.example/g01000/laws.FnDensities", spec := "fnDensities", inPlace := ["slices.overlaps[loop.example/g01000/impl.Share]"], unfollowed := true, recurses := true, apart := false }
def FnDensitiesSaid : Prop := fnDensitiesRow.holds Tryz.pinned (OpenSpec.ofChange fnDensitiesSpec)

/-- ITS FALSE NEIGHBOUR: 'it returns false'. Refute it at one input. -/
def fnDensitiesWrong : ChangeSpec := { name := "fnDensities", fn := fun _ => fun
  | [d] => { results := [.lit (.bool false)], args := [d] }
  | _ => none }
def FnDensitiesWrongFalsely : Prop := fnDensitiesRow.holds Tryz.pinned (OpenSpec.ofChange fnDensitiesWrong)

/-- 'laws.FnExactBlocksOf': WHATEVER THE INPUT: true; the input reads as it did. -/
def fnExactBlocksOfSpec : ChangeSpec := { name := "fnExactBlocksOf", fn := fun _ => fun
  | [d1, d2] => { results := [.lit (.bool true)], args := [d1, d2] }
  | _ => none }
def fnExactBlocksOfRow : OpenClaim := { program := "ytglijcdnnaekkaagreat", sum := "f61c5d74278d42bda504d7742fdac9ac9f3836590ec299b5a2eb1bca21db0d0d", func := "loop.example/g01000/laws.FnExactBlocksOf", spec := "fnExactBlocksOf", unfollowed := true, recurses := true, apart := false }
def FnExactBlocksOfSaid : Prop := fnExactBlocksOfRow.holds Tryz.pinned (OpenSpec.ofChange fnExactBlocksOfSpec)

/-- ITS FALSE NEIGHBOUR: 'it returns false'. Refute it at one input. -/
def fnExactBlocksOfWrong : ChangeSpec := { name := "fnExactBlocksOf", fn := fun _ => fun
  | [d1, d2] => { results := [.lit (.bool false)], args := [d1, d2] }
  | _ => none }
def FnExactBlocksOfWrongFalsely : Prop := fnExactBlocksOfRow.holds Tryz.pinned (OpenSpec.ofChange fnExactBlocksOfWrong)

/- THE SECOND FORM. 'bulk': how many values and letters a reading holds, each counted each time it is reached (what is shared counts as often as it is met; a slice's spare places count too). A statement '..UptoSaid' is the law's where the arguments, and the package variables that the reading takes, are together of bulk at most 1048576: NARROWER than '..Said'. Prove '..Said' where nothing that the law and all that it calls make is longer than what came in: it says more and counts as full. Else prove '..UptoSaid'. A law counts once. -/
mutual
def uptoBulk {H : Type} : DataW H → Nat
  | .lit (.string bytes) => bytes.length + 1
  | .lit _ => 1
  | .nil => 1
  | .ptr d => uptoBulk d + 1
  | .slice elems spare => uptoBulkAll elems + uptoBulkAll spare + 1
  | .agg parts => uptoBulkAll parts + 1
  | .iface _ d => uptoBulk d + 1
  | .map entries => uptoBulkEntries entries + 1
  | .held _ => 1
def uptoBulkAll {H : Type} : List (DataW H) → Nat
  | [] => 0
  | d :: r => uptoBulk d + uptoBulkAll r
def uptoBulkEntries {H : Type} : List (Lit × DataW H) → Nat
  | [] => 0
  | x :: r => uptoBulkEntry x + uptoBulkEntries r
def uptoBulkEntry {H : Type} : Lit × DataW H → Nat
  | (.string bytes, d) => bytes.length + uptoBulk d + 1
  | (_, d) => uptoBulk d + 1
 end
def uptoSmall : (H : Type) → List (DataW H) → Bool := fun _ ds => decide (uptoBulkAll ds ≤ 1048576)
def OpenSpec.upto (s : _root_.Go.ChangeSpec) : _root_.Go.OpenSpec := { _root_.Go.OpenSpec.ofChange s with cond := some uptoSmall }

/-- 'laws.FnBlocks', WHERE WHAT IT READS IS OF BULK AT MOST 1048576: true; the input reads as it did. -/
def fnBlocksUptoRow : OpenClaim := { program := "ytglijcdnnaekkaagreat", sum := "f61c5d74278d42bda504d7742fdac9ac9f3836590ec299b5a2eb1bca21db0d0d", func := "loop.example/g01000/laws.FnBlocks", spec := "fnBlocks", unfollowed := true, recurses := true, apart := false, narrowed := true }
def FnBlocksUptoSaid : Prop := fnBlocksUptoRow.holds Tryz.pinned (OpenSpec.upto fnBlocksSpec)

/-- 'laws.FnShares', WHERE WHAT IT READS IS OF BULK AT MOST 1048576: true; the input reads as it did. -/
def fnSharesUptoRow : OpenClaim := { program := "ytglijcdnnaekkaagreat", sum := "f61c5d74278d42bda504d7742fdac9ac9f3836590ec299b5a2eb1bca21db0d0d", func := "loop.example/g01000/laws.FnShares", spec := "fnShares", inPlace := ["slices.overlaps[loop.example/g01000/impl.Share]"], unfollowed := true, recurses := true, apart := false, narrowed := true }
def FnSharesUptoSaid : Prop := fnSharesUptoRow.holds Tryz.pinned (OpenSpec.upto fnSharesSpec)

/-- 'laws.FnDensities', WHERE WHAT IT READS IS OF BULK AT MOST 1048576: true; the input reads as it did. -/
def fnDensitiesUptoRow : OpenClaim := { program := "ytglijcdnnaekkaagreat", sum := "f61c5d74278d42bda504d7742fdac9ac9f3836590ec299b5a2eb1bca21db0d0d", func := "loop.example/g01000/laws.FnDensities", spec := "fnDensities", inPlace := ["slices.overlaps[loop.example/g01000/impl.Share]"], unfollowed := true, recurses := true, apart := false, narrowed := true }
def FnDensitiesUptoSaid : Prop := fnDensitiesUptoRow.holds Tryz.pinned (OpenSpec.upto fnDensitiesSpec)

/-- 'laws.FnExactBlocksOf', WHERE WHAT IT READS IS OF BULK AT MOST 1048576: true; the input reads as it did. -/
def fnExactBlocksOfUptoRow : OpenClaim := { program := "ytglijcdnnaekkaagreat", sum := "f61c5d74278d42bda504d7742fdac9ac9f3836590ec299b5a2eb1bca21db0d0d", func := "loop.example/g01000/laws.FnExactBlocksOf", spec := "fnExactBlocksOf", unfollowed := true, recurses := true, apart := false, narrowed := true }
def FnExactBlocksOfUptoSaid : Prop := fnExactBlocksOfUptoRow.holds Tryz.pinned (OpenSpec.upto fnExactBlocksOfSpec)

end Rows
end Go.Proofs.YtglijcdnnaekkaaGreat
