/-
  No cell of these rows narrows 'for every input' (looked for: loops, veiled, ifaces, maps, wideKeys, modest, calm, conditions, laid).
  DERIVED. THE GIVEN ROWS OF THIS SEAT. 4 by the template 'for every input the law returns true; each argument reads behind the call as it read before'; 0 by the template 'total and deterministic' (their statements: YthjoegoeaiemdaaTotals.lean).
  GIVEN WITH THE SEED: the statements are not yours to turn. If you find one false, say at which input.
  Laid BY PROGRAM, IN A SANDBOX (cutbox-rows.mjs): the forced cells as the released guide's own fill.sh prints them over the translation c008270b727508ca… (all of the seat's roots in one cut). By AI agents, Wed Nov 11 2026. No macro, syntax, notation, axiom, sorry.
-/
import Derived.Test.YthjoegoeaiemdaaChecked
import GoSem.Claim
import GoSem.ClaimJoined
import GoSem.ClaimMapViews
import Derived.JoinedTies
import Derived.KernelRfl
namespace Go.Proofs.Ythjoegoeaiemdaa
/- THE CELL 'sum', in the pinned program and in every row, IS THE sha256 OF THE DUMP (.gsa) THAT YthjoegoeaiemdaaProg.lean LOADS. Nothing in Lean hashes anything: it is a label: what it is worth is what the hold of that sum in a sandbox is worth. -/
noncomputable def Try.pinned : Pinned := { name := "ythjoegoeaiemdaa", sum := "c008270b727508ca166934a7ae20b8eff22c98064dde2b2b6dc99c8759e5a453", checked := Try.checked }
namespace Rows
def none {H : Type} : Left H := { results := [], args := [] }

/-- 'laws.FnOrbits': WHATEVER THE INPUT: true; the input reads as it did. -/
def fnOrbitsSpec : ChangeSpec := { name := "fnOrbits", fn := fun _ => fun
  | [d] => { results := [.lit (.bool true)], args := [d] }
  | _ => none }
def fnOrbitsRow : OpenClaim := { program := "ythjoegoeaiemdaa", sum := "c008270b727508ca166934a7ae20b8eff22c98064dde2b2b6dc99c8759e5a453", func := "loop.example/g01000/laws.FnOrbits", spec := "fnOrbits", unfollowed := true, recurses := true, apart := false }
def FnOrbitsSaid : Prop := fnOrbitsRow.holds Try.pinned (OpenSpec.ofChange fnOrbitsSpec)

/-- ITS FALSE NEIGHBOUR: 'it returns false'. Refute it at one input. -/
def fnOrbitsWrong : ChangeSpec := { name := "fnOrbits", fn := fun _ => fun
  | [d] => { results := [.lit (.bool false)], args := [d] }
  | _ => none }
def FnOrbitsWrongFalsely : Prop := fnOrbitsRow.holds Try.pinned (OpenSpec.ofChange fnOrbitsWrong)

/-- 'laws.FnSystems': WHATEVER THE INPUT: true; the input reads as it did. -/
def fnSystemsSpec : ChangeSpec := { name := "fnSystems", fn := fun _ => fun
  | [d] => { results := [.lit (.bool true)], args := [d] }
  | _ => none }
def fnSystemsRow : OpenClaim := { program := "ythjoegoeaiemdaa", sum := "c008270b727508ca166934a7ae20b8eff22c98064dde2b2b6dc99c8759e5a453", func := "loop.example/g01000/laws.FnSystems", spec := "fnSystems", apart := false }
def FnSystemsSaid : Prop := fnSystemsRow.holds Try.pinned (OpenSpec.ofChange fnSystemsSpec)

/-- ITS FALSE NEIGHBOUR: 'it returns false'. Refute it at one input. -/
def fnSystemsWrong : ChangeSpec := { name := "fnSystems", fn := fun _ => fun
  | [d] => { results := [.lit (.bool false)], args := [d] }
  | _ => none }
def FnSystemsWrongFalsely : Prop := fnSystemsRow.holds Try.pinned (OpenSpec.ofChange fnSystemsWrong)

/-- 'laws.FnCarries': WHATEVER THE INPUT: true; the input reads as it did. -/
def fnCarriesSpec : ChangeSpec := { name := "fnCarries", fn := fun _ => fun
  | [d] => { results := [.lit (.bool true)], args := [d] }
  | _ => none }
def fnCarriesRow : OpenClaim := { program := "ythjoegoeaiemdaa", sum := "c008270b727508ca166934a7ae20b8eff22c98064dde2b2b6dc99c8759e5a453", func := "loop.example/g01000/laws.FnCarries", spec := "fnCarries", unfollowed := true, recurses := true, apart := false }
def FnCarriesSaid : Prop := fnCarriesRow.holds Try.pinned (OpenSpec.ofChange fnCarriesSpec)

/-- ITS FALSE NEIGHBOUR: 'it returns false'. Refute it at one input. -/
def fnCarriesWrong : ChangeSpec := { name := "fnCarries", fn := fun _ => fun
  | [d] => { results := [.lit (.bool false)], args := [d] }
  | _ => none }
def FnCarriesWrongFalsely : Prop := fnCarriesRow.holds Try.pinned (OpenSpec.ofChange fnCarriesWrong)

/-- 'laws.FnAbsolutes': WHATEVER THE INPUT: true; the input reads as it did. -/
def fnAbsolutesSpec : ChangeSpec := { name := "fnAbsolutes", fn := fun _ => fun
  | [d] => { results := [.lit (.bool true)], args := [d] }
  | _ => none }
def fnAbsolutesRow : OpenClaim := { program := "ythjoegoeaiemdaa", sum := "c008270b727508ca166934a7ae20b8eff22c98064dde2b2b6dc99c8759e5a453", func := "loop.example/g01000/laws.FnAbsolutes", spec := "fnAbsolutes", apart := false }
def FnAbsolutesSaid : Prop := fnAbsolutesRow.holds Try.pinned (OpenSpec.ofChange fnAbsolutesSpec)

/-- ITS FALSE NEIGHBOUR: 'it returns false'. Refute it at one input. -/
def fnAbsolutesWrong : ChangeSpec := { name := "fnAbsolutes", fn := fun _ => fun
  | [d] => { results := [.lit (.bool false)], args := [d] }
  | _ => none }
def FnAbsolutesWrongFalsely : Prop := fnAbsolutesRow.holds Try.pinned (OpenSpec.ofChange fnAbsolutesWrong)

/- THE SECOND FORM. 'bulk': how many values and letters a reading holds, each counted each time it is reached (what is shared counts as often as it is met; a slice's spare places count too). A statement '..UptoSaid' is the law's where the arguments, and the package variables that the reading takes, are together of bulk at most 1048576: NARROWER than '..Said'. Prove '..Said' where nothing that the law and all that it calls make is longer than what came in: it says more and counts as full. Else prove '..UptoSaid'. A law counts once. -/
mutual
def uptoBulk {H : Type} : DataW H → Nat
  | .lit (.string bytes) => bytes.length + 1
  | .lit _ => 1
  | .nil => 1
  | .ptr d => uptoBulk d + 1
  | .slice elems spare => uptoBulkAll elems + uptoBulkAll spare + 1
  | .agg parts => uptoBulkAll parts + 1
  | .iface _ d => uptoBulk d + 1
  | .map entries => uptoBulkEntries entries + 1
  | .held _ => 1
def uptoBulkAll {H : Type} : List (DataW H) → Nat
  | [] => 0
  | d :: r => uptoBulk d + uptoBulkAll r
def uptoBulkEntries {H : Type} : List (Lit × DataW H) → Nat
  | [] => 0
  | x :: r => uptoBulkEntry x + uptoBulkEntries r
def uptoBulkEntry {H : Type} : Lit × DataW H → Nat
  | (.string bytes, d) => bytes.length + uptoBulk d + 1
  | (_, d) => uptoBulk d + 1
 end
def uptoSmall : (H : Type) → List (DataW H) → Bool := fun _ ds => decide (uptoBulkAll ds ≤ 1048576)
def OpenSpec.upto (s : _root_.Go.ChangeSpec) : _root_.Go.OpenSpec := { _root_.Go.OpenSpec.ofChange s with cond := some uptoSmall }

/-- 'laws.FnOrbits', WHERE WHAT IT READS IS OF BULK AT MOST 1048576: true; the input reads as it did. -/
def fnOrbitsUptoRow : OpenClaim := { program := "ythjoegoeaiemdaa", sum := "c008270b727508ca166934a7ae20b8eff22c98064dde2b2b6dc99c8759e5a453", func := "loop.example/g01000/laws.FnOrbits", spec := "fnOrbits", unfollowed := true, recurses := true, apart := false, narrowed := true }
def FnOrbitsUptoSaid : Prop := fnOrbitsUptoRow.holds Try.pinned (OpenSpec.upto fnOrbitsSpec)

/-- 'laws.FnSystems', WHERE WHAT IT READS IS OF BULK AT MOST 1048576: true; the input reads as it did. -/
def fnSystemsUptoRow : OpenClaim := { program := "ythjoegoeaiemdaa", sum := "c008270b727508ca166934a7ae20b8eff22c98064dde2b2b6dc99c8759e5a453", func := "loop.example/g01000/laws.FnSystems", spec := "fnSystems", apart := false, narrowed := true }
def FnSystemsUptoSaid : Prop := fnSystemsUptoRow.holds Try.pinned (OpenSpec.upto fnSystemsSpec)

/-- 'laws.FnCarries', WHERE WHAT IT READS IS OF BULK AT MOST 1048576: true; the input reads as it did. -/
def fnCarriesUptoRow : OpenClaim := { program := "ythjoegoeaiemdaa", sum := "c008270b727508ca166934a7ae20b8eff22c98064dde2b2b6dc99c8759e5a453", func := "loop.example/g01000/laws.FnCarries", spec := "fnCarries", unfollowed := true, recurses := true, apart := false, narrowed := true }
def FnCarriesUptoSaid : Prop := fnCarriesUptoRow.holds Try.pinned (OpenSpec.upto fnCarriesSpec)

/-- 'laws.FnAbsolutes', WHERE WHAT IT READS IS OF BULK AT MOST 1048576: true; the input reads as it did. -/
def fnAbsolutesUptoRow : OpenClaim := { program := "ythjoegoeaiemdaa", sum := "c008270b727508ca166934a7ae20b8eff22c98064dde2b2b6dc99c8759e5a453", func := "loop.example/g01000/laws.FnAbsolutes", spec := "fnAbsolutes", apart := false, narrowed := true }
def FnAbsolutesUptoSaid : Prop := fnAbsolutesUptoRow.holds Try.pinned (OpenSpec.upto fnAbsolutesSpec)

end Rows
end Go.Proofs.Ythjoegoeaiemdaa
