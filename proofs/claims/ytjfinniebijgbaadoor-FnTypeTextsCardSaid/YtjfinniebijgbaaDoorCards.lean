/-
  DERIVED. GIVEN WITH THE SEED: THE CARDS: each row of YtjfinniebijgbaaDoorRows.lean that lists a variable, with what it lists TIED to the program's text (the seventh form; the later family's looks); each row that meets fmt, with fmt's text TOLD by the authors' own Lean function (tested against real Go, not proved from fmt's source: count such statements apart). THE CARD IS WHAT COUNTS. Prove the row's statement (the work); the ties are given (YtjfinniebijgbaaDoorTie.lean); close each card by the builder's one call (the guide's Derived/Test/ToyasCard.lean, 'card_holds'). Laid BY PROGRAM, IN A SANDBOX (cutbox-door.mjs). By AI agents, Wed Nov 11 2026. No macro, syntax, notation, axiom, sorry.
-/
import Derived.Test.YtjfinniebijgbaaDoorRows
import GoSem.ClaimSeven
namespace Go.Proofs.YtjfinniebijgbaaDoor
namespace Rows

/-- THE TIED CARD OF 'laws.FnExactTypeText'. -/
def fnExactTypeTextCard : Claim7 := { stood := { row := fnExactTypeTextRow, standIns := [], harness := (true, "12e7beb80fec61eb6c2b0d9be0f92ae59cc5d37078c83135907d8d27a17b07f7"), looks := true }, kinds := [], alts := [], laidByText := true, laidKinds := [.data, .data, .data, .data, .pinned], laidTests := true, laidLooks := .later }
def FnExactTypeTextCardSaid : Prop := Claim7.holds Tryd.pinned (.plain (OpenSpec.ofChange fnExactTypeTextSpec)) fnExactTypeTextCard

/-- THE TIED CARD OF 'laws.FnExactIsConsoleLine'. -/
def fnExactIsConsoleLineCard : Claim7 := { stood := { row := fnExactIsConsoleLineRow, standIns := [], harness := (true, "12e7beb80fec61eb6c2b0d9be0f92ae59cc5d37078c83135907d8d27a17b07f7"), looks := true }, kinds := [], alts := [], laidByText := true, laidKinds := [.data, .data, .data, .data, .sentinel, .sentinel, .pinned], laidTests := true, laidLooks := .later }
def FnExactIsConsoleLineCardSaid : Prop := Claim7.holds Tryd.pinned (.plain (OpenSpec.ofChange fnExactIsConsoleLineSpec)) fnExactIsConsoleLineCard

/-- THE TIED CARD OF 'laws.FnExactReadType'. -/
def fnExactReadTypeCard : Claim7 := { stood := { row := fnExactReadTypeRow, standIns := [], harness := (true, "12e7beb80fec61eb6c2b0d9be0f92ae59cc5d37078c83135907d8d27a17b07f7"), looks := true }, kinds := [], alts := [], laidByText := true, laidKinds := [.data, .data, .data, .data, .sentinel, .sentinel, .pinned], laidTests := true, laidLooks := .later }
def FnExactReadTypeCardSaid : Prop := Claim7.holds Tryd.pinned (.plain (OpenSpec.ofChange fnExactReadTypeSpec)) fnExactReadTypeCard

/-- THE TIED CARD OF 'laws.FnTypeTexts'. -/
def fnTypeTextsCard : Claim7 := { stood := { row := fnTypeTextsRow, standIns := [], harness := (true, "12e7beb80fec61eb6c2b0d9be0f92ae59cc5d37078c83135907d8d27a17b07f7"), looks := true }, kinds := [], alts := [], laidByText := true, laidKinds := [.data, .data, .data, .data, .sentinel, .sentinel, .pinned], laidTests := true, laidLooks := .later }
def FnTypeTextsCardSaid : Prop := Claim7.holds Tryd.pinned (.plain (OpenSpec.ofChange fnTypeTextsSpec)) fnTypeTextsCard

/-- THE SECOND FORM's CARD OF 'laws.FnExactTypeText'. -/
def fnExactTypeTextUptoCard : Claim7 := { stood := { row := fnExactTypeTextUptoRow, standIns := [], harness := (true, "12e7beb80fec61eb6c2b0d9be0f92ae59cc5d37078c83135907d8d27a17b07f7"), looks := true }, kinds := [], alts := [], laidByText := true, laidKinds := [.data, .data, .data, .data, .pinned], laidTests := true, laidLooks := .later }
def FnExactTypeTextUptoCardSaid : Prop := Claim7.holds Tryd.pinned (.plain (OpenSpec.upto fnExactTypeTextSpec)) fnExactTypeTextUptoCard

/-- THE SECOND FORM's CARD OF 'laws.FnExactIsConsoleLine'. -/
def fnExactIsConsoleLineUptoCard : Claim7 := { stood := { row := fnExactIsConsoleLineUptoRow, standIns := [], harness := (true, "12e7beb80fec61eb6c2b0d9be0f92ae59cc5d37078c83135907d8d27a17b07f7"), looks := true }, kinds := [], alts := [], laidByText := true, laidKinds := [.data, .data, .data, .data, .sentinel, .sentinel, .pinned], laidTests := true, laidLooks := .later }
def FnExactIsConsoleLineUptoCardSaid : Prop := Claim7.holds Tryd.pinned (.plain (OpenSpec.upto fnExactIsConsoleLineSpec)) fnExactIsConsoleLineUptoCard

/-- THE SECOND FORM's CARD OF 'laws.FnExactReadType'. -/
def fnExactReadTypeUptoCard : Claim7 := { stood := { row := fnExactReadTypeUptoRow, standIns := [], harness := (true, "12e7beb80fec61eb6c2b0d9be0f92ae59cc5d37078c83135907d8d27a17b07f7"), looks := true }, kinds := [], alts := [], laidByText := true, laidKinds := [.data, .data, .data, .data, .sentinel, .sentinel, .pinned], laidTests := true, laidLooks := .later }
def FnExactReadTypeUptoCardSaid : Prop := Claim7.holds Tryd.pinned (.plain (OpenSpec.upto fnExactReadTypeSpec)) fnExactReadTypeUptoCard

/-- THE SECOND FORM's CARD OF 'laws.FnTypeTexts'. -/
def fnTypeTextsUptoCard : Claim7 := { stood := { row := fnTypeTextsUptoRow, standIns := [], harness := (true, "12e7beb80fec61eb6c2b0d9be0f92ae59cc5d37078c83135907d8d27a17b07f7"), looks := true }, kinds := [], alts := [], laidByText := true, laidKinds := [.data, .data, .data, .data, .sentinel, .sentinel, .pinned], laidTests := true, laidLooks := .later }
def FnTypeTextsUptoCardSaid : Prop := Claim7.holds Tryd.pinned (.plain (OpenSpec.upto fnTypeTextsSpec)) fnTypeTextsUptoCard
end Rows
end Go.Proofs.YtjfinniebijgbaaDoor
