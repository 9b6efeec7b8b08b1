/-
  DERIVED. GIVEN WITH THE SEED: THE CARDS: each row of YthoneahamnmjlaaGreatDoorRows.lean that lists a variable, with what it lists TIED to the program's text (the seventh form; the later family's looks); each row that meets fmt, with fmt's text TOLD by the authors' own Lean function (tested against real Go, not proved from fmt's source: count such statements apart). THE CARD IS WHAT COUNTS. Prove the row's statement (the work); the ties are given (YthoneahamnmjlaaGreatDoorTie.lean); close each card by the builder's one call (the guide's Derived/Test/ToyasCard.lean, 'card_holds'). Laid BY PROGRAM, IN A SANDBOX (cutbox-door.mjs). By AI agents, Wed Nov 11 2026. No macro, syntax, notation, axiom, sorry.
-/
import Derived.Test.YthoneahamnmjlaaGreatDoorRows
import GoSem.ClaimSeven
namespace Go.Proofs.YthoneahamnmjlaaGreatDoor
namespace Rows

/-- THE TIED CARD OF 'colanderlaw17.PrintPlain'. -/
def printPlainCard : Claim7 := { stood := { row := printPlainRow, standIns := [], harness := (true, "e3af4ba5d3e441911d87f128be5a515cee970a80903c505cf18ecf605bc52835"), looks := true }, kinds := [], alts := [], laidByText := true, laidKinds := [.data, .data, .data], laidTests := true, laidLooks := .later }
def PrintPlainCardSaid : Prop := Claim7.holds Tryz.pinned (.plain (OpenSpec.ofChange printPlainSpec)) printPlainCard

/-- THE TIED CARD OF 'colanderlaw17.PrintTexts'. -/
def printTextsCard : Claim7 := { stood := { row := printTextsRow, standIns := [], harness := (true, "e3af4ba5d3e441911d87f128be5a515cee970a80903c505cf18ecf605bc52835"), looks := true }, kinds := [], alts := [], laidByText := true, laidKinds := [.data, .data, .data], laidTests := true, laidLooks := .later }
def PrintTextsCardSaid : Prop := Claim7.holds Tryz.pinned (.plain (OpenSpec.ofChange printTextsSpec)) printTextsCard

/-- THE TIED CARD OF 'colanderlaw17.PrintNames'. -/
def printNamesCard : Claim7 := { stood := { row := printNamesRow, standIns := [], harness := (true, "e3af4ba5d3e441911d87f128be5a515cee970a80903c505cf18ecf605bc52835"), looks := true }, kinds := [], alts := [], laidByText := true, laidKinds := [.data, .data, .data], laidTests := true, laidLooks := .later }
def PrintNamesCardSaid : Prop := Claim7.holds Tryz.pinned (.plain (OpenSpec.ofChange printNamesSpec)) printNamesCard

/-- THE TIED CARD OF 'colanderlaw17.PrintBack'. -/
def printBackCard : Claim7 := { stood := { row := printBackRow, standIns := [], harness := (true, "e3af4ba5d3e441911d87f128be5a515cee970a80903c505cf18ecf605bc52835"), looks := true }, kinds := [], alts := [], laidByText := true, laidKinds := [.data, .data, .data], laidTests := true, laidLooks := .later }
def PrintBackCardSaid : Prop := Claim7.holds Tryz.pinned (.plain (OpenSpec.ofChange printBackSpec)) printBackCard

/-- THE TIED CARD OF 'colanderlaw17.PrintTurns'. -/
def printTurnsCard : Claim7 := { stood := { row := printTurnsRow, standIns := [], harness := (true, "e3af4ba5d3e441911d87f128be5a515cee970a80903c505cf18ecf605bc52835"), looks := true }, kinds := [], alts := [], laidByText := true, laidKinds := [.data, .data, .data], laidTests := true, laidLooks := .later }
def PrintTurnsCardSaid : Prop := Claim7.holds Tryz.pinned (.plain (OpenSpec.ofChange printTurnsSpec)) printTurnsCard

/-- THE SECOND FORM's CARD OF 'colanderlaw17.PrintPlain'. -/
def printPlainUptoCard : Claim7 := { stood := { row := printPlainUptoRow, standIns := [], harness := (true, "e3af4ba5d3e441911d87f128be5a515cee970a80903c505cf18ecf605bc52835"), looks := true }, kinds := [], alts := [], laidByText := true, laidKinds := [.data, .data, .data], laidTests := true, laidLooks := .later }
def PrintPlainUptoCardSaid : Prop := Claim7.holds Tryz.pinned (.plain (OpenSpec.upto printPlainSpec)) printPlainUptoCard

/-- THE SECOND FORM's CARD OF 'colanderlaw17.PrintTexts'. -/
def printTextsUptoCard : Claim7 := { stood := { row := printTextsUptoRow, standIns := [], harness := (true, "e3af4ba5d3e441911d87f128be5a515cee970a80903c505cf18ecf605bc52835"), looks := true }, kinds := [], alts := [], laidByText := true, laidKinds := [.data, .data, .data], laidTests := true, laidLooks := .later }
def PrintTextsUptoCardSaid : Prop := Claim7.holds Tryz.pinned (.plain (OpenSpec.upto printTextsSpec)) printTextsUptoCard

/-- THE SECOND FORM's CARD OF 'colanderlaw17.PrintNames'. -/
def printNamesUptoCard : Claim7 := { stood := { row := printNamesUptoRow, standIns := [], harness := (true, "e3af4ba5d3e441911d87f128be5a515cee970a80903c505cf18ecf605bc52835"), looks := true }, kinds := [], alts := [], laidByText := true, laidKinds := [.data, .data, .data], laidTests := true, laidLooks := .later }
def PrintNamesUptoCardSaid : Prop := Claim7.holds Tryz.pinned (.plain (OpenSpec.upto printNamesSpec)) printNamesUptoCard

/-- THE SECOND FORM's CARD OF 'colanderlaw17.PrintBack'. -/
def printBackUptoCard : Claim7 := { stood := { row := printBackUptoRow, standIns := [], harness := (true, "e3af4ba5d3e441911d87f128be5a515cee970a80903c505cf18ecf605bc52835"), looks := true }, kinds := [], alts := [], laidByText := true, laidKinds := [.data, .data, .data], laidTests := true, laidLooks := .later }
def PrintBackUptoCardSaid : Prop := Claim7.holds Tryz.pinned (.plain (OpenSpec.upto printBackSpec)) printBackUptoCard

/-- THE SECOND FORM's CARD OF 'colanderlaw17.PrintTurns'. -/
def printTurnsUptoCard : Claim7 := { stood := { row := printTurnsUptoRow, standIns := [], harness := (true, "e3af4ba5d3e441911d87f128be5a515cee970a80903c505cf18ecf605bc52835"), looks := true }, kinds := [], alts := [], laidByText := true, laidKinds := [.data, .data, .data], laidTests := true, laidLooks := .later }
def PrintTurnsUptoCardSaid : Prop := Claim7.holds Tryz.pinned (.plain (OpenSpec.upto printTurnsSpec)) printTurnsUptoCard
end Rows
end Go.Proofs.YthoneahamnmjlaaGreatDoor
