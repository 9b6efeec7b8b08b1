/-
  DERIVED. GIVEN WITH THE SEED: THE CARDS: each row of YtilbofkpjgcchaaDoorRows.lean that lists a variable, with what it lists TIED to the program's text (the seventh form; the later family's looks); each row that meets fmt, with fmt's text TOLD by the authors' own Lean function (tested against real Go, not proved from fmt's source: count such statements apart). THE CARD IS WHAT COUNTS. Prove the row's statement (the work); the ties are given (YtilbofkpjgcchaaDoorTie.lean); close each card by the builder's one call (the guide's Derived/Test/ToyasCard.lean, 'card_holds'). Laid BY PROGRAM, IN A SANDBOX (cutbox-door.mjs). By AI agents, Wed Nov 11 2026. No macro, syntax, notation, axiom, sorry.
-/
import Derived.Test.YtilbofkpjgcchaaDoorRows
import GoSem.ClaimSeven
namespace Go.Proofs.YtilbofkpjgcchaaDoor
namespace Rows

/-- THE TIED CARD OF 'colanderlaw09.BatchMay'. -/
def batchMayCard : Claim7 := { stood := { row := batchMayRow, standIns := [], harness := (true, "aea72f790f9777beb81b2abcf32ad1015360d047eefd0b0269491d0990ecd023"), looks := false }, kinds := [], alts := [], laidByText := true, laidKinds := [.data], laidTests := true, laidLooks := .later }
def BatchMayCardSaid : Prop := Claim7.holds Tryd.pinned (.plain (OpenSpec.ofChange batchMaySpec)) batchMayCard

/-- THE TIED CARD OF 'colanderlaw09.BatchNames'. -/
def batchNamesCard : Claim7 := { stood := { row := batchNamesRow, standIns := [], harness := (true, "aea72f790f9777beb81b2abcf32ad1015360d047eefd0b0269491d0990ecd023"), looks := false }, kinds := [], alts := [], laidByText := true, laidKinds := [.data], laidTests := true, laidLooks := .later }
def BatchNamesCardSaid : Prop := Claim7.holds Tryd.pinned (.plain (OpenSpec.ofChange batchNamesSpec)) batchNamesCard

/-- THE TIED CARD OF 'colanderlaw09.BatchReads'. -/
def batchReadsCard : Claim7 := { stood := { row := batchReadsRow, standIns := [], harness := (true, "aea72f790f9777beb81b2abcf32ad1015360d047eefd0b0269491d0990ecd023"), looks := false }, kinds := [], alts := [], laidByText := true, laidKinds := [.data], laidTests := true, laidLooks := .later }
def BatchReadsCardSaid : Prop := Claim7.holds Tryd.pinned (.plain (OpenSpec.ofChange batchReadsSpec)) batchReadsCard

/-- THE TIED CARD OF 'colanderlaw09.BatchTexts'. -/
def batchTextsCard : Claim7 := { stood := { row := batchTextsRow, standIns := [], harness := (true, "aea72f790f9777beb81b2abcf32ad1015360d047eefd0b0269491d0990ecd023"), looks := false }, kinds := [], alts := [], laidByText := true, laidKinds := [.data], laidTests := true, laidLooks := .later }
def BatchTextsCardSaid : Prop := Claim7.holds Tryd.pinned (.plain (OpenSpec.ofChange batchTextsSpec)) batchTextsCard

/-- THE TIED CARD OF 'colanderlaw09.BatchBack'. -/
def batchBackCard : Claim7 := { stood := { row := batchBackRow, standIns := [], harness := (true, "aea72f790f9777beb81b2abcf32ad1015360d047eefd0b0269491d0990ecd023"), looks := false }, kinds := [], alts := [], laidByText := true, laidKinds := [.data], laidTests := true, laidLooks := .later }
def BatchBackCardSaid : Prop := Claim7.holds Tryd.pinned (.plain (OpenSpec.ofChange batchBackSpec)) batchBackCard

/-- THE TIED CARD OF 'colanderlaw09.BatchAlone'. -/
def batchAloneCard : Claim7 := { stood := { row := batchAloneRow, standIns := [], harness := (true, "aea72f790f9777beb81b2abcf32ad1015360d047eefd0b0269491d0990ecd023"), looks := false }, kinds := [], alts := [], laidByText := true, laidKinds := [.data, .data, .pinned], laidTests := true, laidLooks := .later }
def BatchAloneCardSaid : Prop := Claim7.holds Tryd.pinned (.plain (OpenSpec.ofChange batchAloneSpec)) batchAloneCard

/-- THE SECOND FORM's CARD OF 'colanderlaw09.BatchMay'. -/
def batchMayUptoCard : Claim7 := { stood := { row := batchMayUptoRow, standIns := [], harness := (true, "aea72f790f9777beb81b2abcf32ad1015360d047eefd0b0269491d0990ecd023"), looks := false }, kinds := [], alts := [], laidByText := true, laidKinds := [.data], laidTests := true, laidLooks := .later }
def BatchMayUptoCardSaid : Prop := Claim7.holds Tryd.pinned (.plain (OpenSpec.upto batchMaySpec)) batchMayUptoCard

/-- THE SECOND FORM's CARD OF 'colanderlaw09.BatchNames'. -/
def batchNamesUptoCard : Claim7 := { stood := { row := batchNamesUptoRow, standIns := [], harness := (true, "aea72f790f9777beb81b2abcf32ad1015360d047eefd0b0269491d0990ecd023"), looks := false }, kinds := [], alts := [], laidByText := true, laidKinds := [.data], laidTests := true, laidLooks := .later }
def BatchNamesUptoCardSaid : Prop := Claim7.holds Tryd.pinned (.plain (OpenSpec.upto batchNamesSpec)) batchNamesUptoCard

/-- THE SECOND FORM's CARD OF 'colanderlaw09.BatchReads'. -/
def batchReadsUptoCard : Claim7 := { stood := { row := batchReadsUptoRow, standIns := [], harness := (true, "aea72f790f9777beb81b2abcf32ad1015360d047eefd0b0269491d0990ecd023"), looks := false }, kinds := [], alts := [], laidByText := true, laidKinds := [.data], laidTests := true, laidLooks := .later }
def BatchReadsUptoCardSaid : Prop := Claim7.holds Tryd.pinned (.plain (OpenSpec.upto batchReadsSpec)) batchReadsUptoCard

/-- THE SECOND FORM's CARD OF 'colanderlaw09.BatchTexts'. -/
def batchTextsUptoCard : Claim7 := { stood := { row := batchTextsUptoRow, standIns := [], harness := (true, "aea72f790f9777beb81b2abcf32ad1015360d047eefd0b0269491d0990ecd023"), looks := false }, kinds := [], alts := [], laidByText := true, laidKinds := [.data], laidTests := true, laidLooks := .later }
def BatchTextsUptoCardSaid : Prop := Claim7.holds Tryd.pinned (.plain (OpenSpec.upto batchTextsSpec)) batchTextsUptoCard

/-- THE SECOND FORM's CARD OF 'colanderlaw09.BatchBack'. -/
def batchBackUptoCard : Claim7 := { stood := { row := batchBackUptoRow, standIns := [], harness := (true, "aea72f790f9777beb81b2abcf32ad1015360d047eefd0b0269491d0990ecd023"), looks := false }, kinds := [], alts := [], laidByText := true, laidKinds := [.data], laidTests := true, laidLooks := .later }
def BatchBackUptoCardSaid : Prop := Claim7.holds Tryd.pinned (.plain (OpenSpec.upto batchBackSpec)) batchBackUptoCard

/-- THE SECOND FORM's CARD OF 'colanderlaw09.BatchAlone'. -/
def batchAloneUptoCard : Claim7 := { stood := { row := batchAloneUptoRow, standIns := [], harness := (true, "aea72f790f9777beb81b2abcf32ad1015360d047eefd0b0269491d0990ecd023"), looks := false }, kinds := [], alts := [], laidByText := true, laidKinds := [.data, .data, .pinned], laidTests := true, laidLooks := .later }
def BatchAloneUptoCardSaid : Prop := Claim7.holds Tryd.pinned (.plain (OpenSpec.upto batchAloneSpec)) batchAloneUptoCard
end Rows
end Go.Proofs.YtilbofkpjgcchaaDoor
