/-
  DERIVED. GIVEN WITH THE SEED: THE CARDS: each row of YtelhoddamlkfhaaGreatDoorRows.lean that lists a variable, with what it lists TIED to the program's text (the seventh form; the later family's looks); each row that meets fmt, with fmt's text TOLD by the authors' own Lean function (tested against real Go, not proved from fmt's source: count such statements apart). THE CARD IS WHAT COUNTS. Prove the row's statement (the work); the ties are given (YtelhoddamlkfhaaGreatDoorTie.lean); close each card by the builder's one call (the guide's Derived/Test/ToyasCard.lean, 'card_holds'). Laid BY PROGRAM, IN A SANDBOX (cutbox-door.mjs). By AI agents, Wed Nov 11 2026. No macro, syntax, notation, axiom, sorry.
-/
import Derived.Test.YtelhoddamlkfhaaGreatDoorRows
import GoSem.ClaimSeven
namespace Go.Proofs.YtelhoddamlkfhaaGreatDoor
namespace Rows

/-- THE TIED CARD OF 'silkwormlaw05.PrinterPrints'. -/
def printerPrintsCard : Claim7 := { stood := { row := printerPrintsRow, standIns := [], harness := (true, "0d7fea6db2221a7b229e0992e32c7a7912d9e46f79c7a2caacbce91d2d1b0417"), looks := true }, kinds := [], alts := [], laidByText := true, laidKinds := [.data, .data, .data, .data, .sentinel, .sentinel, .pinned], laidTests := true, laidLooks := .later }
def PrinterPrintsCardSaid : Prop := Claim7.holds Tryz.pinned (.plain (OpenSpec.ofChange printerPrintsSpec)) printerPrintsCard

/-- THE TIED CARD OF 'silkwormlaw05.PrinterTrees'. -/
def printerTreesCard : Claim7 := { stood := { row := printerTreesRow, standIns := [], harness := (true, "0d7fea6db2221a7b229e0992e32c7a7912d9e46f79c7a2caacbce91d2d1b0417"), looks := true }, kinds := [], alts := [], laidByText := true, laidKinds := [.data, .data, .data, .data, .sentinel, .sentinel, .pinned], laidTests := true, laidLooks := .later }
def PrinterTreesCardSaid : Prop := Claim7.holds Tryz.pinned (.plain (OpenSpec.ofChange printerTreesSpec)) printerTreesCard

/-- THE TIED CARD OF 'silkwormlaw05.PrinterExprs'. -/
def printerExprsCard : Claim7 := { stood := { row := printerExprsRow, standIns := [], harness := (true, "0d7fea6db2221a7b229e0992e32c7a7912d9e46f79c7a2caacbce91d2d1b0417"), looks := true }, kinds := [], alts := [], laidByText := true, laidKinds := [.data, .data, .data, .data, .sentinel, .sentinel, .pinned], laidTests := true, laidLooks := .later }
def PrinterExprsCardSaid : Prop := Claim7.holds Tryz.pinned (.plain (OpenSpec.ofChange printerExprsSpec)) printerExprsCard

/-- THE TIED CARD OF 'silkwormlaw05.PrinterBack'. -/
def printerBackCard : Claim7 := { stood := { row := printerBackRow, standIns := [], harness := (true, "0d7fea6db2221a7b229e0992e32c7a7912d9e46f79c7a2caacbce91d2d1b0417"), looks := true }, kinds := [], alts := [], laidByText := true, laidKinds := [.data, .data, .data, .data, .sentinel, .sentinel, .pinned], laidTests := true, laidLooks := .later }
def PrinterBackCardSaid : Prop := Claim7.holds Tryz.pinned (.plain (OpenSpec.ofChange printerBackSpec)) printerBackCard

/-- THE TIED CARD OF 'silkwormlaw05.PrinterBrackets'. -/
def printerBracketsCard : Claim7 := { stood := { row := printerBracketsRow, standIns := [], harness := (true, "0d7fea6db2221a7b229e0992e32c7a7912d9e46f79c7a2caacbce91d2d1b0417"), looks := true }, kinds := [], alts := [], laidByText := true, laidKinds := [.data, .data, .data, .data, .sentinel, .sentinel, .pinned], laidTests := true, laidLooks := .later }
def PrinterBracketsCardSaid : Prop := Claim7.holds Tryz.pinned (.plain (OpenSpec.ofChange printerBracketsSpec)) printerBracketsCard

/-- THE TIED CARD OF 'silkwormlaw05.PrinterNumbers'. -/
def printerNumbersCard : Claim7 := { stood := { row := printerNumbersRow, standIns := [], harness := (true, "0d7fea6db2221a7b229e0992e32c7a7912d9e46f79c7a2caacbce91d2d1b0417"), looks := true }, kinds := [], alts := [], laidByText := true, laidKinds := [.data, .data, .data, .data, .sentinel, .sentinel, .pinned], laidTests := true, laidLooks := .later }
def PrinterNumbersCardSaid : Prop := Claim7.holds Tryz.pinned (.plain (OpenSpec.ofChange printerNumbersSpec)) printerNumbersCard

/-- THE SECOND FORM's CARD OF 'silkwormlaw05.PrinterPrints'. -/
def printerPrintsUptoCard : Claim7 := { stood := { row := printerPrintsUptoRow, standIns := [], harness := (true, "0d7fea6db2221a7b229e0992e32c7a7912d9e46f79c7a2caacbce91d2d1b0417"), looks := true }, kinds := [], alts := [], laidByText := true, laidKinds := [.data, .data, .data, .data, .sentinel, .sentinel, .pinned], laidTests := true, laidLooks := .later }
def PrinterPrintsUptoCardSaid : Prop := Claim7.holds Tryz.pinned (.plain (OpenSpec.upto printerPrintsSpec)) printerPrintsUptoCard

/-- THE SECOND FORM's CARD OF 'silkwormlaw05.PrinterTrees'. -/
def printerTreesUptoCard : Claim7 := { stood := { row := printerTreesUptoRow, standIns := [], harness := (true, "0d7fea6db2221a7b229e0992e32c7a7912d9e46f79c7a2caacbce91d2d1b0417"), looks := true }, kinds := [], alts := [], laidByText := true, laidKinds := [.data, .data, .data, .data, .sentinel, .sentinel, .pinned], laidTests := true, laidLooks := .later }
def PrinterTreesUptoCardSaid : Prop := Claim7.holds Tryz.pinned (.plain (OpenSpec.upto printerTreesSpec)) printerTreesUptoCard

/-- THE SECOND FORM's CARD OF 'silkwormlaw05.PrinterExprs'. -/
def printerExprsUptoCard : Claim7 := { stood := { row := printerExprsUptoRow, standIns := [], harness := (true, "0d7fea6db2221a7b229e0992e32c7a7912d9e46f79c7a2caacbce91d2d1b0417"), looks := true }, kinds := [], alts := [], laidByText := true, laidKinds := [.data, .data, .data, .data, .sentinel, .sentinel, .pinned], laidTests := true, laidLooks := .later }
def PrinterExprsUptoCardSaid : Prop := Claim7.holds Tryz.pinned (.plain (OpenSpec.upto printerExprsSpec)) printerExprsUptoCard

/-- THE SECOND FORM's CARD OF 'silkwormlaw05.PrinterBack'. -/
def printerBackUptoCard : Claim7 := { stood := { row := printerBackUptoRow, standIns := [], harness := (true, "0d7fea6db2221a7b229e0992e32c7a7912d9e46f79c7a2caacbce91d2d1b0417"), looks := true }, kinds := [], alts := [], laidByText := true, laidKinds := [.data, .data, .data, .data, .sentinel, .sentinel, .pinned], laidTests := true, laidLooks := .later }
def PrinterBackUptoCardSaid : Prop := Claim7.holds Tryz.pinned (.plain (OpenSpec.upto printerBackSpec)) printerBackUptoCard

/-- THE SECOND FORM's CARD OF 'silkwormlaw05.PrinterBrackets'. -/
def printerBracketsUptoCard : Claim7 := { stood := { row := printerBracketsUptoRow, standIns := [], harness := (true, "0d7fea6db2221a7b229e0992e32c7a7912d9e46f79c7a2caacbce91d2d1b0417"), looks := true }, kinds := [], alts := [], laidByText := true, laidKinds := [.data, .data, .data, .data, .sentinel, .sentinel, .pinned], laidTests := true, laidLooks := .later }
def PrinterBracketsUptoCardSaid : Prop := Claim7.holds Tryz.pinned (.plain (OpenSpec.upto printerBracketsSpec)) printerBracketsUptoCard

/-- THE SECOND FORM's CARD OF 'silkwormlaw05.PrinterNumbers'. -/
def printerNumbersUptoCard : Claim7 := { stood := { row := printerNumbersUptoRow, standIns := [], harness := (true, "0d7fea6db2221a7b229e0992e32c7a7912d9e46f79c7a2caacbce91d2d1b0417"), looks := true }, kinds := [], alts := [], laidByText := true, laidKinds := [.data, .data, .data, .data, .sentinel, .sentinel, .pinned], laidTests := true, laidLooks := .later }
def PrinterNumbersUptoCardSaid : Prop := Claim7.holds Tryz.pinned (.plain (OpenSpec.upto printerNumbersSpec)) printerNumbersUptoCard
end Rows
end Go.Proofs.YtelhoddamlkfhaaGreatDoor
