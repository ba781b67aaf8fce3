/-
  DERIVED. GIVEN WITH THE SEED: THE CARDS: each row of YtfegkjmghbdogaaDoorRows.lean that lists a variable, with what it lists TIED to the program's text (the seventh form; the later family's looks); each row that meets fmt, with fmt's text TOLD by the authors' own Lean function (tested against real Go, not proved from fmt's source: count such statements apart). THE CARD IS WHAT COUNTS. Prove the row's statement (the work); the ties are given (YtfegkjmghbdogaaDoorTie.lean); close each card by the builder's one call (the guide's Derived/Test/ToyasCard.lean, 'card_holds'). Laid BY PROGRAM, IN A SANDBOX (cutbox-door.mjs). By AI agents, Wed Nov 11 2026. No macro, syntax, notation, axiom, sorry.
-/
import Derived.Test.YtfegkjmghbdogaaDoorRows
import GoSem.ClaimSeven
namespace Go.Proofs.YtfegkjmghbdogaaDoor
namespace Rows

/-- THE TIED CARD OF 'silkwormlaw02.LexerNumbers'. -/
def lexerNumbersCard : Claim7 := { stood := { row := lexerNumbersRow, standIns := [], harness := (true, "47e20a81f73e0852a0fdfa712f30385a623bd2036b8dca81a620a87fa46490c4"), looks := true }, kinds := [], alts := [], laidByText := true, laidKinds := [.data, .data, .data, .data, .sentinel, .sentinel, .pinned], laidTests := true, laidLooks := .later }
def LexerNumbersCardSaid : Prop := Claim7.holds Tryd.pinned (.plain (OpenSpec.ofChange lexerNumbersSpec)) lexerNumbersCard

/-- THE TIED CARD OF 'silkwormlaw02.LexerPlaces'. -/
def lexerPlacesCard : Claim7 := { stood := { row := lexerPlacesRow, standIns := [], harness := (true, "47e20a81f73e0852a0fdfa712f30385a623bd2036b8dca81a620a87fa46490c4"), looks := true }, kinds := [], alts := [], laidByText := true, laidKinds := [.data, .data, .data, .data, .sentinel, .sentinel, .pinned], laidTests := true, laidLooks := .later }
def LexerPlacesCardSaid : Prop := Claim7.holds Tryd.pinned (.plain (OpenSpec.ofChange lexerPlacesSpec)) lexerPlacesCard

/-- THE TIED CARD OF 'silkwormlaw02.LexerJoins'. -/
def lexerJoinsCard : Claim7 := { stood := { row := lexerJoinsRow, standIns := [], harness := (true, "47e20a81f73e0852a0fdfa712f30385a623bd2036b8dca81a620a87fa46490c4"), looks := true }, kinds := [], alts := [], laidByText := true, laidKinds := [.data, .data, .data, .data, .sentinel, .sentinel, .pinned], laidTests := true, laidLooks := .later }
def LexerJoinsCardSaid : Prop := Claim7.holds Tryd.pinned (.plain (OpenSpec.ofChange lexerJoinsSpec)) lexerJoinsCard

/-- THE TIED CARD OF 'silkwormlaw02.LexerBits'. -/
def lexerBitsCard : Claim7 := { stood := { row := lexerBitsRow, standIns := [], harness := (true, "47e20a81f73e0852a0fdfa712f30385a623bd2036b8dca81a620a87fa46490c4"), looks := true }, kinds := [], alts := [], laidByText := true, laidKinds := [.data, .data, .data, .data, .sentinel, .sentinel, .pinned], laidTests := true, laidLooks := .later }
def LexerBitsCardSaid : Prop := Claim7.holds Tryd.pinned (.plain (OpenSpec.ofChange lexerBitsSpec)) lexerBitsCard

/-- THE TIED CARD OF 'silkwormlaw02.LexerHex'. -/
def lexerHexCard : Claim7 := { stood := { row := lexerHexRow, standIns := [], harness := (true, "47e20a81f73e0852a0fdfa712f30385a623bd2036b8dca81a620a87fa46490c4"), looks := true }, kinds := [], alts := [], laidByText := true, laidKinds := [.data, .data, .data, .data, .sentinel, .sentinel, .pinned], laidTests := true, laidLooks := .later }
def LexerHexCardSaid : Prop := Claim7.holds Tryd.pinned (.plain (OpenSpec.ofChange lexerHexSpec)) lexerHexCard

/-- THE SECOND FORM's CARD OF 'silkwormlaw02.LexerNumbers'. -/
def lexerNumbersUptoCard : Claim7 := { stood := { row := lexerNumbersUptoRow, standIns := [], harness := (true, "47e20a81f73e0852a0fdfa712f30385a623bd2036b8dca81a620a87fa46490c4"), looks := true }, kinds := [], alts := [], laidByText := true, laidKinds := [.data, .data, .data, .data, .sentinel, .sentinel, .pinned], laidTests := true, laidLooks := .later }
def LexerNumbersUptoCardSaid : Prop := Claim7.holds Tryd.pinned (.plain (OpenSpec.upto lexerNumbersSpec)) lexerNumbersUptoCard

/-- THE SECOND FORM's CARD OF 'silkwormlaw02.LexerPlaces'. -/
def lexerPlacesUptoCard : Claim7 := { stood := { row := lexerPlacesUptoRow, standIns := [], harness := (true, "47e20a81f73e0852a0fdfa712f30385a623bd2036b8dca81a620a87fa46490c4"), looks := true }, kinds := [], alts := [], laidByText := true, laidKinds := [.data, .data, .data, .data, .sentinel, .sentinel, .pinned], laidTests := true, laidLooks := .later }
def LexerPlacesUptoCardSaid : Prop := Claim7.holds Tryd.pinned (.plain (OpenSpec.upto lexerPlacesSpec)) lexerPlacesUptoCard

/-- THE SECOND FORM's CARD OF 'silkwormlaw02.LexerJoins'. -/
def lexerJoinsUptoCard : Claim7 := { stood := { row := lexerJoinsUptoRow, standIns := [], harness := (true, "47e20a81f73e0852a0fdfa712f30385a623bd2036b8dca81a620a87fa46490c4"), looks := true }, kinds := [], alts := [], laidByText := true, laidKinds := [.data, .data, .data, .data, .sentinel, .sentinel, .pinned], laidTests := true, laidLooks := .later }
def LexerJoinsUptoCardSaid : Prop := Claim7.holds Tryd.pinned (.plain (OpenSpec.upto lexerJoinsSpec)) lexerJoinsUptoCard

/-- THE SECOND FORM's CARD OF 'silkwormlaw02.LexerBits'. -/
def lexerBitsUptoCard : Claim7 := { stood := { row := lexerBitsUptoRow, standIns := [], harness := (true, "47e20a81f73e0852a0fdfa712f30385a623bd2036b8dca81a620a87fa46490c4"), looks := true }, kinds := [], alts := [], laidByText := true, laidKinds := [.data, .data, .data, .data, .sentinel, .sentinel, .pinned], laidTests := true, laidLooks := .later }
def LexerBitsUptoCardSaid : Prop := Claim7.holds Tryd.pinned (.plain (OpenSpec.upto lexerBitsSpec)) lexerBitsUptoCard

/-- THE SECOND FORM's CARD OF 'silkwormlaw02.LexerHex'. -/
def lexerHexUptoCard : Claim7 := { stood := { row := lexerHexUptoRow, standIns := [], harness := (true, "47e20a81f73e0852a0fdfa712f30385a623bd2036b8dca81a620a87fa46490c4"), looks := true }, kinds := [], alts := [], laidByText := true, laidKinds := [.data, .data, .data, .data, .sentinel, .sentinel, .pinned], laidTests := true, laidLooks := .later }
def LexerHexUptoCardSaid : Prop := Claim7.holds Tryd.pinned (.plain (OpenSpec.upto lexerHexSpec)) lexerHexUptoCard
end Rows
end Go.Proofs.YtfegkjmghbdogaaDoor
