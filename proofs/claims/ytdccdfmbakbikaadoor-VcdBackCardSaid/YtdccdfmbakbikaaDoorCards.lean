/-
  DERIVED. GIVEN WITH THE SEED: THE CARDS: each row of YtdccdfmbakbikaaDoorRows.lean that lists a variable, with what it lists TIED to the program's text (the seventh form; the later family's looks); each row that meets fmt, with fmt's text TOLD by the authors' own Lean function (tested against real Go, not proved from fmt's source: count such statements apart). THE CARD IS WHAT COUNTS. Prove the row's statement (the work); the ties are given (YtdccdfmbakbikaaDoorTie.lean); close each card by the builder's one call (the guide's Derived/Test/ToyasCard.lean, 'card_holds'). Laid BY PROGRAM, IN A SANDBOX (cutbox-door.mjs). By AI agents, Wed Nov 11 2026. No macro, syntax, notation, axiom, sorry.
-/
import Derived.Test.YtdccdfmbakbikaaDoorRows
import GoSem.ClaimSeven
namespace Go.Proofs.YtdccdfmbakbikaaDoor
namespace Rows

/-- THE TIED CARD OF 'silkwormlaw19.VcdBack'. -/
def vcdBackCard : Claim7 := { stood := { row := vcdBackRow, standIns := [], harness := (true, "c0675e7fcdce54fad6cccf0a5c4f3fb0b72c3b35b14f5c09ac05f642aaa97eef"), looks := true }, kinds := [], alts := [], laidByText := true, laidKinds := [.data, .data, .data, .data, .sentinel, .sentinel, .pinned], laidTests := true, laidLooks := .later }
def VcdBackCardSaid : Prop := Claim7.holds Tryd.pinned (.plain (OpenSpec.ofChange vcdBackSpec)) vcdBackCard

/-- THE TIED CARD OF 'silkwormlaw19.VcdCodes'. -/
def vcdCodesCard : Claim7 := { stood := { row := vcdCodesRow, standIns := [], harness := (true, "c0675e7fcdce54fad6cccf0a5c4f3fb0b72c3b35b14f5c09ac05f642aaa97eef"), looks := true }, kinds := [], alts := [], laidByText := true, laidKinds := [.data, .data, .data, .data, .sentinel, .sentinel, .pinned], laidTests := true, laidLooks := .later }
def VcdCodesCardSaid : Prop := Claim7.holds Tryd.pinned (.plain (OpenSpec.ofChange vcdCodesSpec)) vcdCodesCard

/-- THE TIED CARD OF 'silkwormlaw19.VcdBegins'. -/
def vcdBeginsCard : Claim7 := { stood := { row := vcdBeginsRow, standIns := [], harness := (true, "c0675e7fcdce54fad6cccf0a5c4f3fb0b72c3b35b14f5c09ac05f642aaa97eef"), looks := true }, kinds := [], alts := [], laidByText := true, laidKinds := [.data, .data, .data, .data, .sentinel, .sentinel, .pinned], laidTests := true, laidLooks := .later }
def VcdBeginsCardSaid : Prop := Claim7.holds Tryd.pinned (.plain (OpenSpec.ofChange vcdBeginsSpec)) vcdBeginsCard

/-- THE TIED CARD OF 'silkwormlaw19.VcdTimes'. -/
def vcdTimesCard : Claim7 := { stood := { row := vcdTimesRow, standIns := [], harness := (true, "c0675e7fcdce54fad6cccf0a5c4f3fb0b72c3b35b14f5c09ac05f642aaa97eef"), looks := true }, kinds := [], alts := [], laidByText := true, laidKinds := [.data, .data, .data, .data, .sentinel, .sentinel, .pinned], laidTests := true, laidLooks := .later }
def VcdTimesCardSaid : Prop := Claim7.holds Tryd.pinned (.plain (OpenSpec.ofChange vcdTimesSpec)) vcdTimesCard

/-- THE SECOND FORM's CARD OF 'silkwormlaw19.VcdBack'. -/
def vcdBackUptoCard : Claim7 := { stood := { row := vcdBackUptoRow, standIns := [], harness := (true, "c0675e7fcdce54fad6cccf0a5c4f3fb0b72c3b35b14f5c09ac05f642aaa97eef"), looks := true }, kinds := [], alts := [], laidByText := true, laidKinds := [.data, .data, .data, .data, .sentinel, .sentinel, .pinned], laidTests := true, laidLooks := .later }
def VcdBackUptoCardSaid : Prop := Claim7.holds Tryd.pinned (.plain (OpenSpec.upto vcdBackSpec)) vcdBackUptoCard

/-- THE SECOND FORM's CARD OF 'silkwormlaw19.VcdCodes'. -/
def vcdCodesUptoCard : Claim7 := { stood := { row := vcdCodesUptoRow, standIns := [], harness := (true, "c0675e7fcdce54fad6cccf0a5c4f3fb0b72c3b35b14f5c09ac05f642aaa97eef"), looks := true }, kinds := [], alts := [], laidByText := true, laidKinds := [.data, .data, .data, .data, .sentinel, .sentinel, .pinned], laidTests := true, laidLooks := .later }
def VcdCodesUptoCardSaid : Prop := Claim7.holds Tryd.pinned (.plain (OpenSpec.upto vcdCodesSpec)) vcdCodesUptoCard

/-- THE SECOND FORM's CARD OF 'silkwormlaw19.VcdBegins'. -/
def vcdBeginsUptoCard : Claim7 := { stood := { row := vcdBeginsUptoRow, standIns := [], harness := (true, "c0675e7fcdce54fad6cccf0a5c4f3fb0b72c3b35b14f5c09ac05f642aaa97eef"), looks := true }, kinds := [], alts := [], laidByText := true, laidKinds := [.data, .data, .data, .data, .sentinel, .sentinel, .pinned], laidTests := true, laidLooks := .later }
def VcdBeginsUptoCardSaid : Prop := Claim7.holds Tryd.pinned (.plain (OpenSpec.upto vcdBeginsSpec)) vcdBeginsUptoCard

/-- THE SECOND FORM's CARD OF 'silkwormlaw19.VcdTimes'. -/
def vcdTimesUptoCard : Claim7 := { stood := { row := vcdTimesUptoRow, standIns := [], harness := (true, "c0675e7fcdce54fad6cccf0a5c4f3fb0b72c3b35b14f5c09ac05f642aaa97eef"), looks := true }, kinds := [], alts := [], laidByText := true, laidKinds := [.data, .data, .data, .data, .sentinel, .sentinel, .pinned], laidTests := true, laidLooks := .later }
def VcdTimesUptoCardSaid : Prop := Claim7.holds Tryd.pinned (.plain (OpenSpec.upto vcdTimesSpec)) vcdTimesUptoCard
end Rows
end Go.Proofs.YtdccdfmbakbikaaDoor
