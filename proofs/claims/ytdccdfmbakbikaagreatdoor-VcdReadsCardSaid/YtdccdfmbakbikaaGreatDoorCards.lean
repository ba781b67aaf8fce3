/-
  DERIVED. GIVEN WITH THE SEED: THE CARDS: each row of YtdccdfmbakbikaaGreatDoorRows.lean that lists a variable, with what it lists TIED to the program's text (the seventh form; the later family's looks); each row that meets fmt, with fmt's text TOLD by the authors' own Lean function (tested against real Go, not proved from fmt's source: count such statements apart). THE CARD IS WHAT COUNTS. Prove the row's statement (the work); the ties are given (YtdccdfmbakbikaaGreatDoorTie.lean); close each card by the builder's one call (the guide's Derived/Test/ToyasCard.lean, 'card_holds'). Laid BY PROGRAM, IN A SANDBOX (cutbox-door.mjs). By AI agents, Wed Nov 11 2026. No macro, syntax, notation, axiom, sorry.
-/
import Derived.Test.YtdccdfmbakbikaaGreatDoorRows
import GoSem.ClaimSeven
namespace Go.Proofs.YtdccdfmbakbikaaGreatDoor
namespace Rows

/-- THE TIED CARD OF 'silkwormlaw19.VcdWrites'. -/
def vcdWritesCard : Claim7 := { stood := { row := vcdWritesRow, standIns := [], harness := (true, "b4659950a20d578ec1a7c009a7f790669eb39fff84de1bdd4eee193ecd48b58a"), looks := true }, kinds := [], alts := [], laidByText := true, laidKinds := [.data, .data, .data, .data, .sentinel, .sentinel, .pinned], laidTests := true, laidLooks := .later }
def VcdWritesCardSaid : Prop := Claim7.holds Tryz.pinned (.plain (OpenSpec.ofChange vcdWritesSpec)) vcdWritesCard

/-- THE TIED CARD OF 'silkwormlaw19.VcdReads'. -/
def vcdReadsCard : Claim7 := { stood := { row := vcdReadsRow, standIns := [], harness := (true, "b4659950a20d578ec1a7c009a7f790669eb39fff84de1bdd4eee193ecd48b58a"), looks := true }, kinds := [], alts := [], laidByText := true, laidKinds := [.data, .data, .data, .data, .sentinel, .sentinel, .pinned], laidTests := true, laidLooks := .later }
def VcdReadsCardSaid : Prop := Claim7.holds Tryz.pinned (.plain (OpenSpec.ofChange vcdReadsSpec)) vcdReadsCard

/-- THE TIED CARD OF 'silkwormlaw19.VcdLong'. -/
def vcdLongCard : Claim7 := { stood := { row := vcdLongRow, standIns := [], harness := (true, "b4659950a20d578ec1a7c009a7f790669eb39fff84de1bdd4eee193ecd48b58a"), looks := true }, kinds := [], alts := [], laidByText := true, laidKinds := [.data, .data, .data, .data, .sentinel, .sentinel, .pinned], laidTests := true, laidLooks := .later }
def VcdLongCardSaid : Prop := Claim7.holds Tryz.pinned (.plain (OpenSpec.ofChange vcdLongSpec)) vcdLongCard

/-- THE SECOND FORM's CARD OF 'silkwormlaw19.VcdWrites'. -/
def vcdWritesUptoCard : Claim7 := { stood := { row := vcdWritesUptoRow, standIns := [], harness := (true, "b4659950a20d578ec1a7c009a7f790669eb39fff84de1bdd4eee193ecd48b58a"), looks := true }, kinds := [], alts := [], laidByText := true, laidKinds := [.data, .data, .data, .data, .sentinel, .sentinel, .pinned], laidTests := true, laidLooks := .later }
def VcdWritesUptoCardSaid : Prop := Claim7.holds Tryz.pinned (.plain (OpenSpec.upto vcdWritesSpec)) vcdWritesUptoCard

/-- THE SECOND FORM's CARD OF 'silkwormlaw19.VcdReads'. -/
def vcdReadsUptoCard : Claim7 := { stood := { row := vcdReadsUptoRow, standIns := [], harness := (true, "b4659950a20d578ec1a7c009a7f790669eb39fff84de1bdd4eee193ecd48b58a"), looks := true }, kinds := [], alts := [], laidByText := true, laidKinds := [.data, .data, .data, .data, .sentinel, .sentinel, .pinned], laidTests := true, laidLooks := .later }
def VcdReadsUptoCardSaid : Prop := Claim7.holds Tryz.pinned (.plain (OpenSpec.upto vcdReadsSpec)) vcdReadsUptoCard

/-- THE SECOND FORM's CARD OF 'silkwormlaw19.VcdLong'. -/
def vcdLongUptoCard : Claim7 := { stood := { row := vcdLongUptoRow, standIns := [], harness := (true, "b4659950a20d578ec1a7c009a7f790669eb39fff84de1bdd4eee193ecd48b58a"), looks := true }, kinds := [], alts := [], laidByText := true, laidKinds := [.data, .data, .data, .data, .sentinel, .sentinel, .pinned], laidTests := true, laidLooks := .later }
def VcdLongUptoCardSaid : Prop := Claim7.holds Tryz.pinned (.plain (OpenSpec.upto vcdLongSpec)) vcdLongUptoCard
end Rows
end Go.Proofs.YtdccdfmbakbikaaGreatDoor
