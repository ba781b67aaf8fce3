/-
  DERIVED. GIVEN WITH THE SEED: THE CARDS: each row of YtimjkkcondljeaaGreatDoorRows.lean that lists a variable, with what it lists TIED to the program's text (the seventh form; the later family's looks); each row that meets fmt, with fmt's text TOLD by the authors' own Lean function (tested against real Go, not proved from fmt's source: count such statements apart). THE CARD IS WHAT COUNTS. Prove the row's statement (the work); the ties are given (YtimjkkcondljeaaGreatDoorTie.lean); close each card by the builder's one call (the guide's Derived/Test/ToyasCard.lean, 'card_holds'). Laid BY PROGRAM, IN A SANDBOX (cutbox-door.mjs). By AI agents, Wed Nov 11 2026. No macro, syntax, notation, axiom, sorry.
-/
import Derived.Test.YtimjkkcondljeaaGreatDoorRows
import GoSem.ClaimSeven
namespace Go.Proofs.YtimjkkcondljeaaGreatDoor
namespace Rows

/-- THE TIED CARD OF 'silkwormlaw08.ElabNests'. -/
def elabNestsCard : Claim7 := { stood := { row := elabNestsRow, standIns := [], harness := (true, "7f3d000b20481c2382178fba7a2242ba97cc7cc38289d3a722ef59504013691c"), looks := true }, kinds := [], alts := [], laidByText := true, laidKinds := [.data, .data, .data, .data, .pinned], laidTests := true, laidLooks := .later }
def ElabNestsCardSaid : Prop := Claim7.holds Tryz.pinned (.plain (OpenSpec.ofChange elabNestsSpec)) elabNestsCard

/-- THE SECOND FORM's CARD OF 'silkwormlaw08.ElabNests'. -/
def elabNestsUptoCard : Claim7 := { stood := { row := elabNestsUptoRow, standIns := [], harness := (true, "7f3d000b20481c2382178fba7a2242ba97cc7cc38289d3a722ef59504013691c"), looks := true }, kinds := [], alts := [], laidByText := true, laidKinds := [.data, .data, .data, .data, .pinned], laidTests := true, laidLooks := .later }
def ElabNestsUptoCardSaid : Prop := Claim7.holds Tryz.pinned (.plain (OpenSpec.upto elabNestsSpec)) elabNestsUptoCard
end Rows
end Go.Proofs.YtimjkkcondljeaaGreatDoor
