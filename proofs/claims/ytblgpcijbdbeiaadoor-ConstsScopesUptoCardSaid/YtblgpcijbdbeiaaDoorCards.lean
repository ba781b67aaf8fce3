/-
  DERIVED. GIVEN WITH THE SEED: THE CARDS: each row of YtblgpcijbdbeiaaDoorRows.lean that lists a variable, with what it lists TIED to the program's text (the seventh form; the later family's looks); each row that meets fmt, with fmt's text TOLD by the authors' own Lean function (tested against real Go, not proved from fmt's source: count such statements apart). THE CARD IS WHAT COUNTS. Prove the row's statement (the work); the ties are given (YtblgpcijbdbeiaaDoorTie.lean); close each card by the builder's one call (the guide's Derived/Test/ToyasCard.lean, 'card_holds'). Laid BY PROGRAM, IN A SANDBOX (cutbox-door.mjs). By AI agents, Wed Nov 11 2026. No macro, syntax, notation, axiom, sorry.
-/
import Derived.Test.YtblgpcijbdbeiaaDoorRows
import GoSem.ClaimSeven
namespace Go.Proofs.YtblgpcijbdbeiaaDoor
namespace Rows

/-- THE TIED CARD OF 'silkwormlaw06.ConstsNames'. -/
def constsNamesCard : Claim7 := { stood := { row := constsNamesRow, standIns := [], harness := (true, "0cbd667e2433b1d1fdeff65f3f3cf9b761ce0b6b72bfacaf3e2064a3181abc50"), looks := true }, kinds := [], alts := [], laidByText := true, laidKinds := [.data, .pinned], laidTests := true, laidLooks := .later }
def ConstsNamesCardSaid : Prop := Claim7.holds Tryd.pinned (.plain (OpenSpec.ofChange constsNamesSpec)) constsNamesCard

/-- THE TIED CARD OF 'silkwormlaw06.ConstsSums'. -/
def constsSumsCard : Claim7 := { stood := { row := constsSumsRow, standIns := [], harness := (true, "0cbd667e2433b1d1fdeff65f3f3cf9b761ce0b6b72bfacaf3e2064a3181abc50"), looks := true }, kinds := [], alts := [], laidByText := true, laidKinds := [.data, .pinned], laidTests := true, laidLooks := .later }
def ConstsSumsCardSaid : Prop := Claim7.holds Tryd.pinned (.plain (OpenSpec.ofChange constsSumsSpec)) constsSumsCard

/-- THE TIED CARD OF 'silkwormlaw06.ConstsWays'. -/
def constsWaysCard : Claim7 := { stood := { row := constsWaysRow, standIns := [], harness := (true, "0cbd667e2433b1d1fdeff65f3f3cf9b761ce0b6b72bfacaf3e2064a3181abc50"), looks := true }, kinds := [], alts := [], laidByText := true, laidKinds := [.data, .pinned], laidTests := true, laidLooks := .later }
def ConstsWaysCardSaid : Prop := Claim7.holds Tryd.pinned (.plain (OpenSpec.ofChange constsWaysSpec)) constsWaysCard

/-- THE TIED CARD OF 'silkwormlaw06.ConstsScopes'. -/
def constsScopesCard : Claim7 := { stood := { row := constsScopesRow, standIns := [], harness := (true, "0cbd667e2433b1d1fdeff65f3f3cf9b761ce0b6b72bfacaf3e2064a3181abc50"), looks := true }, kinds := [], alts := [], laidByText := true, laidKinds := [.data, .pinned], laidTests := true, laidLooks := .later }
def ConstsScopesCardSaid : Prop := Claim7.holds Tryd.pinned (.plain (OpenSpec.ofChange constsScopesSpec)) constsScopesCard

/-- THE TIED CARD OF 'silkwormlaw06.ConstsNobody'. -/
def constsNobodyCard : Claim7 := { stood := { row := constsNobodyRow, standIns := [], harness := (true, "0cbd667e2433b1d1fdeff65f3f3cf9b761ce0b6b72bfacaf3e2064a3181abc50"), looks := true }, kinds := [], alts := [], laidByText := true, laidKinds := [.data, .pinned], laidTests := true, laidLooks := .later }
def ConstsNobodyCardSaid : Prop := Claim7.holds Tryd.pinned (.plain (OpenSpec.ofChange constsNobodySpec)) constsNobodyCard

/-- THE SECOND FORM's CARD OF 'silkwormlaw06.ConstsNames'. -/
def constsNamesUptoCard : Claim7 := { stood := { row := constsNamesUptoRow, standIns := [], harness := (true, "0cbd667e2433b1d1fdeff65f3f3cf9b761ce0b6b72bfacaf3e2064a3181abc50"), looks := true }, kinds := [], alts := [], laidByText := true, laidKinds := [.data, .pinned], laidTests := true, laidLooks := .later }
def ConstsNamesUptoCardSaid : Prop := Claim7.holds Tryd.pinned (.plain (OpenSpec.upto constsNamesSpec)) constsNamesUptoCard

/-- THE SECOND FORM's CARD OF 'silkwormlaw06.ConstsSums'. -/
def constsSumsUptoCard : Claim7 := { stood := { row := constsSumsUptoRow, standIns := [], harness := (true, "0cbd667e2433b1d1fdeff65f3f3cf9b761ce0b6b72bfacaf3e2064a3181abc50"), looks := true }, kinds := [], alts := [], laidByText := true, laidKinds := [.data, .pinned], laidTests := true, laidLooks := .later }
def ConstsSumsUptoCardSaid : Prop := Claim7.holds Tryd.pinned (.plain (OpenSpec.upto constsSumsSpec)) constsSumsUptoCard

/-- THE SECOND FORM's CARD OF 'silkwormlaw06.ConstsWays'. -/
def constsWaysUptoCard : Claim7 := { stood := { row := constsWaysUptoRow, standIns := [], harness := (true, "0cbd667e2433b1d1fdeff65f3f3cf9b761ce0b6b72bfacaf3e2064a3181abc50"), looks := true }, kinds := [], alts := [], laidByText := true, laidKinds := [.data, .pinned], laidTests := true, laidLooks := .later }
def ConstsWaysUptoCardSaid : Prop := Claim7.holds Tryd.pinned (.plain (OpenSpec.upto constsWaysSpec)) constsWaysUptoCard

/-- THE SECOND FORM's CARD OF 'silkwormlaw06.ConstsScopes'. -/
def constsScopesUptoCard : Claim7 := { stood := { row := constsScopesUptoRow, standIns := [], harness := (true, "0cbd667e2433b1d1fdeff65f3f3cf9b761ce0b6b72bfacaf3e2064a3181abc50"), looks := true }, kinds := [], alts := [], laidByText := true, laidKinds := [.data, .pinned], laidTests := true, laidLooks := .later }
def ConstsScopesUptoCardSaid : Prop := Claim7.holds Tryd.pinned (.plain (OpenSpec.upto constsScopesSpec)) constsScopesUptoCard

/-- THE SECOND FORM's CARD OF 'silkwormlaw06.ConstsNobody'. -/
def constsNobodyUptoCard : Claim7 := { stood := { row := constsNobodyUptoRow, standIns := [], harness := (true, "0cbd667e2433b1d1fdeff65f3f3cf9b761ce0b6b72bfacaf3e2064a3181abc50"), looks := true }, kinds := [], alts := [], laidByText := true, laidKinds := [.data, .pinned], laidTests := true, laidLooks := .later }
def ConstsNobodyUptoCardSaid : Prop := Claim7.holds Tryd.pinned (.plain (OpenSpec.upto constsNobodySpec)) constsNobodyUptoCard
end Rows
end Go.Proofs.YtblgpcijbdbeiaaDoor
