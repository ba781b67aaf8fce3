/-
  NARROWER THAN 'FOR EVERY INPUT', by the rows' own cells (each row's printed sentence says how): ConstsNames: loops, laid · ConstsSums: laid · ConstsWays: loops, laid · ConstsScopes: laid · ConstsNobody: laid.
  DERIVED. THE GIVEN ROWS OF THIS SEAT. 5 by the template 'for every input the law returns true; each argument reads behind the call as it read before'; 0 by the template 'total and deterministic' (their statements: YtblgpcijbdbeiaaDoorTotals.lean).
  GIVEN WITH THE SEED: the statements are not yours to turn. If you find one false, say at which input.
  Laid BY PROGRAM, IN A SANDBOX (cutbox-rows.mjs): the forced cells as the released guide's own fill.sh prints them over the translation b86a8ff9d02b076e… (all of the seat's roots in one cut). By AI agents, Wed Nov 11 2026. No macro, syntax, notation, axiom, sorry.
-/
import Derived.Test.YtblgpcijbdbeiaaDoorChecked
import GoSem.PinnedTables
import GoSem.Claim
import GoSem.ClaimJoined
import GoSem.ClaimMapViews
import Derived.JoinedTies
import Derived.KernelRfl
namespace Go.Proofs.YtblgpcijbdbeiaaDoor
/- THE CELL 'sum', in the pinned program and in every row, IS THE sha256 OF THE DUMP (.gsa) THAT YtblgpcijbdbeiaaDoorProg.lean LOADS. Nothing in Lean hashes anything: it is a label: what it is worth is what the hold of that sum in a sandbox is worth. -/
noncomputable def Tryd.pinned : Pinned := { name := "ytblgpcijbdbeiaadoor", sum := "b86a8ff9d02b076e684049f6cd87acf66c1c5be1ccd9c0553998d791dd543429", checked := Tryd.checked }
namespace Rows
def none {H : Type} : Left H := { results := [], args := [] }

/- WHAT THE LISTED PACKAGE-LEVEL VARIABLES READ AS WHEN THE CALL BEGINS. Each datum BY PROGRAM (the guide's laid-datum.mjs) off the statement by which the dump's own 'gosem.cut.vars' lays the variable. In a bare row this is a premise. The card (YtblgpcijbdbeiaaDoorCards.lean) ties it to the program's text. -/
def laid_unicode_utf8_acceptRanges {H : Type} : DataW H := .agg [.agg [.lit (.int .u8 128), .lit (.int .u8 191)], .agg [.lit (.int .u8 160), .lit (.int .u8 191)], .agg [.lit (.int .u8 128), .lit (.int .u8 159)], .agg [.lit (.int .u8 144), .lit (.int .u8 191)], .agg [.lit (.int .u8 128), .lit (.int .u8 143)], .agg [.lit (.int .u8 0), .lit (.int .u8 0)], .agg [.lit (.int .u8 0), .lit (.int .u8 0)], .agg [.lit (.int .u8 0), .lit (.int .u8 0)], .agg [.lit (.int .u8 0), .lit (.int .u8 0)], .agg [.lit (.int .u8 0), .lit (.int .u8 0)], .agg [.lit (.int .u8 0), .lit (.int .u8 0)], .agg [.lit (.int .u8 0), .lit (.int .u8 0)], .agg [.lit (.int .u8 0), .lit (.int .u8 0)], .agg [.lit (.int .u8 0), .lit (.int .u8 0)], .agg [.lit (.int .u8 0), .lit (.int .u8 0)], .agg [.lit (.int .u8 0), .lit (.int .u8 0)]]
/-- One of Go's own tables, pinned by name: the form's constant. -/
def laid_unicode_utf8_first : DataW Unit := Go.Pinned.utf8First

/-- 'silkwormlaw06.ConstsNames': WHATEVER THE INPUT: true; the input reads as it did. -/
def constsNamesSpec : ChangeSpec := { name := "constsNames", fn := fun _ => fun
  | [d1, d2, d3] => { results := [.lit (.bool true)], args := [d1, d2, d3] }
  | _ => none }
def constsNamesRow : OpenClaim := { program := "ytblgpcijbdbeiaadoor", sum := "b86a8ff9d02b076e684049f6cd87acf66c1c5be1ccd9c0553998d791dd543429", func := "silkworm/silkwormlaw06.ConstsNames", spec := "constsNames", inPlace := ["internal/bytealg.IndexByteString", "internal/bytealg.IndexString"], unfollowed := true, recurses := true, named := ["unicode/utf8.first", "unicode/utf8.acceptRanges", "internal/bytealg.MaxLen"], loops := true, apart := false, laid := [("unicode/utf8.acceptRanges", laid_unicode_utf8_acceptRanges), ("unicode/utf8.first", laid_unicode_utf8_first)] }
def ConstsNamesSaid : Prop := constsNamesRow.holds Tryd.pinned (OpenSpec.ofChange constsNamesSpec)

/-- ITS FALSE NEIGHBOUR: 'it returns false'. Refute it at one input. -/
def constsNamesWrong : ChangeSpec := { name := "constsNames", fn := fun _ => fun
  | [d1, d2, d3] => { results := [.lit (.bool false)], args := [d1, d2, d3] }
  | _ => none }
def ConstsNamesWrongFalsely : Prop := constsNamesRow.holds Tryd.pinned (OpenSpec.ofChange constsNamesWrong)

/-- 'silkwormlaw06.ConstsSums': WHATEVER THE INPUT: true; the input reads as it did. -/
def constsSumsSpec : ChangeSpec := { name := "constsSums", fn := fun _ => fun
  | [d1, d2] => { results := [.lit (.bool true)], args := [d1, d2] }
  | _ => none }
def constsSumsRow : OpenClaim := { program := "ytblgpcijbdbeiaadoor", sum := "b86a8ff9d02b076e684049f6cd87acf66c1c5be1ccd9c0553998d791dd543429", func := "silkworm/silkwormlaw06.ConstsSums", spec := "constsSums", inPlace := ["internal/bytealg.IndexByteString", "internal/bytealg.IndexString"], unfollowed := true, recurses := true, named := ["unicode/utf8.first", "unicode/utf8.acceptRanges", "internal/bytealg.MaxLen"], apart := false, laid := [("unicode/utf8.acceptRanges", laid_unicode_utf8_acceptRanges), ("unicode/utf8.first", laid_unicode_utf8_first)] }
def ConstsSumsSaid : Prop := constsSumsRow.holds Tryd.pinned (OpenSpec.ofChange constsSumsSpec)

/-- ITS FALSE NEIGHBOUR: 'it returns false'. Refute it at one input. -/
def constsSumsWrong : ChangeSpec := { name := "constsSums", fn := fun _ => fun
  | [d1, d2] => { results := [.lit (.bool false)], args := [d1, d2] }
  | _ => none }
def ConstsSumsWrongFalsely : Prop := constsSumsRow.holds Tryd.pinned (OpenSpec.ofChange constsSumsWrong)

/-- 'silkwormlaw06.ConstsWays': WHATEVER THE INPUT: true; the input reads as it did. -/
def constsWaysSpec : ChangeSpec := { name := "constsWays", fn := fun _ => fun
  | [d1, d2] => { results := [.lit (.bool true)], args := [d1, d2] }
  | _ => none }
def constsWaysRow : OpenClaim := { program := "ytblgpcijbdbeiaadoor", sum := "b86a8ff9d02b076e684049f6cd87acf66c1c5be1ccd9c0553998d791dd543429", func := "silkworm/silkwormlaw06.ConstsWays", spec := "constsWays", inPlace := ["internal/bytealg.IndexByteString", "internal/bytealg.IndexString"], unfollowed := true, recurses := true, named := ["unicode/utf8.first", "unicode/utf8.acceptRanges", "internal/bytealg.MaxLen"], loops := true, apart := false, laid := [("unicode/utf8.acceptRanges", laid_unicode_utf8_acceptRanges), ("unicode/utf8.first", laid_unicode_utf8_first)] }
def ConstsWaysSaid : Prop := constsWaysRow.holds Tryd.pinned (OpenSpec.ofChange constsWaysSpec)

/-- ITS FALSE NEIGHBOUR: 'it returns false'. Refute it at one input. -/
def constsWaysWrong : ChangeSpec := { name := "constsWays", fn := fun _ => fun
  | [d1, d2] => { results := [.lit (.bool false)], args := [d1, d2] }
  | _ => none }
def ConstsWaysWrongFalsely : Prop := constsWaysRow.holds Tryd.pinned (OpenSpec.ofChange constsWaysWrong)

/-- 'silkwormlaw06.ConstsScopes': WHATEVER THE INPUT: true; the input reads as it did. -/
def constsScopesSpec : ChangeSpec := { name := "constsScopes", fn := fun _ => fun
  | [d1, d2, d3] => { results := [.lit (.bool true)], args := [d1, d2, d3] }
  | _ => none }
def constsScopesRow : OpenClaim := { program := "ytblgpcijbdbeiaadoor", sum := "b86a8ff9d02b076e684049f6cd87acf66c1c5be1ccd9c0553998d791dd543429", func := "silkworm/silkwormlaw06.ConstsScopes", spec := "constsScopes", inPlace := ["maps.clone", "internal/bytealg.IndexByteString", "internal/bytealg.IndexString"], unfollowed := true, recurses := true, named := ["unicode/utf8.first", "unicode/utf8.acceptRanges", "internal/bytealg.MaxLen"], apart := false, laid := [("unicode/utf8.acceptRanges", laid_unicode_utf8_acceptRanges), ("unicode/utf8.first", laid_unicode_utf8_first)] }
def ConstsScopesSaid : Prop := constsScopesRow.holds Tryd.pinned (OpenSpec.ofChange constsScopesSpec)

/-- ITS FALSE NEIGHBOUR: 'it returns false'. Refute it at one input. -/
def constsScopesWrong : ChangeSpec := { name := "constsScopes", fn := fun _ => fun
  | [d1, d2, d3] => { results := [.lit (.bool false)], args := [d1, d2, d3] }
  | _ => none }
def ConstsScopesWrongFalsely : Prop := constsScopesRow.holds Tryd.pinned (OpenSpec.ofChange constsScopesWrong)

/-- 'silkwormlaw06.ConstsNobody': WHATEVER THE INPUT: true; the input reads as it did. -/
def constsNobodySpec : ChangeSpec := { name := "constsNobody", fn := fun _ => fun
  | [d1, d2] => { results := [.lit (.bool true)], args := [d1, d2] }
  | _ => none }
def constsNobodyRow : OpenClaim := { program := "ytblgpcijbdbeiaadoor", sum := "b86a8ff9d02b076e684049f6cd87acf66c1c5be1ccd9c0553998d791dd543429", func := "silkworm/silkwormlaw06.ConstsNobody", spec := "constsNobody", inPlace := ["internal/bytealg.IndexByteString", "internal/bytealg.IndexString", "maps.clone"], unfollowed := true, recurses := true, named := ["unicode/utf8.first", "unicode/utf8.acceptRanges", "internal/bytealg.MaxLen"], apart := false, laid := [("unicode/utf8.acceptRanges", laid_unicode_utf8_acceptRanges), ("unicode/utf8.first", laid_unicode_utf8_first)] }
def ConstsNobodySaid : Prop := constsNobodyRow.holds Tryd.pinned (OpenSpec.ofChange constsNobodySpec)

/-- ITS FALSE NEIGHBOUR: 'it returns false'. Refute it at one input. -/
def constsNobodyWrong : ChangeSpec := { name := "constsNobody", fn := fun _ => fun
  | [d1, d2] => { results := [.lit (.bool false)], args := [d1, d2] }
  | _ => none }
def ConstsNobodyWrongFalsely : Prop := constsNobodyRow.holds Tryd.pinned (OpenSpec.ofChange constsNobodyWrong)

/- THE SECOND FORM. 'bulk': how many values and letters a reading holds, each counted each time it is reached (what is shared counts as often as it is met; a slice's spare places count too). A statement '..UptoSaid' is the law's where the arguments, and the package variables that the reading takes, are together of bulk at most 1048576: NARROWER than '..Said'. Prove '..Said' where nothing that the law and all that it calls make is longer than what came in: it says more and counts as full. Else prove '..UptoSaid'. A law counts once. -/
mutual
def uptoBulk {H : Type} : DataW H → Nat
  | .lit (.string bytes) => bytes.length + 1
  | .lit _ => 1
  | .nil => 1
  | .ptr d => uptoBulk d + 1
  | .slice elems spare => uptoBulkAll elems + uptoBulkAll spare + 1
  | .agg parts => uptoBulkAll parts + 1
  | .iface _ d => uptoBulk d + 1
  | .map entries => uptoBulkEntries entries + 1
  | .held _ => 1
def uptoBulkAll {H : Type} : List (DataW H) → Nat
  | [] => 0
  | d :: r => uptoBulk d + uptoBulkAll r
def uptoBulkEntries {H : Type} : List (Lit × DataW H) → Nat
  | [] => 0
  | x :: r => uptoBulkEntry x + uptoBulkEntries r
def uptoBulkEntry {H : Type} : Lit × DataW H → Nat
  | (.string bytes, d) => bytes.length + uptoBulk d + 1
  | (_, d) => uptoBulk d + 1
 end
def uptoSmall : (H : Type) → List (DataW H) → Bool := fun _ ds => decide (uptoBulkAll ds ≤ 1048576)
def OpenSpec.upto (s : _root_.Go.ChangeSpec) : _root_.Go.OpenSpec := { _root_.Go.OpenSpec.ofChange s with cond := some uptoSmall }

/-- 'silkwormlaw06.ConstsNames', WHERE WHAT IT READS IS OF BULK AT MOST 1048576: true; the input reads as it did. -/
def constsNamesUptoRow : OpenClaim := { program := "ytblgpcijbdbeiaadoor", sum := "b86a8ff9d02b076e684049f6cd87acf66c1c5be1ccd9c0553998d791dd543429", func := "silkworm/silkwormlaw06.ConstsNames", spec := "constsNames", inPlace := ["internal/bytealg.IndexByteString", "internal/bytealg.IndexString"], unfollowed := true, recurses := true, named := ["unicode/utf8.first", "unicode/utf8.acceptRanges", "internal/bytealg.MaxLen"], loops := true, apart := false, laid := [("unicode/utf8.acceptRanges", laid_unicode_utf8_acceptRanges), ("unicode/utf8.first", laid_unicode_utf8_first)], narrowed := true }
def ConstsNamesUptoSaid : Prop := constsNamesUptoRow.holds Tryd.pinned (OpenSpec.upto constsNamesSpec)

/-- 'silkwormlaw06.ConstsSums', WHERE WHAT IT READS IS OF BULK AT MOST 1048576: true; the input reads as it did. -/
def constsSumsUptoRow : OpenClaim := { program := "ytblgpcijbdbeiaadoor", sum := "b86a8ff9d02b076e684049f6cd87acf66c1c5be1ccd9c0553998d791dd543429", func := "silkworm/silkwormlaw06.ConstsSums", spec := "constsSums", inPlace := ["internal/bytealg.IndexByteString", "internal/bytealg.IndexString"], unfollowed := true, recurses := true, named := ["unicode/utf8.first", "unicode/utf8.acceptRanges", "internal/bytealg.MaxLen"], apart := false, laid := [("unicode/utf8.acceptRanges", laid_unicode_utf8_acceptRanges), ("unicode/utf8.first", laid_unicode_utf8_first)], narrowed := true }
def ConstsSumsUptoSaid : Prop := constsSumsUptoRow.holds Tryd.pinned (OpenSpec.upto constsSumsSpec)

/-- 'silkwormlaw06.ConstsWays', WHERE WHAT IT READS IS OF BULK AT MOST 1048576: true; the input reads as it did. -/
def constsWaysUptoRow : OpenClaim := { program := "ytblgpcijbdbeiaadoor", sum := "b86a8ff9d02b076e684049f6cd87acf66c1c5be1ccd9c0553998d791dd543429", func := "silkworm/silkwormlaw06.ConstsWays", spec := "constsWays", inPlace := ["internal/bytealg.IndexByteString", "internal/bytealg.IndexString"], unfollowed := true, recurses := true, named := ["unicode/utf8.first", "unicode/utf8.acceptRanges", "internal/bytealg.MaxLen"], loops := true, apart := false, laid := [("unicode/utf8.acceptRanges", laid_unicode_utf8_acceptRanges), ("unicode/utf8.first", laid_unicode_utf8_first)], narrowed := true }
def ConstsWaysUptoSaid : Prop := constsWaysUptoRow.holds Tryd.pinned (OpenSpec.upto constsWaysSpec)

/-- 'silkwormlaw06.ConstsScopes', WHERE WHAT IT READS IS OF BULK AT MOST 1048576: true; the input reads as it did. -/
def constsScopesUptoRow : OpenClaim := { program := "ytblgpcijbdbeiaadoor", sum := "b86a8ff9d02b076e684049f6cd87acf66c1c5be1ccd9c0553998d791dd543429", func := "silkworm/silkwormlaw06.ConstsScopes", spec := "constsScopes", inPlace := ["maps.clone", "internal/bytealg.IndexByteString", "internal/bytealg.IndexString"], unfollowed := true, recurses := true, named := ["unicode/utf8.first", "unicode/utf8.acceptRanges", "internal/bytealg.MaxLen"], apart := false, laid := [("unicode/utf8.acceptRanges", laid_unicode_utf8_acceptRanges), ("unicode/utf8.first", laid_unicode_utf8_first)], narrowed := true }
def ConstsScopesUptoSaid : Prop := constsScopesUptoRow.holds Tryd.pinned (OpenSpec.upto constsScopesSpec)

/-- 'silkwormlaw06.ConstsNobody', WHERE WHAT IT READS IS OF BULK AT MOST 1048576: true; the input reads as it did. -/
def constsNobodyUptoRow : OpenClaim := { program := "ytblgpcijbdbeiaadoor", sum := "b86a8ff9d02b076e684049f6cd87acf66c1c5be1ccd9c0553998d791dd543429", func := "silkworm/silkwormlaw06.ConstsNobody", spec := "constsNobody", inPlace := ["internal/bytealg.IndexByteString", "internal/bytealg.IndexString", "maps.clone"], unfollowed := true, recurses := true, named := ["unicode/utf8.first", "unicode/utf8.acceptRanges", "internal/bytealg.MaxLen"], apart := false, laid := [("unicode/utf8.acceptRanges", laid_unicode_utf8_acceptRanges), ("unicode/utf8.first", laid_unicode_utf8_first)], narrowed := true }
def ConstsNobodyUptoSaid : Prop := constsNobodyUptoRow.holds Tryd.pinned (OpenSpec.upto constsNobodySpec)

end Rows
end Go.Proofs.YtblgpcijbdbeiaaDoor
