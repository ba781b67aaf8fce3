/-
  No cell of these rows narrows 'for every input' (looked for: loops, veiled, ifaces, maps, wideKeys, modest, calm, conditions, laid).
  DERIVED. THE GIVEN ROWS OF THIS SEAT. 4 by the template 'for every input the law returns true; each argument reads behind the call as it read before'; 0 by the template 'total and deterministic' (their statements: YtgmajopnflfcdaaTotals.lean).
  GIVEN WITH THE SEED: the statements are not yours to turn. If you find one false, say at which input.
  Laid BY PROGRAM, IN A SANDBOX (cutbox-rows.mjs): the forced cells as the released guide's own fill.sh prints them over the translation 192ad460c23c3220… (all of the seat's roots in one cut). By AI agents, Wed Nov 11 2026. No macro, syntax, notation, axiom, sorry.
-/
import Derived.Test.YtgmajopnflfcdaaChecked
import GoSem.Claim
import GoSem.ClaimJoined
import GoSem.ClaimMapViews
import Derived.JoinedTies
import Derived.KernelRfl
namespace Go.Proofs.Ytgmajopnflfcdaa
/- THE CELL 'sum', in the pinned program and in every row, IS THE sha256 OF THE DUMP (.gsa) THAT YtgmajopnflfcdaaProg.lean LOADS. Nothing in Lean hashes anything: it is a label: what it is worth is what the hold of that sum in a sandbox is worth. -/
noncomputable def Try.pinned : Pinned := { name := "ytgmajopnflfcdaa", sum := "192ad460c23c3220160f43fba5cdb217fda504f78d2356c5d35e9d30c9fa72a2", checked := Try.checked }
namespace Rows
def none {H : Type} : Left H := { results := [], args := [] }

/-- 'silkwormlaw07.SemaChecks': WHATEVER THE INPUT: true; the input reads as it did. -/
def semaChecksSpec : ChangeSpec := { name := "semaChecks", fn := fun _ => fun
  | [d] => { results := [.lit (.bool true)], args := [d] }
  | _ => none }
def semaChecksRow : OpenClaim := { program := "ytgmajopnflfcdaa", sum := "192ad460c23c3220160f43fba5cdb217fda504f78d2356c5d35e9d30c9fa72a2", func := "silkworm/silkwormlaw07.SemaChecks", spec := "semaChecks", unfollowed := true, recurses := true, apart := false }
def SemaChecksSaid : Prop := semaChecksRow.holds Try.pinned (OpenSpec.ofChange semaChecksSpec)

/-- ITS FALSE NEIGHBOUR: 'it returns false'. Refute it at one input. -/
def semaChecksWrong : ChangeSpec := { name := "semaChecks", fn := fun _ => fun
  | [d] => { results := [.lit (.bool false)], args := [d] }
  | _ => none }
def SemaChecksWrongFalsely : Prop := semaChecksRow.holds Try.pinned (OpenSpec.ofChange semaChecksWrong)

/-- 'silkwormlaw07.SemaOnce': WHATEVER THE INPUT: true; the input reads as it did. -/
def semaOnceSpec : ChangeSpec := { name := "semaOnce", fn := fun _ => fun
  | [d] => { results := [.lit (.bool true)], args := [d] }
  | _ => none }
def semaOnceRow : OpenClaim := { program := "ytgmajopnflfcdaa", sum := "192ad460c23c3220160f43fba5cdb217fda504f78d2356c5d35e9d30c9fa72a2", func := "silkworm/silkwormlaw07.SemaOnce", spec := "semaOnce", unfollowed := true, recurses := true, apart := false }
def SemaOnceSaid : Prop := semaOnceRow.holds Try.pinned (OpenSpec.ofChange semaOnceSpec)

/-- ITS FALSE NEIGHBOUR: 'it returns false'. Refute it at one input. -/
def semaOnceWrong : ChangeSpec := { name := "semaOnce", fn := fun _ => fun
  | [d] => { results := [.lit (.bool false)], args := [d] }
  | _ => none }
def SemaOnceWrongFalsely : Prop := semaOnceRow.holds Try.pinned (OpenSpec.ofChange semaOnceWrong)

/-- 'silkwormlaw07.SemaScopes': WHATEVER THE INPUT: true; the input reads as it did. -/
def semaScopesSpec : ChangeSpec := { name := "semaScopes", fn := fun _ => fun
  | [d] => { results := [.lit (.bool true)], args := [d] }
  | _ => none }
def semaScopesRow : OpenClaim := { program := "ytgmajopnflfcdaa", sum := "192ad460c23c3220160f43fba5cdb217fda504f78d2356c5d35e9d30c9fa72a2", func := "silkworm/silkwormlaw07.SemaScopes", spec := "semaScopes", unfollowed := true, recurses := true, apart := false }
def SemaScopesSaid : Prop := semaScopesRow.holds Try.pinned (OpenSpec.ofChange semaScopesSpec)

/-- ITS FALSE NEIGHBOUR: 'it returns false'. Refute it at one input. -/
def semaScopesWrong : ChangeSpec := { name := "semaScopes", fn := fun _ => fun
  | [d] => { results := [.lit (.bool false)], args := [d] }
  | _ => none }
def SemaScopesWrongFalsely : Prop := semaScopesRow.holds Try.pinned (OpenSpec.ofChange semaScopesWrong)

/-- 'silkwormlaw07.SemaWays': WHATEVER THE INPUT: true; the input reads as it did. -/
def semaWaysSpec : ChangeSpec := { name := "semaWays", fn := fun _ => fun
  | [d1, d2] => { results := [.lit (.bool true)], args := [d1, d2] }
  | _ => none }
def semaWaysRow : OpenClaim := { program := "ytgmajopnflfcdaa", sum := "192ad460c23c3220160f43fba5cdb217fda504f78d2356c5d35e9d30c9fa72a2", func := "silkworm/silkwormlaw07.SemaWays", spec := "semaWays", unfollowed := true, recurses := true, apart := false }
def SemaWaysSaid : Prop := semaWaysRow.holds Try.pinned (OpenSpec.ofChange semaWaysSpec)

/-- ITS FALSE NEIGHBOUR: 'it returns false'. Refute it at one input. -/
def semaWaysWrong : ChangeSpec := { name := "semaWays", fn := fun _ => fun
  | [d1, d2] => { results := [.lit (.bool false)], args := [d1, d2] }
  | _ => none }
def SemaWaysWrongFalsely : Prop := semaWaysRow.holds Try.pinned (OpenSpec.ofChange semaWaysWrong)

/- THE SECOND FORM. 'bulk': how many values and letters a reading holds, each counted each time it is reached (what is shared counts as often as it is met; a slice's spare places count too). A statement '..UptoSaid' is the law's where the arguments, and the package variables that the reading takes, are together of bulk at most 1048576: NARROWER than '..Said'. Prove '..Said' where nothing that the law and all that it calls make is longer than what came in: it says more and counts as full. Else prove '..UptoSaid'. A law counts once. -/
mutual
def uptoBulk {H : Type} : DataW H → Nat
  | .lit (.string bytes) => bytes.length + 1
  | .lit _ => 1
  | .nil => 1
  | .ptr d => uptoBulk d + 1
  | .slice elems spare => uptoBulkAll elems + uptoBulkAll spare + 1
  | .agg parts => uptoBulkAll parts + 1
  | .iface _ d => uptoBulk d + 1
  | .map entries => uptoBulkEntries entries + 1
  | .held _ => 1
def uptoBulkAll {H : Type} : List (DataW H) → Nat
  | [] => 0
  | d :: r => uptoBulk d + uptoBulkAll r
def uptoBulkEntries {H : Type} : List (Lit × DataW H) → Nat
  | [] => 0
  | x :: r => uptoBulkEntry x + uptoBulkEntries r
def uptoBulkEntry {H : Type} : Lit × DataW H → Nat
  | (.string bytes, d) => bytes.length + uptoBulk d + 1
  | (_, d) => uptoBulk d + 1
 end
def uptoSmall : (H : Type) → List (DataW H) → Bool := fun _ ds => decide (uptoBulkAll ds ≤ 1048576)
def OpenSpec.upto (s : _root_.Go.ChangeSpec) : _root_.Go.OpenSpec := { _root_.Go.OpenSpec.ofChange s with cond := some uptoSmall }

/-- 'silkwormlaw07.SemaChecks', WHERE WHAT IT READS IS OF BULK AT MOST 1048576: true; the input reads as it did. -/
def semaChecksUptoRow : OpenClaim := { program := "ytgmajopnflfcdaa", sum := "192ad460c23c3220160f43fba5cdb217fda504f78d2356c5d35e9d30c9fa72a2", func := "silkworm/silkwormlaw07.SemaChecks", spec := "semaChecks", unfollowed := true, recurses := true, apart := false, narrowed := true }
def SemaChecksUptoSaid : Prop := semaChecksUptoRow.holds Try.pinned (OpenSpec.upto semaChecksSpec)

/-- 'silkwormlaw07.SemaOnce', WHERE WHAT IT READS IS OF BULK AT MOST 1048576: true; the input reads as it did. -/
def semaOnceUptoRow : OpenClaim := { program := "ytgmajopnflfcdaa", sum := "192ad460c23c3220160f43fba5cdb217fda504f78d2356c5d35e9d30c9fa72a2", func := "silkworm/silkwormlaw07.SemaOnce", spec := "semaOnce", unfollowed := true, recurses := true, apart := false, narrowed := true }
def SemaOnceUptoSaid : Prop := semaOnceUptoRow.holds Try.pinned (OpenSpec.upto semaOnceSpec)

/-- 'silkwormlaw07.SemaScopes', WHERE WHAT IT READS IS OF BULK AT MOST 1048576: true; the input reads as it did. -/
def semaScopesUptoRow : OpenClaim := { program := "ytgmajopnflfcdaa", sum := "192ad460c23c3220160f43fba5cdb217fda504f78d2356c5d35e9d30c9fa72a2", func := "silkworm/silkwormlaw07.SemaScopes", spec := "semaScopes", unfollowed := true, recurses := true, apart := false, narrowed := true }
def SemaScopesUptoSaid : Prop := semaScopesUptoRow.holds Try.pinned (OpenSpec.upto semaScopesSpec)

/-- 'silkwormlaw07.SemaWays', WHERE WHAT IT READS IS OF BULK AT MOST 1048576: true; the input reads as it did. -/
def semaWaysUptoRow : OpenClaim := { program := "ytgmajopnflfcdaa", sum := "192ad460c23c3220160f43fba5cdb217fda504f78d2356c5d35e9d30c9fa72a2", func := "silkworm/silkwormlaw07.SemaWays", spec := "semaWays", unfollowed := true, recurses := true, apart := false, narrowed := true }
def SemaWaysUptoSaid : Prop := semaWaysUptoRow.holds Try.pinned (OpenSpec.upto semaWaysSpec)

end Rows
end Go.Proofs.Ytgmajopnflfcdaa
