/- Closed runs of the ideal machine over law06's program: awake, and ConstsNobody at any name and number. -/
import Derived.Test.YtblgpcijbdbeiaaDoorChecked
import Derived.Test.YtblgpcijbdbeiaaDoorI20
namespace Go.Proofs.YtblgpcijbdbeiaaDoor
open Go I
set_option maxRecDepth 100000

def ov (f : FuncId) : Option (List IV → H → CRes) := if f = 57 then some indexByteI else none
noncomputable abbrev run (m n : Nat) : CallF := callN Tryd.prog ov (drI Tryd.prog) m n

theorem ovS (w₀ : World) (S : Sc) : OvS Tryd.prog w₀ S ov := by
  intro f g hg args h μ w cargs r hv
  unfold ov at hg
  split at hg
  · rename_i hf
    subst hf
    injection hg with hg; subst hg
    exact indexByte_S Tryd.func57 (by kernel_rfl) (by kernel_rfl) (by kernel_rfl) (by kernel_rfl) args h μ w cargs r hv
  · cases hg
theorem noNum : NoNum Tryd.prog := by
  intro f fn hf
  have h : (Tryd.prog.funcs.all fun fn => !(fn.name == "runtime.NumGoroutine")) = true := by kernel_rfl
  simpa using Array.all_eq_true_iff_forall_mem.1 h fn (Array.mem_of_getElem? hf)
/-- what the machine answers to arguments that name no memory is what the program returns -/
theorem closedC (w : World) {m n : Nat} {f : FuncId} {fn : Func} {c : Code} (hf : Tryd.prog.funcs[f]? = some fn) (hb : fn.body = some c) {args : List IV} {cargs : Array Value} (hv : VRs (fun _ => none) args cargs.toList) {v : IV} {h' : H}
    (e : run m n f args ⟨0, .leaf⟩ = .ok v h') : Calls Tryd.prog f cargs w fun e w' => ∃ cv ν, e = .returned cv ∧ VR ν v cv ∧ Go.RowKit.Below w.heap.size w w' :=
  closed_calls w ovS (fun _ hcf w₀ S => drI_sound Tryd.checked.mixed hcf w₀ S) noNum hf hb hv e

def isTrue : CRes → Bool
  | .ok (.bool b) _ => b
  | _ => false
theorem isTrue_of {r : CRes} (h : isTrue r = true) : ∃ h', r = .ok (.bool true) h' := by
  cases r with
  | ok v h' => cases v <;> simp only [isTrue, Bool.false_eq_true] at h; subst h; exact ⟨h', rfl⟩
  | pan v h' => cases h
  | fail => cases h

theorem awake_ideal : isTrue (run 100 40 9 [] ⟨0, .leaf⟩) = true := by kernel_rfl
theorem nobody_ideal (s : Str) (n : Int) : isTrue (run 100 40 7 [.str s, .int .i64 n] ⟨0, .leaf⟩) = true := by kernel_rfl

end Go.Proofs.YtblgpcijbdbeiaaDoor
