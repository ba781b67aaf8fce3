/- The ideal machine: functions that the model tells by a table. -/
import Derived.Test.YtblgpcijbdbeiaaDoorI13
import Derived.Laws.Externs
namespace Go.Proofs.YtblgpcijbdbeiaaDoor.I
open Go
set_option linter.unusedVariables false
set_option linter.unusedSimpArgs false

variable {P : Program} {w₀ : World} {S : Sc}

def findB : Nat → Nat → Nat → Nat → Int
  | 0, _, _, _ => -1
  | n + 1, v, c, i => bif Nat.beq (v % 256) c then (i : Int) else findB n (v / 256) c (i + 1)
def indexByteI (args : List IV) (h : H) : CRes :=
  match args with
  | [.str s, .int .u8 c] => if 0 ≤ c ∧ c < 256 then .ok (.int .i64 (findB s.len s.val c.toNat 0)) h else .fail
  | _ => .fail

theorem findB_spec (b : ByteArray) (c : UInt8) : ∀ (n i : Nat), i + n = b.size →
    (match (List.range' i n).find? fun i => b[i]! == c with | some i => (i : Int) | none => -1) = findB n (packL (b.data.toList.drop i)) c.toNat i := by
  intro n
  induction n with
  | zero => intro i hi; rfl
  | succ n ih =>
    intro i hi
    have hl : i < b.data.toList.length := by simp; have : b.data.size = b.size := rfl; omega
    have hx := (b.data.toList[i]).toNat_lt
    have hb : b[i]! = b.data.toList[i] := by
      have h2 : i < b.size := by omega
      rw [getElem!_pos b i h2]; rfl
    rw [List.range'_succ, List.find?_cons, List.drop_eq_getElem_cons hl]
    simp only [packL, findB]
    have h1 : ((b.data.toList[i]).toNat + 256 * packL (b.data.toList.drop (i + 1))) % 256 = (b.data.toList[i]).toNat := by omega
    have h2 : ((b.data.toList[i]).toNat + 256 * packL (b.data.toList.drop (i + 1))) / 256 = packL (b.data.toList.drop (i + 1)) := by omega
    rw [h1, h2, hb, T.nbeq]
    by_cases hc : b.data.toList[i] = c
    · simp [hc]
    · have : (b.data.toList[i]).toNat ≠ c.toNat := fun e => hc (UInt8.toNat_inj.1 e)
      simp only [beq_eq_false_iff_ne.2 hc, this, decide_false, cond_false]
      exact ih (i + 1) (by omega)

theorem indexByte_S {f : FuncId} {fn : Func} (hf : P.funcs[f]? = some fn) (hname : (fn.name == "runtime.NumGoroutine") = false) (hb : fn.body.isNone = true) (hn : Extern.findNext fn = none)
    (he : Extern.find fn = some Extern.BytealgIndexByte.indexByte) (args : List IV) (h : H) (μ : Mu) (w : World) (cargs : Array Value) (r : Rel w₀ S μ h w) (hv : VRs μ args cargs.toList) :
    CallR P w₀ S μ f cargs w (indexByteI args h) := by
  unfold indexByteI
  split
  · rename_i s c
    split
    · rename_i hc
      obtain ⟨v, vs, h1, h2, u, us, h3, h4, h5⟩ := hv
      simp only [VRs] at h5; subst h5; subst h3
      obtain ⟨b, rfl, rfl⟩ := h2
      simp only [VR] at h4; subst h4
      have ha : cargs = #[.string b, .int .u8 c] := Array.toList_inj.1 h1
      subst ha
      refine .inr ⟨_, w, μ, ?_, μ.le_refl, r, rfl⟩
      have hk := findB_spec b c.toNat.toUInt8 b.size 0 (by omega)
      have hc2 : c.toNat.toUInt8.toNat = c.toNat := by
        have : c.toNat < 256 := by omega
        simp [Nat.toUInt8, UInt8.toNat, UInt8.ofNat]; omega
      rw [hc2] at hk
      rw [run_callFunc_extern hf hname hb hn he]
      have hrun : (Extern.BytealgIndexByte.indexByte #[.string b, .int .u8 c]).run P w =
          .ok (.int .i64 (match (List.range' 0 b.size).find? fun i => b[i]! == c.toNat.toUInt8 with | some i => (i : Int) | none => -1)) w := by
        rw [← List.range_eq_range']
        show (match (List.range b.size).find? fun i => b[i]! == c.toNat.toUInt8 with
          | some i => (pure (goInt i) : Sem Value)
          | none => pure (goInt (-1))).run P w = _
        cases (List.range b.size).find? (fun i => b[i]! == c.toNat.toUInt8) <;> rfl
      rw [hrun, hk]
      rfl
    · trivial
  · trivial

end Go.Proofs.YtblgpcijbdbeiaaDoor.I
