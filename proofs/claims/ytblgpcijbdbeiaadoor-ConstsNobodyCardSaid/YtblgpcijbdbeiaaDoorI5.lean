/- The ideal machine: its operations over values and memory give what the model's give. -/
import Derived.Test.YtblgpcijbdbeiaaDoorI4
namespace Go.Proofs.YtblgpcijbdbeiaaDoor.I
open Go
set_option linter.unusedVariables false
set_option linter.unusedSimpArgs false

variable {P : Program} {w₀ : World} {S : Sc} {μ : Mu} {h : H} {w : World}

/-- which values can be held against each other -/
def eqShape : IV → IV → Bool
  | .bool _, .bool _ | .int _ _, .int _ _ | .str _, .str _ | .nilPtr, .nilPtr | .nilPtr, .ptr _ _ | .ptr _ _, .nilPtr | .ptr _ _, .ptr _ _
  | .nilIface, .nilIface | .nilIface, .iface _ _ | .iface _ _, .nilIface | .nilSlice, .nilSlice | .nilSlice, .slice _ _ _ _ | .slice _ _ _ _, .nilSlice
  | .nilMap, .nilMap | .nilMap, .map _ | .map _, .nilMap | .nilFunc, .nilFunc | .nilFunc, .func _ _ | .func _ _, .nilFunc | .agg _, .agg _ => true
  | _, _ => false
theorem ieq_shape {d : Nat} {t : TypeId} {x y : IV} {b : Bool} (e : ieq P h d t x y = some b) : eqShape x y = true := by
  cases d with
  | zero => simp [ieq] at e
  | succ d =>
    unfold ieq at e
    split at e
    · cases e
    · split at e <;> first | rfl | cases e
theorem eqGuard_run {op : BinOp} {t : TypeId} {ox oy : Operand} {x y : IV} {cx cy : Value} (hx : VR μ x cx) (hy : VR μ y cy) (hs : eqShape x y = true) (hg : guardEq P t ox oy x y = true) (w : World) :
    (eqGuard op t ox oy cx cy).run P w = .ok () w := by
  cases x <;> cases y <;> first
    | (simp [eqShape] at hs; done)
    | skip
  case nilIface.nilIface =>
    simp only [VR] at hx hy; subst hx; subst hy
    simp only [guardEq, Bool.or_eq_true] at hg
    cases op <;> cases ox <;> cases oy <;> simp [isConst] at hg <;> simp [eqGuard]
  case agg.agg =>
    obtain ⟨_, rfl, _⟩ := hx
    obtain ⟨_, rfl, _⟩ := hy
    simp only [guardEq, Bool.not_eq_true'] at hg
    cases op <;> simp [eqGuard, hg]
  all_goals
    first
    | (simp only [VR] at hx; subst hx)
    | (obtain ⟨_, rfl, _⟩ := hx)
    | (obtain ⟨_, _, rfl, _⟩ := hx)
    | (obtain ⟨_, _, _, _, rfl⟩ := hx)
  all_goals
    first
    | (simp only [VR] at hy; subst hy)
    | (obtain ⟨_, rfl, _⟩ := hy)
    | (obtain ⟨_, _, rfl, _⟩ := hy)
    | (obtain ⟨_, _, _, _, rfl⟩ := hy)
  all_goals (cases op <;> rfl)
theorem eql_run (r : Rel w₀ S μ h w) {t : TypeId} {x y : IV} {b : Bool} {cx cy : Value} (e : ieq P h 10000 t x y = some b) (hx : VR μ x cx) (hy : VR μ y cy)
    (hni : ∀ k a j c, x = .int k a → y = .int j c → False) (hns : ∀ a c, x = .str a → y = .str c → False) :
    (binOp .eql t cx cy).run P w = .ok (.bool b) w ∧ (binOp .neq t cx cy).run P w = .ok (.bool (!b)) w := by
  have hq := equal_run r e hx hy
  have hs := ieq_shape e
  cases x <;> cases y <;> first
    | (simp [eqShape] at hs; done)
    | (exact (hni _ _ _ _ rfl rfl).elim)
    | (exact (hns _ _ rfl rfl).elim)
    | skip
  all_goals
    first
    | (simp only [VR] at hx; subst hx)
    | (obtain ⟨_, rfl, _⟩ := hx)
    | (obtain ⟨_, _, rfl, _⟩ := hx)
    | (obtain ⟨_, _, _, _, rfl⟩ := hx)
  all_goals
    first
    | (simp only [VR] at hy; subst hy)
    | (obtain ⟨_, rfl, _⟩ := hy)
    | (obtain ⟨_, _, rfl, _⟩ := hy)
    | (obtain ⟨_, _, _, _, rfl⟩ := hy)
  all_goals (refine ⟨?_, ?_⟩ <;> simp only [binOp, Sem.run_bind, hq, Result.andThen_ok, Sem.run_pure])

theorem binI_run (r : Rel w₀ S μ h w) {op : BinOp} {t : TypeId} {ox oy : Operand} {x y v : IV} {cx cy : Value} (e : binI P h op t ox oy x y = some v) (hx : VR μ x cx) (hy : VR μ y cy) :
    ∃ cv, (do eqGuard op t ox oy cx cy; binOp op t cx cy : Sem Value).run P w = .ok cv w ∧ VR μ v cv := by
  unfold binI at e
  split at e
  · rename_i k a j b
    simp only [VR] at hx hy; subst hx; subst hy
    have hg : (eqGuard op t ox oy (.int k a) (.int j b)) = pure () := by cases op <;> rfl
    simp only [hg, Sem.run_bind, Sem.run_pure, Result.andThen_ok]
    have done_ : (∀ (hs : op ≠ .shl) (hs' : op ≠ .shr), (if k = j then intOp op k a b else none) = some v → ∃ cv, (binOp op t (.int k a) (.int j b)).run P w = .ok cv w ∧ VR μ v cv) := by
      intro hs hs' e2
      by_cases hk : k = j
      · subst hk
        rw [if_pos rfl] at e2
        obtain ⟨cv, h1, h2⟩ := intOp_run (P := P) (t := t) e2 hs hs' w
        exact ⟨cv, h1, h2 μ⟩
      · rw [if_neg hk] at e2; cases e2
    cases op
    case shl => obtain ⟨cv, h1, h2⟩ := shiftOp_run (P := P) (t := t) (j := j) (op := .shl) e w; exact ⟨cv, h1, h2 μ⟩
    case shr => obtain ⟨cv, h1, h2⟩ := shiftOp_run (P := P) (t := t) (j := j) (op := .shr) e w; exact ⟨cv, h1, h2 μ⟩
    all_goals exact done_ (by simp) (by simp) e
  · rename_i a b
    obtain ⟨s, rfl, rfl⟩ := hx
    obtain ⟨s', rfl, rfl⟩ := hy
    have hg : (eqGuard op t ox oy (.string s) (.string s')) = pure () := by cases op <;> rfl
    simp only [hg, Sem.run_bind, Sem.run_pure, Result.andThen_ok]
    obtain ⟨cv, h1, h2⟩ := strOp_run (P := P) (t := t) e w
    exact ⟨cv, h1, h2 μ⟩
  · rename_i hni hns
    have n1 : ∀ k a j c, x = .int k a → y = .int j c → False := fun k a j c e1 e2 => hni k a j c e1 e2
    have n2 : ∀ a c, x = .str a → y = .str c → False := fun a c e1 e2 => hns a c e1 e2
    split at e
    · split at e
      · rename_i hg
        cases hq : ieq P h 10000 t x y with
        | none => rw [hq] at e; cases e
        | some b =>
          rw [hq] at e; injection e with e; subst e
          refine ⟨.bool b, ?_, rfl⟩
          simp only [Sem.run_bind, eqGuard_run hx hy (ieq_shape hq) hg, Result.andThen_ok]
          exact (eql_run r hq hx hy n1 n2).1
      · cases e
    · split at e
      · rename_i hg
        cases hq : ieq P h 10000 t x y with
        | none => rw [hq] at e; cases e
        | some b =>
          rw [hq] at e; injection e with e; subst e
          refine ⟨.bool (!b), ?_, rfl⟩
          simp only [Sem.run_bind, eqGuard_run hx hy (ieq_shape hq) hg, Result.andThen_ok]
          exact (eql_run r hq hx hy n1 n2).2
      · cases e
    · cases e

end Go.Proofs.YtblgpcijbdbeiaaDoor.I
