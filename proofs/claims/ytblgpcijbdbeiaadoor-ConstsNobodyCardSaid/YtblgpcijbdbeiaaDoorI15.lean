/- The ideal machine: regions whose order is drawn. They are carried out in the order of the text; what is checked makes sure that no other order tells another end. -/
import Derived.Test.YtblgpcijbdbeiaaDoorI14
namespace Go.Proofs.YtblgpcijbdbeiaaDoor.I
open Go
set_option linter.unusedVariables false
set_option linter.unusedSimpArgs false

/-! ### kinds of operations -/
def lightOp : Op → Bool
  | .move _ | .assign _ | .pick .. | .build .. | .load .. | .nilCheck _ | .binOp .. | .unOp .. | .makeInterface .. | .slice .. | .fieldAddr .. | .field .. | .indexAddr .. | .index .. | .lookup .. | .extract .. => true
  | .call c => match c.callee with | .builtin .len => true | _ => false
  | _ => false
def pureOp : Op → Bool
  | .move _ | .assign _ | .pick .. | .build .. | .nilCheck _ | .unOp .. | .makeInterface .. | .slice .. | .fieldAddr .. | .field .. | .indexAddr .. | .index .. | .extract .. => true
  | _ => false
def allocOp : Op → Bool
  | .alloc _ => true
  | _ => false

theorem OpR.ofV_eq {h h' : H} {x : Option IV} {v : IV} (e : OpR.ofV h x = .val v h') : x = some v ∧ h' = h := by
  cases x <;> simp [OpR.ofV] at e
  exact ⟨by rw [e.1], e.2.symm⟩

theorem light_same {P : Program} {h h' : H} {ε : Operand → Option IV} {o : Op} {v : IV} (hl : lightOp o = true) (e : opI P h ε o = .val v h') : h' = h := by
  cases o <;> simp only [lightOp, Bool.false_eq_true] at hl <;> simp only [opI] at e
  case makeInterface t x =>
    split at e
    · split at e
      · cases e
      · injection e with _ e; exact e.symm
      · cases e
    · cases e
  case nilCheck x =>
    split at e
    · injection e with _ e; exact e.symm
    · cases e
  case call c =>
    split at hl
    · rename_i hc
      unfold callI at e
      rw [hc] at e
      simp only at e
      split at e <;> simp only [reduceCtorEq] at *
      split at e
      · exact (OpR.ofV_eq e).2
      · cases e
    · cases hl
  all_goals first
    | exact (OpR.ofV_eq e).2
    | (split at e <;> first | exact (OpR.ofV_eq e).2 | cases e)

theorem pure_any {P : Program} {h h' : H} {ε : Operand → Option IV} {o : Op} {v : IV} (hl : pureOp o = true) (e : opI P h ε o = .val v h') (g : H) : opI P g ε o = .val v g := by
  have ofv : ∀ {x : Option IV}, OpR.ofV h x = .val v h' → OpR.ofV g x = .val v g := fun {x} e => by
    obtain ⟨rfl, _⟩ := OpR.ofV_eq e; rfl
  cases o <;> simp only [pureOp, Bool.false_eq_true] at hl <;> simp only [opI] at e ⊢
  case makeInterface t x =>
    split at e
    · split at e
      · cases e
      · injection e with e _; subst e; rfl
      · cases e
    · cases e
  case nilCheck x =>
    split at e
    · injection e with e _; subst e; rfl
    · cases e
  all_goals first
    | exact ofv e
    | (split at e <;> first | exact ofv e | cases e)

/-! ### the same value? -/
mutual
def IV.beq : IV → IV → Bool
  | .bool a, .bool b => a == b
  | .int k a, .int j b => decide (k = j) && decide (a = b)
  | .str a, .str b => a.eq b
  | .nilPtr, .nilPtr => true
  | .ptr b o, .ptr c p => Nat.beq b c && Nat.beq o p
  | .nilSlice, .nilSlice => true
  | .slice b o l e, .slice b' o' l' e' => Nat.beq b b' && Nat.beq o o' && Nat.beq l l' && Nat.beq e e'
  | .nilMap, .nilMap => true
  | .map a, .map b => Nat.beq a b
  | .nilFunc, .nilFunc => true
  | .func f l, .func g r => Nat.beq f g && IV.beqs l r
  | .nilIface, .nilIface => true
  | .iface t a, .iface u b => Nat.beq t u && IV.beq a b
  | .agg l, .agg r => IV.beqs l r
  | .tup l, .tup r => IV.beqs l r
  | _, _ => false
def IV.beqs : List IV → List IV → Bool
  | [], [] => true
  | a :: l, b :: r => IV.beq a b && IV.beqs l r
  | _, _ => false
end
theorem Str.eq_iff {a b : Str} (h : a.eq b = true) : a = b := by
  obtain ⟨l, v⟩ := a
  obtain ⟨l', v'⟩ := b
  simp only [Str.eq, Bool.and_eq_true, Nat.beq_eq] at h
  rw [h.1, h.2]
mutual
theorem IV.beq_eq : ∀ {a b : IV}, IV.beq a b = true → a = b := by
  intro a b h
  cases a <;> cases b <;> simp only [IV.beq, Bool.and_eq_true, Nat.beq_eq, decide_eq_true_eq, beq_iff_eq, Bool.false_eq_true] at h
  all_goals first
    | rfl
    | (rw [h]; done)
    | (rw [h.1, h.2]; done)
    | (rw [Str.eq_iff h]; done)
    | (obtain ⟨⟨⟨rfl, rfl⟩, rfl⟩, rfl⟩ := h; rfl)
    | (rw [h.1, IV.beqs_eq h.2]; done)
    | (rw [h.1, IV.beq_eq h.2]; done)
    | (rw [IV.beqs_eq h]; done)
theorem IV.beqs_eq : ∀ {a b : List IV}, IV.beqs a b = true → a = b := by
  intro a b h
  cases a <;> cases b <;> simp only [IV.beqs, Bool.and_eq_true, Bool.false_eq_true] at h
  · rfl
  · rw [IV.beq_eq h.1, IV.beqs_eq h.2]
end

end Go.Proofs.YtblgpcijbdbeiaaDoor.I
