/- The ideal machine: its operators answer as the model's. -/
import Derived.Test.YtblgpcijbdbeiaaDoorI2
namespace Go.Proofs.YtblgpcijbdbeiaaDoor.I
open Go
set_option linter.unusedVariables false
set_option linter.unusedSimpArgs false

variable {P : Program} {w₀ : World} {S : Sc} {μ : Mu} {h : H} {w : World}

theorem wr_eq (k : IntKind) (n : Int) : wr k n = k.wrap n := by
  unfold wr
  split
  · rename_i hh
    cases k <;> simp only [IntKind.min, IntKind.max, IntKind.signed, IntKind.bits, IntKind.wrap] at hh ⊢ <;> simp at hh ⊢ <;> omega
  · rfl

/-! ### texts, byte by byte -/
theorem ltF_spec : ∀ (n : Nat) (a b : List UInt8), b.length < n → ltF n a.length (packL a) b.length (packL b) = Op.bytesLess a b
  | 0, _, _, h => by omega
  | n + 1, a, [], h => by simp [ltF, Op.bytesLess]
  | n + 1, [], y :: b, h => by
    have n1 : Nat.beq (y :: b).length 0 = false := by rw [T.nbeq]; simp
    rw [ltF, n1]; simp [Op.bytesLess]
  | n + 1, x :: a, y :: b, h => by
    have hx := x.toNat_lt
    have hy := y.toNat_lt
    have e1 : (packL (x :: a)) % 256 = x.toNat := by simp only [packL]; omega
    have e2 : (packL (y :: b)) % 256 = y.toNat := by simp only [packL]; omega
    have e3 : (packL (x :: a)) / 256 = packL a := by simp only [packL]; omega
    have e4 : (packL (y :: b)) / 256 = packL b := by simp only [packL]; omega
    have n1 : Nat.beq (y :: b).length 0 = false := by rw [T.nbeq]; simp
    have n2 : Nat.beq (x :: a).length 0 = false := by rw [T.nbeq]; simp
    rw [ltF, n1, n2, e1, e2, e3, e4]
    simp only [List.length_cons, Nat.add_sub_cancel, cond_false, Op.bytesLess]
    rw [ltF_spec n a b (by simp at h; omega), T.nbeq]
    have hblt : Nat.blt x.toNat y.toNat = decide (x < y) := by
      rw [Bool.eq_iff_iff]; simp [UInt8.lt_iff_toNat_lt]
    rw [hblt]
    by_cases c1 : x < y
    · simp [c1]
    · by_cases c2 : x = y
      · subst c2; simp
      · have : ¬ x.toNat = y.toNat := fun e => c2 (UInt8.toNat_inj.1 e)
        simp [c1, c2, this]
theorem toList_loop (a : ByteArray) : ∀ (d i : Nat) (r : List UInt8), a.size - i = d → ByteArray.toList.loop a i r = r.reverse ++ a.data.toList.drop i := by
  intro d
  induction d with
  | zero =>
    intro i r hd
    rw [ByteArray.toList.loop, if_neg (by omega), List.drop_eq_nil_of_le (by simp; omega)]; simp
  | succ d ih =>
    intro i r hd
    have hi : i < a.size := by omega
    rw [ByteArray.toList.loop, if_pos hi, ih (i + 1) _ (by omega)]
    have hl : i < a.data.toList.length := by simpa using hi
    rw [List.drop_eq_getElem_cons hl]
    have : a.get! i = a.data.toList[i] := by
      show a.data[i]! = _
      have h2 : i < a.data.size := hi
      rw [getElem!_pos a.data i h2]; simp
    rw [this]; simp
theorem toList_eq (a : ByteArray) : a.toList = a.data.toList := by
  rw [ByteArray.toList, toList_loop a _ 0 [] rfl]; simp
theorem pack_lt (a b : ByteArray) : (pack a).lt (pack b) = Op.bytesLess a.toList b.toList := by
  rw [toList_eq, toList_eq]
  have := ltF_spec (b.data.toList.length + 1) a.data.toList b.data.toList (by omega)
  simpa [Str.lt, pack] using this

/-- What a step that gives a value comes to. -/
def Gives (P : Program) (w₀ : World) (S : Sc) (μ : Mu) (s : Sem Value) (w : World) (v : IV) (h' : H) : Prop :=
  ∃ cv w' ν, s.run P w = .ok cv w' ∧ μ.le ν ∧ Rel w₀ S ν h' w' ∧ VR ν v cv
theorem Gives.here {s : Sem Value} {v : IV} {cv : Value} (r : Rel w₀ S μ h w) (hs : s.run P w = .ok cv w) (hv : VR μ v cv) : Gives P w₀ S μ s w v h :=
  ⟨cv, w, μ, hs, μ.le_refl, r, hv⟩

/-! ### operators -/
theorem intOp_run {op : BinOp} {t : TypeId} {k : IntKind} {a b : Int} {v : IV} (e : intOp op k a b = some v) (hs : op ≠ .shl) (hs' : op ≠ .shr) (w : World) :
    ∃ cv, (binOp op t (.int k a) (.int k b)).run P w = .ok cv w ∧ ∀ μ, VR μ v cv := by
  cases op <;> simp only [intOp, Option.some.injEq, reduceCtorEq] at e <;> first
    | (subst e; simp only [binOp, Op.intArith, Op.intBits, Op.intCmp, ne_eq, not_true_eq_false, if_false, Sem.run_pure, wr_eq]; exact ⟨_, rfl, fun μ => rfl⟩)
    | (split at e
       · cases e
       · injection e with e; subst e
         rename_i hb
         simp only [binOp, Op.intDiv, ne_eq, not_true_eq_false, if_false, if_neg hb, Sem.run_pure, wr_eq]; exact ⟨_, rfl, fun μ => rfl⟩)
    | (exact absurd rfl hs)
    | (exact absurd rfl hs')
theorem shiftOp_run {op : BinOp} {t : TypeId} {k j : IntKind} {a b : Int} {v : IV} (e : shiftOp op k a b = some v) (w : World) :
    ∃ cv, (binOp op t (.int k a) (.int j b)).run P w = .ok cv w ∧ ∀ μ, VR μ v cv := by
  unfold shiftOp at e
  split at e
  · cases e
  · rename_i hb
    cases op <;> simp only [Option.some.injEq, reduceCtorEq] at e <;> subst e <;>
      simp only [binOp, Op.shift, if_neg hb, Sem.run_pure, wr_eq] <;> exact ⟨_, rfl, fun μ => rfl⟩
theorem beq_toList (a b : ByteArray) : (a.toList == b.toList) = decide (a = b) := by
  rw [toList_eq, toList_eq, Bool.eq_iff_iff]
  simp only [beq_iff_eq, decide_eq_true_eq]
  constructor
  · intro e; exact ByteArray.ext (Array.toList_inj.1 e)
  · rintro rfl; rfl
theorem strOp_run {op : BinOp} {t : TypeId} {a b : ByteArray} {v : IV} (e : strOp op (pack a) (pack b) = some v) (w : World) :
    ∃ cv, (binOp op t (.string a) (.string b)).run P w = .ok cv w ∧ ∀ μ, VR μ v cv := by
  cases op <;> simp only [strOp, Option.some.injEq, reduceCtorEq, pack_eq, pack_lt] at e
  case add =>
    by_cases hl : (pack a).len + (pack b).len ≤ 2 ^ 40
    · rw [if_pos hl] at e
      rw [pack_len, pack_len] at hl
      injection e with e; subst e
      refine ⟨.string (a ++ b), ?_, fun μ => ⟨_, rfl, (pack_app a b).symm⟩⟩
      simp only [binOp, Op.stringOp, IntKind.max_i64]
      rw [Sem.run_ite, if_neg (by omega)]; rfl
    · rw [if_neg hl] at e; cases e
  all_goals
    subst e
    simp only [binOp, Op.stringOp, beq_toList, Sem.run_pure]
    exact ⟨_, rfl, fun μ => rfl⟩
theorem unI_run {op : UnOp} {x v : IV} {cx : Value} (e : unI op x = some v) (hx : VR μ x cx) (w : World) : ∃ cv, (Op.unary op cx).run P w = .ok cv w ∧ VR μ v cv := by
  unfold unI at e
  split at e
  · injection e with e; subst e; simp only [VR] at hx; subst hx; exact ⟨_, rfl, rfl⟩
  · injection e with e; subst e; simp only [VR] at hx; subst hx
    exact ⟨_, rfl, by rw [wr_eq]; rfl⟩
  · simp only [VR] at hx; subst hx
    simp only [intOp, Option.some.injEq] at e; subst e
    exact ⟨_, rfl, rfl⟩
  · cases e

/-! ### parts of aggregates -/
theorem partI_run {t : TypeId} {cs : List IV} {off : Nat} {v : IV} {ccs : Array Value} (e : partI P t cs off = some v) (hc : VRs μ cs ccs.toList) (w : World) :
    ∃ cv, (part t ccs off).run P w = .ok cv w ∧ VR μ v cv := by
  unfold partI at e
  split at e
  · rename_i ha
    split at e
    · rename_i n hn
      split at e
      · rename_i hl
        injection e with e; subst e
        refine ⟨.agg (ccs.extract off (off + n)), ?_, _, rfl, ?_⟩
        · simp [part, isAgg_run ha, sizeOf_run hn]
        · have := (hc.drop off).take n
          rw [Array.toList_extract]
          simpa [List.extract_eq_take_drop] using this
      · cases e
    · cases e
  · rename_i ha
    obtain ⟨cv, h1, h2⟩ := hc.get _ _ e
    refine ⟨cv, ?_, h2⟩
    have h1' : ccs[off]? = some cv := by rw [← h1]; simp
    simp [part, isAgg_run ha, h1']
  · cases e

end Go.Proofs.YtblgpcijbdbeiaaDoor.I
