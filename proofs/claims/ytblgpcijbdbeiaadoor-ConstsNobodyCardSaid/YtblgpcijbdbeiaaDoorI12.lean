/- The ideal machine: code and calls are sound. -/
import Derived.Test.YtblgpcijbdbeiaaDoorI11
namespace Go.Proofs.YtblgpcijbdbeiaaDoor.I
open Go
set_option linter.unusedVariables false
set_option linter.unusedSimpArgs false

variable {P : Program} {w₀ : World} {S : Sc}

/-- What a call of the model comes to, held against the ideal one's answer. -/
def CallR (P : Program) (w₀ : World) (S : Sc) (μ : Mu) (f : FuncId) (cargs : Array Value) (w : World) : CRes → Prop
  | .ok v h' => ((callFunc f cargs).run P w = .ok (.enter f cargs) w ∧
        Calls P f cargs w fun e w' => ∃ cv ν, e = .returned cv ∧ μ.le ν ∧ Rel w₀ S ν h' w' ∧ VR ν v cv) ∨
      (∃ cv w' ν, (callFunc f cargs).run P w = .ok (.value cv) w' ∧ μ.le ν ∧ Rel w₀ S ν h' w' ∧ VR ν v cv)
  | .pan v h' => (callFunc f cargs).run P w = .ok (.enter f cargs) w ∧
        Calls P f cargs w fun e w' => ∃ cv ν, e = .panicked [{ v := cv, recovered := false }] ∧ μ.le ν ∧ Rel w₀ S ν h' w' ∧ VR ν v cv
  | .fail => True
def CallS (P : Program) (w₀ : World) (S : Sc) (cf : CallF) : Prop :=
  ∀ (f : FuncId) (args : List IV) (h : H) (μ : Mu) (w : World) (cargs : Array Value), Rel w₀ S μ h w → VRs μ args cargs.toList → CallR P w₀ S μ f cargs w (cf f args h)

/-- Where a piece of code ends, held against the ideal one's end. -/
def OutQ (w₀ : World) (S : Sc) (μ : Mu) (out : Out) : Exit → Act → World → Prop :=
  match out with
  | .nrm F h => fun e a w => e = .normal ∧ ∃ ν, μ.le ν ∧ Rel w₀ S ν h w ∧ FR ν F a
  | .exit id F h => fun e a w => e = .exit id ∧ ∃ ν, μ.le ν ∧ Rel w₀ S ν h w ∧ FR ν F a
  | .ret F h => fun e a w => e = .ret ∧ ∃ ν, μ.le ν ∧ Rel w₀ S ν h w ∧ FR ν F a
  | .pan v F h => fun e a w => ∃ cv, e = .panic [{ v := cv, recovered := false }] ∧ ∃ ν, μ.le ν ∧ Rel w₀ S ν h w ∧ FR ν F a ∧ VR ν v cv
  | .fail => fun _ _ _ => False

theorem want_spec {all : Array Oper} {F : Fr} {a : Act} {μ : Mu} (f : FR μ F a) {o : Oper} {b : Bool} (e : wantI all F o.guard = some b) : Region.wanted o (yielded all a.tmps) = b := by
  unfold wantI at e
  unfold Region.wanted
  cases hg : o.guard with
  | none => rw [hg] at e; simp at e; simp [e]
  | some jw =>
    obtain ⟨j, want⟩ := jw
    rw [hg] at e
    simp only at e ⊢
    cases ht : (all[j]?).bind (·.dst) with
    | none => rw [ht] at e; cases e
    | some t =>
      rw [ht] at e
      simp only at e
      split at e
      · rename_i b' hb
        injection e with e; subst e
        obtain ⟨v, h1, h2⟩ := f.tmp t _ hb
        simp only [VR] at h2; subst h2
        simp [yielded, ht, h1]
      · rename_i hb
        injection e with e; subst e
        obtain ⟨v, h1, cs, rfl, _⟩ := f.tmp t _ hb
        simp [yielded, ht, h1]
      · cases e

/-- the list of numbers, and the operations that stand there -/
def Listed (ops : Array Oper) : List Nat → List Oper → Prop
  | [], os => os = []
  | i :: l, os => ∃ o os', os = o :: os' ∧ ops[i]? = some o ∧ Listed ops l os'
theorem listed_range (ops : Array Oper) : Listed ops (List.range ops.size) ops.toList := by
  have key : ∀ (d i : Nat), i + d = ops.size → Listed ops (List.range' i d) (ops.toList.drop i) := by
    intro d
    induction d with
    | zero => intro i hi; simp only [List.range'_zero, Listed]; rw [List.drop_eq_nil_of_le (by simp; omega)]
    | succ d ih =>
      intro i hi
      have hlt : i < ops.toList.length := by simp; omega
      rw [List.range'_succ, List.drop_eq_getElem_cons hlt]
      exact ⟨_, _, rfl, by simp, ih (i + 1) (by omega)⟩
  have := key ops.size 0 (by omega)
  rw [List.range_eq_range']
  simpa using this

theorem upon_of (P : Program) {w₀ : World} {S : Sc} {μ : Mu} {o : Oper} {a : Act} {next : Act → World → Prop} {Q : Exit → Act → World → Prop} {w : World} {f : FuncId} {cargs : Array Value} {cr : CRes}
    (hc : CallR P w₀ S μ f cargs w cr)
    (hok : ∀ v h', cr = .ok v h' → ∀ cv ν w', μ.le ν → Rel w₀ S ν h' w' → VR ν v cv → next (a.put o.dst cv) w')
    (hpan : ∀ v h', cr = .pan v h' → ∀ cv ν w', μ.le ν → Rel w₀ S ν h' w' → VR ν v cv → Q (.panic [{ v := cv, recovered := false }]) a w') (hf : cr ≠ .fail) :
    o.upon P a next Q ((callFunc f cargs).run P w) := by
  cases cr with
  | ok v h' =>
    rcases hc with ⟨h1, h2⟩ | ⟨cv, w', ν, h1, h2, h3, h4⟩
    · rw [h1, Oper.upon_enter]
      refine h2.mono ?_
      rintro e w' ⟨cv, ν, rfl, h3, h4, h5⟩
      exact hok v h' rfl cv ν w' h3 h4 h5
    · rw [h1, Oper.upon_value]
      exact hok v h' rfl cv ν w' h2 h3 h4
  | pan v h' =>
    obtain ⟨h1, h2⟩ := hc
    rw [h1, Oper.upon_enter]
    refine h2.mono ?_
    rintro e w' ⟨cv, ν, rfl, h3, h4, h5⟩
    exact hpan v h' rfl cv ν w' h3 h4 h5
  | fail => exact absurd rfl hf

theorem runOps_sound {cf : CallF} (hcf : CallS P w₀ S cf) {ops : Array Oper} {μ₀ : Mu} {out : Out} (hout : out ≠ .fail) : ∀ {l : List Nat} {os : List Oper} {F : Fr} {h : H} {μ : Mu} {a : Act} {w : World},
    Listed ops l os → runOps P cf ops os F h = out → μ₀.le μ → Rel w₀ S μ h w → FR μ F a → wpOps P ops (OutQ w₀ S μ₀ out) l a w
  | [], os, F, h, μ, a, w, hl, e, hle, r, f => by
    simp only [Listed] at hl; subst hl
    simp only [runOps] at e; subst e
    exact ⟨rfl, μ, hle, r, f⟩
  | i :: l, os, F, h, μ, a, w, hl, e, hle, r, f => by
    obtain ⟨o, os', rfl, hi, hl⟩ := hl
    simp only [runOps] at e
    simp only [wpOps, hi]
    split at e
    · exact absurd e.symm hout
    · rename_i hw
      rw [want_spec f hw]
      simp only [Bool.false_eq_true, if_false]
      split at e
      · rename_i F' hF
        exact runOps_sound hcf hout hl e hle r (f.put hF ⟨#[], rfl, rfl⟩)
      · exact absurd e.symm hout
    · rename_i hw
      rw [want_spec f hw]
      simp only [if_true]
      refine .inl ?_
      have hop := opI_sound (P := P) r f.er o
      unfold Oper.wp
      split at e
      · rename_i v h' ho
        rw [ho] at hop
        obtain ⟨cv, w', ν, h1, h2, h3, h4⟩ := hop
        split at e
        · rename_i F' hF
          rw [h1, Oper.upon_value]
          exact runOps_sound hcf hout hl e (Mu.le_trans hle h2) h3 ((f.mono h2).put hF h4)
        · exact absurd e.symm hout
      · rename_i h' ho
        rw [ho] at hop
        obtain ⟨w', ν, h1, h2, h3⟩ := hop
        split at e
        · rename_i F' hF
          rw [h1, Oper.upon_skip]
          exact runOps_sound hcf hout hl e (Mu.le_trans hle h2) h3 ((f.mono h2).put hF ⟨#[], rfl, rfl⟩)
        · exact absurd e.symm hout
      · rename_i g args ho
        rw [ho] at hop
        obtain ⟨cargs, h1, h2⟩ := hop
        rw [h1]
        have hc := hcf g args h μ w cargs r h2
        refine upon_of P hc ?_ ?_ ?_
        · intro v h' hcr cv ν w' hν hr hv
          rw [hcr] at e
          simp only at e
          split at e
          · rename_i F' hF
            exact runOps_sound hcf hout hl e (Mu.le_trans hle hν) hr ((f.mono hν).put hF hv)
          · exact absurd e.symm hout
        · intro v h' hcr cv ν w' hν hr hv
          rw [hcr] at e
          simp only at e; subst e
          exact ⟨cv, rfl, ν, Mu.le_trans hle hν, hr, f.mono hν, hv⟩
        · intro hcr
          rw [hcr] at e
          exact absurd e.symm hout
      · rename_i g args ho
        rw [ho] at hop
        obtain ⟨cap, as, h1, h2⟩ := hop
        split at e
        · rename_i F' hF
          rw [h1, Oper.upon_defer]
          have f2 : FR μ { F with defers := (g, args) :: F.defers } { a with defers := ⟨.fn (.func g) cap, as⟩ :: a.defers } := ⟨f.size, f.tmp, ⟨_, _, _, rfl, h2, f.dfr⟩⟩
          exact runOps_sound hcf hout hl e hle r (f2.put hF ⟨#[], rfl, rfl⟩)
        · exact absurd e.symm hout
      · rename_i v ho
        rw [ho] at hop
        obtain ⟨cv, h1, h2⟩ := hop
        subst e
        rw [h1, Oper.upon_panic]
        exact ⟨cv, rfl, μ, hle, r, f, h2⟩
      · exact absurd e.symm hout
      · exact absurd e.symm hout

/-- regions whose order is drawn -/
def DrS (P : Program) (w₀ : World) (S : Sc) (dr : Array Oper → Fr → H → Out) : Prop :=
  ∀ (id : Nat) (ops : Array Oper) (F : Fr) (h : H) (out : Out), dr ops F h = out → out ≠ .fail → ∀ (μ₀ μ : Mu) (a : Act) (w : World), μ₀.le μ → Rel w₀ S μ h w → FR μ F a →
    (Code.region id ops true).wp P (OutQ w₀ S μ₀ out) a w

theorem loop_sound {c : Code} {body : Fr → H → Out} {μ₀ : Mu} {out : Out} (hout : out ≠ .fail)
    (hb : ∀ F h o, body F h = o → o ≠ .fail → ∀ μ a w, μ₀.le μ → Rel w₀ S μ h w → FR μ F a → c.wp P (OutQ w₀ S μ₀ o) a w) {n : Nat} {F : Fr} {h : H} (e : loopN body n F h = out)
    {μ : Mu} {a : Act} {w : World} (hle : μ₀.le μ) (r : Rel w₀ S μ h w) (f : FR μ F a) : (Code.loop c).wp P (OutQ w₀ S μ₀ out) a w := by
  intro b k cs
  have key : ∀ n F h μ a w, loopN body n F h = out → μ₀.le μ → Rel w₀ S μ h w → FR μ F a →
      ∃ e a' w', OutQ w₀ S μ₀ out e a' w' ∧ Arrives P (lone (b.at a (.code c :: .inLoop c :: k)) cs w) b k cs e a' w' := by
    intro n
    induction n with
    | zero => intro F h μ a w e; simp only [loopN] at e; exact absurd e.symm hout
    | succ n ih =>
      intro F h μ a w e hle r f
      simp only [loopN] at e
      cases ho : body F h with
      | nrm F' h' =>
        rw [ho] at e
        simp only at e
        obtain ⟨e1, a₁, w₁, ⟨rfl, ν, hν, hr, hf⟩, harr⟩ := hb F h _ ho (by simp) μ a w hle r f b (.inLoop c :: k) cs
        obtain ⟨e₂, a₂, w₂, hq₂, harr₂⟩ := ih F' h' ν a₁ w₁ e hν hr hf
        exact ⟨e₂, a₂, w₂, hq₂, .of_steps (Steps.trans harr (.one step_inLoop)) harr₂⟩
      | exit j F' h' =>
        rw [ho] at e; simp only at e; subst e
        obtain ⟨e1, a₁, w₁, hq, harr⟩ := hb F h _ ho (by simp) μ a w hle r f b (.inLoop c :: k) cs
        have hq' := hq
        obtain ⟨rfl, _⟩ := hq'
        exact ⟨_, a₁, w₁, hq, .pass (x := .inLoop c) rfl (fun _ _ => .inl (by simp)) harr⟩
      | ret F' h' =>
        rw [ho] at e; simp only at e; subst e
        obtain ⟨e1, a₁, w₁, hq, harr⟩ := hb F h _ ho (by simp) μ a w hle r f b (.inLoop c :: k) cs
        have hq' := hq
        obtain ⟨rfl, _⟩ := hq'
        exact ⟨_, a₁, w₁, hq, .pass (x := .inLoop c) rfl (fun _ _ => .inl (by simp)) harr⟩
      | pan v F' h' =>
        rw [ho] at e; simp only at e; subst e
        obtain ⟨e1, a₁, w₁, hq, harr⟩ := hb F h _ ho (by simp) μ a w hle r f b (.inLoop c :: k) cs
        have hq' := hq
        obtain ⟨cv, rfl, _⟩ := hq'
        exact ⟨_, a₁, w₁, hq, .pass (x := .inLoop c) rfl (fun _ _ => .inl (by simp)) harr⟩
      | fail => rw [ho] at e; exact absurd e.symm hout
  obtain ⟨e', a', w', hq, harr⟩ := key n F h μ a w e hle r f
  exact ⟨e', a', w', hq, .of_steps (.one step_loop) harr⟩

theorem exec_sound {cf : CallF} (hcf : CallS P w₀ S cf) {dr : Array Oper → Fr → H → Out} (hdr : DrS P w₀ S dr) {m : Nat} {μ₀ : Mu} : ∀ (c : Code) {F : Fr} {h : H} {out : Out},
    exec P cf dr m c F h = out → out ≠ .fail → ∀ (μ : Mu) (a : Act) (w : World), μ₀.le μ → Rel w₀ S μ h w → FR μ F a → c.wp P (OutQ w₀ S μ₀ out) a w
  | .skip, F, h, out, e, hout, μ, a, w, hle, r, f => by
    simp only [exec] at e; subst e
    exact wp_skip ⟨rfl, μ, hle, r, f⟩
  | .label l, F, h, out, e, hout, μ, a, w, hle, r, f => by
    simp only [exec] at e; subst e
    exact wp_label ⟨rfl, μ, hle, r, f⟩
  | .region id ops false, F, h, out, e, hout, μ, a, w, hle, r, f => by
    simp only [exec] at e
    exact wp_region (runOps_sound hcf hout (listed_range ops) e hle r f)
  | .region id ops true, F, h, out, e, hout, μ, a, w, hle, r, f => by
    simp only [exec] at e
    exact hdr id ops F h out e hout μ₀ μ a w hle r f
  | .seq x y, F, h, out, e, hout, μ, a, w, hle, r, f => by
    simp only [exec] at e
    refine wp_seq ?_
    cases hx : exec P cf dr m x F h with
    | nrm F' h' =>
      rw [hx] at e
      refine wp_mono (exec_sound hcf hdr x hx (by simp) μ a w hle r f) ?_
      rintro e1 a1 w1 ⟨rfl, ν, hν, hr, hf⟩
      exact exec_sound hcf hdr y e hout ν a1 w1 hν hr hf
    | exit j F' h' =>
      rw [hx] at e; simp only at e; subst e
      refine wp_mono (exec_sound hcf hdr x hx (by simp) μ a w hle r f) ?_
      intro e1 a1 w1 hq
      have hq' := hq
      obtain ⟨rfl, _⟩ := hq'
      exact hq
    | ret F' h' =>
      rw [hx] at e; simp only at e; subst e
      refine wp_mono (exec_sound hcf hdr x hx (by simp) μ a w hle r f) ?_
      intro e1 a1 w1 hq
      have hq' := hq
      obtain ⟨rfl, _⟩ := hq'
      exact hq
    | pan v F' h' =>
      rw [hx] at e; simp only at e; subst e
      refine wp_mono (exec_sound hcf hdr x hx (by simp) μ a w hle r f) ?_
      intro e1 a1 w1 hq
      have hq' := hq
      obtain ⟨cv, rfl, _⟩ := hq'
      exact hq
    | fail => rw [hx] at e; exact absurd e.symm hout
  | .cond c x y, F, h, out, e, hout, μ, a, w, hle, r, f => by
    simp only [exec] at e
    split at e
    · rename_i hc
      have := ev_VR f hc
      simp only [VR] at this
      exact wp_cond_true this (exec_sound hcf hdr x e hout μ a w hle r f)
    · rename_i hc
      have := ev_VR f hc
      simp only [VR] at this
      exact wp_cond_false this (exec_sound hcf hdr y e hout μ a w hle r f)
    · exact absurd e.symm hout
  | .block i c, F, h, out, e, hout, μ, a, w, hle, r, f => by
    simp only [exec] at e
    refine wp_block ?_
    cases hx : exec P cf dr m c F h with
    | nrm F' h' =>
      rw [hx] at e; simp only at e; subst e
      refine wp_mono (exec_sound hcf hdr c hx (by simp) μ a w hle r f) ?_
      intro e1 a1 w1 hq
      have hq' := hq
      obtain ⟨rfl, _⟩ := hq'
      exact hq
    | exit j F' h' =>
      rw [hx] at e; simp only at e
      refine wp_mono (exec_sound hcf hdr c hx (by simp) μ a w hle r f) ?_
      rintro e1 a1 w1 ⟨rfl, hq⟩
      by_cases hj : j = i
      · rw [if_pos hj] at e; subst e
        simp only [Exit.inBlock, hj, if_true]
        exact ⟨rfl, hq⟩
      · rw [if_neg hj] at e; subst e
        simp only [Exit.inBlock, hj, if_false]
        exact ⟨rfl, hq⟩
    | ret F' h' =>
      rw [hx] at e; simp only at e; subst e
      refine wp_mono (exec_sound hcf hdr c hx (by simp) μ a w hle r f) ?_
      intro e1 a1 w1 hq
      have hq' := hq
      obtain ⟨rfl, _⟩ := hq'
      exact hq
    | pan v F' h' =>
      rw [hx] at e; simp only at e; subst e
      refine wp_mono (exec_sound hcf hdr c hx (by simp) μ a w hle r f) ?_
      intro e1 a1 w1 hq
      have hq' := hq
      obtain ⟨cv, rfl, _⟩ := hq'
      exact hq
    | fail => rw [hx] at e; exact absurd e.symm hout
  | .loop c, F, h, out, e, hout, μ, a, w, hle, r, f => by
    simp only [exec] at e
    exact loop_sound hout (fun F h o ho hno μ a w hle r f => exec_sound hcf hdr c ho hno μ a w hle r f) e hle r f
  | .exit i, F, h, out, e, hout, μ, a, w, hle, r, f => by
    simp only [exec] at e; subst e
    exact wp_exit ⟨rfl, μ, hle, r, f⟩
  | .ret, F, h, out, e, hout, μ, a, w, hle, r, f => by
    simp only [exec] at e; subst e
    exact wp_ret ⟨rfl, μ, hle, r, f⟩
  | .rangeFunc _ _ _ _, F, h, out, e, hout, μ, a, w, hle, r, f => by simp only [exec] at e; exact absurd e.symm hout
  | .scope _, F, h, out, e, hout, μ, a, w, hle, r, f => by simp only [exec] at e; exact absurd e.symm hout
  | .goto _, F, h, out, e, hout, μ, a, w, hle, r, f => by simp only [exec] at e; exact absurd e.symm hout
  | .refuse _, F, h, out, e, hout, μ, a, w, hle, r, f => by simp only [exec] at e; exact absurd e.symm hout

end Go.Proofs.YtblgpcijbdbeiaaDoor.I
