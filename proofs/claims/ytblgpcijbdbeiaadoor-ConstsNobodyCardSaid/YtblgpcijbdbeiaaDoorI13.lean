/- The ideal machine: deferred calls, whole calls: whatever the ideal machine answers, the model comes to. -/
import Derived.Test.YtblgpcijbdbeiaaDoorI12
namespace Go.Proofs.YtblgpcijbdbeiaaDoor.I
open Go
set_option linter.unusedVariables false
set_option linter.unusedSimpArgs false

variable {P : Program} {w₀ : World} {S : Sc}

/-- how a frame is left -/
def ModeR (μ : Mu) : Mode → FrameMode → Prop
  | .ret, u => u = .returning
  | .pan v, u => ∃ cv, u = .panicking [{ v := cv, recovered := false }] ∧ VR μ v cv
  | .done, u => ∃ cv, u = .panicking [{ v := cv, recovered := true }]
theorem ModeR.mono {μ ν : Mu} (h : μ.le ν) {m : Mode} {u : FrameMode} (e : ModeR μ m u) : ModeR ν m u := by
  cases m with
  | ret => exact e
  | pan v => obtain ⟨cv, h1, h2⟩ := e; exact ⟨cv, h1, h2.mono h _ _⟩
  | done => exact e
/-- Where a deferred call's code ends. -/
def OutQS (w₀ : World) (S : Sc) (μ : Mu) (c₀ : Frame) (cs : List Frame) (st : Mode) (out : Out) : Exit → Act → List Frame → World → Prop :=
  fun e a cs' w => ∃ u, cs' = { c₀ with mode := u } :: cs ∧ ∃ ν, μ.le ν ∧ ModeR ν st u ∧ OutQ w₀ S ν out e a w

theorem OutQ.mono {μ ν : Mu} (h : μ.le ν) {out : Out} {e : Exit} {a : Act} {w : World} (q : OutQ w₀ S ν out e a w) : OutQ w₀ S μ out e a w := by
  cases out with
  | nrm F h' => obtain ⟨e1, κ, h1, h2⟩ := q; exact ⟨e1, κ, Mu.le_trans h h1, h2⟩
  | exit j F h' => obtain ⟨e1, κ, h1, h2⟩ := q; exact ⟨e1, κ, Mu.le_trans h h1, h2⟩
  | ret F h' => obtain ⟨e1, κ, h1, h2⟩ := q; exact ⟨e1, κ, Mu.le_trans h h1, h2⟩
  | pan v F h' => obtain ⟨cv, e1, κ, h1, h2⟩ := q; exact ⟨cv, e1, κ, Mu.le_trans h h1, h2⟩
  | fail => exact q

theorem runOpsD_sound {cf : CallF} {ops : Array Oper} {μ₀ : Mu} {st' : Mode} {out : Out} (hout : out ≠ .fail) {c₀ : Frame} {cs : List Frame} : ∀ {l : List Nat} {os : List Oper} {st : Mode} {F : Fr} {h : H} {μ : Mu} {u : FrameMode} {a : Act} {w : World},
    Listed ops l os → runOpsD P cf ops os st F h = (st', out) → μ₀.le μ → Rel w₀ S μ h w → FR μ F a → ModeR μ st u →
      wpOpsS P ops (OutQS w₀ S μ₀ c₀ cs st' out) l a ({ c₀ with mode := u } :: cs) w
  | [], os, st, F, h, μ, u, a, w, hl, e, hle, r, f, hu => by
    simp only [Listed] at hl; subst hl
    simp only [runOpsD, Prod.mk.injEq] at e
    obtain ⟨rfl, rfl⟩ := e
    exact ⟨u, rfl, μ, hle, hu, rfl, μ, μ.le_refl, r, f⟩
  | i :: l, os, st, F, h, μ, u, a, w, hl, e, hle, r, f, hu => by
    obtain ⟨o, os', rfl, hi, hl⟩ := hl
    have nof : ∀ s, (s, Out.fail) = (st', out) → False := fun s e => hout (by simp only [Prod.mk.injEq] at e; exact e.2.symm)
    simp only [runOpsD] at e
    simp only [wpOpsS, hi]
    split at e
    · rename_i hw
      rw [want_spec f hw]
      simp only [if_true]
      have hop := opI_sound (P := P) r f.er o
      split at e
      · rename_i ho
        rw [ho] at hop
        simp only [OpS] at hop
        rw [hop]
        simp only
        split at e
        · rename_i v
          obtain ⟨cv, rfl, hv⟩ := hu
          split at e
          · rename_i F' hF
            simp only [recoverD]
            exact runOpsD_sound hout hl e hle r (f.put hF hv) ⟨cv, rfl⟩
          · exact (nof _ e).elim
        · rename_i hst
          have hrec : recoverD ({ c₀ with mode := u } :: cs) = none := by
            cases st with
            | ret => simp only [ModeR] at hu; subst hu; rfl
            | pan v => exact absurd rfl (hst v)
            | done => obtain ⟨cv, rfl⟩ := hu; rfl
          split at e
          · rename_i F' hF
            rw [hrec]
            exact runOpsD_sound hout hl e hle r (f.put hF rfl) hu
          · exact (nof _ e).elim
      · rename_i v h' ho
        rw [ho] at hop
        obtain ⟨cv, w', ν, h1, h2, h3, h4⟩ := hop
        split at e
        · rename_i F' hF
          rw [h1]
          exact runOpsD_sound hout hl e (Mu.le_trans hle h2) h3 ((f.mono h2).put hF h4) (hu.mono h2)
        · exact (nof _ e).elim
      · rename_i h' ho
        rw [ho] at hop
        obtain ⟨w', ν, h1, h2, h3⟩ := hop
        split at e
        · rename_i F' hF
          rw [h1]
          exact runOpsD_sound hout hl e (Mu.le_trans hle h2) h3 ((f.mono h2).put hF ⟨#[], rfl, rfl⟩) (hu.mono h2)
        · exact (nof _ e).elim
      · exact (nof _ e).elim
    · exact (nof _ e).elim

theorem wpS_mono {c : Code} {Q Q' : Exit → Act → List Frame → World → Prop} {a : Act} {cs : List Frame} {w : World} (h : c.wpS P Q a cs w) (hq : ∀ e a cs w, Q e a cs w → Q' e a cs w) : c.wpS P Q' a cs w :=
  fun b k hb hr => let ⟨e, a', cs', w', q, r⟩ := h b k hb hr; ⟨e, a', cs', w', hq _ _ _ _ q, r⟩

theorem execD_sound {cf : CallF} (hcf : CallS P w₀ S cf) {dr : Array Oper → Fr → H → Out} (hdr : DrS P w₀ S dr) {m : Nat} {μ₀ : Mu} {c₀ : Frame} {cs : List Frame} : ∀ (c : Code) {st st' : Mode} {F : Fr} {h : H} {out : Out},
    execD P cf dr m c st F h = (st', out) → out ≠ .fail → ∀ (μ : Mu) (u : FrameMode) (a : Act) (w : World), μ₀.le μ → Rel w₀ S μ h w → FR μ F a → ModeR μ st u →
      c.wpS P (OutQS w₀ S μ₀ c₀ cs st' out) a ({ c₀ with mode := u } :: cs) w := by
  have plain : ∀ (c : Code) {st st' : Mode} {F : Fr} {h : H} {out : Out}, (st, exec P cf dr m c F h) = (st', out) → out ≠ .fail → ∀ (μ : Mu) (u : FrameMode) (a : Act) (w : World), μ₀.le μ → Rel w₀ S μ h w → FR μ F a → ModeR μ st u →
      c.wpS P (OutQS w₀ S μ₀ c₀ cs st' out) a ({ c₀ with mode := u } :: cs) w := by
    intro c st st' F h out e hout μ u a w hle r f hu
    simp only [Prod.mk.injEq] at e
    obtain ⟨rfl, e⟩ := e
    refine wpS_of_wp (wp_mono (exec_sound hcf hdr c e hout μ a w μ.le_refl r f) ?_)
    intro e1 a1 w1 hq
    exact ⟨u, rfl, μ, hle, hu, hq⟩
  intro c
  induction c with
  | seq x y ihx ihy =>
    intro st st' F h out e hout μ u a w hle r f hu
    simp only [execD] at e
    refine wpS_seq ?_
    cases hx : execD P cf dr m x st F h with
    | mk s o =>
      rw [hx] at e
      cases o with
      | nrm F' h' =>
        refine wpS_mono (ihx hx (by simp) μ u a w hle r f hu) ?_
        rintro e1 a1 cs1 w1 ⟨u', rfl, ν, hν, hm, rfl, κ, hκ, hr, hf⟩
        exact ihy e hout κ u' a1 w1 (Mu.le_trans hν hκ) hr hf (hm.mono hκ)
      | fail => simp only [Prod.mk.injEq] at e; exact absurd e.2.symm hout
      | exit j F' h' =>
        simp only [Prod.mk.injEq] at e; obtain ⟨rfl, rfl⟩ := e
        refine wpS_mono (ihx hx (by simp) μ u a w hle r f hu) ?_
        intro e1 a1 cs1 w1 hq
        have hq' := hq
        obtain ⟨u', rfl, ν, hν, hm, rfl, _⟩ := hq'
        exact hq
      | ret F' h' =>
        simp only [Prod.mk.injEq] at e; obtain ⟨rfl, rfl⟩ := e
        refine wpS_mono (ihx hx (by simp) μ u a w hle r f hu) ?_
        intro e1 a1 cs1 w1 hq
        have hq' := hq
        obtain ⟨u', rfl, ν, hν, hm, rfl, _⟩ := hq'
        exact hq
      | pan v F' h' =>
        simp only [Prod.mk.injEq] at e; obtain ⟨rfl, rfl⟩ := e
        refine wpS_mono (ihx hx (by simp) μ u a w hle r f hu) ?_
        intro e1 a1 cs1 w1 hq
        have hq' := hq
        obtain ⟨u', rfl, ν, hν, hm, cv, rfl, _⟩ := hq'
        exact hq
  | region id ops d =>
    intro st st' F h out e hout μ u a w hle r f hu
    cases d with
    | false =>
      simp only [execD] at e
      exact wpS_region (runOpsD_sound hout (listed_range ops) e hle r f hu)
    | true => exact plain _ (by simpa only [execD] using e) hout μ u a w hle r f hu
  | _ =>
    intro st st' F h out e hout μ u a w hle r f hu
    exact plain _ (by simpa only [execD] using e) hout μ u a w hle r f hu

theorem argTmps_get : ∀ (l : List IV) (i : Nat) (t : T IV) (j : Nat), (argTmps l i t).get j = if i ≤ j ∧ j < i + l.length then l[j - i]? else t.get j
  | [], i, t, j => by simp only [argTmps, List.length_nil, Nat.add_zero]; rw [if_neg (by omega)]
  | v :: l, i, t, j => by
    simp only [argTmps, argTmps_get l, T.get_set, List.length_cons]
    by_cases h1 : j = i
    · subst h1
      rw [if_neg (by omega), if_pos rfl, if_pos (by omega)]; simp
    · by_cases h2 : i + 1 ≤ j ∧ j < i + 1 + l.length
      · rw [if_pos h2, if_pos (by omega), show j - i = (j - (i + 1)) + 1 from by omega, List.getElem?_cons_succ]
      · rw [if_neg h2, if_neg h1, if_neg (by omega)]
theorem enterI_FR {μ : Mu} {fn : Func} {args : List IV} {cargs : Array Value} (hv : VRs μ args cargs.toList) :
    FR μ (enterI fn args) { tmps := cargs ++ Array.replicate (fn.ntmps - cargs.size) undef, defers := [] } := by
  have hl := hv.length
  rw [Array.length_toList] at hl
  refine ⟨by simp [enterI, hl]; omega, fun t x hx => ?_, rfl⟩
  simp only [enterI, argTmps_get] at hx
  split at hx
  · rename_i hc
    obtain ⟨v, h1, h2⟩ := hv.get _ _ hx
    refine ⟨v, ?_, h2⟩
    simp only [Nat.sub_zero] at h1
    rw [Array.getElem?_append_left (by omega), ← h1]; simp
  · rw [T.get_leaf] at hx; cases hx

def readRes (tmps : Array Value) : ResultVar → Sem Value
  | .tmp t => pure (tmps.getD t undef)
  | .cell b t => do loadVar t (← asAddr (tmps.getD b undef))
theorem resultsI_run {μ : Mu} {h : H} {w : World} {F : Fr} {a : Act} (r : Rel w₀ S μ h w) (f : FR μ F a) : ∀ {l : List ResultVar} {vs : List IV}, resultsI P F h l = some vs →
    ∃ cvs, VRs μ vs cvs ∧ (l.mapM (readRes a.tmps)).run P w = .ok cvs w
  | [], vs, e => by simp only [resultsI, Option.some.injEq] at e; subst e; exact ⟨[], rfl, by simp⟩
  | .tmp t :: l, vs, e => by
    simp only [resultsI] at e
    split at e
    · rename_i v hv
      split at e
      · rename_i rr hrr
        injection e with e; subst e
        obtain ⟨cvs, h1, h2⟩ := resultsI_run r f hrr
        obtain ⟨cv, h3, h4⟩ := f.tmp t v hv
        have : a.tmps.getD t undef = cv := by simp [h3]
        refine ⟨cv :: cvs, ⟨cv, cvs, rfl, h4, h1⟩, ?_⟩
        have hh : (readRes a.tmps (.tmp t)).run P w = .ok cv w := by simp only [readRes, this, Sem.run_pure]
        simp only [List.mapM_cons, Sem.run_bind, Sem.run_pure, Result.andThen_ok, h2, hh]
      · cases e
    · cases e
  | .cell b t :: l, vs, e => by
    simp only [resultsI] at e
    split at e
    · rename_i p hp
      split at e
      · rename_i v hv
        split at e
        · rename_i rr hrr
          injection e with e; subst e
          obtain ⟨cvs, h1, h2⟩ := resultsI_run r f hrr
          obtain ⟨cp, h3, h4⟩ := f.tmp b p hp
          have hgd : a.tmps.getD b undef = cp := by simp [h3]
          cases p with
          | ptr pb off =>
            obtain ⟨blk, base, lim, hm, rfl⟩ := h4
            obtain ⟨cv, h5, h6⟩ := loadVar_run (P := P) r hv hm
            refine ⟨cv :: cvs, ⟨cv, cvs, rfl, h6, h1⟩, ?_⟩
            have hh : (readRes a.tmps (.cell b t)).run P w = .ok cv w := by simp only [readRes, hgd, asAddr, Sem.run_bind, Sem.run_pure, Result.andThen_ok, h5]
            simp only [List.mapM_cons, Sem.run_bind, Sem.run_pure, Result.andThen_ok, h2, hh]
          | _ => simp [loadI] at hv
        · cases e
      · cases e
    · cases e
theorem results_run {μ : Mu} {h : H} {w : World} {F : Fr} {a : Act} {fn : Func} (r : Rel w₀ S μ h w) (f : FR μ F a) {vs : List IV} (e : resultsI P F h fn.results.toList = some vs) :
    ∃ cv, (results fn a.tmps).run P w = .ok cv w ∧ VR μ (oneOf vs) cv := by
  obtain ⟨cvs, h1, h2⟩ := resultsI_run r f e
  refine ⟨if hh : cvs.toArray.size = 1 then cvs.toArray[0] else .tuple cvs.toArray, ?_, ?_⟩
  · have hre : results fn a.tmps = (do
        let vs ← fn.results.mapM (readRes a.tmps)
        pure (if h : vs.size = 1 then vs[0] else .tuple vs)) := by
      unfold results
      congr 2
    rw [hre, Array.mapM_eq_mapM_toList]
    simp only [Sem.run_bind, Sem.run_map, h2, Result.andThen_ok, Sem.run_pure]
  · have hl := h1.length
    cases vs with
    | nil =>
      simp only [VRs] at h1; subst h1
      exact ⟨#[], rfl, rfl⟩
    | cons v vs =>
      cases vs with
      | nil =>
        obtain ⟨cv, rest, rfl, h3, h4⟩ := h1
        simp only [VRs] at h4; subst h4
        exact h3
      | cons v' vs =>
        have : ¬ cvs.toArray.size = 1 := by simp at hl ⊢; omega
        rw [dif_neg this]
        exact ⟨_, rfl, by simpa using h1⟩

/-- what a whole call of the model comes to -/
def EndR (w₀ : World) (S : Sc) (μ : Mu) : CRes → Ending → World → Prop
  | .ok v h' => fun e w' => ∃ cv ν, e = .returned cv ∧ μ.le ν ∧ Rel w₀ S ν h' w' ∧ VR ν v cv
  | .pan v h' => fun e w' => ∃ cv ν, e = .panicked [{ v := cv, recovered := false }] ∧ μ.le ν ∧ Rel w₀ S ν h' w' ∧ VR ν v cv
  | .fail => fun _ _ => False

/-- the model's own runtime.NumGoroutine is none of the program's functions -/
def NoNum (P : Program) : Prop := ∀ (f : FuncId) (fn : Func), P.funcs[f]? = some fn → (fn.name == "runtime.NumGoroutine") = false

theorem callFunc_enter {f : FuncId} {fn : Func} {c : Code} (hf : P.funcs[f]? = some fn) (hb : fn.body = some c) (hn : (fn.name == "runtime.NumGoroutine") = false) (args : Array Value) (w : World) :
    (callFunc f args).run P w = .ok (.enter f args) w := by
  have hn' : ¬ fn.name = "runtime.NumGoroutine" := by simpa using hn
  simp [callFunc, hf, hb, hn']

theorem leave_sound {cf : CallF} (hcf : CallS P w₀ S cf) {dr : Array Oper → Fr → H → Out} (hdr : DrS P w₀ S dr) {m : Nat} {μ₀ : Mu} {fn : Func} {F : Fr} {a : Act} : ∀ (ds : List (FuncId × List IV)) {st : Mode} {h : H} {res : CRes},
    finishI P fn F (leaveI P cf dr m ds st h) = res → res ≠ .fail → ∀ (μ : Mu) (u : FrameMode) (cds : List Deferred) (w : World), μ₀.le μ → Rel w₀ S μ h w → FR μ F a → ModeR μ st u → DfR μ ds cds → NoNum P →
      Leaves P fn a.tmps (EndR w₀ S μ₀ res) cds u w
  | [], st, h, res, e, hres, μ, u, cds, w, hle, r, f, hu, hd, hnn => by
    simp only [DfR] at hd; subst hd
    simp only [leaveI] at e
    cases st with
    | ret =>
      simp only [ModeR] at hu; subst hu
      simp only [finishI] at e
      split at e
      · rename_i vs hvs
        subst e
        obtain ⟨cv, h1, h2⟩ := results_run (P := P) r f hvs
        exact ⟨cv, h1, cv, μ, rfl, hle, r, h2⟩
      · exact absurd e.symm hres
    | pan v =>
      obtain ⟨cv, rfl, hv⟩ := hu
      simp only [finishI] at e; subst e
      exact ⟨cv, μ, rfl, hle, r, hv⟩
    | done => simp only [finishI] at e; exact absurd e.symm hres
  | (g, args) :: ds, st, h, res, e, hres, μ, u, cds, w, hle, r, f, hu, hd, hnn => by
    obtain ⟨cap, as, cds', rfl, hargs, hd'⟩ := hd
    simp only [leaveI] at e
    cases hg : P.funcs[g]? with
    | none => rw [hg] at e; simp only [finishI] at e; exact absurd e.symm hres
    | some gn =>
      rw [hg] at e
      simp only at e
      cases hb : gn.body with
      | none => rw [hb] at e; simp only [finishI] at e; exact absurd e.symm hres
      | some c =>
        rw [hb] at e
        cases hr0 : gn.results.toList with
        | cons x xs => rw [hr0] at e; simp only [finishI] at e; exact absurd e.symm hres
        | nil =>
          rw [hr0] at e
          simp only at e
          have hrun : u ≠ .run := by
            cases st with
            | ret => simp only [ModeR] at hu; subst hu; simp
            | pan v => obtain ⟨cv, rfl, _⟩ := hu; simp
            | done => obtain ⟨cv, rfl⟩ := hu; simp
          have hname : (gn.name == "runtime.NumGoroutine") = false := by
            exact hnn g gn hg
          refine ⟨hrun, .func g, cap, g, as ++ cap, rfl, by simp only [invoke]; exact callFunc_enter hg hb hname _ w, ?_⟩
          have hres0 : gn.results = #[] := Array.toList_inj.1 hr0
          cases hx : execD P cf dr m c st (enterI gn args) h with
          | mk st' o =>
            rw [hx] at e
            -- what the deferred call leaves
            have fin : ∀ F' h', (o = .nrm F' h' ∨ o = .ret F' h') →
                finishI P fn F (afterD F'.defers st' st fun s => leaveI P cf dr m ds s h') = res →
                CallsD P g (as ++ cap) u w fun
                  | .returned _, u', w' => Leaves P fn a.tmps (EndR w₀ S μ₀ res) cds' (settle u') w'
                  | .panicked chain, u', w' => Leaves P fn a.tmps (EndR w₀ S μ₀ res) cds' (raised u' chain) w'
                  | .outgrown, _, w' => EndR w₀ S μ₀ res .outgrown w' := by
              intro F' h' ho e
              refine callsD_of_wpS hg hb fun c₀ cs hc₀ => ?_
              have hc : ({ c₀ with mode := u } : Frame) = c₀ := by subst hc₀; rfl
              have hs := execD_sound (c₀ := c₀) (cs := cs) (μ₀ := μ) hcf hdr c hx (by rcases ho with rfl | rfl <;> simp) μ u _ w μ.le_refl r (enterI_FR hargs) hu
              rw [hc] at hs
              refine wpS_mono hs ?_
              rintro e1 a1 cs1 w1 ⟨u', rfl, ν, hν, hm, hq⟩
              have hend : (e1 = .normal ∨ e1 = .ret) ∧ ∃ κ, ν.le κ ∧ Rel w₀ S κ h' w1 ∧ FR κ F' a1 := by
                rcases ho with rfl | rfl
                · obtain ⟨rfl, q⟩ := hq; exact ⟨.inl rfl, q⟩
                · obtain ⟨rfl, q⟩ := hq; exact ⟨.inr rfl, q⟩
              obtain ⟨he1, κ, hκ, hr1, hf1⟩ := hend
              have hμκ := Mu.le_trans hν hκ
              have hdef : F'.defers = [] := by
                cases hdd : F'.defers with
                | nil => rfl
                | cons x xs => rw [hdd] at e; simp only [afterD, finishI] at e; exact absurd e.symm hres
              have hadef : a1.defers = [] := by
                have := hf1.dfr
                rw [hdef] at this
                exact this
              have hgo : Leaves P fn a.tmps (EndR w₀ S μ₀ res) cds' (settle u') w1 := by
                rw [hdef] at e
                have hm' := hm.mono hκ
                have next := fun (st2 : Mode) (u2 : FrameMode) (e2 : finishI P fn F (leaveI P cf dr m ds st2 h') = res) (hu2 : ModeR κ st2 u2) =>
                  leave_sound hcf hdr ds e2 hres κ u2 cds' w1 (Mu.le_trans hle hμκ) hr1 (f.mono hμκ) hu2 (hd'.mono hμκ) hnn
                cases st' with
                | done =>
                  obtain ⟨cv, rfl⟩ := hm'
                  exact next .ret .returning (by simpa only [afterD] using e) rfl
                | ret =>
                  simp only [ModeR] at hm'; subst hm'
                  cases st with
                  | ret => exact next .ret .returning (by simpa only [afterD] using e) rfl
                  | pan v => simp only [afterD, finishI] at e; exact absurd e.symm hres
                  | done => simp only [afterD, finishI] at e; exact absurd e.symm hres
                | pan v =>
                  obtain ⟨cv, rfl, hv⟩ := hm'
                  cases st with
                  | ret => simp only [afterD, finishI] at e; exact absurd e.symm hres
                  | pan v' => exact next (.pan v) (.panicking [{ v := cv, recovered := false }]) (by simpa only [afterD] using e) ⟨cv, rfl, hv⟩
                  | done => simp only [afterD, finishI] at e; exact absurd e.symm hres
              have hres1 : (results gn a1.tmps).run P w1 = .ok (.tuple #[]) w1 := by
                unfold results; rw [hres0]; simp
              rcases he1 with rfl | rfl
              · exact ⟨hadef, u', rfl, _, hres1, hgo⟩
              · exact ⟨hadef, u', rfl, _, hres1, hgo⟩
            cases o with
            | nrm F' h' => simp only at e; exact fin F' h' (.inl rfl) e
            | ret F' h' => simp only at e; exact fin F' h' (.inr rfl) e
            | exit j F' h' => simp only [finishI] at e; exact absurd e.symm hres
            | pan v F' h' => simp only [finishI] at e; exact absurd e.symm hres
            | fail => simp only [finishI] at e; exact absurd e.symm hres

theorem body_sound {cf : CallF} (hcf : CallS P w₀ S cf) {dr : Array Oper → Fr → H → Out} (hdr : DrS P w₀ S dr) {m : Nat} (hnn : NoNum P)
    (f : FuncId) (args : List IV) (h : H) (μ : Mu) (w : World) (cargs : Array Value) (r : Rel w₀ S μ h w) (hv : VRs μ args cargs.toList) : CallR P w₀ S μ f cargs w (bodyI P cf dr m f args h) := by
  cases hres : bodyI P cf dr m f args h with
  | fail => trivial
  | _ =>
    all_goals
      have hne : bodyI P cf dr m f args h ≠ .fail := by rw [hres]; simp
      have key : (callFunc f cargs).run P w = .ok (.enter f cargs) w ∧ Calls P f cargs w (EndR w₀ S μ (bodyI P cf dr m f args h)) := by
        clear hres
        unfold bodyI at hne ⊢
        cases hf : P.funcs[f]? with
        | none => rw [hf] at hne; exact absurd rfl hne
        | some fn =>
          rw [hf] at hne
          simp only at hne ⊢
          cases hb : fn.body with
          | none => rw [hb] at hne; exact absurd rfl hne
          | some c =>
            rw [hb] at hne
            simp only at hne ⊢
            have hname : (fn.name == "runtime.NumGoroutine") = false := by
              exact hnn f fn hf
            refine ⟨callFunc_enter hf hb hname _ w, calls_of_wp_defers hf hb ?_⟩
            have fr := enterI_FR (fn := fn) hv
            cases hx : exec P cf dr m c (enterI fn args) h with
            | nrm F h' =>
              rw [hx] at hne
              simp only at hne ⊢
              refine wp_mono (exec_sound (μ₀ := μ) hcf hdr c hx (by simp) μ _ w μ.le_refl r fr) ?_
              rintro e1 a1 w1 ⟨rfl, ν, hν, hr, hf1⟩
              exact leave_sound hcf hdr F.defers rfl hne ν .returning a1.defers w1 hν hr hf1 rfl hf1.dfr hnn
            | ret F h' =>
              rw [hx] at hne
              simp only at hne ⊢
              refine wp_mono (exec_sound (μ₀ := μ) hcf hdr c hx (by simp) μ _ w μ.le_refl r fr) ?_
              rintro e1 a1 w1 ⟨rfl, ν, hν, hr, hf1⟩
              exact leave_sound hcf hdr F.defers rfl hne ν .returning a1.defers w1 hν hr hf1 rfl hf1.dfr hnn
            | pan v F h' =>
              rw [hx] at hne
              simp only at hne ⊢
              refine wp_mono (exec_sound (μ₀ := μ) hcf hdr c hx (by simp) μ _ w μ.le_refl r fr) ?_
              rintro e1 a1 w1 ⟨cv, rfl, ν, hν, hr, hf1, hvv⟩
              exact leave_sound hcf hdr F.defers rfl hne ν (.panicking [{ v := cv, recovered := false }]) a1.defers w1 hν hr hf1 ⟨cv, rfl, hvv⟩ hf1.dfr hnn
            | exit j F h' => rw [hx] at hne; exact absurd rfl hne
            | fail => rw [hx] at hne; exact absurd rfl hne
      rw [hres] at key
      first
        | exact .inl key
        | exact key

/-- functions that are told by a table -/
def OvS (P : Program) (w₀ : World) (S : Sc) (ov : FuncId → Option (List IV → H → CRes)) : Prop :=
  ∀ (f : FuncId) (g : List IV → H → CRes), ov f = some g → ∀ (args : List IV) (h : H) (μ : Mu) (w : World) (cargs : Array Value), Rel w₀ S μ h w → VRs μ args cargs.toList → CallR P w₀ S μ f cargs w (g args h)

theorem callN_sound {ov : FuncId → Option (List IV → H → CRes)} (hov : ∀ w₀ S, OvS P w₀ S ov) {dr : CallF → Array Oper → Fr → H → Out} (hdr : ∀ cf, (∀ w₀ S, CallS P w₀ S cf) → ∀ w₀ S, DrS P w₀ S (dr cf)) {m : Nat}
    (hnn : NoNum P) : ∀ n w₀ S, CallS P w₀ S (callN P ov dr m n)
  | 0 => fun _ _ _ _ _ _ _ _ _ _ => trivial
  | n + 1 => by
    have ih := callN_sound hov hdr (m := m) hnn n
    intro w₀ S f args h μ w cargs r hv
    simp only [callN]
    cases ho : ov f with
    | some g => exact hov w₀ S f g ho args h μ w cargs r hv
    | none => exact body_sound (ih w₀ S) (hdr _ ih w₀ S) hnn f args h μ w cargs r hv

/-- THE MACHINE IS SOUND: what it answers to arguments that name no memory, the model's call comes to, in every world. -/
theorem closed_calls {ov : FuncId → Option (List IV → H → CRes)} (w : World) (hov : ∀ w₀ S, OvS P w₀ S ov) {dr : CallF → Array Oper → Fr → H → Out} (hdr : ∀ cf, (∀ w₀ S, CallS P w₀ S cf) → ∀ w₀ S, DrS P w₀ S (dr cf)) {m n : Nat}
    (hnn : NoNum P) {f : FuncId} {fn : Func} {c : Code} (hf : P.funcs[f]? = some fn) (hb : fn.body = some c) {args : List IV} {cargs : Array Value} (hv : VRs (fun _ => none) args cargs.toList)
    {v : IV} {h' : H} (e : callN P ov dr m n f args ⟨0, .leaf⟩ = .ok v h') :
    Calls P f cargs w fun e w' => ∃ cv ν, e = .returned cv ∧ VR ν v cv ∧ Go.RowKit.Below w.heap.size w w' := by
  have r : Rel w ⟨fun _ => False, fun _ => False⟩ (fun _ => none) ⟨0, .leaf⟩ w :=
    { obj := (fun b o hb => by cases hb), sep := (fun b c o p x y _ hb => by cases hb), lt := (fun b x hx => by cases hx), new := (fun _ _ => rfl), vis := (fun b x hx => by cases hx), keep := (fun _ _ _ => rfl), size := Nat.le_refl _, os := rfl, tape := rfl, output := rfl }
  have := callN_sound hov hdr (m := m) hnn n w ⟨fun _ => False, fun _ => False⟩ f args ⟨0, .leaf⟩ _ w cargs r hv
  rw [e] at this
  have fin : ∀ {ν h''} {w' : World}, Rel w ⟨fun _ => False, fun _ => False⟩ ν h'' w' → Go.RowKit.Below w.heap.size w w' := fun q => ⟨q.os, q.tape, q.output, q.size, fun k hk => q.keep k hk (fun x => x)⟩
  have hname : (fn.name == "runtime.NumGoroutine") = false := by
    exact hnn f fn hf
  rcases this with ⟨_, hc⟩ | ⟨cv, w', ν, h1, _⟩
  · refine hc.mono ?_
    rintro e w' ⟨cv, ν, rfl, _, hr, hvv⟩
    exact ⟨cv, ν, rfl, hvv, fin hr⟩
  · rw [callFunc_enter hf hb hname] at h1; cases h1

end Go.Proofs.YtblgpcijbdbeiaaDoor.I
