/- The ideal machine: a region whose order is drawn ends as the evaluator says. -/
import Derived.Test.YtblgpcijbdbeiaaDoorI18
namespace Go.Proofs.YtblgpcijbdbeiaaDoor.I
open Go
set_option linter.unusedVariables false
set_option linter.unusedSimpArgs false

variable {P : Program} {w₀ : World} {S : Sc} {cf : CallF} {ops : Array Oper} {F₀ : Fr} {v : Nat → IV} {g : Nat → H} {B : Nat → Nat → Prop} {look : Nat → Tmp → Option IV} {μ₀ : Mu}
variable {l : Array Bool} {a : Act} {w : World} {p : Nat} {w₁ : World} {S₁ : Sc} {μ : Mu} {β : Nat → Nat}

/-- memory is made before the ideal memory makes it -/
theorem early (pl : Plan P cf ops F₀ v g B look) (I : Inv P w₀ S ops F₀ v g B μ₀ l a w p w₁ S₁ μ β) {i : Nat} {o : Oper} (ho : ops[i]? = some o) (hu : ¬ Up l i)
    (he : ∀ e ∈ o.after, Region.binds .any e = true → Up l e.on) (ha : allocOp o.op = true) (hp : p < i) {t : TypeId} (hop : o.op = .alloc t) {z : IV} {zv : Value} (hz : zeroT P t = some z) (hzv : ∀ ν, VR ν z zv) :
    ∃ w₁' S₁' β', Inv P w₀ S ops F₀ v g B μ₀ (l.setIfInBounds i true) (a.put o.dst (.pointer (some ⟨w.heap.size, 0, none⟩))) { w with heap := w.heap.push (.cells zv.cells t) } p w₁' S₁' μ β' := by
  have hi := (Array.getElem?_eq_some_iff.1 ho).1
  have hil : i < l.size := by rw [I.size]; exact hi
  have hset : ∀ j, Up (l.setIfInBounds i true) j ↔ j = i ∨ Up l j := fun j => up_set hil
  have keep : ∀ (t : Nat), o.dst ≠ some t → (a.put o.dst (.pointer (some ⟨w.heap.size, 0, none⟩))).tmps[t]? = a.tmps[t]? := fun t ht => by
    cases hd : o.dst with
    | none => rfl
    | some d =>
      simp only [Act.put]
      exact Array.getElem?_setIfInBounds_ne (fun e => ht (by rw [hd, e]))
  have dne : ∀ (j : Nat) oj t, ops[j]? = some oj → j ≠ i → oj.dst = some t → o.dst ≠ some t := fun j oj t hj hne hd hd' => hne (pl.one j i oj o t hj ho hd hd')
  have hsz := I.rel.size
  have hbig := I.wk.size
  refine ⟨{ w with heap := w.heap.push (.cells zv.cells t) }, S₁.less w₁.heap.size w.heap.size, fun j => if j = i then w.heap.size else β j, ?_⟩
  exact {
    size := by simp [I.size]
    down := fun j hj k hb => by
      rw [hset] at hj ⊢
      rcases hj with hj | hj
      · subst hj; exact .inr (preds pl I ho he hb)
      · exact .inr (I.down j hj k hb)
    le := I.le
    done := fun j oj hj hoj hh => (hset j).2 (.inr (I.done j oj hj hoj hh))
    ahead := fun j oj hj hoj hh hna hup => by
      rw [hset] at hup
      rcases hup with rfl | hup
      · rw [ho] at hoj; injection hoj with hoj; subst hoj; rw [ha] at hna; cases hna
      · exact I.ahead j oj hj hoj hh hna hup
    wk := I.wk.pend I.rel (.cells zv.cells t), rel := I.rel.pend (.cells zv.cells t), mu := I.mu
    tsz := by
      have := I.tsz
      cases o.dst <;> simp [Act.put, this]
    put := fun j oj t' hoj hup hnp hd => by
      rw [hset] at hup
      have e : j ≠ i := fun e => by
        subst e
        rw [ho] at hoj; injection hoj with hoj; subst hoj
        exact hnp ⟨ha, by omega⟩
      obtain ⟨u, h1, h2⟩ := I.put j oj t' hoj (hup.resolve_left e) hnp hd
      exact ⟨u, by rw [keep t' (dne j oj t' hoj e hd)]; exact h1, h2⟩
    old := fun t' x hx hno => by
      obtain ⟨u, h1, h2⟩ := I.old t' x hx fun j oj hoj hup => hno j oj hoj ((hset j).2 (.inr hup))
      exact ⟨u, by rw [keep t' (hno i o ho ((hset i).2 (.inl rfl)))]; exact h1, h2⟩
    dfr := by
      have : (a.put o.dst (.pointer (some ⟨w.heap.size, 0, none⟩))).defers = a.defers := by cases o.dst <;> rfl
      rw [this]; exact I.dfr
    pend := fun j oj hoj hup haj hle => by
      by_cases e : j = i
      · subst e
        rw [ho] at hoj; injection hoj with hoj; subst hoj
        simp only [if_true]
        refine ⟨t, z, zv, hop, hz, hzv, by simp, fun h => h.2 rfl, fun h => h.2 rfl, by omega, by simp, fun d hd => ?_⟩
        have := pl.fits j o d ho hd
        rw [hd]
        simp [Act.put, I.tsz, this]
      · simp only [if_neg e]
        rw [hset] at hup
        obtain ⟨t', z', zv', h1, h2, h3, h4, h5, h6, h7, h8, h9⟩ := I.pend j oj hoj (hup.resolve_left e) haj hle
        have hlt : β j < w.heap.size := by omega
        refine ⟨t', z', zv', h1, h2, h3, ?_, fun h => ?_, fun h => ?_, h7, by simp only [Array.size_push]; omega, fun d hd => by rw [keep d (dne j oj d hoj e hd)]; exact h9 d hd⟩
        · simp only
          rw [Array.getElem?_push, if_neg (by omega), I.rel.keep _ h8 h5, h4]
        · rcases h.1 with h | h
          · exact h5 h
          · omega
        · rcases h.1 with h | h
          · exact h6 h
          · omega
    inj := fun j k oj ok hj hk huj huk haj hak hpj hpk hne => by
      rw [hset] at huj huk
      have lt : ∀ (j : Nat) oj, ops[j]? = some oj → Up l j → allocOp oj.op = true → p ≤ j → β j < w.heap.size := fun j oj hoj hup haj hle => by
        obtain ⟨_, _, _, _, _, _, _, _, _, _, h8, _⟩ := I.pend j oj hoj hup haj hle
        omega
      by_cases e1 : j = i
      · subst e1
        have e2 : k ≠ j := Ne.symm hne
        have := lt k ok hk (huk.resolve_left e2) hak hpk
        simp only [if_true, if_neg e2]; omega
      · by_cases e2 : k = i
        · subst e2
          have := lt j oj hj (huj.resolve_left e1) haj hpj
          simp only [if_true, if_neg e1]; omega
        · simp only [if_neg e1, if_neg e2]
          exact I.inj j k oj ok hj hk (huj.resolve_left e1) (huk.resolve_left e2) haj hak hpj hpk hne }

/-- what is left to do -/
def left (l : Array Bool) : Nat := l.toList.countP fun b => !b
theorem count_set : ∀ (xs : List Bool) (i : Nat), xs[i]? = some false → (xs.set i true).countP (fun b => !b) + 1 = xs.countP fun b => !b
  | [], i, h => by simp at h
  | x :: xs, 0, h => by
    simp only [List.getElem?_cons_zero, Option.some.injEq] at h; subst h
    simp [List.countP_cons]
  | x :: xs, i + 1, h => by
    simp only [List.getElem?_cons_succ] at h
    simp only [List.set_cons_succ, List.countP_cons]
    have := count_set xs i h
    omega
theorem left_set {l : Array Bool} {i : Nat} (hi : i < l.size) (hu : ¬ Up l i) : left (l.setIfInBounds i true) + 1 = left l := by
  unfold left
  have h2 : l.toList[i]? = some false := by
    unfold Up at hu
    simp [hi] at hu
    simp [hi, hu]
  have : (l.setIfInBounds i true).toList = l.toList.set i true := by simp
  rw [this]
  exact count_set _ _ h2

variable {out : Out} {F' : Fr}

/-- the whole region, whatever the order -/
theorem any_order (hcf : ∀ w₀ S, CallS P w₀ S cf) (pl : Plan P cf ops F₀ v g B look)
    (hF : F'.nt = F₀.nt ∧ F'.defers = F₀.defers ∧ ∀ t x, F'.tmps.get t = some x → (∃ (j : Nat) (o : Oper), ops[j]? = some o ∧ o.dst = some t ∧ x = v j) ∨ ((∀ (j : Nat) o, ops[j]? = some o → o.dst ≠ some t) ∧ F₀.tmps.get t = some x)) :
    ∀ (fuel : Nat) (l : Array Bool) (a : Act) (w : World), left l ≤ fuel → (∃ p w₁ S₁ μ β, Inv P w₀ S ops F₀ v g B μ₀ l a w p w₁ S₁ μ β) →
      wpAny P .any ops (OutQ w₀ S μ₀ (.nrm F' (g ops.size))) fuel l a w := by
  intro fuel
  have done : ∀ (l : Array Bool) (a : Act) (w : World), (∃ p w₁ S₁ μ β, Inv P w₀ S ops F₀ v g B μ₀ l a w p w₁ S₁ μ β) → Region.ready .any ops l = [] → OutQ w₀ S μ₀ (.nrm F' (g ops.size)) .normal a w := by
    rintro l a w ⟨p, w₁, S₁, μ, β, I⟩ hr
    have hall : ∀ i, i < ops.size → Up l i := by
      intro i
      induction i using Nat.strongRecOn with
      | ind i ih =>
        intro hi
        by_cases hu : Up l i
        · exact hu
        · exfalso
          have ho : ops[i]? = some ops[i] := Array.getElem?_eq_getElem hi
          have hil : i < l.size := by rw [I.size]; exact hi
          have hmem : i ∈ Region.ready .any ops l := by
            rw [mem_ready]
            refine ⟨?_, _, ho, fun e he hb => ?_⟩
            · unfold Up at hu
              simp [hil] at hu ⊢; exact hu
            · have hB : B i e.on := (pl.before i _ ho e.on).2 ⟨e, he, hb, .inl rfl⟩
              have := pl.back i e.on hi hB
              exact ih e.on this (by omega)
          rw [hr] at hmem; cases hmem
    obtain ⟨p', w₁', S₁', μ', β', I', hs⟩ := absorbed pl (ops.size - p) p w₁ S₁ μ β (by have := I.le; omega) I
    have hp : p' = ops.size := by
      rcases hs with hs | ⟨o, ho, _, hu⟩
      · exact hs
      · exact absurd (hall p' (Array.getElem?_eq_some_iff.1 ho).1) hu
    subst hp
    refine ⟨rfl, μ', I'.mu, I'.wk.rel I'.rel, ?_⟩
    obtain ⟨h1, h2, h3⟩ := hF
    refine ⟨by rw [I'.tsz, h1], fun t x hx => ?_, by rw [h2]; exact I'.dfr⟩
    rcases h3 t x hx with ⟨j, o, hj, hd, rfl⟩ | ⟨hno, hx⟩
    · have hj' := (Array.getElem?_eq_some_iff.1 hj).1
      exact I'.put j o t hj (hall j hj') (fun h => by omega) hd
    · exact I'.old t x hx fun j o hj _ => hno j o hj
  induction fuel with
  | zero =>
    intro l a w hleft hI
    have hr : Region.ready .any ops l = [] := by
      rw [List.eq_nil_iff_forall_not_mem]
      intro i hi
      obtain ⟨p, w₁, S₁, μ, β, I⟩ := hI
      obtain ⟨hu, o, ho, _⟩ := ready_spec I hi
      have hil : i < l.size := by rw [I.size]; exact (Array.getElem?_eq_some_iff.1 ho).1
      have := left_set hil hu
      omega
    exact ⟨hr, done l a w hI hr⟩
  | succ fuel ih =>
    intro l a w hleft hI
    refine ⟨fun hr => done l a w hI hr, fun i hi => ?_⟩
    obtain ⟨p₀, w₀', S₀', μ₀', β₀, I₀⟩ := hI
    obtain ⟨p, w₁, S₁, μ, β, I, hs⟩ := absorbed pl (ops.size - p₀) p₀ w₀' S₀' μ₀' β₀ (by have := I₀.le; omega) I₀
    obtain ⟨hu, o, ho, he⟩ := ready_spec I hi
    have hin := (Array.getElem?_eq_some_iff.1 ho).1
    have hil : i < l.size := by rw [I.size]; exact hin
    have hleft' : left (l.setIfInBounds i true) ≤ fuel := by have := left_set hil hu; omega
    have go : ∀ {a' : Act} {w' : World}, (∃ p w₁ S₁ μ β, Inv P w₀ S ops F₀ v g B μ₀ (l.setIfInBounds i true) a' w' p w₁ S₁ μ β) → wpAny P .any ops (OutQ w₀ S μ₀ (.nrm F' (g ops.size))) fuel (l.setIfInBounds i true) a' w' :=
      fun {a'} {w'} h => ih _ _ _ hleft' h
    unfold wpOp
    simp only [ho]
    have her := env_R pl I hs ho hu he
    by_cases hl : lightOp o.op = true
    · have hev : evL P ops.toList (look i) o (g p) = some (v i) := by
        refine (pl.light i o ho hl).2 p I.le ?_ ?_ ?_
        · intro ok hok
          rcases hs with hs | ⟨op, hop, hlp, _⟩
          · have := (Array.getElem?_eq_some_iff.1 hok).1; omega
          · rw [hop] at hok; injection hok with hok; subst hok; exact hlp
        · intro hb
          rcases hs with hs | ⟨op, hop, hlp, hup⟩
          · have := pl.back i p hin hb; omega
          · exact hup (preds pl I ho he hb)
        · intro j oj hj hoj hlj hb
          exact hu (I.down j (I.done j oj hj hoj hlj) i hb)
      unfold evL at hev
      split at hev
      · rename_i hw
        rw [want_R pl I hs ho hu he hw]
        simp only [if_true]
        refine .inl ?_
        have hop := opI_sound (P := P) I.rel her o
        split at hev
        · rename_i u h' hu'
          injection hev with hev; subst hev
          have := light_same hl hu'
          subst this
          rw [hu'] at hop
          obtain ⟨cv, w', ν, h1, h2, h3, h4⟩ := hop
          unfold Oper.wp
          rw [h1, Oper.upon_value]
          exact go ⟨p, w₁, S₁, ν, β, next pl I ho hu he (.inl ⟨rfl, hl⟩) h2 h3 h4⟩
        · cases hev
      · rename_i hw
        rw [want_R pl I hs ho hu he hw]
        simp only [Bool.false_eq_true, if_false]
        injection hev with hev
        refine go ⟨p, w₁, S₁, μ, β, next pl I ho hu he (.inl ⟨rfl, hl⟩) μ.le_refl I.rel ?_⟩
        rw [← hev]
        exact ⟨#[], rfl, rfl⟩
      · cases hev
    · have hl : lightOp o.op = false := by simpa using hl
      have hev := pl.heavy i o ho hl
      by_cases hpi : p = i
      · subst hpi
        unfold evH at hev
        split at hev
        · rename_i hw
          rw [want_R pl I hs ho hu he hw]
          simp only [if_true]
          refine .inl ?_
          have hop := opI_sound (P := P) I.rel her o
          unfold Oper.wp
          split at hev
          · rename_i u h' hu'
            simp only [Option.some.injEq, Prod.mk.injEq] at hev
            obtain ⟨rfl, rfl⟩ := hev
            rw [hu'] at hop
            obtain ⟨cv, w', ν, h1, h2, h3, h4⟩ := hop
            rw [h1, Oper.upon_value]
            exact go ⟨p + 1, w₁, S₁, ν, β, next pl I ho hu he (.inr ⟨rfl, rfl, hl⟩) h2 h3 h4⟩
          · rename_i h' hu'
            simp only [Option.some.injEq, Prod.mk.injEq] at hev
            obtain ⟨hv, rfl⟩ := hev
            rw [hu'] at hop
            obtain ⟨w', ν, h1, h2, h3⟩ := hop
            rw [h1, Oper.upon_skip]
            refine go ⟨p + 1, w₁, S₁, ν, β, next pl I ho hu he (.inr ⟨rfl, rfl, hl⟩) h2 h3 ?_⟩
            rw [← hv]; exact ⟨#[], rfl, rfl⟩
          · rename_i f args hu'
            rw [hu'] at hop
            obtain ⟨cargs, h1, h2⟩ := hop
            rw [h1]
            have hc := hcf w₁ S₁ f args (g p) μ w cargs I.rel h2
            split at hev
            · rename_i u h' hcr
              simp only [Option.some.injEq, Prod.mk.injEq] at hev
              obtain ⟨rfl, rfl⟩ := hev
              rw [hcr] at hc
              refine upon_of P hc ?_ ?_ (by simp)
              · intro v' h'' hh cv ν w' hν hr hv
                injection hh with hh1 hh2; subst hh1; subst hh2
                exact go ⟨p + 1, w₁, S₁, ν, β, next pl I ho hu he (.inr ⟨rfl, rfl, hl⟩) hν hr hv⟩
              · intro v' h'' hh; cases hh
            · cases hev
          · cases hev
        · rename_i hw
          rw [want_R pl I hs ho hu he hw]
          simp only [Bool.false_eq_true, if_false]
          simp only [Option.some.injEq, Prod.mk.injEq] at hev
          obtain ⟨hv, hg⟩ := hev
          refine go ⟨p + 1, w₁, S₁, μ, β, next pl I ho hu he (.inr ⟨rfl, rfl, hl⟩) μ.le_refl (by rw [← hg]; exact I.rel) ?_⟩
          rw [← hv]; exact ⟨#[], rfl, rfl⟩
        · cases hev
      · -- not the one that waits: memory that is made early
        have hlt : p < i := by
          rcases Nat.lt_or_ge p i with h | h
          · exact h
          · exact absurd (I.done i o (by omega) ho hl) hu
        obtain ⟨op, hop, hlp, hup⟩ : ∃ op, ops[p]? = some op ∧ lightOp op.op = false ∧ ¬ Up l p := by
          rcases hs with hs | h
          · omega
          · exact h
        have ha : allocOp o.op = true := by
          cases h : allocOp o.op
          · exact absurd (preds pl I ho he (pl.chain p i op o hlt hop ho hlp hl h)) hup
          · rfl
        have hg := (pl.alloc i o ho ha).1
        have hw : Region.wanted o (yielded ops a.tmps) = true := by simp [Region.wanted, hg]
        rw [hw]
        simp only [if_true]
        refine .inl ?_
        obtain ⟨t, hot⟩ : ∃ t, o.op = .alloc t := by
          cases hoo : o.op <;> rw [hoo] at ha <;> simp [allocOp] at ha
          exact ⟨_, rfl⟩
        unfold evH at hev
        rw [hg] at hev
        simp only [wantD, hot, opI] at hev
        cases hz : zeroT P t with
        | none => rw [hz] at hev; simp at hev
        | some z =>
          obtain ⟨zv, hz1, hz2⟩ := zeroValue_run hz
          have hrun : (execOp a.eval o).run P w = .ok (.value (.pointer (some ⟨w.heap.size, 0, none⟩))) { w with heap := w.heap.push (.cells zv.cells t) } := by
            obtain ⟨dst, op', ty, pos, after, guard⟩ := o
            simp only at hot
            subst hot
            simp [execOp, Instr.alloc, hz1, newVar, newRow]
          unfold Oper.wp
          rw [hrun, Oper.upon_value]
          obtain ⟨w₁', S₁', β', I'⟩ := early pl I ho hu he ha hlt hot hz hz2
          exact go ⟨p, w₁', S₁', μ, β', I'⟩

end Go.Proofs.YtblgpcijbdbeiaaDoor.I
