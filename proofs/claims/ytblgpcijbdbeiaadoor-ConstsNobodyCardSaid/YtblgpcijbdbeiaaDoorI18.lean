/- The ideal machine: regions whose order is drawn: any order keeps what is told of it. -/
import Derived.Test.YtblgpcijbdbeiaaDoorI17
namespace Go.Proofs.YtblgpcijbdbeiaaDoor.I
open Go
set_option linter.unusedVariables false
set_option linter.unusedSimpArgs false

/-- What is known of a region and of one way through it. -/
structure Plan (P : Program) (cf : CallF) (ops : Array Oper) (F₀ : Fr) (v : Nat → IV) (g : Nat → H) (B : Nat → Nat → Prop) (look : Nat → Tmp → Option IV) : Prop where
  before : ∀ i o, ops[i]? = some o → ∀ j, B i j ↔ ∃ e ∈ o.after, Region.binds .any e = true ∧ (e.on = j ∨ B e.on j)
  back : ∀ i j, i < ops.size → B i j → j < i
  one : ∀ (i j : Nat) oi oj t, ops[i]? = some oi → ops[j]? = some oj → oi.dst = some t → oj.dst = some t → i = j
  fits : ∀ (i : Nat) o t, ops[i]? = some o → o.dst = some t → t < F₀.nt
  look_eq : ∀ i t x, i < ops.size → look i t = some x → ((∀ (j : Nat) o, ops[j]? = some o → o.dst ≠ some t) ∧ F₀.tmps.get t = some x) ∨
    (∃ (j : Nat) (o : Oper), ops[j]? = some o ∧ o.dst = some t ∧ ((B i j ∧ x = v j) ∨ ((B j i ∨ j = i) ∧ F₀.tmps.get t = some x)))
  light : ∀ (i : Nat) o, ops[i]? = some o → lightOp o.op = true → g (i + 1) = g i ∧ ∀ k, k ≤ ops.size → (∀ ok, ops[k]? = some ok → lightOp ok.op = false) → ¬ B i k →
    (∀ (j : Nat) oj, j < k → ops[j]? = some oj → lightOp oj.op = false → ¬ B j i) → evL P ops.toList (look i) o (g k) = some (v i)
  heavy : ∀ (i : Nat) o, ops[i]? = some o → lightOp o.op = false → evH P cf ops.toList (look i) o (g i) = some (v i, g (i + 1))
  chain : ∀ (i j : Nat) oi oj, i < j → ops[i]? = some oi → ops[j]? = some oj → lightOp oi.op = false → lightOp oj.op = false → allocOp oj.op = false → B j i
  alloc : ∀ (i : Nat) o, ops[i]? = some o → allocOp o.op = true → o.guard = none ∧ ∀ x, x < ops.size → B x i → ∀ (k : Nat) ok, k < i → ops[k]? = some ok → lightOp ok.op = false → B x k

def Up (l : Array Bool) (i : Nat) : Prop := l.getD i false = true

variable {P : Program} {w₀ : World} {S : Sc} {cf : CallF} {ops : Array Oper} {F₀ : Fr} {v : Nat → IV} {g : Nat → H} {B : Nat → Nat → Prop} {look : Nat → Tmp → Option IV} {μ₀ : Mu}

theorem alloc_heavy {o : Op} (h : allocOp o = true) : lightOp o = false := by cases o <;> simp [allocOp] at h; rfl

/-- memory that is there and not yet known of -/
def PendR (P : Program) (w₀ : World) (w₁ : World) (S₁ : Sc) (b : Nat) (o : Oper) (a : Act) : Prop :=
  ∃ t z zv, o.op = .alloc t ∧ zeroT P t = some z ∧ (∀ ν, VR ν z zv) ∧ w₁.heap[b]? = some (.cells zv.cells t) ∧ ¬ S₁.wr b ∧ ¬ S₁.vis b ∧ w₀.heap.size ≤ b ∧ b < w₁.heap.size ∧
    ∀ d, o.dst = some d → a.tmps[d]? = some (.pointer (some ⟨b, 0, none⟩))

structure Inv (P : Program) (w₀ : World) (S : Sc) (ops : Array Oper) (F₀ : Fr) (v : Nat → IV) (g : Nat → H) (B : Nat → Nat → Prop) (μ₀ : Mu) (l : Array Bool) (a : Act) (w : World) (p : Nat) (w₁ : World) (S₁ : Sc) (μ : Mu) (β : Nat → Nat) : Prop where
  size : l.size = ops.size
  down : ∀ i, Up l i → ∀ j, B i j → Up l j
  le : p ≤ ops.size
  done : ∀ (i : Nat) o, i < p → ops[i]? = some o → lightOp o.op = false → Up l i
  ahead : ∀ (i : Nat) o, p ≤ i → ops[i]? = some o → lightOp o.op = false → allocOp o.op = false → ¬ Up l i
  wk : Wk w₀ S w₁ S₁
  rel : Rel w₁ S₁ μ (g p) w
  mu : μ₀.le μ
  tsz : a.tmps.size = F₀.nt
  put : ∀ (i : Nat) o t, ops[i]? = some o → Up l i → ¬ (allocOp o.op = true ∧ p ≤ i) → o.dst = some t → ∃ cv, a.tmps[t]? = some cv ∧ VR μ (v i) cv
  old : ∀ t x, F₀.tmps.get t = some x → (∀ (i : Nat) o, ops[i]? = some o → Up l i → o.dst ≠ some t) → ∃ cv, a.tmps[t]? = some cv ∧ VR μ x cv
  dfr : DfR μ F₀.defers a.defers
  pend : ∀ (i : Nat) o, ops[i]? = some o → Up l i → allocOp o.op = true → p ≤ i → PendR P w₀ w₁ S₁ (β i) o a
  inj : ∀ (i j : Nat) oi oj, ops[i]? = some oi → ops[j]? = some oj → Up l i → Up l j → allocOp oi.op = true → allocOp oj.op = true → p ≤ i → p ≤ j → i ≠ j → β i ≠ β j

/-- at the end, or at an operation that waits -/
def Stands (ops : Array Oper) (l : Array Bool) (p : Nat) : Prop := p = ops.size ∨ ∃ o, ops[p]? = some o ∧ lightOp o.op = false ∧ ¬ Up l p

theorem up_set {l : Array Bool} {i j : Nat} (hi : i < l.size) : Up (l.setIfInBounds i true) j ↔ j = i ∨ Up l j := by
  unfold Up
  by_cases h : i = j
  · subst h; simp [hi]
  · rw [getD_set_ne false h]
    constructor
    · exact .inr
    · rintro (h' | h')
      · exact absurd h'.symm h
      · exact h'

theorem wantD_true {os : List Oper} {lk : Tmp → Option IV} : wantD os lk none = some true := rfl

theorem absorbed (pl : Plan P cf ops F₀ v g B look) {l : Array Bool} {a : Act} {w : World} : ∀ (d p : Nat) (w₁ : World) (S₁ : Sc) (μ : Mu) (β : Nat → Nat), p + d = ops.size →
    Inv P w₀ S ops F₀ v g B μ₀ l a w p w₁ S₁ μ β → ∃ p' w₁' S₁' μ' β', Inv P w₀ S ops F₀ v g B μ₀ l a w p' w₁' S₁' μ' β' ∧ Stands ops l p' := by
  intro d
  induction d with
  | zero => intro p w₁ S₁ μ β hp I; exact ⟨p, w₁, S₁, μ, β, I, .inl (by omega)⟩
  | succ d ih =>
    intro p w₁ S₁ μ β hp I
    have hlt : p < ops.size := by omega
    obtain ⟨o, ho⟩ : ∃ o, ops[p]? = some o := ⟨ops[p], Array.getElem?_eq_getElem hlt⟩
    by_cases hl : lightOp o.op = true
    · refine ih (p + 1) w₁ S₁ μ β (by omega) ?_
      have hna : ¬ allocOp o.op = true := fun h => by rw [alloc_heavy h] at hl; cases hl
      exact { size := I.size, down := I.down, le := by omega
              done := fun i oi hi hoi hh => by
                by_cases e : i = p
                · subst e; rw [ho] at hoi; injection hoi with hoi; subst hoi; rw [hl] at hh; cases hh
                · exact I.done i oi (by omega) hoi hh
              ahead := fun i oi hi => I.ahead i oi (by omega)
              wk := I.wk, rel := by rw [(pl.light p o ho hl).1]; exact I.rel
              mu := I.mu, tsz := I.tsz
              put := fun i oi t hoi hu hnp hd => I.put i oi t hoi hu (fun ⟨h1, h2⟩ => by
                by_cases e : i = p
                · subst e; rw [ho] at hoi; injection hoi with hoi; subst hoi; exact hna h1
                · exact hnp ⟨h1, by omega⟩) hd
              old := I.old, dfr := I.dfr
              pend := fun i oi hoi hu ha hle => I.pend i oi hoi hu ha (by omega)
              inj := fun i j oi oj h1 h2 h3 h4 h5 h6 h7 h8 h9 => I.inj i j oi oj h1 h2 h3 h4 h5 h6 (by omega) (by omega) h9 }
    · have hl : lightOp o.op = false := by simpa using hl
      by_cases hu : Up l p
      · have ha : allocOp o.op = true := by
          cases h : allocOp o.op
          · exact absurd hu (I.ahead p o (Nat.le_refl _) ho hl h)
          · rfl
        obtain ⟨t, z, zv, hop, hz, hzv, hcell, hnw, hnv, hge, hblt, htmp⟩ := I.pend p o ho hu ha (Nat.le_refl _)
        have hev := pl.heavy p o ho hl
        have hg := (pl.alloc p o ho ha).1
        unfold evH at hev
        rw [hg] at hev
        simp only [wantD, hop, opI, hz] at hev
        unfold newI at hev
        split at hev
        · rename_i u h' hn
          split at hn
          · rename_i hs
            simp only [OpR.ofVH, OpR.val.injEq] at hn
            obtain ⟨rfl, rfl⟩ := hn
            simp only [Option.some.injEq, Prod.mk.injEq] at hev
            obtain ⟨hv, hgn⟩ := hev
            have hrel := I.rel.absorb hblt hnw hnv hcell hs (fun ν => (hzv ν).cells)
            have hnext := I.rel.new (g p).next (Nat.le_refl _)
            have hle := Mu.le_push (x := (β p, 0, zv.cells.size)) hnext
            refine ih (p + 1) w₁ (S₁.more (β p)) (μ.push (g p).next (β p, 0, zv.cells.size)) β (by omega) ?_
            exact { size := I.size, down := I.down, le := by omega
                    done := fun i oi hi hoi hh => by
                      by_cases e : i = p
                      · subst e; exact hu
                      · exact I.done i oi (by omega) hoi hh
                    ahead := fun i oi hi => I.ahead i oi (by omega)
                    wk := I.wk.absorb hge, rel := by rw [← hgn]; exact hrel
                    mu := Mu.le_trans I.mu hle, tsz := I.tsz
                    put := fun i oi t' hoi hui hnp hd => by
                      by_cases e : i = p
                      · subst e
                        rw [ho] at hoi; injection hoi with hoi; subst hoi
                        refine ⟨_, htmp t' hd, ?_⟩
                        rw [← hv]
                        exact ⟨_, _, _, Mu.push_same _ _ _, rfl⟩
                      · obtain ⟨cv, h1, h2⟩ := I.put i oi t' hoi hui (fun ⟨h1, h2⟩ => hnp ⟨h1, by omega⟩) hd
                        exact ⟨cv, h1, h2.mono hle _ _⟩
                    old := fun t' x hx hno => by
                      obtain ⟨cv, h1, h2⟩ := I.old t' x hx hno
                      exact ⟨cv, h1, h2.mono hle _ _⟩
                    dfr := I.dfr.mono hle
                    pend := fun i oi hoi hui hai hpi => by
                      obtain ⟨t', z', zv', h1, h2, h3, h4, h5, h6, h7, h8, h9⟩ := I.pend i oi hoi hui hai (by omega)
                      have hne : β i ≠ β p := I.inj i p oi o hoi ho hui hu hai ha (by omega) (Nat.le_refl _) (by omega)
                      exact ⟨t', z', zv', h1, h2, h3, h4, fun h => h.elim h5 hne, fun h => h.elim h6 hne, h7, h8, h9⟩
                    inj := fun i j oi oj h1 h2 h3 h4 h5 h6 h7 h8 h9 => I.inj i j oi oj h1 h2 h3 h4 h5 h6 (by omega) (by omega) h9 }
          · simp [OpR.ofVH] at hn
        all_goals (rename_i hn; split at hn <;> simp [OpR.ofVH] at hn)
        all_goals cases hev
      · exact ⟨p, w₁, S₁, μ, β, I, .inr ⟨o, ho, hl, hu⟩⟩

section
variable {l : Array Bool} {a : Act} {w : World} {p : Nat} {w₁ : World} {S₁ : Sc} {μ : Mu} {β : Nat → Nat}

theorem ready_spec {i : Nat} (I : Inv P w₀ S ops F₀ v g B μ₀ l a w p w₁ S₁ μ β) (hr : i ∈ Region.ready .any ops l) :
    ¬ Up l i ∧ ∃ o, ops[i]? = some o ∧ ∀ e ∈ o.after, Region.binds .any e = true → Up l e.on := by
  obtain ⟨h1, o, h2, h3⟩ := mem_ready.1 hr
  refine ⟨fun hu => ?_, o, h2, h3⟩
  unfold Up at hu
  have hlt : i < l.size := by rw [I.size]; exact (Array.getElem?_eq_some_iff.1 h2).1
  simp [hlt] at h1 hu
  rw [h1] at hu; cases hu

theorem preds (pl : Plan P cf ops F₀ v g B look) (I : Inv P w₀ S ops F₀ v g B μ₀ l a w p w₁ S₁ μ β) {i : Nat} {o : Oper} (ho : ops[i]? = some o) (he : ∀ e ∈ o.after, Region.binds .any e = true → Up l e.on) {j : Nat} (hb : B i j) : Up l j := by
  obtain ⟨e, h1, h2, h3⟩ := (pl.before i o ho j).1 hb
  rcases h3 with h3 | h3
  · subst h3; exact he e h1 h2
  · exact I.down _ (he e h1 h2) j h3

/-- what is looked up stands in the model's row of temporaries -/
theorem look_R (pl : Plan P cf ops F₀ v g B look) (I : Inv P w₀ S ops F₀ v g B μ₀ l a w p w₁ S₁ μ β) (hs : Stands ops l p) {i : Nat} {o : Oper} (ho : ops[i]? = some o) (hu : ¬ Up l i)
    (he : ∀ e ∈ o.after, Region.binds .any e = true → Up l e.on) {t : Tmp} {x : IV} (hx : look i t = some x) : ∃ cv, a.tmps[t]? = some cv ∧ VR μ x cv := by
  have hi := (Array.getElem?_eq_some_iff.1 ho).1
  rcases pl.look_eq i t x hi hx with ⟨h1, h2⟩ | ⟨j, oj, h1, h2, ⟨h3, rfl⟩ | ⟨h3, h4⟩⟩
  · exact I.old t x h2 fun j oj hj _ => h1 j oj hj
  · have huj := preds pl I ho he h3
    refine I.put j oj t h1 huj (fun ⟨ha, hp⟩ => ?_) h2
    rcases hs with hs | ⟨op, hop, hl, hnu⟩
    · have := (Array.getElem?_eq_some_iff.1 h1).1; omega
    · by_cases e : p = j
      · subst e; exact hnu huj
      · exact hnu (preds pl I ho he ((pl.alloc j oj h1 ha).2 i hi h3 p op (by omega) hop hl))
  · refine I.old t x h4 fun k ok hk huk hd => ?_
    have hkj := pl.one k j ok oj t hk h1 hd h2
    subst hkj
    rcases h3 with h3 | h3
    · exact hu (I.down _ huk _ h3)
    · subst h3; exact hu huk

theorem env_R (pl : Plan P cf ops F₀ v g B look) (I : Inv P w₀ S ops F₀ v g B μ₀ l a w p w₁ S₁ μ β) (hs : Stands ops l p) {i : Nat} {o : Oper} (ho : ops[i]? = some o) (hu : ¬ Up l i)
    (he : ∀ e ∈ o.after, Region.binds .any e = true → Up l e.on) : ER μ (envD (look i)) a := by
  intro x y e
  cases x with
  | tmp t =>
    obtain ⟨cv, h1, h2⟩ := look_R pl I hs ho hu he e
    have : a.tmps.getD t undef = cv := by simp [h1]
    simp only [Act.eval]
    rw [this]; exact h2
  | const c => exact ofV_VR e
  | func f =>
    simp only [envD, Option.some.injEq] at e; subst e
    exact ⟨#[], rfl, rfl⟩
  | global f => simp [envD] at e

theorem want_R (pl : Plan P cf ops F₀ v g B look) (I : Inv P w₀ S ops F₀ v g B μ₀ l a w p w₁ S₁ μ β) (hs : Stands ops l p) {i : Nat} {o : Oper} (ho : ops[i]? = some o) (hu : ¬ Up l i)
    (he : ∀ e ∈ o.after, Region.binds .any e = true → Up l e.on) {b : Bool} (e : wantD ops.toList (look i) o.guard = some b) : Region.wanted o (yielded ops a.tmps) = b := by
  unfold wantD at e
  unfold Region.wanted
  cases hg : o.guard with
  | none => rw [hg] at e; simp at e; simp [e]
  | some jw =>
    obtain ⟨j, want⟩ := jw
    rw [hg] at e
    simp only [Array.getElem?_toList] at e ⊢
    cases ht : (ops[j]?).bind (·.dst) with
    | none => rw [ht] at e; cases e
    | some t =>
      rw [ht] at e
      simp only at e
      split at e
      · rename_i b' hb
        injection e with e; subst e
        obtain ⟨cv, h1, h2⟩ := look_R pl I hs ho hu he hb
        simp only [VR] at h2; subst h2
        simp [yielded, ht, h1]
      · rename_i hb
        injection e with e; subst e
        obtain ⟨cv, h1, cs, rfl, _⟩ := look_R pl I hs ho hu he hb
        simp [yielded, ht, h1]
      · cases e

/-- one operation more, that the ideal memory has met as well -/
theorem next (pl : Plan P cf ops F₀ v g B look) (I : Inv P w₀ S ops F₀ v g B μ₀ l a w p w₁ S₁ μ β) {i : Nat} {o : Oper} (ho : ops[i]? = some o) (hu : ¬ Up l i)
    (he : ∀ e ∈ o.after, Region.binds .any e = true → Up l e.on) {p' : Nat} (hp : (p' = p ∧ lightOp o.op = true) ∨ (p' = i + 1 ∧ p = i ∧ lightOp o.op = false)) {ν : Mu} (hν : μ.le ν) {cv : Value} {w' : World}
    (hr : Rel w₁ S₁ ν (g p') w') (hv : VR ν (v i) cv) : Inv P w₀ S ops F₀ v g B μ₀ (l.setIfInBounds i true) (a.put o.dst cv) w' p' w₁ S₁ ν β := by
  have hi := (Array.getElem?_eq_some_iff.1 ho).1
  have hil : i < l.size := by rw [I.size]; exact hi
  have hset : ∀ j, Up (l.setIfInBounds i true) j ↔ j = i ∨ Up l j := fun j => up_set hil
  have keep : ∀ (t : Nat), o.dst ≠ some t → (a.put o.dst cv).tmps[t]? = a.tmps[t]? := fun t ht => by
    cases hd : o.dst with
    | none => rfl
    | some d =>
      simp only [Act.put]
      exact Array.getElem?_setIfInBounds_ne (fun e => ht (by rw [hd, e]))
  have dne : ∀ (j : Nat) oj t, ops[j]? = some oj → j ≠ i → oj.dst = some t → o.dst ≠ some t := fun j oj t hj hne hd hd' => hne (pl.one j i oj o t hj ho hd hd')
  exact {
    size := by simp [I.size]
    down := fun j hj k hb => by
      rw [hset] at hj ⊢
      rcases hj with hj | hj
      · subst hj; exact .inr (preds pl I ho he hb)
      · exact .inr (I.down j hj k hb)
    le := by
      have := I.le
      rcases hp with ⟨h, _⟩ | ⟨h, _⟩ <;> omega
    done := fun j oj hj hoj hh => by
      rw [hset]
      rcases hp with ⟨h, _⟩ | ⟨h, h2, _⟩
      · exact .inr (I.done j oj (by omega) hoj hh)
      · by_cases e : j = i
        · exact .inl e
        · exact .inr (I.done j oj (by omega) hoj hh)
    ahead := fun j oj hj hoj hh hna hup => by
      rw [hset] at hup
      rcases hp with ⟨h, hl⟩ | ⟨h, h2, hl⟩
      · rcases hup with rfl | hup
        · rw [ho] at hoj; injection hoj with hoj; subst hoj; rw [hl] at hh; cases hh
        · exact I.ahead j oj (by omega) hoj hh hna hup
      · rcases hup with rfl | hup
        · omega
        · exact hu (I.down j hup i (pl.chain i j o oj (by omega) ho hoj hl hh hna))
    wk := I.wk, rel := hr, mu := Mu.le_trans I.mu hν
    tsz := by
      have := I.tsz
      cases o.dst <;> simp [Act.put, this]
    put := fun j oj t hoj hup hnp hd => by
      rw [hset] at hup
      by_cases e : j = i
      · subst e
        rw [ho] at hoj; injection hoj with hoj; subst hoj
        refine ⟨cv, ?_, hv⟩
        have := pl.fits j o t ho hd
        rw [hd]
        simp [Act.put, I.tsz, this]
      · obtain ⟨u, h1, h2⟩ := I.put j oj t hoj (hup.resolve_left e) (fun ⟨h1, h2⟩ => hnp ⟨h1, by
          rcases hp with ⟨h, _⟩ | ⟨h, h3, _⟩ <;> omega⟩) hd
        exact ⟨u, by rw [keep t (dne j oj t hoj e hd)]; exact h1, h2.mono hν _ _⟩
    old := fun t x hx hno => by
      obtain ⟨u, h1, h2⟩ := I.old t x hx fun j oj hoj hup => hno j oj hoj ((hset j).2 (.inr hup))
      exact ⟨u, by rw [keep t (hno i o ho ((hset i).2 (.inl rfl)))]; exact h1, h2.mono hν _ _⟩
    dfr := by
      have : (a.put o.dst cv).defers = a.defers := by cases o.dst <;> rfl
      rw [this]; exact I.dfr.mono hν
    pend := fun j oj hoj hup ha hle => by
      rw [hset] at hup
      have hne : j ≠ i := fun e => by
        subst e
        rw [ho] at hoj; injection hoj with hoj; subst hoj
        rcases hp with ⟨h, hl⟩ | ⟨h, h2, hl⟩
        · rw [alloc_heavy ha] at hl; cases hl
        · omega
      obtain ⟨t, z, zv, h1, h2, h3, h4, h5, h6, h7, h8, h9⟩ := I.pend j oj hoj (hup.resolve_left hne) ha (by rcases hp with ⟨h, _⟩ | ⟨h, h3, _⟩ <;> omega)
      exact ⟨t, z, zv, h1, h2, h3, h4, h5, h6, h7, h8, fun d hd => by rw [keep d (dne j oj d hoj hne hd)]; exact h9 d hd⟩
    inj := fun j k oj ok hj hk huj huk haj hak hpj hpk hne => by
      rw [hset] at huj huk
      have ex : ∀ (j : Nat) oj, ops[j]? = some oj → allocOp oj.op = true → p' ≤ j → j ≠ i := fun j oj hoj ha hle e => by
        subst e
        rw [ho] at hoj; injection hoj with hoj; subst hoj
        rcases hp with ⟨h, hl⟩ | ⟨h, h2, hl⟩
        · rw [alloc_heavy ha] at hl; cases hl
        · omega
      exact I.inj j k oj ok hj hk (huj.resolve_left (ex j oj hj haj hpj)) (huk.resolve_left (ex k ok hk hak hpk)) haj hak (by rcases hp with ⟨h, _⟩ | ⟨h, h3, _⟩ <;> omega) (by rcases hp with ⟨h, _⟩ | ⟨h, h3, _⟩ <;> omega) hne }
end

end Go.Proofs.YtblgpcijbdbeiaaDoor.I
