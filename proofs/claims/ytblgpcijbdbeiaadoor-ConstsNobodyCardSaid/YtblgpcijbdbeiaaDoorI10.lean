/- The ideal machine: ranging on; then each operation. -/
import Derived.Test.YtblgpcijbdbeiaaDoorI9
namespace Go.Proofs.YtblgpcijbdbeiaaDoor.I
open Go
set_option linter.unusedVariables false
set_option linter.unusedSimpArgs false

variable {P : Program} {w₀ : World} {S : Sc} {μ : Mu} {h : H} {w : World}

theorem EntsR.filter {μ : Mu} (p : Nat → Bool) : ∀ {es : List (IV × IV × Nat)} {l : List MapEntry}, EntsR μ es l → EntsR μ (es.filter fun e => p e.2.2) (l.filter fun e => p e.born)
  | [], _, hr => by simp only [EntsR] at hr; subst hr; rfl
  | (k, v, b) :: es, _, hr => by
    obtain ⟨x, l', rfl, e2, e3, rfl, e5⟩ := hr
    simp only [List.filter_cons]
    cases p x.born
    · exact e5.filter p
    · exact ⟨x, _, rfl, e2, e3, rfl, e5.filter p⟩
theorem EntsR.all {μ : Mu} (p : Nat → Bool) : ∀ {es : List (IV × IV × Nat)} {l : List MapEntry}, EntsR μ es l → (es.all fun e => p e.2.2) = (l.all fun e => p e.born)
  | [], _, hr => by simp only [EntsR] at hr; subst hr; rfl
  | (k, v, b) :: es, _, hr => by
    obtain ⟨x, l', rfl, e2, e3, rfl, e5⟩ := hr
    simp only [List.all_cons, e5.all p]
theorem decode_ascii (s : ByteArray) (i : Nat) (hi : i < s.size) (h : (s[i]).toNat < 128) : Utf8.decode s i = ((s[i]).toNat, 1) := by
  have hg : s.get! (i + 0) = s[i] := by
    show s.data[i + 0]! = s.data[i]
    rw [Nat.add_zero, getElem!_pos]
  unfold Utf8.decode
  simp only [hg]
  rw [if_pos h]
theorem Rel.setOther (r : Rel w₀ S μ h w) {b : Nat} {o p : Obj} (hb : h.get b = some o) (hrw : o.rw = true) {blk base lim : Nat} (hm : μ b = some (blk, base, lim))
    {g : _root_.Go.Obj} (ho : ∀ w' : World, w'.heap[blk]? = some g → OR μ p blk base lim w') : Rel w₀ S μ (h.put b p) { w with heap := w.heap.setIfInBounds blk g } := by
  have hlt := r.lt _ _ hm
  simp only at hlt
  refine r.write hb hrw hm (ho _ (by simp [Array.getElem?_setIfInBounds, hlt])) (fun k hk => ?_) (by simp) rfl rfl rfl
  simp only
  rw [Array.getElem?_setIfInBounds_ne (Ne.symm hk)]
theorem nextI_gives (r : Rel w₀ S μ h w) {x v : IV} {isStr : Bool} {h' : H} {cx : Value} {ty : TypeId} (e : nextI h x isStr = some (v, h')) (hx : VR μ x cx) : Gives P w₀ S μ (Instr.next cx isStr ty) w v h' := by
  unfold nextI at e
  split at e
  · rename_i b
    obtain ⟨blk, base, lim, hm, rfl⟩ := hx
    split at e
    · rename_i s pos hb
      obtain ⟨k1, k2, k3, h1, ho, _⟩ := r.obj b _ hb
      rw [hm] at h1; injection h1 with h1; injection h1 with e1 e2; injection e2 with e2 e3; subst e1; subst e2; subst e3
      obtain ⟨t, hblk, rfl, rfl⟩ := ho
      have hget := getObj_run (P := P) hblk (by simp)
      split at e
      · rename_i hpos
        rw [pack_len] at hpos
        split at e
        · rename_i hlt
          rw [pack_at t pos hpos] at hlt e
          simp only [Option.some.injEq, Prod.mk.injEq] at e
          obtain ⟨rfl, rfl⟩ := e
          refine ⟨.tuple #[.bool true, goInt pos, .int .i32 (t[pos].toNat : Nat)], _, μ, ?_, μ.le_refl, r.setOther hb rfl hm (p := .siter (pack t) (pos + 1)) (g := .stringIter t (pos + 1)) (fun w' hw => ⟨t, hw, rfl, rfl⟩), ⟨_, rfl, _, _, rfl, rfl, _, _, rfl, rfl, _, _, rfl, rfl, rfl⟩⟩
          simp only [Instr.next, Nat.zero_add, Sem.run_bind, hget, Result.andThen_ok, hpos, if_true, decode_ascii t pos hpos hlt]
          rw [setObj_run hblk (by simp)]
          rfl
        · cases e
      · rename_i hpos
        rw [pack_len] at hpos
        simp only [Option.some.injEq, Prod.mk.injEq] at e
        obtain ⟨rfl, rfl⟩ := e
        refine .here r (cv := .tuple #[.bool false]) ?_ ⟨_, rfl, _, _, rfl, rfl, rfl⟩
        simp only [Instr.next, Nat.zero_add, Sem.run_bind, hget, Result.andThen_ok, hpos, if_false, Sem.run_pure]
    · rename_i x1 x2 x3 hb
      obtain ⟨k1, k2, k3, h1, ho, _⟩ := r.obj b _ hb
      rw [hm] at h1; injection h1 with h1; injection h1 with e1 e2; injection e2 with e2 e3; subst e1; subst e2; subst e3
      obtain ⟨mb, hblk, rfl, hmb⟩ := ho
      simp only at hmb; subst hmb
      have hget := getObj_run (P := P) hblk (by simp)
      simp only [Option.some.injEq, Prod.mk.injEq] at e
      obtain ⟨rfl, rfl⟩ := e
      refine .here r (cv := .tuple #[.bool false]) ?_ ⟨_, rfl, _, _, rfl, rfl, rfl⟩
      simp only [Instr.next, Nat.zero_add, Sem.run_bind, hget, Result.andThen_ok, Sem.run_pure]
    · rename_i m since seen last hb
      obtain ⟨k1, k2, k3, h1, ho, _⟩ := r.obj b _ hb
      rw [hm] at h1; injection h1 with h1; injection h1 with e1 e2; injection e2 with e2 e3; subst e1; subst e2; subst e3
      obtain ⟨mb, hblk, rfl, xm, hxm, rfl⟩ := ho
      have hget := getObj_run (P := P) hblk (by simp)
      split at e
      · rename_i es clock hmm
        obtain ⟨mblk, mbase, mlim⟩ := xm
        obtain ⟨ents, hm1, hm2⟩ := r.mapAt hmm hxm
        have hgetm := getObj_run (P := P) hm1 (by simp)
        split at e
        · cases e
        · rename_i hg
          have hg' : (!(seen.toArray.isEmpty) && !ents.isEmpty && ents.all (fun e => decide (e.born ≥ last))) = false := by
            rw [Bool.not_eq_true] at hg
            have h2 : ents.isEmpty = es.isEmpty := by
              rw [← Array.isEmpty_toList]
              cases es with
              | nil => simp only [EntsR] at hm2; rw [hm2]; rfl
              | cons y ys => obtain ⟨a1, a2, a3⟩ := y; obtain ⟨x, l', h3, _⟩ := hm2; rw [h3]; rfl
            have h3 : ents.all (fun e => decide (e.born ≥ last)) = es.all (fun e => decide (last ≤ e.2.2)) := by
              rw [← Array.all_toList]
              exact (hm2.all (fun b => decide (last ≤ b))).symm
            rw [h2, h3]
            simpa using hg
          have hfil := hm2.filter (fun b => !seen.contains b)
          have hleft : ∀ l, (ents.toList.filter fun e => !seen.contains e.born) = l → (ents.filter fun e => !seen.toArray.contains e.born) = l.toArray := by
            intro l hl
            apply Array.toList_inj.1
            rw [Array.toList_filter, ← hl]
            simp
          split at e
          · rename_i hnil
            rw [hnil] at hfil
            simp only [EntsR] at hfil
            have hl := hleft _ hfil
            simp only [Option.some.injEq, Prod.mk.injEq] at e
            obtain ⟨rfl, rfl⟩ := e
            refine .here r (cv := .tuple #[.bool false]) ?_ ⟨_, rfl, _, _, rfl, rfl, rfl⟩
            simp only [Instr.next, Nat.zero_add, Sem.run_bind, hget, Result.andThen_ok, hgetm, hg', Bool.false_eq_true, if_false, hl]
            have hf : (Question.mapNext 1).forced = true := rfl
            simp [run_choose, hf]
          · rename_i k v' bb hone
            rw [hone] at hfil
            obtain ⟨ce, l', hl0, hk, hv, rfl, hl1⟩ := hfil
            simp only [EntsR] at hl1; subst hl1
            have hl := hleft _ hl0
            split at e
            · rename_i hlt
              simp only [Option.some.injEq, Prod.mk.injEq] at e
              obtain ⟨rfl, rfl⟩ := e
              refine ⟨.tuple #[.bool true, ce.key, ce.val], _, μ, ?_, μ.le_refl,
                r.setOther hb rfl hm (p := .iter (some m) since (seen ++ [ce.born]) clock) (g := .mapIter (some mblk) since (seen.toArray.push ce.born) clock) (fun w' hw => ⟨some mblk, by rw [hw]; simp, rfl, _, hxm, rfl⟩),
                ⟨_, rfl, _, _, rfl, rfl, _, _, rfl, hk, _, _, rfl, hv, rfl⟩⟩
              have hlt2 : ¬ ce.born ≥ since := by omega
              simp only [Instr.next, Nat.zero_add, Sem.run_bind, hget, Result.andThen_ok, hgetm, hg', Bool.false_eq_true, if_false, hl]
              have hold : (#[ce].filter fun e => decide (e.born < since)) = #[ce] := by simp [hlt]
              have hnew : (#[ce].filter fun e => decide (e.born ≥ since)) = #[] := by simp [hlt2]
              have hold' : ([ce].toArray.filter fun e => decide (e.born < since)) = #[ce] := hold
              have hnew' : ([ce].toArray.filter fun e => decide (e.born ≥ since)) = #[] := hnew
              simp only [hold', hnew']
              have hf : (Question.mapNext 1).forced = true := rfl
              simp [run_choose, hf, setObj_run (P := P) hblk (by simp)]
            · cases e
          · cases e
      · cases e
    · cases e
  · cases e
theorem entryI_run (r : Rel w₀ S μ h w) {x v : IV} {cx : Value} (e : entryI h x = some v) (hx : VR μ x cx) : ∃ cv, (Instr.entry cx).run P w = .ok cv w ∧ VR μ v cv := by
  unfold entryI at e
  split at e
  · rename_i b
    obtain ⟨blk, base, lim, hm, rfl⟩ := hx
    split at e
    · rename_i m since seen stepped hb
      obtain ⟨k1, k2, k3, h1, ho, _⟩ := r.obj b _ hb
      rw [hm] at h1; injection h1 with h1; injection h1 with e1 e2; injection e2 with e2 e3; subst e1; subst e2; subst e3
      obtain ⟨mb, hblk, rfl, xm, hxm, rfl⟩ := ho
      have hget := getObj_run (P := P) hblk (by simp)
      split at e
      · rename_i stamp es clock hst hmm
        obtain ⟨mblk, mbase, mlim⟩ := xm
        obtain ⟨ents, hm1, hm2⟩ := r.mapAt hmm hxm
        have hgetm := getObj_run (P := P) hm1 (by simp)
        split at e
        · cases e
        · rename_i hcl
          split at e
          · rename_i k v' bb hfind
            injection e with e; subst e
            have hback : seen.toArray.back? = some stamp := by simpa using hst
            have find : ∀ {es : List (IV × IV × Nat)} {l : List MapEntry}, EntsR μ es l → es.find? (fun e => e.2.2 == stamp) = some (k, v', bb) → ∃ ce, l.find? (fun e => e.born == stamp) = some ce ∧ VR μ k ce.key ∧ VR μ v' ce.val := by
              intro es
              induction es with
              | nil => intro l _ hf; simp at hf
              | cons y ys ih =>
                intro l hr hf
                obtain ⟨a1, a2, a3⟩ := y
                obtain ⟨x, l', rfl, e2, e3, rfl, e5⟩ := hr
                simp only [List.find?_cons] at hf ⊢
                cases hbn : (x.born == stamp) with
                | true =>
                  rw [hbn] at hf; simp only [Option.some.injEq, Prod.mk.injEq] at hf
                  obtain ⟨rfl, rfl, rfl⟩ := hf
                  exact ⟨x, rfl, e2, e3⟩
                | false => rw [hbn] at hf; exact ih e5 hf
            obtain ⟨ce, hce, hk, hv⟩ := find hm2 hfind
            have hce' : ents.find? (fun e => e.born == stamp) = some ce := by rw [← Array.find?_toList]; exact hce
            refine ⟨.tuple #[ce.key, ce.val], ?_, ⟨_, rfl, _, _, rfl, hk, _, _, rfl, hv, rfl⟩⟩
            have hcl' : (clock != stepped) = false := by simp at hcl ⊢; exact hcl
            simp only [Instr.entry, Nat.zero_add, Sem.run_bind, hget, Result.andThen_ok, hback, hgetm, hcl', Bool.false_eq_true, if_false, hce', Sem.run_pure]
          · cases e
      · cases e
    · cases e
  · cases e

/-! ### operands -/
/-- deferred calls -/
def DfR (μ : Mu) : List (FuncId × List IV) → List Deferred → Prop
  | [], l => l = []
  | (f, args) :: ds, l => ∃ cap as l', l = ⟨.fn (.func f) cap, as⟩ :: l' ∧ VRs μ args (as ++ cap).toList ∧ DfR μ ds l'
theorem DfR.mono {μ ν : Mu} (h : μ.le ν) : ∀ {ds : List (FuncId × List IV)} {l : List Deferred}, DfR μ ds l → DfR ν ds l
  | [], _, e => e
  | (_, _) :: _, _, e => by obtain ⟨c, a, l', rfl, e2, e3⟩ := e; exact ⟨c, a, l', rfl, e2.mono h _ _, e3.mono h⟩
structure FR (μ : Mu) (F : Fr) (a : Act) : Prop where
  size : a.tmps.size = F.nt
  tmp : ∀ t x, F.tmps.get t = some x → ∃ v, a.tmps[t]? = some v ∧ VR μ x v
  dfr : DfR μ F.defers a.defers
theorem FR.mono {μ ν : Mu} (h : μ.le ν) {F : Fr} {a : Act} (f : FR μ F a) : FR ν F a :=
  ⟨f.size, fun t x e => by obtain ⟨v, h1, h2⟩ := f.tmp t x e; exact ⟨v, h1, h2.mono h _ _⟩, f.dfr.mono h⟩
theorem ev_VR {F : Fr} {a : Act} (f : FR μ F a) {o : Operand} {x : IV} (e : ev F o = some x) : VR μ x (a.eval o) := by
  cases o with
  | tmp t =>
    obtain ⟨v, h1, h2⟩ := f.tmp t x e
    have : a.tmps.getD t undef = v := by simp [h1]
    simp only [Act.eval]
    rw [this]; exact h2
  | const v => exact ofV_VR e
  | func g =>
    simp only [ev, Option.some.injEq] at e; subst e
    exact ⟨#[], rfl, rfl⟩
  | global g => simp [ev] at e
/-- an environment of operands, held against the model's -/
def ER (μ : Mu) (ε : Operand → Option IV) (a : Act) : Prop := ∀ (o : Operand) (x : IV), ε o = some x → VR μ x (a.eval o)
theorem ER.at {ε : Operand → Option IV} {a : Act} (f : ER μ ε a) {o : Operand} {x : IV} (e : ε o = some x) : VR μ x (a.eval o) := f o x e
theorem FR.er {F : Fr} {a : Act} (f : FR μ F a) : ER μ (ev F) a := fun _ _ e => ev_VR f e
theorem ER.mono {μ ν : Mu} (h : μ.le ν) {ε : Operand → Option IV} {a : Act} (f : ER μ ε a) : ER ν ε a := fun o x e => (f o x e).mono h _ _
theorem FR.put {F F' : Fr} {a : Act} (f : FR μ F a) {d : Option Tmp} {x : IV} {v : Value} (e : F.put d x = some F') (hv : VR μ x v) : FR μ F' (a.put d v) := by
  cases d with
  | none => simp only [Fr.put, Option.some.injEq] at e; subst e; exact f
  | some t =>
    simp only [Fr.put] at e
    split at e
    · rename_i ht
      injection e with e; subst e
      refine ⟨by simp [Act.put, f.size], fun s y hy => ?_, f.dfr⟩
      simp only [T.get_set] at hy
      by_cases hs : s = t
      · subst hs
        rw [if_pos rfl] at hy; injection hy with hy; subst hy
        refine ⟨v, ?_, hv⟩
        simp [Act.put, Array.getElem?_setIfInBounds, f.size, ht]
      · rw [if_neg hs] at hy
        obtain ⟨u, h1, h2⟩ := f.tmp s y hy
        refine ⟨u, ?_, h2⟩
        simp only [Act.put]
        rw [Array.getElem?_setIfInBounds_ne (Ne.symm hs)]; exact h1
    · cases e
theorem evalAll_VRs {ε : Operand → Option IV} {a : Act} (f : ER μ ε a) : ∀ {l : List Operand} {xs : List IV}, evalAll ε l = some xs → VRs μ xs (l.map a.eval)
  | [], xs, e => by simp only [evalAll, Option.some.injEq] at e; subst e; rfl
  | o :: l, xs, e => by
    simp only [evalAll] at e
    split at e
    · rename_i v hv
      split at e
      · rename_i r hr
        injection e with e; subst e
        exact ⟨_, _, rfl, f.at hv, evalAll_VRs f hr⟩
      · cases e
    · cases e
theorem evalParts_R {ε : Operand → Option IV} {a : Act} (f : ER μ ε a) : ∀ {l : List (Nat × Operand)} {xs : List (Nat × IV)}, evalParts ε l = some xs → PartsR μ xs (l.map fun p => (p.1, a.eval p.2))
  | [], xs, e => by simp only [evalParts, Option.some.injEq] at e; subst e; exact .nil
  | (i, o) :: l, xs, e => by
    simp only [evalParts] at e
    split at e
    · rename_i v hv
      split at e
      · rename_i r hr
        injection e with e; subst e
        exact .cons (f.at hv) (evalParts_R f hr)
      · cases e
    · cases e
theorem evOpt_R {ε : Operand → Option IV} {a : Act} (f : ER μ ε a) {o : Option Operand} {x : Option IV} (e : evOpt ε o = some x) : OptR μ x (o.map a.eval) := by
  cases o with
  | none => simp only [evOpt, Option.some.injEq] at e; subst e; rfl
  | some p =>
    simp only [evOpt] at e
    split at e
    · rename_i v hv
      injection e with e; subst e
      exact ⟨_, rfl, f.at hv⟩
    · cases e

/-- What one operation comes to in the model. -/
def OpS (P : Program) (w₀ : World) (S : Sc) (μ : Mu) (res : Result Next) (w : World) : OpR → Prop
  | .val v h' => ∃ cv w' ν, res = .ok (.value cv) w' ∧ μ.le ν ∧ Rel w₀ S ν h' w' ∧ VR ν v cv
  | .skip h' => ∃ w' ν, res = .ok .skip w' ∧ μ.le ν ∧ Rel w₀ S ν h' w'
  | .call f args => ∃ cargs, res = (callFunc f cargs).run P w ∧ VRs μ args cargs.toList
  | .dfr f args => ∃ cap as, res = .ok (.defer ⟨.fn (.func f) cap, as⟩) w ∧ VRs μ args (as ++ cap).toList
  | .pan v => ∃ cv, res = .halt (.panic cv) w ∧ VR μ v cv
  | .rcv => res = .ok .recover w
  | .fail => True
theorem OpS.ofGives {s : Sem Value} {w : World} {v : IV} {h' : H} (g : Gives P w₀ S μ s w v h') : OpS P w₀ S μ ((do pure (.value (← s)) : Sem Next).run P w) w (.val v h') := by
  obtain ⟨cv, w', ν, h1, h2, h3, h4⟩ := g
  exact ⟨cv, w', ν, by simp [h1], h2, h3, h4⟩
theorem OpS.ofRun (r : Rel w₀ S μ h w) {s : Sem Value} {v : IV} {cv : Value} (h1 : s.run P w = .ok cv w) (h2 : VR μ v cv) : OpS P w₀ S μ ((do pure (.value (← s)) : Sem Next).run P w) w (.val v h) :=
  .ofGives (.here r h1 h2)
theorem OpS.ofDoes {s : Sem Unit} {w : World} {h' : H} (g : Does P w₀ S μ s w h') : OpS P w₀ S μ ((do s; pure .skip : Sem Next).run P w) w (.skip h') := by
  obtain ⟨w', ν, h1, h2, h3⟩ := g
  exact ⟨w', ν, by simp [h1], h2, h3⟩

end Go.Proofs.YtblgpcijbdbeiaaDoor.I
