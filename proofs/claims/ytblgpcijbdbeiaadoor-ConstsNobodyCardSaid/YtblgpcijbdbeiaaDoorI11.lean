/- The ideal machine: each operation is sound. -/
import Derived.Test.YtblgpcijbdbeiaaDoorI10
namespace Go.Proofs.YtblgpcijbdbeiaaDoor.I
open Go
set_option linter.unusedVariables false
set_option linter.unusedSimpArgs false

variable {P : Program} {w₀ : World} {S : Sc} {μ : Mu} {h : H} {w : World} {ε : Operand → Option IV} {a : Act}

theorem OpS.fail {res : Result Next} {w : World} : OpS P w₀ S μ res w .fail := trivial
theorem callI_sound (r : Rel w₀ S μ h w) (f : ER μ ε a) (c : Call) (ty : TypeId) :
    OpS P w₀ S μ ((do let d ← resolve a.eval c ty; invoke d.target d.args : Sem Next).run P w) w (callI P h ε c) := by
  obtain ⟨callee, args, ats⟩ := c
  unfold callI
  cases callee with
  | value g =>
    simp only
    split
    · rename_i fn caps xs hg hxs
      obtain ⟨cs, hcs, hcv⟩ := f.at hg
      refine ⟨(args.map a.eval) ++ cs, ?_, ?_⟩
      · simp [resolve, hcs, Deferred.ofValue, invoke]
      · rw [Array.toList_append, Array.toList_map]
        exact (evalAll_VRs f hxs).append hcv
    · exact .fail
  | invoke rv m => exact .fail
  | builtin b =>
    have hargs : ∀ xs, evalAll ε args.toList = some xs → VRs μ xs (args.map a.eval).toList := fun xs hx => by
      rw [Array.toList_map]; exact evalAll_VRs f hx
    have one : ∀ x, evalAll ε args.toList = some [x] → ∃ v, args.map a.eval = #[v] ∧ VR μ x v := fun x hx => by
      obtain ⟨v, vs, h1, h2, h3⟩ := hargs _ hx
      simp only [VRs] at h3; subst h3
      exact ⟨v, Array.toList_inj.1 h1, h2⟩
    have two : ∀ x y, evalAll ε args.toList = some [x, y] → ∃ v u, args.map a.eval = #[v, u] ∧ VR μ x v ∧ VR μ y u := fun x y hx => by
      obtain ⟨v, vs, h1, h2, u, us, h3, h4, h5⟩ := hargs _ hx
      simp only [VRs] at h5; subst h5; subst h3
      exact ⟨v, u, Array.toList_inj.1 h1, h2, h4⟩
    simp only
    split
    · rename_i x hx
      obtain ⟨v, hv, hr⟩ := one x hx
      split
      · rename_i t ht
        cases e : lenI P h t x with
        | none => exact .fail
        | some y =>
          obtain ⟨cv, h1, h2⟩ := lenI_run (P := P) (ty := ty) r ht e hr
          exact ⟨cv, w, μ, by simp [resolve, invoke, builtin, hv, h1], μ.le_refl, r, h2⟩
      · exact .fail
    · rename_i x y hx
      obtain ⟨v, u, hv, hr1, hr2⟩ := two x y hx
      split
      · rename_i t t' ht ht'
        cases e : appendI P h t t' x y with
        | none => exact .fail
        | some z =>
          obtain ⟨z, h'⟩ := z
          obtain ⟨cv, w', ν, h1, h2, h3, h4⟩ := appendI_gives (P := P) (ty := ty) r ht ht' e hr1 hr2
          exact ⟨cv, w', ν, by simp [resolve, invoke, builtin, hv, h1], h2, h3, h4⟩
      · exact .fail
    · rename_i x y hx
      obtain ⟨v, u, hv, hr1, hr2⟩ := two x y hx
      split
      · rename_i t ht
        cases e : copyI P h t x y with
        | none => exact .fail
        | some z =>
          obtain ⟨z, h'⟩ := z
          obtain ⟨cv, w', ν, h1, h2, h3, h4⟩ := copyI_gives (P := P) (ty := ty) r ht e hr1 hr2
          exact ⟨cv, w', ν, by simp [resolve, invoke, builtin, hv, h1], h2, h3, h4⟩
      · exact .fail
    · rename_i x y hx
      obtain ⟨v, u, hv, hr1, hr2⟩ := two x y hx
      split
      · rename_i t ht
        split
        · rename_i h' e
          obtain ⟨w', h1, h2⟩ := deleteI_run (P := P) (ty := ty) r ht e hr1 hr2
          exact ⟨_, w', μ, by simp [resolve, invoke, builtin, hv, h1], μ.le_refl, h2, ⟨_, rfl, rfl⟩⟩
        · exact .fail
      · exact .fail
    · rename_i x y hx
      obtain ⟨v, u, hv, hr1, hr2⟩ := two x y hx
      cases e : minI x y with
      | none => exact .fail
      | some z =>
        obtain ⟨cv, h1, h2⟩ := minI_run (P := P) (w := w) (ats := ats) (ty := ty) e hr1 hr2
        exact ⟨cv, w, μ, by simp [resolve, invoke, builtin, hv, h1], μ.le_refl, r, h2⟩
    · rename_i x y hx
      obtain ⟨v, u, hv, hr1, hr2⟩ := two x y hx
      cases e : maxI x y with
      | none => exact .fail
      | some z =>
        obtain ⟨cv, h1, h2⟩ := maxI_run (P := P) (w := w) (ats := ats) (ty := ty) e hr1 hr2
        exact ⟨cv, w, μ, by simp [resolve, invoke, builtin, hv, h1], μ.le_refl, r, h2⟩
    · simp [OpS, resolve, invoke, builtin]
    · exact .fail

theorem opI_sound (r : Rel w₀ S μ h w) (f : ER μ ε a) (o : Oper) : OpS P w₀ S μ ((execOp a.eval o).run P w) w (opI P h ε o.op) := by
  obtain ⟨dst, op, ty, pos, after, guard⟩ := o
  cases op with
  | move x =>
    simp only [opI, execOp]
    cases e : ε x with
    | none => exact .fail
    | some v => exact ⟨_, w, μ, rfl, μ.le_refl, r, f.at e⟩
  | assign x =>
    simp only [opI, execOp]
    cases e : ε x with
    | none => exact .fail
    | some v => exact ⟨_, w, μ, rfl, μ.le_refl, r, f.at e⟩
  | pick c x y =>
    simp only [opI, execOp]
    split
    · rename_i t hc
      have hcv := f.at hc
      simp only [VR] at hcv
      cases e : (if t = true then ε x else ε y) with
      | none => exact .fail
      | some v =>
        refine ⟨if t = true then a.eval x else a.eval y, w, μ, ?_, μ.le_refl, r, ?_⟩
        · simp [hcv, asBool]
        · cases t
          · exact f.at (by simpa using e)
          · exact f.at (by simpa using e)
    · exact .fail
  | alloc t =>
    simp only [opI, execOp]
    split
    · rename_i z hz
      cases e : newI h z.cells with
      | none => exact .fail
      | some x =>
        obtain ⟨v, h'⟩ := x
        obtain ⟨zv, hz1, hz2⟩ := zeroValue_run hz
        obtain ⟨cv, w', ν, h1, h2, h3, h4⟩ := newI_gives (P := P) r e t (hz2 μ).cells
        have he : (Instr.alloc t true (.tuple #[])).run P w = (do pure (.pointer (some (← newVar t zv))) : Sem Value).run P w := by simp [Instr.alloc, hz1]
        exact .ofGives ⟨cv, w', ν, by rw [he]; exact h1, h2, h3, h4⟩
    · exact .fail
  | box t x =>
    simp only [opI, execOp]
    split
    · rename_i v hv
      cases e : newI h v.cells with
      | none => exact .fail
      | some x =>
        obtain ⟨v, h'⟩ := x
        exact .ofGives (newI_gives (P := P) r e t (f.at hv).cells)
    · exact .fail
  | build t parts =>
    simp only [opI, execOp]
    split
    · rename_i ps hps
      cases e : buildI P t ps with
      | none => exact .fail
      | some v =>
        have hp := evalParts_R f hps
        exact .ofGives (buildI_gives r e (by rw [Array.toList_map]; exact hp))
    · exact .fail
  | buildSlice t len parts =>
    simp only [opI, execOp]
    split
    · rename_i ps hps
      cases e : buildSliceI P h t len ps with
      | none => exact .fail
      | some x =>
        obtain ⟨v, h'⟩ := x
        have hp := evalParts_R f hps
        exact .ofGives (buildSliceI_gives r e (by rw [Array.toList_map]; exact hp))
    · exact .fail
  | load t x =>
    simp only [opI, execOp]
    split
    · rename_i v hv
      cases e : loadI P h t v with
      | none => exact .fail
      | some u => exact .ofGives (loadI_gives r e (f.at hv))
    · exact .fail
  | store t x y =>
    simp only [opI, execOp]
    split
    · rename_i v u hv hu
      cases e : storeI P h t v u with
      | none => exact .fail
      | some h' => exact .ofDoes (storeI_does r e (f.at hv) (f.at hu))
    · exact .fail
  | nilCheck x =>
    cases e : ε x with
    | none => simp only [opI, e]; exact .fail
    | some v =>
      cases v <;> simp only [opI, e] <;> try exact .fail
      obtain ⟨blk, base, lim, hm, hx⟩ := f.at e
      refine ⟨_, w, μ, ?_, μ.le_refl, r, ⟨_, _, _, hm, rfl⟩⟩
      simp only [execOp]
      rw [hx]; rfl
  | binOp op t x y yt =>
    simp only [opI, execOp]
    split
    · rename_i v u hv hu
      cases e : binI P h op t x y v u with
      | none => exact .fail
      | some z =>
        obtain ⟨cv, h1, h2⟩ := binI_run (P := P) r e (f.at hv) (f.at hu)
        exact .ofRun r h1 h2
    · exact .fail
  | unOp op t x =>
    simp only [opI, execOp]
    split
    · rename_i v hv
      cases e : unI op v with
      | none => exact .fail
      | some z =>
        obtain ⟨cv, h1, h2⟩ := unI_run (P := P) e (f.at hv) w
        exact .ofRun r h1 h2
    · exact .fail
  | convert src dst x =>
    simp only [opI, execOp]
    split
    · rename_i v hv
      cases e : convI P h src dst v with
      | none => exact .fail
      | some z => obtain ⟨z, h'⟩ := z; exact .ofGives (convI_gives r e (f.at hv))
    · exact .fail
  | makeInterface t x =>
    simp only [opI, execOp]
    split
    · rename_i v hv
      split
      · exact .fail
      · rename_i d hne hu
        refine ⟨.iface t (a.eval x), w, μ, ?_, μ.le_refl, r, ⟨_, rfl, f.at hv⟩⟩
        cases d <;> first
          | (exact (hne _ rfl).elim)
          | simp [Instr.makeInterface, run_underlying hu]
      · exact .fail
    · exact .fail
  | makeFunc fn first caps =>
    cases fn <;> simp only [opI, execOp] <;> try exact .fail
    split
    · rename_i l hf hl
      have hf' : first = #[] := Array.toList_inj.1 hf
      subst hf'
      refine ⟨_, w, μ, by simp [Instr.makeFunc], μ.le_refl, r, ⟨caps.map a.eval, rfl, ?_⟩⟩
      rw [Array.toList_map]; exact evalAll_VRs f hl
    · exact .fail
  | makeMap t rs =>
    simp only [opI, execOp]
    split
    · refine ⟨.map (some w.heap.size), _, _, by simp [Instr.makeMap], Mu.le_push (x := (w.heap.size, 0, 0)) (r.new _ (Nat.le_refl _)), r.other _ (.map #[] 0) (fun w' hw => ⟨#[], hw, rfl⟩), ⟨_, _, _, Mu.push_same _ _ _, rfl⟩⟩
    · exact .fail
  | makeSlice t l c =>
    simp only [opI, execOp]
    split
    · rename_i v u hv hu
      cases e : makeSliceI P h t v u with
      | none => exact .fail
      | some z => obtain ⟨z, h'⟩ := z; exact .ofGives (makeSliceI_gives r e (f.at hv) (f.at hu))
    · exact .fail
  | slice t x lo hi mx =>
    simp only [opI, execOp]
    split
    · rename_i v l i m hv hl hi' hm
      cases e : sliceI P t v l i m with
      | none => exact .fail
      | some z =>
        obtain ⟨cv, h1, h2⟩ := sliceI_run (P := P) (w := w) e (f.at hv) (evOpt_R f hl) (evOpt_R f hi') (evOpt_R f hm)
        exact .ofRun r h1 h2
    · exact .fail
  | fieldAddr s x i =>
    simp only [opI, execOp]
    split
    · rename_i v hv
      cases e : fieldAddrI P s v i with
      | none => exact .fail
      | some z =>
        obtain ⟨cv, h1, h2⟩ := fieldAddrI_run (P := P) (w := w) e (f.at hv)
        exact .ofRun r h1 h2
    · exact .fail
  | field s x i =>
    simp only [opI, execOp]
    split
    · rename_i v hv
      cases e : fieldI P s v i with
      | none => exact .fail
      | some z =>
        obtain ⟨cv, h1, h2⟩ := fieldI_run (P := P) (w := w) e (f.at hv)
        exact .ofRun r h1 h2
    · exact .fail
  | indexAddr t x i =>
    simp only [opI, execOp]
    split
    · rename_i v u hv hu
      cases e : indexAddrI P t v u with
      | none => exact .fail
      | some z =>
        obtain ⟨cv, h1, h2⟩ := indexAddrI_run (P := P) (w := w) e (f.at hv) (f.at hu)
        exact .ofRun r h1 h2
    · exact .fail
  | index t x i =>
    simp only [opI, execOp]
    split
    · rename_i v u hv hu
      cases e : indexI P t v u with
      | none => exact .fail
      | some z =>
        obtain ⟨cv, h1, h2⟩ := indexI_run (P := P) (w := w) e (f.at hv) (f.at hu)
        exact .ofRun r h1 h2
    · exact .fail
  | lookup t x k ok =>
    simp only [opI, execOp]
    split
    · rename_i v u hv hu
      cases e : lookupI P h t v u ok with
      | none => exact .fail
      | some z =>
        obtain ⟨cv, h1, h2⟩ := lookupI_run (P := P) r e (f.at hv) (f.at hu)
        exact .ofRun r h1 h2
    · exact .fail
  | mapUpdate t m k x =>
    simp only [opI, execOp]
    split
    · rename_i v u y hv hu hy
      cases e : mapUpdateI P h t v u y with
      | none => exact .fail
      | some h' => exact .ofDoes (mapUpdateI_does r e (f.at hv) (f.at hu) (f.at hy))
    · exact .fail
  | insert t m k x =>
    simp only [opI, execOp]
    split
    · rename_i v u y hv hu hy
      cases e : mapUpdateI P h t v u y with
      | none => exact .fail
      | some h' => exact .ofDoes (mapUpdateI_does r e (f.at hv) (f.at hu) (f.at hy))
    · exact .fail
  | range t x =>
    simp only [opI, execOp]
    split
    · rename_i v hv
      cases e : rangeI P h t v with
      | none => exact .fail
      | some z => obtain ⟨z, h'⟩ := z; exact .ofGives (rangeI_gives r e (f.at hv))
    · exact .fail
  | next it s =>
    simp only [opI, execOp]
    split
    · rename_i v hv
      cases e : nextI h v s with
      | none => exact .fail
      | some z => obtain ⟨z, h'⟩ := z; exact .ofGives (nextI_gives r e (f.at hv))
    · exact .fail
  | entry it =>
    simp only [opI, execOp]
    split
    · rename_i v hv
      cases e : entryI h v with
      | none => exact .fail
      | some z =>
        obtain ⟨cv, h1, h2⟩ := entryI_run (P := P) r e (f.at hv)
        exact .ofRun r h1 h2
    · exact .fail
  | typeAssert x xt at_ ok =>
    simp only [opI, execOp]
    split
    · exact .fail
    · rename_i t v d hne hv hu
      obtain ⟨y, hy, hr⟩ := f.at hv
      have hrun : ∀ (r' : Sem Value), (match d, a.eval x with
          | .interface _, .nilIface => r'
          | .interface want, .iface t _ => r'
          | _, .nilIface => r'
          | _, .iface t v => r'
          | _, _ => r') = r' := by intro r'; split <;> rfl
      split
      · rename_i ht
        subst ht
        refine ⟨if ok then .tuple #[y, .bool true] else y, w, μ, ?_, μ.le_refl, r, ?_⟩
        · simp only [Instr.typeAssert, Sem.run_bind, run_underlying hu, Result.andThen_ok, hy]
          cases d <;> first
            | (exact absurd rfl (hne _))
            | simp
        · cases ok
          · exact hr
          · exact ⟨_, rfl, _, _, rfl, hr, _, _, rfl, rfl, rfl⟩
      · rename_i ht
        split
        · rename_i hok
          split
          · rename_i z hz
            obtain ⟨zv, hz1, hz2⟩ := zeroValue_run hz
            refine ⟨.tuple #[zv, .bool false], w, μ, ?_, μ.le_refl, r, ⟨_, rfl, _, _, rfl, hz2 μ, _, _, rfl, rfl, rfl⟩⟩
            simp only [Instr.typeAssert, Sem.run_bind, run_underlying hu, Result.andThen_ok, hy]
            cases d <;> first
              | (exact absurd rfl (hne _))
              | simp [ht, hok, hz1]
          · exact .fail
        · exact .fail
    · exact .fail
    · rename_i d hne hv hu
      have hy := f.at hv
      simp only [VR] at hy
      split
      · rename_i hok
        split
        · rename_i z hz
          obtain ⟨zv, hz1, hz2⟩ := zeroValue_run hz
          refine ⟨.tuple #[zv, .bool false], w, μ, ?_, μ.le_refl, r, ⟨_, rfl, _, _, rfl, hz2 μ, _, _, rfl, rfl, rfl⟩⟩
          simp only [Instr.typeAssert, Sem.run_bind, run_underlying hu, Result.andThen_ok, hy]
          cases d <;> first
            | (exact absurd rfl (hne _))
            | simp [hok, hz1]
        · exact .fail
      · exact .fail
    · exact .fail
  | extract x i =>
    simp only [opI, execOp]
    split
    · rename_i vs hv
      obtain ⟨cs, hc, hcv⟩ := f.at hv
      cases e : vs[i]? with
      | none => exact .fail
      | some z =>
        obtain ⟨cv, h1, h2⟩ := hcv.get _ _ e
        have h1' : cs[i]? = some cv := by rw [← h1]; simp
        exact .ofRun r (by simp [Instr.extract, hc, h1']) h2
    · exact .fail
  | call c =>
    simp only [opI, execOp]
    exact callI_sound r f c ty
  | defer c =>
    simp only [opI, execOp]
    obtain ⟨callee, args, ats⟩ := c
    cases callee with
    | value g =>
      simp only
      split
      · rename_i fn caps xs hg hxs
        obtain ⟨cs, hcs, hcv⟩ := f.at hg
        refine ⟨cs, args.map a.eval, by simp [resolve, hcs, Deferred.ofValue], ?_⟩
        rw [Array.toList_append, Array.toList_map]
        exact (evalAll_VRs f hxs).append hcv
      · exact .fail
    | _ => exact .fail
  | panic x =>
    simp only [opI, execOp]
    split
    · rename_i t v hv
      obtain ⟨y, hy, hr⟩ := f.at hv
      exact ⟨.iface t y, by simp [hy, Instr.panic], ⟨y, rfl, hr⟩⟩
    · exact .fail
  | _ => exact .fail

end Go.Proofs.YtblgpcijbdbeiaaDoor.I
