/- The ideal machine: its operations over memory give what the model's give. -/
import Derived.Test.YtblgpcijbdbeiaaDoorI5
namespace Go.Proofs.YtblgpcijbdbeiaaDoor.I
open Go
set_option linter.unusedVariables false
set_option linter.unusedSimpArgs false

variable {P : Program} {w₀ : World} {S : Sc} {μ : Mu} {h : H} {w : World}

/-- a step that gives no value -/
def Does (P : Program) (w₀ : World) (S : Sc) (μ : Mu) (s : Sem Unit) (w : World) (h' : H) : Prop :=
  ∃ w' ν, s.run P w = .ok () w' ∧ μ.le ν ∧ Rel w₀ S ν h' w'

theorem loadVar_run (r : Rel w₀ S μ h w) {t : TypeId} {b off : Nat} {v : IV} (e : loadI P h t (.ptr b off) = some v) {blk base lim : Nat} (hm : μ b = some (blk, base, lim)) :
    ∃ cv, (loadVar t ⟨blk, base + off, none⟩).run P w = .ok cv w ∧ VR μ v cv := by
  simp only [loadI] at e
  split at e
  · rename_i rw fz size cs hb
    obtain ⟨k1, k2, k3, h1, ho, _⟩ := r.obj b _ hb
    rw [hm] at h1; injection h1 with h1; injection h1 with e1 e2; injection e2 with e2 e3; subst e1; subst e2; subst e3
    split at e
    · rename_i ha
      split at e
      · rename_i n hn
        split at e
        · rename_i hl
          split at e
          · rename_i l hg
            injection e with e; subst e
            obtain ⟨hlen, hget⟩ := getList_spec hg
            obtain ⟨vs, hv, hc⟩ := cells_of ho (l := l) (off := off) (by omega) (fun j hj => hget j (by omega))
            have hlen' := hv.length
            refine ⟨.agg vs.toArray, ?_, _, rfl, by simpa using hv⟩
            have := loadCells_run (P := P) (b := blk) (o := base + off) (vs := vs) (w := w) hc
            rw [hlen', hlen] at this
            simp [loadVar, isAgg_run ha, sizeOf_run hn, this]
          · cases e
        · cases e
      · cases e
    · rename_i ha
      split at e
      · rename_i hl
        obtain ⟨_, cv, hc, hv⟩ := ho.2.1 off v hl e
        refine ⟨cv, ?_, hv⟩
        simp only [loadVar, Sem.run_bind, isAgg_run ha, Result.andThen_ok, Bool.false_eq_true, if_false, Sem.run_ite, run_load]
        rw [hc]
      · cases e
    · cases e
  · cases e
theorem loadI_gives (r : Rel w₀ S μ h w) {t : TypeId} {a v : IV} {ca : Value} (e : loadI P h t a = some v) (ha : VR μ a ca) : Gives P w₀ S μ (Instr.loadAt t ca) w v h := by
  cases a with
  | ptr b off =>
    obtain ⟨blk, base, lim, hm, rfl⟩ := ha
    obtain ⟨cv, h1, h2⟩ := loadVar_run r e hm
    exact .here r (by simp [Instr.loadAt, Instr.sureAddr, h1]) h2
  | _ => simp [loadI] at e

theorem storeI_does (r : Rel w₀ S μ h w) {t : TypeId} {a v : IV} {ca cv : Value} {h' : H} (e : storeI P h t a v = some h') (ha : VR μ a ca) (hv : VR μ v cv) :
    Does P w₀ S μ (Instr.storeAt t ca cv) w h' := by
  cases a with
  | ptr b off =>
    obtain ⟨blk, base, lim, hm, rfl⟩ := ha
    simp only [storeI] at e
    split at e
    · rename_i fz size cs hb
      split at e
      · rename_i n hn
        split at e
        · rename_i hcond
          obtain ⟨hc1, hc2, hc3⟩ := hcond
          injection e with e; subst e
          have hcells := hv.cells
          have hlen := hcells.length
          obtain ⟨hz, h1, h2⟩ := r.store hb hm hcells hc3 (off := off) (by omega)
          subst hz
          refine ⟨_, μ, ?_, μ.le_refl, h2⟩
          have hsz : ¬ (cv.cells.size ≠ n) := by
            rw [← Array.length_toList, hlen]; omega
          simp only [Instr.storeAt, Instr.sureAddr, storeVar, Sem.run_bind, Sem.run_pure, Result.andThen_ok, sizeOf_run hn, hsz, if_false, Sem.run_ite, Nat.zero_add]
          exact h1 P
        · cases e
      · cases e
    · cases e
  | _ => simp [storeI] at e

/-- a new row of cells -/
theorem new_rel (r : Rel w₀ S μ h w) {xs : List IV} {c : Array Value} {extra : List Value} (t : TypeId) (hs : allScalar xs = true) {vs : List Value} (hx : VRs μ xs vs) (hc : c.toList = vs ++ extra) :
    Rel w₀ S (μ.push h.next (w.heap.size, 0, c.size)) (h.push (.cells true false xs.length (setList .leaf 0 xs))) { w with heap := w.heap.push (.cells c t) } := by
  have hlen := hx.length
  have hcs : c.size = vs.length + extra.length := by rw [← Array.length_toList, hc]; simp
  refine r.alloc _ _ _ fun w' hw => ?_
  refine ⟨by omega, fun i x hi hg => ?_, fun _ => ⟨rfl, c, t, (0, 0), hw, rfl, fun _ => rfl, fun j _ => by simp⟩⟩
  rw [get_setList_leaf] at hg
  obtain ⟨v, hv, hr⟩ := hx.get _ _ hg
  refine ⟨allScalar_get hs hg, v, ?_, hr.mono (Mu.le_push (r.new _ (Nat.le_refl _))) _ _⟩
  simp only [World.cell?, hw, Nat.zero_add]
  have : c[i]? = some v := by
    rw [← Array.getElem?_toList, hc, List.getElem?_append_left (by omega)]; exact hv
  simp [this]
theorem newI_gives (r : Rel w₀ S μ h w) {xs : List IV} {v : IV} {h' : H} (e : newI h xs = some (v, h')) (t : TypeId) {cv : Value} (hx : VRs μ xs cv.cells.toList) :
    Gives P w₀ S μ (do pure (.pointer (some (← newVar t cv)))) w v h' := by
  unfold newI at e
  split at e
  · rename_i hs
    simp only [Option.some.injEq, Prod.mk.injEq] at e
    obtain ⟨rfl, rfl⟩ := e
    refine ⟨.pointer (some ⟨w.heap.size, 0, none⟩), _, _, ?_, Mu.le_push (r.new _ (Nat.le_refl _)), new_rel r (c := cv.cells) (extra := []) t hs hx (by simp), ⟨_, _, _, Mu.push_same _ _ _, rfl⟩⟩
    simp [newVar, newRow]
  · cases e

/-! ### building -/
theorem placeL_rel : ∀ {vs : List IV} {cvs : List Value} {cells : List IV} {ccs : List Value} (off : Nat), VRs μ vs cvs → VRs μ cells ccs →
    VRs μ (placeL cells off vs) (((cvs.zipIdx off).foldl (fun cs (cj : Value × Nat) => cs.set cj.2 cj.1) ccs))
  | [], _, cells, ccs, off, e, f => by simp only [VRs] at e; subst e; exact f
  | x :: xs, _, cells, ccs, off, e, f => by
    obtain ⟨v, vs, rfl, e2, e3⟩ := e
    simp only [placeL, List.zipIdx_cons, List.foldl_cons]
    exact placeL_rel (off + 1) e3 (f.set off e2)
theorem foldl_set_toList (off : Nat) : ∀ (l : List (Value × Nat)) (c : Array Value),
    (l.foldl (fun cs (cj : Value × Nat) => cs.setIfInBounds (off + cj.2) cj.1) c).toList = l.foldl (fun cs (cj : Value × Nat) => cs.set (off + cj.2) cj.1) c.toList
  | [], c => rfl
  | x :: l, c => by simp only [List.foldl_cons]; rw [foldl_set_toList off l]; simp
theorem zipIdx_shift (off : Nat) : ∀ (l : List Value) (i : Nat) (c : List Value),
    (l.zipIdx i).foldl (fun cs (cj : Value × Nat) => cs.set (off + cj.2) cj.1) c = (l.zipIdx (off + i)).foldl (fun cs (cj : Value × Nat) => cs.set cj.2 cj.1) c
  | [], i, c => rfl
  | x :: l, i, c => by
    simp only [List.zipIdx_cons, List.foldl_cons]
    rw [zipIdx_shift off l (i + 1), show off + i + 1 = off + (i + 1) from by omega]
inductive PartsR (μ : Mu) : List (Nat × IV) → List (Nat × Value) → Prop
  | nil : PartsR μ [] []
  | cons {i : Nat} {x : IV} {v : Value} {l : List (Nat × IV)} {m : List (Nat × Value)} (h : VR μ x v) (t : PartsR μ l m) : PartsR μ ((i, x) :: l) ((i, v) :: m)
theorem fillI_run {place place' : Nat → Option (Nat × Nat)} (hp : ∀ i x, place i = some x → place' i = some x) : ∀ {ps : List (Nat × IV)} {cps : List (Nat × Value)} {cells out : List IV} {ccs : Array Value},
    fillI place cells ps = some out → PartsR μ ps cps → VRs μ cells ccs.toList → ∃ cout, Instr.fill place' ccs cps = some cout ∧ VRs μ out cout.toList
  | [], _, cells, out, ccs, e, .nil, f => by
    simp only [fillI, Option.some.injEq] at e; subst e
    exact ⟨ccs, rfl, f⟩
  | (i, x) :: ps, _, cells, out, ccs, e, .cons (v := v) (m := m) hv ht, f => by
    simp only [fillI] at e
    split at e
    · cases e
    · rename_i off size hpl
      split at e
      · cases e
      · rename_i hcond
        have hvc := hv.cells
        have hlen := hvc.length
        have hclen := f.length
        rw [Array.length_toList] at hlen hclen
        have hx : ∀ u : Array Value, u = ((v.cells.zipIdx).foldl (fun cs (cj : Value × Nat) => cs.setIfInBounds (off + cj.2) cj.1) ccs) → u.toList = ((v.cells.toList.zipIdx off).foldl (fun cs (cj : Value × Nat) => cs.set cj.2 cj.1) ccs.toList) := by
          rintro u rfl
          rw [← Array.foldl_toList, Array.toList_zipIdx, foldl_set_toList, zipIdx_shift, Nat.add_zero]
        have hrel := placeL_rel off hvc f
        rw [← hx _ rfl] at hrel
        obtain ⟨cout, h1, h2⟩ := fillI_run hp e ht hrel
        refine ⟨cout, ?_, h2⟩
        simp only [Instr.fill, hp _ _ hpl]
        rw [if_neg (by simp; omega)]
        exact h1

theorem places_run {t : TypeId} : ∀ (fs : List Field) {l : List (Nat × Nat)}, fieldPlaces P fs = some l → ∀ w, (fs.mapM fun f => do pure (f.offset, ← sizeOf f.type) : Sem (List (Nat × Nat))).run P w = .ok l w
  | [], l, e, w => by simp only [fieldPlaces, Option.some.injEq] at e; subst e; simp
  | f :: fs, l, e, w => by
    simp only [fieldPlaces] at e
    split at e
    · rename_i n hn
      split at e
      · rename_i m hm
        injection e with e; subst e
        have ih := places_run (t := t) fs hm w
        simp only [List.mapM_cons, Sem.run_bind, sizeOf_run hn, Result.andThen_ok, Sem.run_pure] at ih ⊢
        rw [ih]; rfl
      · cases e
    · cases e
theorem buildI_gives (r : Rel w₀ S μ h w) {t : TypeId} {ps : List (Nat × IV)} {cps : Array (Nat × Value)} {v : IV} (e : buildI P t ps = some v) (hp : PartsR μ ps cps.toList) :
    Gives P w₀ S μ (Instr.build t cps) w v h := by
  unfold buildI at e
  split at e
  · rename_i zero hz
    split at e
    · rename_i fields hu
      split at e
      · rename_i places hpl
        split at e
        · rename_i l hf
          injection e with e; subst e
          obtain ⟨zv, hz1, hz2⟩ := zeroValue_run hz
          obtain ⟨zc, rfl, hzc⟩ := hz2 μ
          have hpr : (fields.mapM fun f => do pure (f.offset, ← sizeOf f.type) : Sem (Array (Nat × Nat))).run P w = .ok places.toArray w := by
            have := places_run (P := P) (t := t) fields.toList hpl w
            rw [Array.mapM_eq_mapM_toList]
            simp only [Sem.run_map, this, Result.andThen_ok]
          obtain ⟨cout, h1, h2⟩ := fillI_run (place' := fun i => places.toArray[i]?) (fun i x hx => by simpa using hx) hf hp (ccs := zc) hzc
          refine .here r (cv := .agg cout) ?_ ⟨_, rfl, h2⟩
          simp only [Instr.build, Sem.run_bind, hz1, Result.andThen_ok, run_underlying hu, Value.cells, hpr, h1, Sem.run_pure]
        · cases e
      · cases e
    · cases e
  · cases e
theorem repCells_length (z : List IV) : ∀ n, (repCells z n).length = n * z.length
  | 0 => by simp [repCells]
  | n + 1 => by simp [repCells, repCells_length z n, Nat.add_mul]; omega
theorem repCells_get (z : List IV) (hz : z ≠ []) : ∀ n i, i < n * z.length → (repCells z n)[i]? = z[i % z.length]?
  | 0, i, h => by omega
  | n + 1, i, h => by
    simp only [repCells]
    have hpos : 0 < z.length := List.length_pos_iff.2 hz
    by_cases hi : i < z.length
    · rw [List.getElem?_append_left hi, Nat.mod_eq_of_lt hi]
    · rw [List.getElem?_append_right (by omega), repCells_get z hz n (i - z.length) (by rw [Nat.add_mul, Nat.one_mul] at h; omega)]
      rw [← Nat.mod_eq_sub_mod (by omega)]
theorem allScalar_rep {z : List IV} (hz : allScalar z = true) : ∀ n, allScalar (repCells z n) = true
  | 0 => rfl
  | n + 1 => by
    simp only [repCells]
    have : ∀ a b : List IV, allScalar a = true → allScalar b = true → allScalar (a ++ b) = true := by
      intro a
      induction a with
      | nil => intro b _ hb; exact hb
      | cons x a ih => intro b ha hb; simp only [allScalar, Bool.and_eq_true, List.cons_append] at ha ⊢; exact ⟨ha.1, ih b ha.2 hb⟩
    exact this _ _ hz (allScalar_rep hz n)
theorem zeros_rel {z : List IV} {zc : Array Value} (hz : VRs μ z zc.toList) (hne : z ≠ []) (n : Nat) : VRs μ (repCells z n) ((Array.range (n * z.length)).map (zc[· % zc.size]!)).toList := by
  have key : ∀ {xs : List IV} {l : List Value}, l.length = xs.length → (∀ (i : Nat) (x : IV), xs[i]? = some x → ∃ v, l[i]? = some v ∧ VR μ x v) → VRs μ xs l := by
    intro xs
    induction xs with
    | nil => intro l hl _; simp only [List.length_nil, List.length_eq_zero_iff] at hl; exact hl
    | cons x xs ih =>
      intro l hl hg
      cases l with
      | nil => simp at hl
      | cons v l =>
        obtain ⟨v', h1, h2⟩ := hg 0 x rfl
        simp at h1; subst h1
        exact ⟨v, l, rfl, h2, ih (by simpa using hl) fun i y hy => by simpa using hg (i + 1) y (by simpa using hy)⟩
  refine key (by simp [repCells_length]) fun i x hx => ?_
  have hi : i < n * z.length := by
    rw [← repCells_length]
    exact (List.getElem?_eq_some_iff.1 hx).1
  rw [repCells_get z hne n i hi] at hx
  obtain ⟨v, hv, hr⟩ := hz.get _ _ hx
  refine ⟨v, ?_, hr⟩
  have hlen := hz.length
  rw [Array.length_toList] at hlen
  have hv' : zc[i % z.length]? = some v := by rw [← Array.getElem?_toList]; exact hv
  have hb : zc[i % zc.size]! = v := by
    rw [hlen, getElem!_def, hv']
  simp only [Array.getElem?_toList, Array.getElem?_map]
  rw [Array.getElem?_range]
  rw [if_pos hi]
  simp [hb]
theorem buildSliceI_gives (r : Rel w₀ S μ h w) {t : TypeId} {len : Nat} {ps : List (Nat × IV)} {cps : Array (Nat × Value)} {v : IV} {h' : H} (e : buildSliceI P h t len ps = some (v, h')) (hp : PartsR μ ps cps.toList) :
    Gives P w₀ S μ (Instr.buildSlice t len cps) w v h' := by
  unfold buildSliceI at e
  split at e
  · rename_i el hel
    split at e
    · rename_i size z hsz hz
      split at e
      · cases e
      · rename_i hc
        simp only [not_or] at hc
        obtain ⟨hc1, hc2, hc3, hc4⟩ := hc
        split at e
        · rename_i l hf
          split at e
          · rename_i hs
            simp only [Option.some.injEq, Prod.mk.injEq] at e
            obtain ⟨rfl, rfl⟩ := e
            obtain ⟨zv, hz1, hz2⟩ := zeroValue_run hz
            have hzc := (hz2 μ).cells
            have hzl : z.cells.length = size := by omega
            have hne : z.cells ≠ [] := by intro h0; rw [h0] at hzl; simp at hzl; omega
            have hrel := zeros_rel hzc hne len
            rw [hzl] at hrel
            obtain ⟨cout, h1, h2⟩ := fillI_run (place' := fun i => some (i * size, size)) (fun i x hx => hx) hf hp hrel
            have hnr := new_rel r (c := cout) (extra := []) el hs h2 (by simp)
            refine ⟨.slice (some ⟨w.heap.size, 0, none⟩) len len, _, _, ?_, Mu.le_push (r.new _ (Nat.le_refl _)), hnr, ?_⟩
            · simp only [Instr.buildSlice, Sem.run_bind, run_underlying (elemT_spec hel), Result.andThen_ok, sizeOf_run hsz]
              rw [Sem.run_ite, if_neg (by omega)]
              simp only [Sem.run_pure, Result.andThen_ok, Sem.run_ite]
              by_cases h0 : len * size = 0
              · rw [if_pos h0]
                simp only [Sem.run_bind, Sem.run_pure, Result.andThen_ok]
                have hl0 : len = 0 := by
                  rcases Nat.mul_eq_zero.1 h0 with h | h
                  · exact h
                  · omega
                subst hl0
                have hempty : ((Array.range (0 * size)).map ((#[] : Array Value)[· % (#[] : Array Value).size]!)) = ((Array.range (0 * size)).map (zv.cells[· % zv.cells.size]!)) := by simp
                rw [hempty, h1]
                simp [newRow]
              · rw [if_neg h0]
                simp only [Sem.run_bind, Sem.run_pure, hz1, Result.andThen_ok]
                rw [h1]
                simp [newRow]
            · refine ⟨_, _, rfl, Nat.le_refl _, .inr ⟨_, _, _, Mu.push_same _ _ _, rfl, ?_⟩⟩
              have hl2 := h2.length
              rw [Array.length_toList] at hl2
              have hll : l.length = len * size := by
                have : ∀ {place : Nat → Option (Nat × Nat)} (ps : List (Nat × IV)) {cells out : List IV}, fillI place cells ps = some out → out.length = cells.length := by
                  intro place ps
                  induction ps with
                  | nil => intro cells out e; simp only [fillI, Option.some.injEq] at e; rw [e]
                  | cons p ps ih =>
                    intro cells out e
                    obtain ⟨i, x⟩ := p
                    simp only [fillI] at e
                    split at e
                    · cases e
                    · split at e
                      · cases e
                      · rw [ih e]
                        have : ∀ (l : List IV) (c : List IV) (o : Nat), (placeL c o l).length = c.length := by
                          intro l
                          induction l with
                          | nil => intro c o; rfl
                          | cons y l ih => intro c o; simp only [placeL]; rw [ih]; simp
                        exact this _ _ _
                rw [this _ hf, repCells_length, hzl]
              rw [hl2, hll]; omega
          · cases e
        · cases e
    · cases e
  · cases e

end Go.Proofs.YtblgpcijbdbeiaaDoor.I
