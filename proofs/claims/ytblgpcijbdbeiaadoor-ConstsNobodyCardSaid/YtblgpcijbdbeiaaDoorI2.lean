/- The ideal machine: what the model's small steps (types, reading and writing cells) come to. -/
import Derived.Test.YtblgpcijbdbeiaaDoorI1
namespace Go.Proofs.YtblgpcijbdbeiaaDoor.I
open Go
set_option linter.unusedVariables false
set_option linter.unusedSimpArgs false

variable {P : Program} {w₀ : World} {S : Sc} {μ : Mu} {h : H} {w : World}

/-! ### types -/
theorem isAgg_run {t : TypeId} {b : Bool} (e : isAggT P t = some b) (w : World) : (isAgg t).run P w = .ok b w := by
  unfold isAggT at e
  cases hu : P.underlying t with
  | none => rw [hu] at e; cases e
  | some d =>
    rw [hu] at e
    cases d <;> simp at e <;> subst e <;> simp [isAgg, run_underlying hu]
theorem sizeOf_run {t : TypeId} {n : Nat} (e : sizeT P t = some n) (w : World) : (sizeOf t).run P w = .ok n w := by
  unfold sizeT at e
  cases hi : P.info? t with
  | none => rw [hi] at e; cases e
  | some i => rw [hi] at e; simp at e; subst e; simp [sizeOf, typeInfo, hi]
theorem typeInfo_bytes {t : TypeId} {n : Nat} (e : bytesT P t = some n) (w : World) : ∃ i, (typeInfo t).run P w = .ok i w ∧ i.bytes = n := by
  unfold bytesT at e
  cases hi : P.info? t with
  | none => rw [hi] at e; cases e
  | some i => rw [hi] at e; simp at e; exact ⟨i, by simp [typeInfo, hi], e⟩
theorem zeroValue_run {t : TypeId} {z : IV} (e : zeroT P t = some z) : ∃ zv, (∀ w, (zeroValue t).run P w = .ok zv w) ∧ ∀ μ, VR μ z zv := by
  unfold zeroT at e
  cases hi : P.info? t with
  | none => rw [hi] at e; cases e
  | some i =>
    rw [hi] at e
    cases hz : i.zero with
    | none => simp [hz] at e
    | some zv =>
      simp [hz] at e
      exact ⟨zv, fun w => by simp [zeroValue, typeInfo, hi, hz], fun μ => ofV_VR e⟩
theorem elemT_spec {t e : TypeId} (he : elemT P t = some e) : P.underlying t = some (.slice e) := by
  unfold elemT at he
  split at he
  · rename_i hu; injection he with he; rw [hu, he]
  · cases he
theorem fieldT_spec {s : TypeId} {f : Nat} {o : Nat} {t : TypeId} (e : fieldT P s f = some (o, t)) :
    ∃ fields fd, P.underlying s = some (.struct fields) ∧ fields[f]? = some fd ∧ fd.offset = o ∧ fd.type = t := by
  unfold fieldT at e
  split at e
  · rename_i fields hu
    split at e
    · rename_i fd hfd
      simp at e
      exact ⟨fields, fd, hu, hfd, e.1, e.2⟩
    · cases e
  · cases e

/-! ### lists in tries -/
theorem get_setList (l : List IV) : ∀ (t : T IV) (i j : Nat), (setList t i l).get j = if i ≤ j ∧ j < i + l.length then l[j - i]? else t.get j := by
  induction l with
  | nil => intro t i j; simp only [setList, List.length_nil, Nat.add_zero]; rw [if_neg (by omega)]
  | cons v l ih =>
    intro t i j
    simp only [setList, ih, T.get_set, List.length_cons]
    by_cases h1 : j = i
    · subst h1
      rw [if_neg (by omega), if_pos rfl, if_pos (by omega)]; simp
    · by_cases h2 : i + 1 ≤ j ∧ j < i + 1 + l.length
      · rw [if_pos h2, if_pos (by omega)]
        rw [show j - i = (j - (i + 1)) + 1 from by omega, List.getElem?_cons_succ]
      · rw [if_neg h2, if_neg h1, if_neg (by omega)]
theorem get_setList_leaf (l : List IV) (j : Nat) : (setList .leaf 0 l).get j = l[j]? := by
  rw [get_setList]
  by_cases h : j < l.length
  · rw [if_pos (by omega)]; simp
  · rw [if_neg (by omega), T.get_leaf, List.getElem?_eq_none (by omega)]
theorem getList_spec {t : T IV} : ∀ {n i : Nat} {l : List IV}, getList t i n = some l → l.length = n ∧ ∀ j, j < n → t.get (i + j) = l[j]?
  | 0, i, l, e => by simp only [getList, Option.some.injEq] at e; subst e; exact ⟨rfl, fun j hj => by omega⟩
  | n + 1, i, l, e => by
    simp only [getList] at e
    cases hv : t.get i with
    | none => rw [hv] at e; cases e
    | some v =>
      rw [hv] at e
      cases hr : getList t (i + 1) n with
      | none => simp [hr] at e
      | some r =>
        simp [hr] at e; subst e
        obtain ⟨h1, h2⟩ := getList_spec hr
        refine ⟨by simp [h1], fun j hj => ?_⟩
        cases j with
        | zero => simpa using hv
        | succ j => rw [show i + (j + 1) = i + 1 + j from by omega, h2 j (by omega)]; simp
theorem allScalar_mem {l : List IV} (e : allScalar l = true) : ∀ x ∈ l, x.scalar = true := by
  induction l with
  | nil => simp
  | cons v l ih =>
    simp only [allScalar, Bool.and_eq_true] at e
    intro x hx
    rcases List.mem_cons.1 hx with rfl | hx
    · exact e.1
    · exact ih e.2 x hx
theorem allScalar_get {l : List IV} (e : allScalar l = true) {i : Nat} {x : IV} (hx : l[i]? = some x) : x.scalar = true :=
  allScalar_mem e x (List.mem_of_getElem? hx)

/-! ### reading cells -/
theorem addr_add (b o n : Nat) : (⟨b, o, none⟩ : Addr).add n = ⟨b, o + n, none⟩ := Addr.add_lit b o n
theorem loadCellsFrom_run (b o : Nat) : ∀ (vs : List Value) (i : Nat) (acc : Array Value) (w : World),
    (∀ j v, vs[j]? = some v → w.cell? ⟨b, o + i + j, none⟩ = some v) → (loadCellsFrom ⟨b, o, none⟩ i vs.length acc).run P w = .ok (acc ++ vs.toArray) w
  | [], i, acc, w, _ => by simp [loadCellsFrom]
  | v :: vs, i, acc, w, hc => by
    have h0 := hc 0 v rfl
    simp only [List.length_cons, loadCellsFrom, Sem.run_bind, run_load, addr_add]
    rw [Nat.add_zero] at h0
    rw [h0]
    simp only [Result.andThen_ok]
    rw [loadCellsFrom_run b o vs (i + 1) (acc.push v) w (fun j u hj => by
      have := hc (j + 1) u (by simpa using hj)
      rw [← this]; congr 2; omega)]
    congr 1
    apply Array.toList_inj.1
    simp
theorem loadCells_run {b o : Nat} {vs : List Value} {w : World} (hc : ∀ j v, vs[j]? = some v → w.cell? ⟨b, o + j, none⟩ = some v) :
    (loadCells ⟨b, o, none⟩ vs.length).run P w = .ok vs.toArray w := by
  have := loadCellsFrom_run (P := P) b o vs 0 #[] w (fun j v hj => by rw [Nat.add_zero]; exact hc j v hj)
  rw [loadCells, this]; simp

/-- ideal cells that are there, read in the world -/
theorem cells_of {rw fz : Bool} {size : Nat} {cs : T IV} {blk base lim : Nat} (ho : OR μ (.cells rw fz size cs) blk base lim w) :
    ∀ {l : List IV} {off : Nat}, off + l.length ≤ size → (∀ j, j < l.length → cs.get (off + j) = l[j]?) →
      ∃ vs, VRs μ l vs ∧ (∀ j v, vs[j]? = some v → w.cell? ⟨blk, base + off + j, none⟩ = some v)
  | [], off, _, _ => ⟨[], rfl, fun j v hv => by simp at hv⟩
  | x :: l, off, hl, hg => by
    have h0 := hg 0 (by simp)
    simp only [Nat.add_zero, List.getElem?_cons_zero] at h0
    obtain ⟨_, v, hv, hr⟩ := ho.2.1 off x (by simp at hl; omega) h0
    obtain ⟨vs, e1, e2⟩ := cells_of ho (l := l) (off := off + 1) (by simp at hl; omega) (fun j hj => by
      have := hg (j + 1) (by simp; omega)
      rw [show off + 1 + j = off + (j + 1) from by omega, this]; simp)
    refine ⟨v :: vs, ⟨v, vs, rfl, hr, e1⟩, fun j u hu => ?_⟩
    cases j with
    | zero => simp at hu; subst hu; exact hv
    | succ j =>
      have := e2 j u (by simpa using hu)
      rw [← this]; congr 2; omega

/-! ### writing cells -/
def wl (c : Array Value) (off : Nat) : List Value → Array Value
  | [] => c
  | v :: vs => wl (c.setIfInBounds off v) (off + 1) vs
theorem wl_size : ∀ (vs : List Value) (c : Array Value) (off : Nat), (wl c off vs).size = c.size
  | [], c, off => rfl
  | v :: vs, c, off => by rw [wl, wl_size vs]; simp
theorem wl_get : ∀ (vs : List Value) (c : Array Value) (off j : Nat), off + vs.length ≤ c.size →
    (wl c off vs)[j]? = if off ≤ j ∧ j < off + vs.length then vs[j - off]? else c[j]?
  | [], c, off, j, _ => by rw [wl, if_neg (by simp)]
  | v :: vs, c, off, j, hl => by
    simp only [List.length_cons] at hl ⊢
    rw [wl, wl_get vs _ _ _ (by simp; omega)]
    by_cases h1 : j = off
    · subst h1
      rw [if_neg (by omega), if_pos (by omega)]
      simp [Array.getElem?_setIfInBounds]; omega
    · by_cases h2 : off + 1 ≤ j ∧ j < off + 1 + vs.length
      · rw [if_pos h2, if_pos (by omega), show j - off = (j - (off + 1)) + 1 from by omega, List.getElem?_cons_succ]
      · rw [if_neg h2, if_neg (by omega), Array.getElem?_setIfInBounds_ne (by omega)]
/-- a world with a block's cells turned -/
def World.putCells (w : World) (blk : Nat) (c : Array Value) : World :=
  { w with heap := w.heap.modify blk fun
      | .cells _ e fr => .cells c e fr
      | o => o }
theorem putCells_heap {w : World} {blk : Nat} {c c' : Array Value} {e : TypeId} {fr : Nat × Nat} (hb : w.heap[blk]? = some (.cells c e fr)) (k : Nat) :
    (World.putCells w blk c').heap[k]? = if k = blk then some (.cells c' e fr) else w.heap[k]? := by
  simp only [World.putCells, Array.getElem?_modify]
  by_cases h : k = blk
  · subst h; rw [if_pos rfl, if_pos rfl, hb]; rfl
  · rw [if_neg (Ne.symm h), if_neg h]
theorem setCell_putCells {w : World} {blk off : Nat} {v : Value} {c : Array Value} {e : TypeId} {fr : Nat × Nat} (hb : w.heap[blk]? = some (.cells c e fr)) :
    w.setCell ⟨blk, off, none⟩ v = World.putCells w blk (c.setIfInBounds off v) := by
  obtain ⟨heap, tape, drawn, os, output⟩ := w
  simp only [World.setCell, World.putCells, World.mk.injEq, and_true]
  apply Array.ext_getElem?
  intro k
  simp only [Array.getElem?_modify]
  by_cases h : blk = k
  · subst h; simp only [if_true]
    simp only at hb
    rw [hb]; simp
  · rw [if_neg h, if_neg h]
theorem putCells_putCells (w : World) (blk : Nat) (c c' : Array Value) : World.putCells (World.putCells w blk c) blk c' = World.putCells w blk c' := by
  obtain ⟨heap, tape, drawn, os, output⟩ := w
  simp only [World.putCells, World.mk.injEq, and_true]
  apply Array.ext_getElem?
  intro k
  simp only [Array.getElem?_modify]
  by_cases h : blk = k
  · subst h; simp only [if_true]
    cases heap[blk]? with
    | none => rfl
    | some o => cases o <;> rfl
  · rw [if_neg h, if_neg h, if_neg h]
theorem putCells_same {w : World} {blk : Nat} {c : Array Value} {e : TypeId} {fr : Nat × Nat} (hb : w.heap[blk]? = some (.cells c e fr)) : World.putCells w blk c = w := by
  obtain ⟨heap, tape, drawn, os, output⟩ := w
  simp only [World.putCells, World.mk.injEq, and_true]
  apply Array.ext_getElem?
  intro k
  simp only [Array.getElem?_modify]
  by_cases h : blk = k
  · subst h; simp only [if_true]
    simp only at hb
    rw [hb]; rfl
  · rw [if_neg h]
theorem storeCells_run {blk o : Nat} : ∀ (vs : List Value) (i : Nat) (w : World) (c : Array Value) (e : TypeId) (fr : Nat × Nat),
    w.heap[blk]? = some (.cells c e fr) → (∀ v ∈ vs, v.oneCell' = true) → o + i + vs.length ≤ c.size → (∀ j, j < c.size → ¬ (fr.1 ≤ j ∧ j < fr.2)) →
    (storeCells ⟨blk, o, none⟩ vs i).run P w = .ok () (World.putCells w blk (wl c (o + i) vs))
  | [], i, w, c, e, fr, hb, _, _, _ => by
    simp only [storeCells, Sem.run_pure, wl, putCells_same hb]
  | v :: vs, i, w, c, e, fr, hb, hs, hl, hf => by
    simp only [List.length_cons] at hl
    have hcell : w.cell? ⟨blk, o + i, none⟩ = some (c[o + i]'(by omega)) := by
      simp only [World.cell?, hb]; simp
    have hfr : w.frozen? ⟨blk, o + i, none⟩ = false := by
      simp only [World.frozen?, hb]
      have := hf (o + i) (by omega)
      simpa using this
    simp only [storeCells, Sem.run_bind, addr_add]
    rw [run_store P w _ v .plain (hs v (by simp)), hcell]
    simp only [hfr, Bool.false_eq_true, if_false, Result.andThen_ok]
    rw [setCell_putCells hb]
    rw [storeCells_run vs (i + 1) _ (c.setIfInBounds (o + i) v) e fr (by rw [putCells_heap hb, if_pos rfl]) (fun u hu => hs u (by simp [hu])) (by simp; omega) (by simpa using hf)]
    rw [putCells_putCells]; rfl
theorem VR.oneCell {x : IV} {v : Value} (hr : VR μ x v) (hs : x.scalar = true) : v.oneCell' = true := by
  obtain ⟨h1, h2⟩ := hr.scalar hs
  cases v <;> first | rfl | (exact absurd rfl (h1 _)) | (exact absurd rfl (h2 _))
theorem VRs.oneCell : ∀ {xs : List IV} {vs : List Value}, VRs μ xs vs → allScalar xs = true → ∀ v ∈ vs, v.oneCell' = true
  | [], _, e, _ => by simp only [VRs] at e; subst e; simp
  | x :: xs, _, e, hs => by
    obtain ⟨v, vs, rfl, e2, e3⟩ := e
    simp only [allScalar, Bool.and_eq_true] at hs
    intro u hu
    rcases List.mem_cons.1 hu with rfl | hu
    · exact e2.oneCell hs.1
    · exact e3.oneCell hs.2 u hu

/-- An ideal object's cells written over, and the world's. -/
theorem Rel.store (r : Rel w₀ S μ h w) {b : Nat} {fz : Bool} {size : Nat} {cs : T IV} {blk base lim : Nat} (hb : h.get b = some (.cells true fz size cs))
    (hm : μ b = some (blk, base, lim)) {off : Nat} {xs : List IV} {vs : List Value} (hx : VRs μ xs vs) (hs : allScalar xs = true) (hl : off + xs.length ≤ size) :
    base = 0 ∧ (∀ P, (storeCells ⟨blk, off, none⟩ vs).run P w = .ok () (World.putCells w blk (wl (match w.heap[blk]? with | some (.cells c _ _) => c | _ => #[]) off vs))) ∧
      Rel w₀ S μ (h.put b (.cells true fz size (setList cs off xs))) (World.putCells w blk (wl (match w.heap[blk]? with | some (.cells c _ _) => c | _ => #[]) off vs)) := by
  obtain ⟨k1, k2, k3, h1, ho, _⟩ := r.obj b _ hb
  rw [hm] at h1; injection h1 with h1; injection h1 with e1 e2; injection e2 with e2 e3; subst e1; subst e2; subst e3
  obtain ⟨ho0, ho1, ho2⟩ := ho
  obtain ⟨hz, c, e, fr, hc, hsz, hfr, hfr2⟩ := ho2 rfl
  subst hz
  have hlen := hx.length
  refine ⟨rfl, fun P => ?_, ?_⟩
  · rw [hc]
    have := storeCells_run (P := P) (o := off) vs 0 w c e fr hc (hx.oneCell hs) (by omega) (by rw [hsz]; exact hfr2)
    rw [this, Nat.add_zero]
  · rw [hc]
    simp only []
    have hh := putCells_heap (c' := wl c off vs) hc
    refine r.write hb rfl hm ?_ (fun k hk => by rw [hh, if_neg hk]) (by simp [World.putCells]) rfl rfl rfl
    refine ⟨ho0, fun i x hi hg => ?_, fun _ => ⟨rfl, wl c off vs, e, fr, by rw [hh, if_pos rfl], by rw [wl_size]; exact hsz, hfr, hfr2⟩⟩
    rw [get_setList] at hg
    have hget : (World.putCells w blk (wl c off vs)).cell? ⟨blk, 0 + i, none⟩ = (wl c off vs)[i]? := by
      simp only [World.cell?, hh, if_true]; simp
    rw [hget, wl_get _ _ _ _ (by omega)]
    by_cases hi' : off ≤ i ∧ i < off + xs.length
    · rw [if_pos hi'] at hg
      rw [if_pos (by omega)]
      obtain ⟨v, hv, hr⟩ := hx.get _ _ hg
      exact ⟨allScalar_get hs hg, v, hv, hr⟩
    · rw [if_neg hi'] at hg
      rw [if_neg (by omega)]
      obtain ⟨hsc, v, hv, hr⟩ := ho1 i x hi hg
      refine ⟨hsc, v, ?_, hr⟩
      rw [← hv]
      simp only [World.cell?, hc]; simp

end Go.Proofs.YtblgpcijbdbeiaaDoor.I
