/- The ideal machine: maps, append, copy, ranging: its operations give what the model's give. -/
import Derived.Test.YtblgpcijbdbeiaaDoorI7
namespace Go.Proofs.YtblgpcijbdbeiaaDoor.I
open Go
set_option linter.unusedVariables false
set_option linter.unusedSimpArgs false

variable {P : Program} {w₀ : World} {S : Sc} {μ : Mu} {h : H} {w : World}

/-! ### maps -/
theorem keyT_spec {t : TypeId} {k : IV} {ck : Value} (e : keyT P t k = true) (hk : VR μ k ck) :
    (P.underlying t = some .string ∧ ∃ s, ck = .string s ∧ k = .str (pack s)) ∨ (∃ j, P.underlying t = some (.int j) ∧ ∃ j n, ck = .int j n ∧ k = .int j n) := by
  unfold keyT at e
  split at e
  · rename_i s hu
    obtain ⟨b, rfl, rfl⟩ := hk
    exact .inl ⟨hu, b, rfl, rfl⟩
  · rename_i j j' n hu
    simp only [VR] at hk; subst hk
    exact .inr ⟨j, hu, _, _, rfl, rfl⟩
  · cases e
theorem checkKey_succ {t : TypeId} {k : IV} {ck : Value} (e : keyT P t k = true) (hk : VR μ k ck) (b : Bool) (n : Nat) (w : World) : (Instr.checkKey b (n + 1) t ck).run P w = .ok () w := by
  rw [Instr.checkKey]
  rcases keyT_spec e hk with ⟨hu, s, rfl, rfl⟩ | ⟨j, hu, j', n, rfl, rfl⟩ <;>
    simp only [Sem.run_bind, run_underlying hu, Result.andThen_ok, Sem.run_pure]
theorem checkKey_run {t : TypeId} {k : IV} {ck : Value} (e : keyT P t k = true) (hk : VR μ k ck) (b : Bool) (w : World) : (Instr.checkKey b 10000 t ck).run P w = .ok () w :=
  checkKey_succ e hk b 9999 w
theorem sameNow_spec {t : TypeId} {k q : IV} {ck cq : Value} {u : TypeDesc} {b : Bool} (hu : P.underlying t = some u) (e : keyT P t k = true) (hk : VR μ k ck) (hq : VR μ q cq) (hb : keyEq k q = some b) :
    Instr.sameNow u ck cq = some b := by
  rcases keyT_spec e hk with ⟨hu', s, rfl, rfl⟩ | ⟨j, hu', j', n, rfl, rfl⟩
  · rw [hu] at hu'; injection hu' with hu'; subst hu'
    cases q <;> simp [keyEq] at hb
    obtain ⟨s', rfl, rfl⟩ := hq
    simp only [Instr.sameNow, beq_bytes]
    rw [← hb, pack_eq]
  · rw [hu] at hu'; injection hu' with hu'; subst hu'
    cases q <;> simp [keyEq] at hb
    simp only [VR] at hq; subst hq
    obtain ⟨h1, h2⟩ := hb
    subst h1
    simp only [Instr.sameNow, if_true]
    rw [← h2]; rfl
theorem findI_spec {t : TypeId} {k : IV} {ck : Value} {u : TypeDesc} (hu : P.underlying t = some u) (ek : keyT P t k = true) (hk : VR μ k ck) :
    ∀ {es : List (IV × IV × Nat)} {ces : List MapEntry} {i : Nat} {res : Option (Nat × IV)}, EntsR μ es ces → findI k es i = some res →
      ∃ cres, Instr.findNow u ck ces i = some cres ∧ (match res with
        | none => cres = none
        | some (j, v) => ∃ cv, cres = some (j, cv) ∧ VR μ v cv ∧ i ≤ j ∧ ∃ q b e, es[j - i]? = some (q, v, b) ∧ ces[j - i]? = some e ∧ e.val = cv ∧ keyEq k q = some true ∧ VR μ q e.key ∧ b = e.born)
  | [], ces, i, res, hr, e => by
    simp only [EntsR] at hr; subst hr
    simp only [findI, Option.some.injEq] at e; subst e
    exact ⟨none, rfl, rfl⟩
  | (q, v, b) :: es, ces, i, res, hr, e => by
    obtain ⟨ce, ces, rfl, hq, hv, hb, hr⟩ := hr
    simp only [findI] at e
    split at e
    · rename_i hkq
      injection e with e; subst e
      have := sameNow_spec hu ek hk hq hkq
      refine ⟨some (i, ce.val), by simp [Instr.findNow, this], ce.val, rfl, hv, Nat.le_refl _, q, b, ce, by simp, by simp, rfl, hkq, hq, hb⟩
    · rename_i hkq
      have := sameNow_spec hu ek hk hq hkq
      obtain ⟨cres, h1, h2⟩ := findI_spec hu ek hk hr e
      refine ⟨cres, by simp [Instr.findNow, this, h1], ?_⟩
      cases res with
      | none => exact h2
      | some x =>
        obtain ⟨j, v'⟩ := x
        obtain ⟨cv, h3, h4, h5, q', b', e', h6, h7, h8⟩ := h2
        refine ⟨cv, h3, h4, by omega, q', b', e', ?_, ?_, h8⟩
        · rw [show j - i = (j - (i + 1)) + 1 from by omega]; simpa using h6
        · rw [show j - i = (j - (i + 1)) + 1 from by omega]; simpa using h7
    · cases e
theorem Rel.mapAt (r : Rel w₀ S μ h w) {b : Nat} {es : List (IV × IV × Nat)} {clock : Nat} (hb : h.get b = some (.map es clock)) {blk base lim : Nat} (hm : μ b = some (blk, base, lim)) :
    ∃ ents, w.heap[blk]? = some (.map ents clock) ∧ EntsR μ es ents.toList := by
  obtain ⟨k1, k2, k3, h1, ho, _⟩ := r.obj b _ hb
  rw [hm] at h1; injection h1 with h1; injection h1 with e1 e2; injection e2 with e2 e3; subst e1; subst e2; subst e3
  exact ho
theorem getObj_run {r : Nat} {o : _root_.Go.Obj} (hb : w.heap[r]? = some o) (hn : ∀ c e f, o ≠ .cells c e f) : (getObj r).run P w = .ok o w := by
  simp only [getObj, Sem.run, hb]
theorem setObj_run {r : Nat} {o p : _root_.Go.Obj} (hb : w.heap[r]? = some o) (hn : ∀ c e f, o ≠ .cells c e f) : (setObj r p).run P w = .ok () { w with heap := w.heap.setIfInBounds r p } := by
  simp only [setObj, Sem.run, hb]
theorem lookupI_run (r : Rel w₀ S μ h w) {t : TypeId} {x k v : IV} {ok : Bool} {cx ck : Value} (e : lookupI P h t x k ok = some v) (hx : VR μ x cx) (hk : VR μ k ck) :
    ∃ cv, (Instr.lookup t cx ck ok).run P w = .ok cv w ∧ VR μ v cv := by
  unfold lookupI at e
  split at e
  · rename_i kt et hu
    split at e
    · cases e
    · rename_i hkt
      simp only [Bool.not_eq_true', Bool.not_eq_false] at hkt
      split at e
      · rename_i es hes
        have hents : ∃ ces : Array MapEntry, EntsR μ es ces.toList ∧ ((cx = .map none ∧ ces = #[]) ∨ (∃ blk clock, cx = .map (some blk) ∧ w.heap[blk]? = some (.map ces clock))) := by
          split at hes
          · injection hes with hes; subst hes
            simp only [VR] at hx; subst hx
            exact ⟨#[], rfl, .inl ⟨rfl, rfl⟩⟩
          · rename_i b
            obtain ⟨blk, base, lim, hm, rfl⟩ := hx
            split at hes
            · rename_i es' clock hb
              injection hes with hes; subst hes
              obtain ⟨ents, h1, h2⟩ := r.mapAt hb hm
              exact ⟨ents, h2, .inr ⟨blk, clock, rfl, h1⟩⟩
            · cases hes
          · cases hes
        obtain ⟨ces, hr, hcx⟩ := hents
        obtain ⟨uk, huk⟩ : ∃ u, P.underlying kt = some u := by
          rcases keyT_spec hkt hk with ⟨hu, _⟩ | ⟨j, hu, _⟩ <;> exact ⟨_, hu⟩
        split at e
        · rename_i j v' hf
          injection e with e; subst e
          obtain ⟨cres, h1, cv, rfl, h3, _⟩ := findI_spec huk hkt hk hr hf
          refine ⟨if ok then .tuple #[cv, .bool true] else cv, ?_, ?_⟩
          · rcases hcx with ⟨rfl, rfl⟩ | ⟨blk, clock, rfl, hblk⟩
            · simp [Instr.findNow] at h1
            · simp only [Instr.lookup, Sem.run_bind, run_underlying hu, Result.andThen_ok, Sem.run_pure, getObj_run hblk (by simp), checkKey_run hkt hk, Instr.findKey, run_underlying huk, h1]
          · cases ok
            · exact h3
            · exact ⟨_, rfl, cv, _, rfl, h3, _, _, rfl, rfl, rfl⟩
        · rename_i hf
          obtain ⟨cres, h1, h2⟩ := findI_spec huk hkt hk hr hf
          simp only at h2; subst h2
          split at e
          · rename_i z hz
            injection e with e; subst e
            obtain ⟨zv, hz1, hz2⟩ := zeroValue_run hz
            refine ⟨if ok then .tuple #[zv, .bool false] else zv, ?_, ?_⟩
            · rcases hcx with ⟨rfl, rfl⟩ | ⟨blk, clock, rfl, hblk⟩
              · simp only [Instr.lookup, Sem.run_bind, run_underlying hu, Result.andThen_ok, Sem.run_pure, checkKey_run hkt hk, Instr.findKey, run_underlying huk, h1, hz1]
              · simp only [Instr.lookup, Sem.run_bind, run_underlying hu, Result.andThen_ok, Sem.run_pure, getObj_run hblk (by simp), checkKey_run hkt hk, Instr.findKey, run_underlying huk, h1, hz1]
            · cases ok
              · exact hz2 μ
              · exact ⟨_, rfl, zv, _, rfl, hz2 μ, _, _, rfl, rfl, rfl⟩
          · cases e
        · cases e
      · cases e
  · cases e

theorem EntsR.append {μ : Mu} {k v : IV} {e : MapEntry} (hk : VR μ k e.key) (hv : VR μ v e.val) : ∀ {es : List (IV × IV × Nat)} {l : List MapEntry}, EntsR μ es l → EntsR μ (es ++ [(k, v, e.born)]) (l ++ [e])
  | [], _, hr => by simp only [EntsR] at hr; subst hr; exact ⟨e, [], rfl, hk, hv, rfl, rfl⟩
  | (_, _, _) :: _, _, hr => by obtain ⟨x, l', rfl, e2, e3, e4, e5⟩ := hr; exact ⟨x, _, rfl, e2, e3, e4, e5.append hk hv⟩
theorem EntsR.modify {μ : Mu} {k v : IV} {ck cv : Value} (hk : VR μ k ck) (hv : VR μ v cv) : ∀ {es : List (IV × IV × Nat)} {l : List MapEntry} (i : Nat), EntsR μ es l →
    EntsR μ (es.modify i fun e => (k, v, e.2.2)) (l.modify i fun e => { e with key := ck, val := cv })
  | [], _, i, hr => by simp only [EntsR] at hr; subst hr; cases i <;> rfl
  | (_, _, _) :: _, _, 0, hr => by obtain ⟨x, l', rfl, e2, e3, e4, e5⟩ := hr; exact ⟨_, l', rfl, hk, hv, e4, e5⟩
  | (_, _, _) :: _, _, i + 1, hr => by obtain ⟨x, l', rfl, e2, e3, e4, e5⟩ := hr; exact ⟨x, _, rfl, e2, e3, e4, e5.modify hk hv i⟩
theorem EntsR.eraseIdx {μ : Mu} : ∀ {es : List (IV × IV × Nat)} {l : List MapEntry} (i : Nat), EntsR μ es l → EntsR μ (es.eraseIdx i) (l.eraseIdx i)
  | [], _, i, hr => by simp only [EntsR] at hr; subst hr; cases i <;> rfl
  | (_, _, _) :: _, _, 0, hr => by obtain ⟨x, l', rfl, e2, e3, e4, e5⟩ := hr; exact e5
  | (_, _, _) :: _, _, i + 1, hr => by obtain ⟨x, l', rfl, e2, e3, e4, e5⟩ := hr; exact ⟨x, _, rfl, e2, e3, e4, e5.eraseIdx i⟩
theorem Rel.setMap (r : Rel w₀ S μ h w) {b : Nat} {es es' : List (IV × IV × Nat)} {clock clock' : Nat} (hb : h.get b = some (.map es clock)) {blk base lim : Nat} (hm : μ b = some (blk, base, lim))
    {ents : Array MapEntry} (he : EntsR μ es' ents.toList) : Rel w₀ S μ (h.put b (.map es' clock')) { w with heap := w.heap.setIfInBounds blk (.map ents clock') } := by
  have hlt := r.lt _ _ hm
  simp only at hlt
  refine r.write hb rfl hm ⟨ents, by simp [Array.getElem?_setIfInBounds, hlt], he⟩ (fun k hk => ?_) (by simp) rfl rfl rfl
  simp only
  rw [Array.getElem?_setIfInBounds_ne (Ne.symm hk)]
theorem keyEq_same {k q : IV} {ck cq : Value} (hk : VR μ k ck) (hq : VR μ q cq) (e : keyEq k q = some true) : ck = cq ∧ ((∃ s, ck = .string s) ∨ (∃ j n, ck = .int j n)) := by
  cases k <;> cases q <;> simp [keyEq] at e
  · simp only [VR] at hk hq; subst hk; subst hq
    obtain ⟨rfl, rfl⟩ := e
    exact ⟨rfl, .inr ⟨_, _, rfl⟩⟩
  · obtain ⟨s, rfl, rfl⟩ := hk
    obtain ⟨s', rfl, rfl⟩ := hq
    rw [pack_eq] at e
    exact ⟨by rw [of_decide_eq_true e], .inl ⟨_, rfl⟩⟩
theorem keyStays_run {ck : Value} (e : (∃ s, ck = .string s) ∨ (∃ j n, ck = .int j n)) (w : World) : (Instr.keyThatStays ck ck).run P w = .ok ck w := by
  rcases e with ⟨s, rfl⟩ | ⟨j, n, rfl⟩ <;> simp [Instr.keyThatStays, Instr.sameBits, beq_bytes]
theorem mapUpdateI_does (r : Rel w₀ S μ h w) {t : TypeId} {x k v : IV} {h' : H} {cx ck cv : Value} (e : mapUpdateI P h t x k v = some h') (hx : VR μ x cx) (hk : VR μ k ck) (hv : VR μ v cv) :
    Does P w₀ S μ (Instr.mapUpdate t cx ck cv) w h' := by
  unfold mapUpdateI at e
  split at e
  · rename_i kt et hu
    split at e
    · cases e
    · rename_i hkt
      simp only [Bool.not_eq_true', Bool.not_eq_false] at hkt
      obtain ⟨uk, huk⟩ : ∃ u, P.underlying kt = some u := by
        rcases keyT_spec hkt hk with ⟨hu, _⟩ | ⟨j, hu, _⟩ <;> exact ⟨_, hu⟩
      split at e
      · rename_i b
        obtain ⟨blk, base, lim, hm, rfl⟩ := hx
        split at e
        · rename_i es clock hb
          obtain ⟨ents, h1, h2⟩ := r.mapAt hb hm
          have hget := getObj_run (P := P) h1 (by simp)
          split at e
          · rename_i j v' hf
            injection e with e; subst e
            obtain ⟨cres, hf1, cv', rfl, hf3, _, q, b', ce, hf4, hf5, hf6, hf7, hf8, hf9⟩ := findI_spec huk hkt hk h2 hf
            obtain ⟨hsame, hshape⟩ := keyEq_same hk hf8 hf7
            simp only [Nat.sub_zero] at hf4 hf5
            have hold : ((ents[j]?).map (·.key)).getD ck = ck := by
              rw [← Array.getElem?_toList, hf5]; exact hsame.symm
            refine ⟨_, μ, ?_, μ.le_refl, r.setMap hb hm (es' := es.modify j fun e => (k, v, e.2.2)) (clock' := clock) (ents := ents.modify j fun e => { e with key := ck, val := cv }) (by rw [Array.toList_modify]; exact h2.modify hk hv j)⟩
            simp only [Instr.mapUpdate, Sem.run_bind, run_underlying hu, Result.andThen_ok, hget, checkKey_run hkt hk, Instr.findKey, run_underlying huk, hf1, Sem.run_pure, hold, keyStays_run hshape]
            exact setObj_run h1 (by simp)
          · rename_i hf
            injection e with e; subst e
            obtain ⟨cres, hf1, hf2⟩ := findI_spec huk hkt hk h2 hf
            simp only at hf2; subst hf2
            refine ⟨_, μ, ?_, μ.le_refl, r.setMap hb hm (es' := es ++ [(k, v, clock)]) (clock' := clock + 1) (ents := ents.push { key := ck, val := cv, born := clock }) (by rw [Array.toList_push]; exact EntsR.append (e := { key := ck, val := cv, born := clock }) hk hv h2)⟩
            simp only [Instr.mapUpdate, Sem.run_bind, run_underlying hu, Result.andThen_ok, hget, checkKey_run hkt hk, Instr.findKey, run_underlying huk, hf1, Sem.run_pure]
            exact setObj_run h1 (by simp)
          · cases e
        · cases e
      · cases e
  · cases e
theorem deleteI_run (r : Rel w₀ S μ h w) {t ty : TypeId} {ats : Array TypeId} (h0 : ats[0]? = some t) {x k : IV} {h' : H} {cx ck : Value} (e : deleteI P h t x k = some h') (hx : VR μ x cx) (hk : VR μ k ck) :
    ∃ w', (Builtin.delete_ ats ty #[cx, ck]).run P w = .ok (.tuple #[]) w' ∧ Rel w₀ S μ h' w' := by
  unfold deleteI at e
  split at e
  · rename_i kt et' hu
    split at e
    · cases e
    · rename_i hkt
      simp only [Bool.not_eq_true', Bool.not_eq_false] at hkt
      obtain ⟨uk, huk⟩ : ∃ u, P.underlying kt = some u := by
        rcases keyT_spec hkt hk with ⟨hu, _⟩ | ⟨j, hu, _⟩ <;> exact ⟨_, hu⟩
      split at e
      · injection e with e; subst e
        simp only [VR] at hx; subst hx
        refine ⟨w, ?_, r⟩
        simp [Builtin.delete_, h0, run_underlying hu, checkKey_run hkt hk]
      · rename_i b
        obtain ⟨blk, base, lim, hm, rfl⟩ := hx
        split at e
        · rename_i es clock hb
          obtain ⟨ents, h1, h2⟩ := r.mapAt hb hm
          have hget := getObj_run (P := P) h1 (by simp)
          have hset : ∀ p, (setObj blk p).run P w = .ok () { w with heap := w.heap.setIfInBounds blk p } := fun p => setObj_run h1 (by simp)
          split at e
          · rename_i j v' hf
            injection e with e; subst e
            obtain ⟨cres, hf1, cv', rfl, hf3, _, q, b', ce, hf4, hf5, hf6, hf7, hf8, hf9⟩ := findI_spec huk hkt hk h2 hf
            refine ⟨_, ?_, r.setMap hb hm (es' := es.eraseIdx j) (clock' := clock) (ents := ents.eraseIdxIfInBounds j) (by rw [Array.toList_eraseIdxIfInBounds]; exact h2.eraseIdx j)⟩
            simp [Builtin.delete_, h0, run_underlying hu, hget, checkKey_run hkt hk, Instr.findKey, run_underlying huk, hf1, hset]
          · rename_i hf
            injection e with e; subst e
            obtain ⟨cres, hf1, hf2⟩ := findI_spec huk hkt hk h2 hf
            simp only at hf2; subst hf2
            refine ⟨{ w with heap := w.heap.setIfInBounds blk (.map ents clock) }, ?_, ?_⟩
            · simp [Builtin.delete_, h0, run_underlying hu, hget, checkKey_run hkt hk, Instr.findKey, run_underlying huk, hf1, hset]
            · have hlt := r.lt _ _ hm
              simp only at hlt
              have hsame : w.heap.setIfInBounds blk (.map ents clock) = w.heap := by
                apply Array.ext_getElem?
                intro i
                by_cases hi : blk = i
                · subst hi; rw [h1]; simp [Array.getElem?_setIfInBounds, hlt]
                · rw [Array.getElem?_setIfInBounds_ne hi]
              rw [hsame]; exact r
          · cases e
        · cases e
      · cases e
  · cases e

/-! ### lengths, append, copy -/
theorem lenI_run (r : Rel w₀ S μ h w) {t ty : TypeId} {ats : Array TypeId} (h0 : ats[0]? = some t) {x v : IV} {cx : Value} (e : lenI P h t x = some v) (hx : VR μ x cx) :
    ∃ cv, (Builtin.len_ ats ty #[cx]).run P w = .ok cv w ∧ VR μ v cv := by
  unfold lenI at e
  split at e
  · rename_i s hu
    obtain ⟨b, rfl, rfl⟩ := hx
    injection e with e; subst e
    exact ⟨goInt b.size, by simp [Builtin.len_, h0, run_underlying hu], rfl⟩
  · rename_i el hu
    simp only [VR] at hx; subst hx
    injection e with e; subst e
    exact ⟨goInt (0 : Nat), by simp [Builtin.len_, h0, run_underlying hu], rfl⟩
  · rename_i el b off n es hu
    obtain ⟨a, cap, rfl, _⟩ := hx
    injection e with e; subst e
    exact ⟨goInt n, by simp [Builtin.len_, h0, run_underlying hu], rfl⟩
  · rename_i k el hu
    simp only [VR] at hx; subst hx
    injection e with e; subst e
    exact ⟨goInt 0, by simp [Builtin.len_, h0, run_underlying hu], rfl⟩
  · rename_i k el b hu
    obtain ⟨blk, base, lim, hm, rfl⟩ := hx
    split at e
    · rename_i es clock hb
      injection e with e; subst e
      obtain ⟨ents, h1, h2⟩ := r.mapAt hb hm
      refine ⟨goInt ents.size, by simp [Builtin.len_, h0, run_underlying hu, getObj_run (P := P) h1 (by simp)], ?_⟩
      rw [← Array.length_toList, h2.length]; rfl
    · cases e
  · cases e
theorem sourceI_run (r : Rel w₀ S μ h w) {size : Nat} (hsize : size ≠ 0) {x : IV} {new : List IV} {n : Nat} {cx : Value} (e : sourceI h size x = some (new, n)) (hx : VR μ x cx) :
    (Builtin.lenOf cx).run P w = .ok n w ∧ new.length = n * size ∧ ∃ c : Array Value, VRs μ new c.toList ∧ ∀ P, (Builtin.firstCells size n cx).run P w = .ok c w := by
  unfold sourceI at e
  split at e
  · simp only [Option.some.injEq, Prod.mk.injEq] at e
    obtain ⟨rfl, rfl⟩ := e
    simp only [VR] at hx; subst hx
    exact ⟨rfl, by simp, #[], rfl, fun P => rfl⟩
  · rename_i s
    obtain ⟨b, rfl, rfl⟩ := hx
    split at e
    · rename_i h1
      subst h1
      simp only [Option.some.injEq, Prod.mk.injEq] at e
      obtain ⟨rfl, rfl⟩ := e
      have hrel := byteCells_rel (μ := μ) b
      have hlen := hrel.length
      refine ⟨rfl, by rw [← hlen]; simp [pack], (b.data.map fun c => Value.int .u8 (c.toNat : Int)), by simpa using hrel, fun P => ?_⟩
      have : b.extract 0 (pack b).len = b := by rw [pack_len]; simp
      simp only [Builtin.firstCells, this]
      rfl
    · cases e
  · rename_i b off len es
    obtain ⟨a, cap, rfl, hcap, hc⟩ := hx
    split at e
    · rename_i h0
      simp only [Option.some.injEq, Prod.mk.injEq] at e
      obtain ⟨rfl, rfl⟩ := e
      subst h0
      exact ⟨rfl, by simp, #[], rfl, fun P => by simp [Builtin.firstCells, loadCells, loadCellsFrom]⟩
    · rename_i h0
      split at e
      · rename_i rw fz sz cs hb
        split at e
        · rename_i hcond
          obtain ⟨rfl, hle⟩ := hcond
          split at e
          · rename_i l hg
            simp only [Option.some.injEq, Prod.mk.injEq] at e
            obtain ⟨rfl, rfl⟩ := e
            rcases hc with hc | ⟨blk, base, lim, hm, rfl, hlim⟩
            · omega
            obtain ⟨k1, k2, k3, h1, ho, _⟩ := r.obj b _ hb
            rw [hm] at h1; injection h1 with h1; injection h1 with e1 e2; injection e2 with e2 e3; subst e1; subst e2; subst e3
            obtain ⟨hlen, hget⟩ := getList_spec hg
            obtain ⟨vs, hv, hcc⟩ := cells_of ho (l := l) (off := off) (by omega) (fun j hj => hget j (by omega))
            refine ⟨rfl, hlen, vs.toArray, by simpa using hv, fun P => ?_⟩
            have := loadCells_run (P := P) (b := blk) (o := base + off) (vs := vs) (w := w) hcc
            rw [hv.length, hlen] at this
            exact this
          · cases e
        · cases e
      · cases e
  · cases e
theorem nextcap_le (need cap : Nat) (h : cap < need) : Builtin.nextslicecap need cap ≤ 2 * need + 2000 := by
  unfold Builtin.nextslicecap
  split
  · omega
  · split
    · omega
    · simp only [Builtin.growBy]
      repeat' split
      all_goals omega
theorem zeroCells_size (z : Array Value) (n : Nat) : (Builtin.zeroCells z n).size = n * z.size := by simp [Builtin.zeroCells]

end Go.Proofs.YtblgpcijbdbeiaaDoor.I
