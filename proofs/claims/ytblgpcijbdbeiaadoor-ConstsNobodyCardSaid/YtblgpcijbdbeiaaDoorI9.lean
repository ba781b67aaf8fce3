/- The ideal machine: append and copy give what the model's give. -/
import Derived.Test.YtblgpcijbdbeiaaDoorI8
namespace Go.Proofs.YtblgpcijbdbeiaaDoor.I
open Go
set_option linter.unusedVariables false
set_option linter.unusedSimpArgs false

variable {P : Program} {w₀ : World} {S : Sc} {μ : Mu} {h : H} {w : World}

/-- the model's append where it must grow -/
theorem append_grows {t xt ty : TypeId} {ats : Array TypeId} (h0 : ats[0]? = some t) (h1 : ats[1]? = some xt) {el : TypeId} {size bytes : Nat} {u : TypeDesc} {z : IV}
    (hel : P.underlying t = some (.slice el)) (hsz : sizeT P el = some size) (hby : bytesT P el = some bytes) (hu : P.underlying xt = some u) (hni : ∀ k, u ≠ .int k) (hb0 : bytes ≠ 0) (hz : zeroT P el = some z)
    {base : Option Addr} {sLen sCap n : Nat} {cx : Value} (hn : (Builtin.lenOf cx).run P w = .ok n w) (hgrow : sCap < sLen + n) (hroom : (2 * (sLen + n) + 2000) * bytes ≤ 2 ^ 46)
    {old new : Array Value} (hold : ∀ d, (Builtin.firstCells size sLen (.slice base sLen sCap)).run P { w with drawn := d } = .ok old { w with drawn := d })
    (hnew : ∀ d, (Builtin.firstCells size n cx).run P { w with drawn := d } = .ok new { w with drawn := d }) :
    ∃ cap rest, sLen + n ≤ cap ∧ rest.size = (cap - (sLen + n)) * z.cells.length ∧
      (Builtin.append_ ats ty #[.slice base sLen sCap, cx]).run P w = .ok (.slice (some ⟨w.heap.size, 0, none⟩) (sLen + n) cap) { w with drawn := w.drawn + 1, heap := w.heap.push (.cells (old ++ new ++ rest) el) } := by
  obtain ⟨zv, hz1, hz2⟩ := zeroValue_run hz
  obtain ⟨i, hi, hib⟩ := typeInfo_bytes hby w
  have hi' : ∀ w', (typeInfo el).run P w' = .ok i w' := by
    intro w'
    obtain ⟨i', hi', _⟩ := typeInfo_bytes hby w'
    have : P.info? el = some i := by
      cases hinf : P.info? el with
      | none => simp [typeInfo, hinf] at hi
      | some j => simp [typeInfo, hinf] at hi; rw [hi]
    simp [typeInfo, this]
  refine ⟨(Question.appendCap (sLen + n) sCap el).cut (w.tape w.drawn (.appendCap (sLen + n) sCap el)),
    Builtin.zeroCells zv.cells ((Question.appendCap (sLen + n) sCap el).cut (w.tape w.drawn (.appendCap (sLen + n) sCap el)) - (sLen + n)), by simp [Question.cut], ?_, ?_⟩
  · rw [zeroCells_size]
    have := (hz2 (fun _ => none)).cells.length
    rw [Array.length_toList] at this
    rw [this]
  · have hf : (Question.appendCap (sLen + n) sCap el).forced = false := rfl
    have hz3 : (match u with | .int _ => true | _ => false) = false := by cases u <;> first | rfl | exact absurd rfl (hni _)
    have hcap : ¬ (Builtin.nextslicecap (sLen + n) sCap * i.bytes > 2 ^ 48) := by
      have h1 := nextcap_le (sLen + n) sCap hgrow
      have h2 := Nat.mul_le_mul_right i.bytes h1
      rw [hib] at h2 ⊢
      omega
    have hlt : ¬ ((sLen + n : Nat) : Int) > 9223372036854775807 := by
      have : (2 * (sLen + n) + 2000) * 1 ≤ (2 * (sLen + n) + 2000) * bytes := Nat.mul_le_mul_left _ (by omega)
      omega
    have hlt' : ¬ (((sLen + n : Nat) : Int) > IntKind.i64.max ∧ (False ∨ i.bytes = 0)) := by
      rw [IntKind.max_i64]; exact fun hh => hlt hh.1
    have hlt2 : ¬ sLen + n ≤ sCap := by omega
    simp only [Builtin.append_, h0, h1, List.getElem?_toArray, List.getElem?_cons_zero, List.getElem?_cons_succ, Sem.run_bind, run_underlying hel, Result.andThen_ok, sizeOf_run hsz, run_underlying hu, Sem.run_pure, hz3,
      Bool.false_eq_true, if_false, hn, if_neg hlt2, hi']
    rw [if_neg hlt']
    simp only [Sem.run_bind, hi', Result.andThen_ok, if_neg hcap, run_choose, hf, Bool.false_eq_true, if_false, run_askRoom, hold, hnew, Bool.not_false, if_true, hz1, newRow, run_newObj, Sem.run_pure]

/-- the model's append where there is room -/
theorem append_fits {t xt ty : TypeId} {ats : Array TypeId} (h0 : ats[0]? = some t) (h1 : ats[1]? = some xt) {el : TypeId} {size : Nat} {u : TypeDesc}
    (hel : P.underlying t = some (.slice el)) (hsz : sizeT P el = some size) (hu : P.underlying xt = some u) (hni : ∀ k, u ≠ .int k)
    {base : Option Addr} {sLen sCap n : Nat} {cx : Value} (hn : (Builtin.lenOf cx).run P w = .ok n w) (hfit : sLen + n ≤ sCap)
    {new : Array Value} (hnew : (Builtin.firstCells size n cx).run P w = .ok new w) {w' : World}
    (hst : match base with | some a => (storeCells (a.add (sLen * size)) new.toList).run P w = .ok () w' | none => w' = w) :
    (Builtin.append_ ats ty #[.slice base sLen sCap, cx]).run P w = .ok (.slice base (sLen + n) sCap) w' := by
  have hz3 : (match u with | .int _ => true | _ => false) = false := by cases u <;> first | rfl | exact absurd rfl (hni _)
  simp only [Builtin.append_, h0, h1, List.getElem?_toArray, List.getElem?_cons_zero, List.getElem?_cons_succ, Sem.run_bind, run_underlying hel, Result.andThen_ok, sizeOf_run hsz, run_underlying hu, Sem.run_pure, hz3,
    Bool.false_eq_true, if_false, hn, if_pos hfit, Bool.not_false, if_true, hnew]
  cases base with
  | none => simp only at hst; subst hst; rfl
  | some a => simp only at hst; simp only [Sem.run_bind, hst, Result.andThen_ok, Sem.run_pure]

theorem Rel.draw (r : Rel w₀ S μ h w) : Rel w₀ S μ h { w with drawn := w.drawn + 1 } := r.drew _
theorem heap_drawn (d : Nat) : ({ w with drawn := d } : World).heap = w.heap := rfl

theorem appendI_gives (r : Rel w₀ S μ h w) {t xt ty : TypeId} {ats : Array TypeId} (h0 : ats[0]? = some t) (h1 : ats[1]? = some xt) {s x v : IV} {h' : H} {cs cx : Value}
    (e : appendI P h t xt s x = some (v, h')) (hs : VR μ s cs) (hx : VR μ x cx) : Gives P w₀ S μ (Builtin.append_ ats ty #[cs, cx]) w v h' := by
  unfold appendI at e
  split at e
  · rename_i el hel
    split at e
    · rename_i size bytes u z hsz hby hu hz
      split at e
      · cases e
      · rename_i hc
        simp only [not_or] at hc
        obtain ⟨hc1, hc2, hc3, hc4⟩ := hc
        have hni : ∀ k, u ≠ .int k := by rintro k rfl; exact hc4 rfl
        have hzl : z.cells.length = size := by omega
        split at e
        · rename_i new n hsrc
          obtain ⟨hlen, hnl, cnew, hnew, hcn⟩ := sourceI_run (P := P) r hc1 hsrc hx
          have hdr : ∀ d, (Builtin.firstCells size n cx).run P { w with drawn := d } = .ok cnew { w with drawn := d } := by
            intro d
            have : ∀ (a : Addr) (m : Nat) (i : Nat) (acc c : Array Value), (loadCellsFrom a i m acc).run P w = .ok c w → (loadCellsFrom a i m acc).run P { w with drawn := d } = .ok c { w with drawn := d } := by
              intro a m
              induction m with
              | zero => intro i acc c hr; simp only [loadCellsFrom, Sem.run_pure, Result.ok.injEq, and_true] at hr ⊢; exact hr
              | succ m ih =>
                intro i acc c hr
                simp only [loadCellsFrom, Sem.run_bind, run_load] at hr ⊢
                have hcell : ({ w with drawn := d } : World).cell? (a.add i) = w.cell? (a.add i) := rfl
                rw [hcell]
                cases hcc : w.cell? (a.add i) with
                | none =>
                  rw [hcc] at hr
                  simp only at hr
                  cases hfl : w.farLoad P (a.add i) (Mode.plain == Mode.atomic) with
                  | error e => rw [hfl] at hr; simp at hr
                  | ok x =>
                    obtain ⟨x1, x2⟩ := x
                    rw [hfl] at hr
                    have hfl' : ({ w with drawn := d } : World).farLoad P (a.add i) (Mode.plain == Mode.atomic) = .ok (x1, x2) := by rw [← hfl]; rfl
                    rw [hfl']
                    simp only [Result.andThen_ok] at hr ⊢
                    exact ih _ _ _ hr
                | some x =>
                  rw [hcc] at hr
                  simp only [Result.andThen_ok] at hr ⊢
                  exact ih _ _ _ hr
            have hcn' := hcn P
            cases cx with
            | slice a l c =>
              cases a with
              | none => simpa [Builtin.firstCells] using hcn'
              | some a => simp only [Builtin.firstCells, loadCells] at hcn' ⊢; exact this _ _ _ _ _ hcn'
            | string b => simpa [Builtin.firstCells] using hcn'
            | _ => simp [Builtin.firstCells] at hcn'
          split at e
          · cases e
          · rename_i hsc
            have hsc : allScalar new = true := by simpa using hsc
            split at e
            · -- onto nil
              simp only [VR] at hs; subst hs
              split at e
              · rename_i hn0
                simp only [Option.some.injEq, Prod.mk.injEq] at e
                obtain ⟨rfl, rfl⟩ := e
                subst hn0
                exact .here r (append_fits h0 h1 (elemT_spec hel) hsz hu hni hlen (by omega) (hcn P) rfl) rfl
              · rename_i hn0
                split at e
                · rename_i hroom
                  simp only [Option.some.injEq, Prod.mk.injEq] at e
                  obtain ⟨rfl, rfl⟩ := e
                  obtain ⟨cap, rest, hcap, hrest, hrun⟩ := append_grows (w := w) (ty := ty) h0 h1 (elemT_spec hel) hsz hby hu hni hc2 hz (base := none) (sLen := 0) (sCap := 0) hlen (by omega) (by simpa using hroom)
                    (old := #[]) (fun d => rfl) hdr
                  simp only [Nat.zero_add, Array.empty_append] at hrun hcap hrest
                  refine ⟨_, _, _, hrun, Mu.le_push (x := (w.heap.size, 0, (cnew ++ rest).size)) (r.new _ (Nat.le_refl _)), ?_, ?_⟩
                  · exact new_rel (r.drew (w.drawn + 1)) el hsc hnew (extra := rest.toList) (by simp)
                  · refine ⟨_, _, rfl, hcap, .inr ⟨_, _, _, Mu.push_same _ _ _, rfl, ?_⟩⟩
                    have hl := hnew.length
                    rw [Array.length_toList] at hl
                    simp only [Array.size_append, hl, hnl, hrest, hzl, Nat.zero_add]
                    rw [← Nat.add_mul]
                    exact Nat.mul_le_mul_right _ (by omega)
                · cases e
            · rename_i b off len es
              obtain ⟨a, cap0, rfl, hcap0, hcc⟩ := hs
              split at e
              · cases e
              · rename_i hes
                have hes : es = size := by omega
                subst hes
                split at e
                · rename_i hn0
                  simp only [Option.some.injEq, Prod.mk.injEq] at e
                  obtain ⟨rfl, rfl⟩ := e
                  subst hn0
                  have hcn0 : cnew = #[] := by
                    have := hnew.length
                    rw [hnl] at this
                    simpa using this
                  subst hcn0
                  refine .here r (append_fits h0 h1 (elemT_spec hel) hsz hu hni hlen (by omega) (hcn P) (w' := w) (by simp [storeCells])) ⟨a, cap0, rfl, hcap0, hcc⟩
                · rename_i hn0
                  split at e
                  · rename_i fz sz cs hb
                    split at e
                    · rename_i hcond
                      obtain ⟨rfl, hle, hroom⟩ := hcond
                      simp only [Option.some.injEq, Prod.mk.injEq] at e
                      obtain ⟨rfl, rfl⟩ := e
                      obtain ⟨blk, base, lim, hm, ho, hown⟩ := r.obj b _ hb
                      have ho' := ho
                      obtain ⟨ho0, ho1, ho2⟩ := ho'
                      obtain ⟨hz0, c, e0, fr, hc, hcs, hfr, hfr2⟩ := ho2 rfl
                      subst hz0
                      have hnl2 := hnew.length
                      rw [Array.length_toList] at hnl2
                      by_cases hfit : len + n ≤ cap0
                      · -- in place
                        rcases hcc with hcc | ⟨blk', base', lim', hm', rfl, hlim⟩
                        · omega
                        rw [hm] at hm'; injection hm' with hm'; injection hm' with e1 e2; injection e2 with e2 e3; subst e1; subst e2; subst e3
                        have hmul : len * es + n * es ≤ cap0 * es := by rw [← Nat.add_mul]; exact Nat.mul_le_mul_right _ hfit
                        have hst := storeCells_run (P := P) (o := 0 + 0 + len * es) cnew.toList 0 w c e0 fr hc (hnew.oneCell hsc) (by rw [Array.length_toList, hnl2, hnl]; omega) (by rw [hcs]; exact hfr2)
                        have hrun := append_fits (ty := ty) h0 h1 (elemT_spec hel) hsz hu hni hlen hfit (hcn P) (base := some ⟨blk, 0 + 0, none⟩)
                          (w' := World.putCells w blk (wl c (0 + 0 + len * es + 0) cnew.toList)) (by simp only [addr_add]; exact hst)
                        have hh := putCells_heap (c' := wl c (0 + 0 + len * es + 0) cnew.toList) hc
                        have hw2 : Rel w₀ S μ (h.put b (.cells true fz ((len + n) * es) (setList cs (len * es) new))) (World.putCells w blk (wl c (0 + 0 + len * es + 0) cnew.toList)) := by
                          refine r.write hb rfl hm ?_ (fun k hk => by rw [hh, if_neg hk]) (by simp [World.putCells]) rfl rfl rfl
                          refine ⟨by rw [Nat.add_mul]; omega, fun i y hi hg => ?_, fun _ => ⟨rfl, _, e0, fr, by rw [hh, if_pos rfl], by rw [wl_size]; exact hcs, hfr, hfr2⟩⟩
                          rw [get_setList] at hg
                          have hget : (World.putCells w blk (wl c (0 + 0 + len * es + 0) cnew.toList)).cell? ⟨blk, 0 + i, none⟩ = (wl c (0 + 0 + len * es + 0) cnew.toList)[i]? := by
                            simp only [World.cell?, hh, if_true]; simp
                          rw [hget, wl_get _ _ _ _ (by rw [Array.length_toList, hnl2, hnl]; omega)]
                          simp only [Nat.zero_add, Nat.add_zero, Array.length_toList, hnl2]
                          by_cases hi' : len * es ≤ i ∧ i < len * es + new.length
                          · rw [if_pos hi'] at hg
                            rw [if_pos hi']
                            obtain ⟨v, hv, hr⟩ := hnew.get _ _ hg
                            exact ⟨allScalar_get hsc hg, v, hv, hr⟩
                          · rw [if_neg hi'] at hg
                            rw [if_neg hi']
                            rw [hnl, ← Nat.add_mul] at hi'
                            obtain ⟨hsc', v, hv, hr⟩ := ho1 i y (by omega) hg
                            refine ⟨hsc', v, ?_, hr⟩
                            rw [← hv]
                            simp only [World.cell?, hc]; simp
                        have hw3 := hw2.rename (b := b) (by rw [H.get_put, if_pos rfl]) rfl hm
                        refine ⟨_, _, _, hrun, Mu.le_push (x := (blk, 0, lim)) (r.new _ (Nat.le_refl _)), hw3.congr (fun k => ?_) rfl, ?_⟩
                        · have hnx : ((h.put b (.cells true fz ((len + n) * es) (setList cs (len * es) new))).drop b).next = (h.drop b).next := rfl
                          rw [H.get_push, H.get_push, hnx]
                          by_cases hk : k = (h.drop b).next
                          · rw [if_pos hk, if_pos hk]
                          · rw [if_neg hk, if_neg hk, H.get_drop, H.get_drop, H.get_put]
                            by_cases hk' : k = b
                            · rw [if_pos hk', if_pos hk']
                            · rw [if_neg hk', if_neg hk', if_neg hk']
                        · exact ⟨_, cap0, rfl, hfit, .inr ⟨blk, 0, lim, Mu.push_same _ _ _, rfl, hlim⟩⟩
                      · -- it grows
                        have hcell : ∀ d j, j < c.size → ({ w with drawn := d } : World).cell? ⟨blk, 0 + 0 + j, none⟩ = c[j]? := by
                          intro d j hj
                          have : ({ w with drawn := d } : World).heap[blk]? = some (.cells c e0 fr) := hc
                          simp only [World.cell?, this]; simp
                        have hold : ∀ d, (Builtin.firstCells es len (.slice (some a) len cap0)).run P { w with drawn := d } = .ok (c.extract 0 (len * es)) { w with drawn := d } := by
                          intro d
                          rcases hcc with hcc | ⟨blk', base', lim', hm', rfl, hlim⟩
                          · obtain rfl : len = 0 := by omega
                            simp [Builtin.firstCells, loadCells, loadCellsFrom]
                          · rw [hm] at hm'; injection hm' with hm'; injection hm' with e1 e2; injection e2 with e2 e3; subst e1; subst e2; subst e3
                            have hmul : len * es ≤ cap0 * es := Nat.mul_le_mul_right _ hcap0
                            have := loadCells_run (P := P) (b := blk) (o := 0 + 0) (vs := c.toList.take (len * es)) (w := { w with drawn := d }) (fun j v hj => by
                              have hj' : j < len * es := by
                                have := (List.getElem?_eq_some_iff.1 hj).1
                                simp at this; omega
                              rw [hcell d j (by omega), ← hj, List.getElem?_take_of_lt hj']; simp)
                            have hl : (c.toList.take (len * es)).length = len * es := by simp; omega
                            rw [hl] at this
                            simp only [Builtin.firstCells]
                            rw [this]
                            congr 1
                            apply Array.toList_inj.1
                            simp [Array.toList_extract, List.extract_eq_take_drop]
                        obtain ⟨cap, rest, hcap, hrest, hrun⟩ := append_grows (w := w) (ty := ty) h0 h1 (elemT_spec hel) hsz hby hu hni hc2 hz (base := some a) (sLen := len) (sCap := cap0) hlen (by omega) hroom hold hdr
                        have hlc : len * es ≤ c.size := by omega
                        have hext : (c.extract 0 (len * es)).size = len * es := by simp; omega
                        have hcsz : (c.extract 0 (len * es) ++ cnew ++ rest).size = cap * es := by
                          simp only [Array.size_append, hext, hnl2, hnl, hrest, hzl]
                          rw [← Nat.add_mul, ← Nat.add_mul]
                          congr 1; omega
                        refine ⟨_, _, _, hrun, Mu.le_push (x := (w.heap.size, 0, cap * es)) (r.new _ (Nat.le_refl _)), ?_, ?_⟩
                        · have hd := (r.drew (w.drawn + 1)).drop b
                          refine hd.alloc _ _ (cap * es) fun w' hw => ?_
                          refine ⟨by rw [Nat.zero_add]; exact Nat.mul_le_mul_right _ hcap, fun i y hi hg => ?_, fun _ => ⟨rfl, _, el, (0, 0), hw, hcsz, fun _ => rfl, fun j _ => by simp⟩⟩
                          rw [get_setList] at hg
                          have hle' := Mu.le_push (x := (w.heap.size, 0, cap * es)) (r.new h.next (Nat.le_refl _))
                          have hw2 : w'.heap[w.heap.size]? = some (.cells (c.extract 0 (len * es) ++ cnew ++ rest) el (0, 0)) := hw
                          have hget : w'.cell? ⟨w.heap.size, 0 + i, none⟩ = (c.extract 0 (len * es) ++ cnew ++ rest)[i]? := by
                            simp only [World.cell?, hw2]; simp
                          have hget' : w'.cell? ⟨({ w with drawn := w.drawn + 1 } : World).heap.size, 0 + i, none⟩ = (c.extract 0 (len * es) ++ cnew ++ rest)[i]? := hget
                          rw [hget']
                          by_cases hi' : len * es ≤ i ∧ i < len * es + new.length
                          · rw [if_pos hi'] at hg
                            obtain ⟨v, hv, hr⟩ := hnew.get _ _ hg
                            refine ⟨allScalar_get hsc hg, v, ?_, hr.mono hle' _ _⟩
                            rw [Array.getElem?_append_left (by rw [Array.size_append, hext, hnl2]; omega), Array.getElem?_append_right (by rw [hext]; omega), hext]
                            rw [← hv]; simp
                          · rw [if_neg hi'] at hg
                            rw [hnl, ← Nat.add_mul] at hi'
                            obtain ⟨hsc', v, hv, hr⟩ := ho1 i y (by omega) hg
                            refine ⟨hsc', v, ?_, hr.mono hle' _ _⟩
                            rw [Array.getElem?_append_left (by rw [Array.size_append, hext]; omega), Array.getElem?_append_left (by rw [hext]; omega)]
                            rw [← hv]
                            simp only [World.cell?, hc]
                            simp only [Option.isSome_none, Bool.false_eq_true, if_false, Nat.zero_add]
                            rw [← Array.getElem?_toList, Array.toList_extract, List.extract_eq_take_drop, List.drop_zero, List.getElem?_take_of_lt (by omega), Array.getElem?_toList]
                        · exact ⟨_, cap, rfl, hcap, .inr ⟨_, _, _, Mu.push_same _ _ _, rfl, by omega⟩⟩
                    · cases e
                  · cases e
            · cases e
        · cases e
    · cases e
  · cases e

theorem copyI_gives (r : Rel w₀ S μ h w) {t ty : TypeId} {ats : Array TypeId} (h0 : ats[0]? = some t) {d s v : IV} {h' : H} {cd cs : Value}
    (e : copyI P h t d s = some (v, h')) (hd : VR μ d cd) (hs : VR μ s cs) : Gives P w₀ S μ (Builtin.copy_ ats ty #[cd, cs]) w v h' := by
  unfold copyI at e
  split at e
  · rename_i el b off len es hel
    obtain ⟨a, cap, rfl, hcap, hcc⟩ := hd
    split at e
    · rename_i size hsz
      split at e
      · rename_i new n hsrc
        split at e
        · rename_i fz sz cs' hb
          split at e
          · rename_i hcond
            obtain ⟨rfl, hsc, hnl, hle⟩ := hcond
            have hmin : Nat.min n len = n := Nat.min_eq_left hnl
            simp only [Option.some.injEq, Prod.mk.injEq] at e
            obtain ⟨rfl, rfl⟩ := e
            by_cases hes : es = 0
            · -- nothing can be told of elements without cells
              subst hes
              obtain ⟨blk, base, lim, hm, ho, hown⟩ := r.obj b _ hb
              have hsrc' : new = [] ∧ (Builtin.lenOf cs).run P w = .ok n w ∧ ∃ c : Array Value, c = #[] ∧ (Builtin.firstCells 0 n cs).run P w = .ok c w := by
                unfold sourceI at hsrc
                split at hsrc
                · simp only [Option.some.injEq, Prod.mk.injEq] at hsrc
                  obtain ⟨rfl, rfl⟩ := hsrc
                  simp only [VR] at hs; subst hs
                  exact ⟨rfl, rfl, _, rfl, rfl⟩
                · simp at hsrc
                · rename_i b2 off2 len2 es2
                  obtain ⟨a2, cap2, rfl, hcap2, hcc2⟩ := hs
                  split at hsrc
                  · rename_i hz0
                    simp only [Option.some.injEq, Prod.mk.injEq] at hsrc
                    obtain ⟨rfl, rfl⟩ := hsrc
                    subst hz0
                    exact ⟨rfl, rfl, _, rfl, by simp [Builtin.firstCells, loadCells, loadCellsFrom]⟩
                  · split at hsrc
                    · split at hsrc
                      · rename_i hcz
                        obtain ⟨rfl, _⟩ := hcz
                        simp only [Nat.mul_zero, getList, Option.some.injEq, Prod.mk.injEq] at hsrc
                        obtain ⟨rfl, rfl⟩ := hsrc
                        exact ⟨rfl, rfl, _, rfl, by simp [Builtin.firstCells, loadCells, loadCellsFrom]⟩
                      · cases hsrc
                    · cases hsrc
                · cases hsrc
              obtain ⟨rfl, hlen, c, rfl, hrun⟩ := hsrc'
              refine ⟨goInt n, w, μ, ?_, μ.le_refl, r.congr (fun k => ?_) rfl, rfl⟩
              · simp [Builtin.copy_, h0, run_underlying (elemT_spec hel), hlen, sizeOf_run hsz, hmin, hrun, storeCells]
              · rw [H.get_put]
                by_cases hk : k = b
                · rw [if_pos hk, hk, hb]; rfl
                · rw [if_neg hk]
            · obtain ⟨hlen, hnl2, cnew, hnew, hcn⟩ := sourceI_run (P := P) r hes hsrc hs
              have hnl3 := hnew.length
              rw [Array.length_toList] at hnl3
              have hmul : n * es ≤ len * es := Nat.mul_le_mul_right _ hnl
              rcases hcc with hcc | ⟨blk, base, lim, hm, rfl, hlim⟩
              · obtain rfl : len = 0 := by omega
                obtain rfl : n = 0 := by omega
                have hn0 : new = [] := by simpa using hnl2
                subst hn0
                have hcn0 : cnew = #[] := by simpa using hnl3
                subst hcn0
                refine ⟨goInt 0, w, μ, ?_, μ.le_refl, r.congr (fun k => ?_) rfl, rfl⟩
                · have hmin0 : Nat.min 0 0 = 0 := rfl
                  simp [Builtin.copy_, h0, run_underlying (elemT_spec hel), hlen, sizeOf_run hsz, hmin0, hcn P, storeCells]
                · rw [H.get_put]
                  by_cases hk : k = b
                  · rw [if_pos hk, hk, hb]; rfl
                  · rw [if_neg hk]
              · obtain ⟨hz, hst, hrel⟩ := r.store hb hm hnew hsc (off := off) (by omega)
                subst hz
                refine ⟨goInt n, _, μ, ?_, μ.le_refl, hrel, rfl⟩
                simp [Builtin.copy_, h0, run_underlying (elemT_spec hel), hlen, sizeOf_run hsz, hmin, hcn P, hst P]
          · cases e
        · cases e
      · cases e
    · cases e
  · cases e
theorem minI_run {x y v : IV} {cx cy : Value} {ats : Array TypeId} {ty : TypeId} (e : minI x y = some v) (hx : VR μ x cx) (hy : VR μ y cy) : ∃ cv, (Builtin.min_ ats ty #[cx, cy]).run P w = .ok cv w ∧ VR μ v cv := by
  unfold minI at e
  split at e
  · simp only [VR] at hx hy; subst hx; subst hy
    injection e with e; subst e
    exact ⟨_, run_min_int2 _ _ _ _ _ _ _, rfl⟩
  · cases e
theorem maxI_run {x y v : IV} {cx cy : Value} {ats : Array TypeId} {ty : TypeId} (e : maxI x y = some v) (hx : VR μ x cx) (hy : VR μ y cy) : ∃ cv, (Builtin.max_ ats ty #[cx, cy]).run P w = .ok cv w ∧ VR μ v cv := by
  unfold maxI at e
  split at e
  · simp only [VR] at hx hy; subst hx; subst hy
    injection e with e; subst e
    exact ⟨_, run_max_int2 _ _ _ _ _ _ _, rfl⟩
  · cases e

/-! ### making slices -/
theorem makeSliceI_gives (r : Rel w₀ S μ h w) {t : TypeId} {l c v : IV} {h' : H} {cl cc : Value} (e : makeSliceI P h t l c = some (v, h')) (hl : VR μ l cl) (hc : VR μ c cc) :
    Gives P w₀ S μ (Instr.makeSlice t cl cc) w v h' := by
  unfold makeSliceI at e
  split at e
  · rename_i el k ln k' cn hel
    simp only [VR] at hl hc; subst hl; subst hc
    split at e
    · rename_i size bytes z hsz hby hz
      split at e
      · cases e
      · rename_i hcond
        simp only [not_or] at hcond
        obtain ⟨hc1, hc2, hc3⟩ := hcond
        have hc3 : allScalar z.cells = true := by simpa using hc3
        have hzl : z.cells.length = size := by omega
        split at e
        · rename_i hb
          obtain ⟨hb1, hb2, hb3, hb4⟩ := hb
          simp only [Option.some.injEq, Prod.mk.injEq] at e
          obtain ⟨rfl, rfl⟩ := e
          obtain ⟨zv, hz1, hz2⟩ := zeroValue_run hz
          obtain ⟨i, hi, hib⟩ := typeInfo_bytes hby w
          have hne : z.cells ≠ [] := by intro h0; rw [h0] at hzl; simp at hzl; omega
          have hrel := zeros_rel (hz2 μ).cells hne cn.toNat
          rw [hzl] at hrel
          have hwl : IntKind.i64.wrap ln = ln := by rw [← wr_eq]; unfold wr; rw [if_pos]; simp only [IntKind.min, IntKind.max, IntKind.signed, IntKind.bits]; simp; omega
          have hwc : IntKind.i64.wrap cn = cn := by rw [← wr_eq]; unfold wr; rw [if_pos]; simp only [IntKind.min, IntKind.max, IntKind.signed, IntKind.bits]; simp; omega
          have hnr := new_rel r (c := (Array.range (cn.toNat * size)).map (zv.cells[· % zv.cells.size]!)) (extra := []) el (allScalar_rep hc3 cn.toNat) hrel (by simp)
          rw [repCells_length, hzl] at hnr
          refine ⟨.slice (some ⟨w.heap.size, 0, none⟩) ln.toNat cn.toNat, _, _, ?_, Mu.le_push (r.new _ (Nat.le_refl _)), hnr, ?_⟩
          · simp only [Instr.makeSlice, Sem.run_bind, run_underlying (elemT_spec hel), Result.andThen_ok, asInt, asIntOf, Sem.run_pure, hi, hwl, hwc]
            rw [if_neg (by
              rw [hib]
              simp only [Bool.or_eq_true, decide_eq_true_eq, not_or]
              refine ⟨⟨⟨by omega, ?_⟩, by omega⟩, by omega⟩
              omega)]
            simp only [Sem.run_bind, run_askRoom, Result.andThen_ok, sizeOf_run hsz]
            by_cases h0 : cn.toNat * size = 0
            · simp only [h0, if_true, Sem.run_bind, Sem.run_pure, Result.andThen_ok]
              have hem : ∀ f g : Nat → Value, Array.map f (Array.range 0) = Array.map g (Array.range 0) := fun f g => by simp
              simp only [newRow, Sem.run_bind, run_newObj, Result.andThen_ok, Sem.run_pure, Array.size_map, Array.size_range]
              rw [hem (fun x => (#[] : Array Value)[x % (#[] : Array Value).size]!) (fun x => zv.cells[x % zv.cells.size]!)]
            · simp only [h0, if_false, Sem.run_bind, Sem.run_pure, hz1, Result.andThen_ok]
              simp [newRow]
          · exact ⟨_, _, rfl, by omega, .inr ⟨_, _, _, Mu.push_same _ _ _, rfl, by simp⟩⟩
        · cases e
    · cases e
  · cases e

/-! ### ranging -/
theorem Rel.other (r : Rel w₀ S μ h w) (o : Obj) (g : _root_.Go.Obj) (ho : ∀ w' : World, w'.heap[w.heap.size]? = some g → OR (μ.push h.next (w.heap.size, 0, 0)) o w.heap.size 0 0 w') :
    Rel w₀ S (μ.push h.next (w.heap.size, 0, 0)) (h.push o) { w with heap := w.heap.push g } := r.alloc o g 0 ho
theorem rangeI_gives (r : Rel w₀ S μ h w) {t : TypeId} {x v : IV} {h' : H} {cx : Value} (e : rangeI P h t x = some (v, h')) (hx : VR μ x cx) : Gives P w₀ S μ (Instr.range t cx) w v h' := by
  have hn := r.new h.next (Nat.le_refl _)
  unfold rangeI at e
  split at e
  · rename_i s hu
    obtain ⟨b, rfl, rfl⟩ := hx
    simp only [Option.some.injEq, Prod.mk.injEq] at e
    obtain ⟨rfl, rfl⟩ := e
    refine ⟨.pointer (some ⟨w.heap.size, 0, none⟩), _, _, ?_, Mu.le_push (x := (w.heap.size, 0, 0)) hn, r.other _ (.stringIter b 0) (fun w' hw => ⟨b, hw, rfl, rfl⟩), ⟨_, _, _, Mu.push_same _ _ _, rfl⟩⟩
    simp [Instr.range, run_underlying hu]
  · rename_i k el hu
    simp only [VR] at hx; subst hx
    simp only [Option.some.injEq, Prod.mk.injEq] at e
    obtain ⟨rfl, rfl⟩ := e
    refine ⟨.pointer (some ⟨w.heap.size, 0, none⟩), _, _, ?_, Mu.le_push (x := (w.heap.size, 0, 0)) hn, r.other _ (.mapIter none 0 #[] 0) (fun w' hw => ⟨none, hw, rfl, rfl⟩), ⟨_, _, _, Mu.push_same _ _ _, rfl⟩⟩
    simp [Instr.range, run_underlying hu]
  · rename_i k el m hu
    obtain ⟨blk, base, lim, hm, rfl⟩ := hx
    split at e
    · rename_i es clock hb
      simp only [Option.some.injEq, Prod.mk.injEq] at e
      obtain ⟨rfl, rfl⟩ := e
      obtain ⟨ents, h1, h2⟩ := r.mapAt hb hm
      have hle := Mu.le_push (x := (w.heap.size, 0, 0)) hn
      refine ⟨.pointer (some ⟨w.heap.size, 0, none⟩), _, _, ?_, hle, r.other _ (.mapIter (some blk) clock #[] clock) (fun w' hw => ⟨some blk, hw, rfl, _, hle _ _ hm, rfl⟩), ⟨_, _, _, Mu.push_same _ _ _, rfl⟩⟩
      simp [Instr.range, run_underlying hu, getObj_run (P := P) h1 (by simp)]
    · cases e
  · cases e

end Go.Proofs.YtblgpcijbdbeiaaDoor.I
