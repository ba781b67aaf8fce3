/- The ideal machine: its equality answers as the model's. -/
import Derived.Test.YtblgpcijbdbeiaaDoorI3
namespace Go.Proofs.YtblgpcijbdbeiaaDoor.I
open Go
set_option linter.unusedVariables false
set_option linter.unusedSimpArgs false

variable {P : Program} {w₀ : World} {S : Sc} {μ : Mu} {h : H} {w : World}

/-- a nonempty block that may be written, never a text's -/
theorem Rel.block (r : Rel w₀ S μ h w) {b : Nat} {size : Nat} {cs : T IV} {blk base lim : Nat} (hb : h.get b = some (.cells true false size cs)) (hm : μ b = some (blk, base, lim)) :
    base = 0 ∧ ∃ c e, w.heap[blk]? = some (.cells c e (0, 0)) ∧ size ≤ c.size := by
  obtain ⟨k1, k2, k3, h1, ho, _⟩ := r.obj b _ hb
  rw [hm] at h1; injection h1 with h1; injection h1 with e1 e2; injection e2 with e2 e3; subst e1; subst e2; subst e3
  obtain ⟨ho0, ho1, ho2⟩ := ho
  obtain ⟨hz, c, e, fr, hc, hsz, hfr, hfr2⟩ := ho2 rfl
  rw [hfr rfl] at hc
  exact ⟨hz, c, e, hc, by omega⟩
theorem sameAddr_ne {a b : Addr} {c c' : Array Value} {e e' : TypeId} (ha : w.heap[a.block]? = some (.cells c e (0, 0))) (hb : w.heap[b.block]? = some (.cells c' e' (0, 0)))
    (hne : a.block ≠ b.block) : (sameAddr a b).run P w = .ok false w := by
  have hf : ∀ o s, w.frozen? ⟨a.block, o, s⟩ = false := fun o s => by simp [World.frozen?, ha]
  have hf' : ∀ o s, w.frozen? ⟨b.block, o, s⟩ = false := fun o s => by simp [World.frozen?, hb]
  have hfa : w.frozen? a = false := hf a.off a.spot
  have hfb : w.frozen? b = false := hf' b.off b.spot
  have hs : w.shape? a.block = some (e, c.size) := by simp [World.shape?, ha]
  have hs' : w.shape? b.block = some (e', c'.size) := by simp [World.shape?, hb]
  simp [sameAddr, hne, hfa, hfb, noView, viewAt, hs, hs', mayBeOne, stringish, hf, hf']

theorem beq_bytes (a b : ByteArray) : (a == b) = decide (a = b) := by
  rw [Bool.eq_iff_iff]
  show (a.data == b.data) = true ↔ _
  simp only [beq_iff_eq, decide_eq_true_eq]
  exact ⟨fun e => ByteArray.ext e, fun e => by rw [e]⟩

theorem ieqL_run {P : Program} {q : IV → IV → TypeId → Option Bool} {w : World} (d : Nat) (hq : ∀ a b t r ca cb, q a b t = some r → VR μ a ca → VR μ b cb → (Op.equalIn d t ca cb).run P w = .ok r w)
    {xs ys : List IV} {cx cy : Array Value} (hx : VRs μ xs cx.toList) (hy : VRs μ ys cy.toList) : ∀ (fs : List Field) {r : Bool}, ieqL q P xs ys fs = some r →
      ((do
        let s ← forIn fs (none, ()) fun f _ => do
          if f.name ≠ "_" then do
            let p ← part f.type cx f.offset
            let q ← part f.type cy f.offset
            let u ← Op.equalIn d f.type p q
            if (!u) = true then pure (ForInStep.done (some false, ()))
            else pure (ForInStep.yield (none, ()))
          else pure (ForInStep.yield (none, ()))
        match s.fst with
        | some a => pure a
        | none => pure true : Sem Bool)).run P w = .ok r w
  | [], r, e => by simp only [ieqL, Option.some.injEq] at e; subst e; simp
  | f :: fs, r, e => by
    simp only [ieqL] at e
    by_cases hn : f.name = "_"
    · rw [if_pos hn] at e
      have := ieqL_run d hq hx hy fs e
      simp only [List.forIn_cons]
      simp only [hn, ne_eq, not_true_eq_false, if_false, pure_bind]
      simpa using this
    · rw [if_neg hn] at e
      cases ha : partI P f.type xs f.offset with
      | none => rw [ha] at e; cases e
      | some a =>
        cases hb : partI P f.type ys f.offset with
        | none => rw [ha, hb] at e; cases e
        | some b =>
          rw [ha, hb] at e
          obtain ⟨ca, r1, v1⟩ := partI_run ha hx w
          obtain ⟨cb, r2, v2⟩ := partI_run hb hy w
          cases hqq : q a b f.type with
          | none => simp [hqq] at e
          | some s =>
            have he := hq a b f.type s ca cb hqq v1 v2
            cases s with
            | false =>
              simp [hqq] at e; subst e
              simp [List.forIn_cons, hn, r1, r2, he]
            | true =>
              simp [hqq] at e
              have := ieqL_run d hq hx hy fs e
              simp only [List.forIn_cons]
              simp [hn, r1, r2, he] at this ⊢
              exact this

theorem ieq_run (r : Rel w₀ S μ h w) : ∀ (d : Nat) {t : TypeId} {x y : IV} {b : Bool} {cx cy : Value}, ieq P h d t x y = some b → VR μ x cx → VR μ y cy →
    (Op.equalIn d t cx cy).run P w = .ok b w
  | 0, _, _, _, _, _, _, e, _, _ => by simp [ieq] at e
  | d + 1, t, x, y, b, cx, cy, e, hx, hy => by
    unfold ieq at e
    split at e
    · cases e
    · rename_i u hu
      have start : (Op.equalIn (d + 1) t cx cy).run P w = (Op.equalIn (d + 1) t cx cy).run P w := rfl
      split at e
      -- bool
      · simp only [VR] at hx hy; subst hx; subst hy
        split at e
        · injection e with e; subst e
          simp only [Op.equalIn, Sem.run_bind, run_underlying hu, Result.andThen_ok, Sem.run_pure]
        · cases e
      · simp only [VR] at hx hy; subst hx; subst hy
        split at e
        · split at e
          · rename_i hk
            injection e with e; subst e; subst hk
            simp only [Op.equalIn, Sem.run_bind, run_underlying hu, Result.andThen_ok, Sem.run_pure, if_true]
            rfl
          · cases e
        · cases e
      · obtain ⟨s, rfl, rfl⟩ := hx
        obtain ⟨s', rfl, rfl⟩ := hy
        split at e
        · injection e with e; subst e
          simp only [Op.equalIn, Sem.run_bind, run_underlying hu, Result.andThen_ok, Sem.run_pure, pack_eq]
          rw [beq_bytes]
        · cases e
      -- pointers
      · simp only [VR] at hx hy; subst hx; subst hy
        split at e
        · injection e with e; subst e
          simp only [Op.equalIn, Sem.run_bind, run_underlying hu, Result.andThen_ok, Sem.run_pure, Option.isNone_none]
        · cases e
      · obtain ⟨_, _, _, _, rfl⟩ := hy
        simp only [VR] at hx; subst hx
        split at e
        · injection e with e; subst e
          simp only [Op.equalIn, Sem.run_bind, run_underlying hu, Result.andThen_ok, Sem.run_pure, Option.isNone_some]
        · cases e
      · obtain ⟨_, _, _, _, rfl⟩ := hx
        simp only [VR] at hy; subst hy
        split at e
        · injection e with e; subst e
          simp only [Op.equalIn, Sem.run_bind, run_underlying hu, Result.andThen_ok, Sem.run_pure]
        · cases e
      · rename_i a o c p
        obtain ⟨blk, base, lim, hm, rfl⟩ := hx
        obtain ⟨blk', base', lim', hm', rfl⟩ := hy
        split at e
        · rename_i el
          split at e
          · cases e
          · rename_i n hn hsz
            have hrun : ∀ bb, (sameAddr ⟨blk, base + o, none⟩ ⟨blk', base' + p, none⟩).run P w = .ok bb w →
                (Op.equalIn (d + 1) t (.pointer (some ⟨blk, base + o, none⟩)) (.pointer (some ⟨blk', base' + p, none⟩))).run P w = .ok bb w := by
              intro bb hb
              have hne : n ≠ 0 := fun h0 => hn (by rw [h0])
              simp only [Op.equalIn, Sem.run_bind, run_underlying hu, Result.andThen_ok, sizeOf_run hsz, Sem.run_ite, ne_eq, hne, not_false_eq_true, if_true, hb]
            split at e
            · rename_i hac
              subst hac
              rw [hm] at hm'; injection hm' with hm'; injection hm' with e1 e2; injection e2 with e2 e3; subst e1; subst e2
              split at e
              · rename_i hb
                injection e with e; subst e
                refine hrun _ ?_
                have : (({ block := blk, off := base + o, spot := none } : Addr) == { block := blk, off := base + p, spot := none }) = decide (o = p) := by
                  rw [Bool.eq_iff_iff]; simp
                simp [sameAddr, this]
              · cases e
            · rename_i hac
              split at e
              · rename_i n1 c1 n2 c2 h1 h2
                injection e with e; subst e
                obtain ⟨_, cc, e1, hc1, _⟩ := r.block h1 hm
                obtain ⟨_, cc', e2, hc2, _⟩ := r.block h2 hm'
                exact hrun _ (sameAddr_ne hc1 hc2 (r.sep _ _ _ _ _ _ hac h1 h2 rfl hm hm'))
              · cases e
          · cases e
        · cases e
      -- interfaces
      · simp only [VR] at hx hy; subst hx; subst hy
        split at e
        · injection e with e; subst e
          simp only [Op.equalIn, Sem.run_bind, run_underlying hu, Result.andThen_ok, Sem.run_pure]
        · cases e
      · obtain ⟨_, rfl, _⟩ := hy
        simp only [VR] at hx; subst hx
        split at e
        · injection e with e; subst e
          simp only [Op.equalIn, Sem.run_bind, run_underlying hu, Result.andThen_ok, Sem.run_pure]
        · cases e
      · obtain ⟨_, rfl, _⟩ := hx
        simp only [VR] at hy; subst hy
        split at e
        · injection e with e; subst e
          simp only [Op.equalIn, Sem.run_bind, run_underlying hu, Result.andThen_ok, Sem.run_pure]
        · cases e
      -- slices
      · simp only [VR] at hx hy; subst hx; subst hy
        split at e
        · injection e with e; subst e
          simp only [Op.equalIn, Sem.run_bind, run_underlying hu, Result.andThen_ok, Sem.run_pure, Option.isNone_none]
        · cases e
      · obtain ⟨_, _, rfl, _⟩ := hy
        simp only [VR] at hx; subst hx
        split at e
        · injection e with e; subst e
          simp only [Op.equalIn, Sem.run_bind, run_underlying hu, Result.andThen_ok, Sem.run_pure, Option.isNone_some]
        · cases e
      · obtain ⟨_, _, rfl, _⟩ := hx
        simp only [VR] at hy; subst hy
        split at e
        · injection e with e; subst e
          simp only [Op.equalIn, Sem.run_bind, run_underlying hu, Result.andThen_ok, Sem.run_pure]
        · cases e
      -- maps
      · simp only [VR] at hx hy; subst hx; subst hy
        split at e
        · injection e with e; subst e
          simp only [Op.equalIn, Sem.run_bind, run_underlying hu, Result.andThen_ok, Sem.run_pure, Option.isNone_none]
        · cases e
      · obtain ⟨_, _, _, _, rfl⟩ := hy
        simp only [VR] at hx; subst hx
        split at e
        · injection e with e; subst e
          simp only [Op.equalIn, Sem.run_bind, run_underlying hu, Result.andThen_ok, Sem.run_pure, Option.isNone_some]
        · cases e
      · obtain ⟨_, _, _, _, rfl⟩ := hx
        simp only [VR] at hy; subst hy
        split at e
        · injection e with e; subst e
          simp only [Op.equalIn, Sem.run_bind, run_underlying hu, Result.andThen_ok, Sem.run_pure]
        · cases e
      -- functions
      · simp only [VR] at hx hy; subst hx; subst hy
        split at e
        · injection e with e; subst e
          simp only [Op.equalIn, Sem.run_bind, run_underlying hu, Result.andThen_ok, Sem.run_pure]
        · cases e
      · obtain ⟨_, rfl, _⟩ := hy
        simp only [VR] at hx; subst hx
        split at e
        · injection e with e; subst e
          simp only [Op.equalIn, Sem.run_bind, run_underlying hu, Result.andThen_ok, Sem.run_pure]
        · cases e
      · obtain ⟨_, rfl, _⟩ := hx
        simp only [VR] at hy; subst hy
        split at e
        · injection e with e; subst e
          simp only [Op.equalIn, Sem.run_bind, run_underlying hu, Result.andThen_ok, Sem.run_pure]
        · cases e
      -- structs
      · rename_i xs ys
        obtain ⟨cxs, rfl, hxs⟩ := hx
        obtain ⟨cys, rfl, hys⟩ := hy
        split at e
        · rename_i fields
          split at e
          · cases e
          · rename_i hst
            simp only [Op.equalIn, Sem.run_bind, run_underlying hu, Result.andThen_ok, run_program, hst, Bool.false_eq_true, if_false]
            rw [← Array.forIn_toList]
            have := ieqL_run (P := P) (w := w) d (fun a b t s ca cb hq ha hb => ieq_run r d hq ha hb) hxs hys fields.toList e
            simp only [Sem.run_bind] at this
            refine Eq.trans ?_ this
            congr 1
            funext a w'
            obtain ⟨a, _⟩ := a
            cases a <;> rfl
        · cases e
      · cases e
theorem equal_run (r : Rel w₀ S μ h w) {t : TypeId} {x y : IV} {b : Bool} {cx cy : Value} (e : ieq P h 10000 t x y = some b) (hx : VR μ x cx) (hy : VR μ y cy) :
    (Op.equal t cx cy).run P w = .ok b w := ieq_run r 10000 e hx hy

end Go.Proofs.YtblgpcijbdbeiaaDoor.I
