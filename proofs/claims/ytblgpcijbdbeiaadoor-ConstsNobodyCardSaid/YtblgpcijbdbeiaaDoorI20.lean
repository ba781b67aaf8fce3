/- The ideal machine: the evaluator of regions whose order is drawn is sound. -/
import Derived.Test.YtblgpcijbdbeiaaDoorI19
namespace Go.Proofs.YtblgpcijbdbeiaaDoor.I
open Go
set_option linter.unusedVariables false
set_option linter.unusedSimpArgs false

theorem allBits_spec {m : Nat} : ∀ {l : List Nat}, allBits m l = true → ∀ x ∈ l, bit m x = true
  | [], _, x, hx => by cases hx
  | k :: ks, h, x, hx => by
    simp only [allBits, Bool.and_eq_true] at h
    rcases List.mem_cons.1 hx with rfl | hx
    · exact h.1
    · exact allBits_spec h.2 x hx

theorem staticO_spec {ops : List Oper} {ms : List Nat} : ∀ (os : List Oper) (i : Nat) (sofar : List Nat) (dsts : List Tmp), staticO ops ms os i sofar dsts = true → ∀ (k : Nat) (o : Oper), os[k]? = some o →
    ms.getD (i + k) 0 < 2 ^ (i + k) ∧ (∀ d, o.dst = some d → d ∉ dsts ∧ ∀ (j : Nat) (oj : Oper), j < k → os[j]? = some oj → oj.dst ≠ some d) ∧
    (lightOp o.op = false → allocOp o.op = false → (∀ x ∈ sofar, bit (ms.getD (i + k) 0) x = true) ∧ ∀ (j : Nat) (oj : Oper), j < k → os[j]? = some oj → lightOp oj.op = false → bit (ms.getD (i + k) 0) (i + j) = true) ∧
    (allocOp o.op = true → o.guard = none ∧ ∀ m ∈ ms, bit m (i + k) = true → (∀ x ∈ sofar, bit m x = true) ∧ ∀ (j : Nat) (oj : Oper), j < k → os[j]? = some oj → lightOp oj.op = false → bit m (i + j) = true) := by
  intro os
  induction os with
  | nil => intro i sofar dsts h k o hk; simp at hk
  | cons o₀ os ih =>
    intro i sofar dsts h k o hk
    simp only [staticO, Bool.and_eq_true, Nat.blt_eq] at h
    obtain ⟨⟨hlt, hd⟩, hrest⟩ := h
    cases k with
    | zero =>
      simp only [List.getElem?_cons_zero, Option.some.injEq] at hk; subst hk
      refine ⟨hlt, fun d hdd => ?_, fun hl ha => ?_, fun ha => ?_⟩
      · rw [hdd] at hd
        refine ⟨by simpa using hd, fun j oj hj => by omega⟩
      · rw [hl, ha] at hrest
        simp only [cond_false, Bool.and_eq_true] at hrest
        exact ⟨allBits_spec hrest.1, fun j oj hj => by omega⟩
      · rw [alloc_heavy ha, ha] at hrest
        simp only [cond_false, cond_true, Bool.and_eq_true, Option.isNone_iff_eq_none, List.all_eq_true, Bool.or_eq_true, Bool.not_eq_true'] at hrest
        refine ⟨hrest.1.1, fun m hm hb => ⟨?_, fun j oj hj => by omega⟩⟩
        rcases hrest.1.2 m hm with h | h
        · rw [Nat.add_zero] at hb; rw [hb] at h; cases h
        · exact allBits_spec h
    | succ k =>
      simp only [List.getElem?_cons_succ] at hk
      have e : i + (k + 1) = (i + 1) + k := by omega
      have main : ∃ sofar', staticO ops ms os (i + 1) sofar' (o₀.dst.toList ++ dsts) = true ∧ (∀ x ∈ sofar, x ∈ sofar') ∧ (lightOp o₀.op = false → i ∈ sofar') := by
        cases hl : lightOp o₀.op
        · rw [hl] at hrest
          cases ha : allocOp o₀.op
          · rw [ha] at hrest
            simp only [cond_false, Bool.and_eq_true] at hrest
            exact ⟨_, hrest.2, fun x hx => List.mem_cons_of_mem _ hx, fun _ => List.mem_cons_self ..⟩
          · rw [ha] at hrest
            simp only [cond_false, cond_true, Bool.and_eq_true] at hrest
            exact ⟨_, hrest.2, fun x hx => List.mem_cons_of_mem _ hx, fun _ => List.mem_cons_self ..⟩
        · rw [hl] at hrest
          simp only [cond_true] at hrest
          exact ⟨_, hrest, fun x hx => hx, fun h => by cases h⟩
      obtain ⟨sofar', hst, hsub, hmem⟩ := main
      obtain ⟨h1, h2, h3, h4⟩ := ih (i + 1) sofar' _ hst k o hk
      rw [e]
      refine ⟨h1, fun d hdd => ?_, fun hl ha => ?_, fun ha => ?_⟩
      · obtain ⟨q1, q2⟩ := h2 d hdd
        refine ⟨fun hm => q1 (List.mem_append_right _ hm), fun j oj hj hoj => ?_⟩
        cases j with
        | zero =>
          simp only [List.getElem?_cons_zero, Option.some.injEq] at hoj; subst hoj
          intro hdj
          exact q1 (List.mem_append_left _ (by rw [hdj]; simp))
        | succ j =>
          simp only [List.getElem?_cons_succ] at hoj
          exact q2 j oj (by omega) hoj
      · obtain ⟨q1, q2⟩ := h3 hl ha
        refine ⟨fun x hx => q1 x (hsub x hx), fun j oj hj hoj hlj => ?_⟩
        cases j with
        | zero =>
          simp only [List.getElem?_cons_zero, Option.some.injEq] at hoj; subst hoj
          exact q1 i (hmem hlj)
        | succ j =>
          simp only [List.getElem?_cons_succ] at hoj
          have := q2 j oj (by omega) hoj hlj
          rw [show i + (j + 1) = i + 1 + j by omega]; exact this
      · obtain ⟨q0, q⟩ := h4 ha
        refine ⟨q0, fun m hm hb => ?_⟩
        obtain ⟨q1, q2⟩ := q m hm hb
        refine ⟨fun x hx => q1 x (hsub x hx), fun j oj hj hoj hlj => ?_⟩
        cases j with
        | zero =>
          simp only [List.getElem?_cons_zero, Option.some.injEq] at hoj; subst hoj
          exact q1 i (hmem hlj)
        | succ j =>
          simp only [List.getElem?_cons_succ] at hoj
          have := q2 j oj (by omega) hoj hlj
          rw [show i + (j + 1) = i + 1 + j by omega]; exact this

theorem window_spec {P : Program} {ops : List Oper} {ms : List Nat} {look : Tmp → Option IV} {hs : List H} {i : Nat} {o : Oper} {v : IV} : ∀ (os : List Oper) (i₀ : Nat), window P ops ms look hs i o v (heavies os i₀) = true →
    ∀ k, k ≤ os.length → (∀ ok, os[k]? = some ok → lightOp ok.op = false) → bit (ms.getD i 0) (i₀ + k) = false → (∀ (j : Nat) (oj : Oper), j < k → os[j]? = some oj → lightOp oj.op = false → bit (ms.getD (i₀ + j) 0) i = false) →
    sameAt P ops look o v hs[i₀ + k]? = true := by
  intro os
  induction os with
  | nil =>
    intro i₀ h k hk hh hb _
    simp only [List.length_nil, Nat.le_zero] at hk; subst hk
    simp only [heavies, window, Bool.and_eq_true] at h
    rw [Nat.add_zero] at hb
    rw [hb] at h
    simpa using h.1
  | cons o₀ os ih =>
    intro i₀ h k hk hh hb hj
    simp only [heavies] at h
    cases hl : lightOp o₀.op
    · rw [hl] at h
      simp only [cond_false, window, Bool.and_eq_true] at h
      cases k with
      | zero =>
        rw [Nat.add_zero] at hb
        rw [hb] at h
        simpa using h.1
      | succ k =>
        have h0 := hj 0 o₀ (by omega) rfl hl
        rw [Nat.add_zero] at h0
        rw [h0] at h
        simp only [cond_false] at h
        have := ih (i₀ + 1) h.2 k (by simp at hk; omega) (fun ok hok => hh ok (by simpa using hok)) (by rw [show i₀ + 1 + k = i₀ + (k + 1) by omega]; exact hb)
          (fun j oj hjk hoj hlj => by
            have := hj (j + 1) oj (by omega) (by simpa using hoj) hlj
            rw [show i₀ + 1 + j = i₀ + (j + 1) by omega]; exact this)
        rw [show i₀ + (k + 1) = i₀ + 1 + k by omega]; exact this
    · rw [hl] at h
      simp only [cond_true] at h
      cases k with
      | zero =>
        have := hh o₀ rfl
        rw [hl] at this; cases this
      | succ k =>
        have := ih (i₀ + 1) h k (by simp at hk; omega) (fun ok hok => hh ok (by simpa using hok)) (by rw [show i₀ + 1 + k = i₀ + (k + 1) by omega]; exact hb)
          (fun j oj hjk hoj hlj => by
            have := hj (j + 1) oj (by omega) (by simpa using hoj) hlj
            rw [show i₀ + 1 + j = i₀ + (j + 1) by omega]; exact this)
        rw [show i₀ + (k + 1) = i₀ + 1 + k by omega]; exact this

theorem take_app {α : Type} (l r : List α) : (l ++ r).take l.length = l := by simp
theorem pass1_spec {P : Program} {cf : CallF} {ops : List Oper} {ms : List Nat} {F : Fr} : ∀ (os : List Oper) (i : Nat) (vs : List IV) (h : H) (hs : List H) (vs' : List IV) (hs' : List H),
    pass1 P cf ops ms F os i vs h hs = some (vs', hs') → vs.length = i → hs.length = i →
    vs'.length = i + os.length ∧ hs'.length = i + os.length + 1 ∧ (∃ r, vs' = vs ++ r) ∧ (∃ r, hs' = hs ++ h :: r) ∧
    ∀ (k : Nat) (o : Oper), os[k]? = some o → ∃ u gk gk', vs'[i + k]? = some u ∧ hs'[i + k]? = some gk ∧ hs'[i + k + 1]? = some gk' ∧
      (lightOp o.op = true → evL P ops (lookT ops ms F (i + k) (vs'.take (i + k))) o gk = some u ∧ gk' = gk) ∧
      (lightOp o.op = false → evH P cf ops (lookT ops ms F (i + k) (vs'.take (i + k))) o gk = some (u, gk')) := by
  intro os
  induction os with
  | nil =>
    intro i vs h hs vs' hs' e hv hh
    simp only [pass1, Option.some.injEq, Prod.mk.injEq] at e
    obtain ⟨rfl, rfl⟩ := e
    exact ⟨by simp [hv], by simp [hh], ⟨[], by simp⟩, ⟨[], rfl⟩, fun k o hk => by simp at hk⟩
  | cons o₀ os ih =>
    intro i vs h hs vs' hs' e hv hh
    have key : ∀ u g', pass1 P cf ops ms F os (i + 1) (vs ++ [u]) g' (hs ++ [h]) = some (vs', hs') →
        ((lightOp o₀.op = true → evL P ops (lookT ops ms F i vs) o₀ h = some u ∧ g' = h) ∧ (lightOp o₀.op = false → evH P cf ops (lookT ops ms F i vs) o₀ h = some (u, g'))) →
        vs'.length = i + (o₀ :: os).length ∧ hs'.length = i + (o₀ :: os).length + 1 ∧ (∃ r, vs' = vs ++ r) ∧ (∃ r, hs' = hs ++ h :: r) ∧
        ∀ (k : Nat) (o : Oper), (o₀ :: os)[k]? = some o → ∃ u gk gk', vs'[i + k]? = some u ∧ hs'[i + k]? = some gk ∧ hs'[i + k + 1]? = some gk' ∧
          (lightOp o.op = true → evL P ops (lookT ops ms F (i + k) (vs'.take (i + k))) o gk = some u ∧ gk' = gk) ∧
          (lightOp o.op = false → evH P cf ops (lookT ops ms F (i + k) (vs'.take (i + k))) o gk = some (u, gk')) := by
      intro u g' e hu
      obtain ⟨h1, h2, ⟨r1, h3⟩, ⟨r2, h4⟩, h5⟩ := ih (i + 1) (vs ++ [u]) g' (hs ++ [h]) vs' hs' e (by simp [hv]) (by simp [hh])
      refine ⟨by simp; omega, by simp; omega, ⟨u :: r1, by simp [h3]⟩, ⟨g' :: r2, by simp [h4]⟩, fun k o hk => ?_⟩
      cases k with
      | zero =>
        simp only [List.getElem?_cons_zero, Option.some.injEq] at hk; subst hk
        refine ⟨u, h, g', ?_, ?_, ?_, ?_⟩
        · rw [h3]; subst hv; simp
        · rw [h4]; subst hh; simp
        · rw [h4]; subst hh; simp [List.getElem?_append_right]
        · have : vs'.take (i + 0) = vs := by
            rw [h3, Nat.add_zero, ← hv, List.append_assoc]; exact take_app _ _
          rw [this]; exact hu
      | succ k =>
        simp only [List.getElem?_cons_succ] at hk
        have := h5 k o hk
        rw [show i + (k + 1) = i + 1 + k by omega]; exact this
    simp only [pass1] at e
    cases hl : lightOp o₀.op
    · rw [hl] at e
      simp only [cond_false] at e
      split at e
      · rename_i u g' he
        exact key u g' e ⟨fun h => (by rw [hl] at h; cases h), fun _ => he⟩
      · cases e
    · rw [hl] at e
      simp only [cond_true] at e
      split at e
      · rename_i u he
        exact key u h e ⟨fun _ => ⟨he, rfl⟩, fun h => (by rw [hl] at h; cases h)⟩
      · cases e

theorem pass2_spec {P : Program} {ops : List Oper} {ms : List Nat} {F : Fr} {vs : List IV} {hs : List H} {hv : List Nat} : ∀ (os : List Oper) (i : Nat), pass2 P ops ms F vs hs hv os i = true →
    ∀ (k : Nat) (o : Oper), os[k]? = some o → lightOp o.op = true → pureOp o.op = false → ∃ v, vs[i + k]? = some v ∧ window P ops ms (lookT ops ms F (i + k) vs) hs (i + k) o v hv = true := by
  intro os
  induction os with
  | nil => intro i h k o hk; simp at hk
  | cons o₀ os ih =>
    intro i h k o hk hl hp
    simp only [pass2, Bool.and_eq_true] at h
    cases k with
    | zero =>
      simp only [List.getElem?_cons_zero, Option.some.injEq] at hk; subst hk
      have h1 := h.1
      simp only [hl, hp, Bool.not_true, Bool.or_self, cond_false] at h1
      split at h1
      · rename_i v hv; exact ⟨v, hv, h1⟩
      · cases h1
    | succ k =>
      have := ih (i + 1) h.2 k o (by simpa using hk) hl hp
      rw [show i + (k + 1) = i + 1 + k by omega]; exact this

theorem writerOf_none {t : Tmp} : ∀ (os : List Oper) (i : Nat), writerOf t os i = none → ∀ (j : Nat) (o : Oper), os[j]? = some o → o.dst ≠ some t := by
  intro os
  induction os with
  | nil => intro i h j o hj; simp at hj
  | cons o₀ os ih =>
    intro i h j o hj
    simp only [writerOf] at h
    cases hd : o₀.dst with
    | none =>
      rw [hd] at h
      cases j with
      | zero => simp only [List.getElem?_cons_zero, Option.some.injEq] at hj; subst hj; rw [hd]; simp
      | succ j => exact ih (i + 1) h j o (by simpa using hj)
    | some d =>
      rw [hd] at h
      simp only [T.nbeq] at h
      by_cases e : d = t
      · simp [e] at h
      · simp only [e, decide_false, cond_false] at h
        cases j with
        | zero => simp only [List.getElem?_cons_zero, Option.some.injEq] at hj; subst hj; rw [hd]; simpa using e
        | succ j => exact ih (i + 1) h j o (by simpa using hj)
theorem writerOf_some {t : Tmp} : ∀ (os : List Oper) (i j : Nat), writerOf t os i = some j → ∃ k o, j = i + k ∧ os[k]? = some o ∧ o.dst = some t := by
  intro os
  induction os with
  | nil => intro i j h; simp [writerOf] at h
  | cons o₀ os ih =>
    intro i j h
    simp only [writerOf] at h
    have rest : writerOf t os (i + 1) = some j → ∃ k o, j = i + k ∧ (o₀ :: os)[k]? = some o ∧ o.dst = some t := fun h => by
      obtain ⟨k, o, h1, h2, h3⟩ := ih (i + 1) j h
      exact ⟨k + 1, o, by omega, by simpa using h2, h3⟩
    cases hd : o₀.dst with
    | none => rw [hd] at h; exact rest h
    | some d =>
      rw [hd] at h
      simp only [T.nbeq] at h
      by_cases e : d = t
      · simp only [e, decide_true, cond_true, Option.some.injEq] at h
        exact ⟨0, o₀, by omega, rfl, by rw [hd, e]⟩
      · simp only [e, decide_false, cond_false] at h
        exact rest h

theorem putAll_spec : ∀ (os : List Oper) (vs : List IV) (F F' : Fr), putAll F os vs = some F' → vs.length = os.length →
    F'.nt = F.nt ∧ F'.defers = F.defers ∧ (∀ (k : Nat) (o : Oper) t, os[k]? = some o → o.dst = some t → t < F.nt) ∧
    ∀ t x, F'.tmps.get t = some x → (∃ (j : Nat) (o : Oper), os[j]? = some o ∧ o.dst = some t ∧ vs[j]? = some x) ∨ ((∀ (j : Nat) (o : Oper), os[j]? = some o → o.dst ≠ some t) ∧ F.tmps.get t = some x) := by
  intro os
  induction os with
  | nil =>
    intro vs F F' e hl
    cases vs with
    | nil =>
      simp only [putAll, Option.some.injEq] at e; subst e
      exact ⟨rfl, rfl, fun k o t hk => by simp at hk, fun t x hx => .inr ⟨fun j o hj => by simp at hj, hx⟩⟩
    | cons v vs => simp at hl
  | cons o₀ os ih =>
    intro vs F F' e hl
    cases vs with
    | nil => simp at hl
    | cons u vs =>
      simp only [putAll] at e
      split at e
      · rename_i F₁ hF
        obtain ⟨h1, h2, h3, h4⟩ := ih vs F₁ F' e (by simpa using hl)
        have hF1 : F₁.nt = F.nt ∧ F₁.defers = F.defers ∧ (∀ t, o₀.dst = some t → t < F.nt) ∧ ∀ t x, F₁.tmps.get t = some x → (o₀.dst = some t ∧ x = u) ∨ (o₀.dst ≠ some t ∧ F.tmps.get t = some x) := by
          cases hd : o₀.dst with
          | none =>
            rw [hd] at hF
            simp only [Fr.put, Option.some.injEq] at hF; subst hF
            exact ⟨rfl, rfl, fun t h => (by cases h), fun t x hx => .inr ⟨by simp, hx⟩⟩
          | some d =>
            rw [hd] at hF
            simp only [Fr.put] at hF
            split at hF
            · rename_i hlt
              injection hF with hF; subst hF
              refine ⟨rfl, rfl, fun t h => by injection h with h; subst h; exact hlt, fun t x hx => ?_⟩
              simp only [T.get_set] at hx
              by_cases e : t = d
              · rw [if_pos e] at hx; injection hx with hx; exact .inl ⟨by rw [e], hx.symm⟩
              · rw [if_neg e] at hx; exact .inr ⟨by simpa using Ne.symm e, hx⟩
            · cases hF
        obtain ⟨g1, g2, g3, g4⟩ := hF1
        refine ⟨by rw [h1, g1], by rw [h2, g2], fun k o t hk hd => ?_, fun t x hx => ?_⟩
        · cases k with
          | zero => simp only [List.getElem?_cons_zero, Option.some.injEq] at hk; subst hk; exact g3 t hd
          | succ k => rw [← g1]; exact h3 k o t (by simpa using hk) hd
        · rcases h4 t x hx with ⟨j, o, hj, hd, hv⟩ | ⟨hno, hx⟩
          · exact .inl ⟨j + 1, o, by simpa using hj, hd, by simpa using hv⟩
          · rcases g4 t x hx with ⟨hd, rfl⟩ | ⟨hd, hx⟩
            · exact .inl ⟨0, o₀, rfl, hd, rfl⟩
            · refine .inr ⟨fun j o hj => ?_, hx⟩
              cases j with
              | zero => simp only [List.getElem?_cons_zero, Option.some.injEq] at hj; subst hj; exact hd
              | succ j => exact hno j o (by simpa using hj)
      · cases e

theorem drI_sound {P : Program} {cf : CallF} (hmix : P.follows .mixedOrders = true) (hcf : ∀ w₀ S, CallS P w₀ S cf) (w₀ : World) (S : Sc) : DrS P w₀ S (drI P cf) := by
  intro id ops F h out e hne μ₀ μ a w hle r f
  unfold drI at e
  simp only at e
  cases hst : staticO ops.toList (masks ops.toList []) ops.toList 0 [] [] with
  | false => rw [hst] at e; exact absurd e.symm hne
  | true =>
    rw [hst] at e
    simp only [cond_true] at e
    split at e
    rotate_left
    · exact absurd e.symm hne
    rename_i vs hs h1
    cases h2 : pass2 P ops.toList (masks ops.toList []) F vs hs (heavies ops.toList 0) ops.toList 0 with
    | false => rw [h2] at e; exact absurd e.symm hne
    | true =>
      rw [h2] at e
      simp only [cond_true] at e
      split at e
      rotate_left
      · exact absurd e.symm hne
      rename_i F' h' hF' hend
      subst e
      have s1 := staticO_spec ops.toList 0 [] [] hst
      obtain ⟨hvl, hhl, _, ⟨r2, hh0⟩, hsp⟩ := pass1_spec ops.toList 0 [] h [] vs hs h1 rfl rfl
      have s2 := pass2_spec ops.toList 0 h2
      obtain ⟨p1, p2, p3, p4⟩ := putAll_spec ops.toList vs F F' hF' (by simpa using hvl)
      simp only [Nat.zero_add, Array.getElem?_toList] at s1 hsp s2 p3 p4
      have hms : ∀ i o, ops[i]? = some o → (masks ops.toList []).getD i 0 < 2 ^ i := fun i o ho => (s1 i o ho).1
      have hback : ∀ i j, i < ops.size → bit ((masks ops.toList []).getD i 0) j = true → j < i := fun i j hi hb => lt_of_bit (hms i _ (Array.getElem?_eq_getElem hi)) hb
      -- the values so far are those of the whole
      have hlook : ∀ i, i < ops.size → lookT ops.toList (masks ops.toList []) F i (vs.take i) = lookT ops.toList (masks ops.toList []) F i vs := by
        intro i hi
        funext t
        unfold lookT
        split
        · rfl
        · rename_i j hj
          cases hb : bit ((masks ops.toList []).getD i 0) j with
          | false => rfl
          | true =>
            simp only [cond_true]
            rw [List.getElem?_take, if_pos (hback i j hi hb)]
      have hg0 : hs[0]? = some h := by rw [hh0]; rfl
      have plan : Plan P cf ops F (fun i => (vs[i]?).getD .nilPtr) (fun i => (hs[i]?).getD ⟨0, .leaf⟩) (fun i j => bit ((masks ops.toList []).getD i 0) j = true) (fun i => lookT ops.toList (masks ops.toList []) F i vs) := by
        refine { before := ?_, back := hback, one := ?_, fits := p3, look_eq := ?_, light := ?_, heavy := ?_, chain := ?_, alloc := ?_ }
        · intro i o ho j
          exact mask_bit ops.toList (by simpa using ho) (hms i o ho) j
        · intro i j oi oj t hi hj hdi hdj
          rcases Nat.lt_trichotomy i j with hlt | hlt | hlt
          · exact absurd hdi (((s1 j oj hj).2.1 t hdj).2 i oi hlt hi)
          · exact hlt
          · exact absurd hdj (((s1 i oi hi).2.1 t hdi).2 j oj hlt hj)
        · intro i t x hi hx
          unfold lookT at hx
          split at hx
          · rename_i hw
            exact .inl ⟨fun j o hj => writerOf_none ops.toList 0 hw j o (by simpa using hj), hx⟩
          · rename_i j hw
            obtain ⟨k, o, hk1, hk2, hk3⟩ := writerOf_some ops.toList 0 j hw
            have hjk : j = k := by omega
            subst hjk
            refine .inr ⟨j, o, by simpa using hk2, hk3, ?_⟩
            cases hb : bit ((masks ops.toList []).getD i 0) j with
            | true =>
              rw [hb] at hx
              simp only [cond_true] at hx
              exact .inl ⟨rfl, by simp [hx]⟩
            | false =>
              rw [hb] at hx
              simp only [cond_false] at hx
              cases hb2 : (bit ((masks ops.toList []).getD j 0) i || Nat.beq j i) with
              | false => rw [hb2] at hx; cases hx
              | true =>
                rw [hb2] at hx
                simp only [Bool.or_eq_true, Nat.beq_eq] at hb2
                exact .inr ⟨hb2, hx⟩
        · intro i o ho hl
          obtain ⟨u, gk, gk', q1, q2, q3, q4, _⟩ := hsp i o ho
          obtain ⟨q5, q6⟩ := q4 hl
          subst q6
          have hi := (Array.getElem?_eq_some_iff.1 ho).1
          rw [hlook i hi] at q5
          refine ⟨by simp only [q2, q3], fun k hk hkh hnb hno => ?_⟩
          simp only [q1, Option.getD_some]
          cases hp : pureOp o.op with
          | true =>
            unfold evL at q5 ⊢
            split at q5
            · rename_i hw
              split at q5
              · rename_i u' h'' hu
                rw [pure_any hp hu]; exact q5
              · cases q5
            · exact q5
            · cases q5
          | false =>
            obtain ⟨v', hv', hwin⟩ := s2 i o ho hl hp
            rw [q1] at hv'; injection hv' with hv'; subst hv'
            have hsame := window_spec ops.toList 0 hwin k (by simpa using hk) (fun ok hok => hkh ok (by simpa using hok)) (by rw [Nat.zero_add]; simpa using hnb)
              (fun j oj hj hoj hlj => by rw [Nat.zero_add]; simpa using hno j oj hj (by simpa using hoj) hlj)
            rw [Nat.zero_add] at hsame
            unfold sameAt at hsame
            split at hsame
            · cases hsame
            · rename_i g hg
              rw [hg]
              simp only [Option.getD_some]
              split at hsame
              · rename_i u' hu
                rw [hu, IV.beq_eq hsame]
              · cases hsame
        · intro i o ho hl
          obtain ⟨u, gk, gk', q1, q2, q3, _, q4⟩ := hsp i o ho
          have hi := (Array.getElem?_eq_some_iff.1 ho).1
          have q5 := q4 hl
          rw [hlook i hi] at q5
          simp only [q1, q2, q3, Option.getD_some]
          exact q5
        · intro i j oi oj hij hi hj hli hlj haj
          exact ((s1 j oj hj).2.2.1 hlj haj).2 i oi hij hi hli
        · intro i o ho ha
          obtain ⟨q1, q2⟩ := (s1 i o ho).2.2.2 ha
          refine ⟨q1, fun x hx hb k ok hk hok hlk => ?_⟩
          have hml : (masks ops.toList []).length = ops.size := by rw [masks_len]; simp
          have hmem : (masks ops.toList []).getD x 0 ∈ masks ops.toList [] := by
            have : x < (masks ops.toList []).length := by omega
            simp only [List.getD_eq_getElem?_getD, List.getElem?_eq_getElem this, Option.getD_some]
            exact List.getElem_mem this
          exact (q2 _ hmem hb).2 k ok hk hok hlk
      have hendn : (hs[ops.size]?).getD ⟨0, .leaf⟩ = h' := by
        have : ops.toList.length = ops.size := by simp
        rw [this] at hend; rw [hend]; rfl
      have main := any_order (w₀ := w₀) (S := S) (μ₀ := μ₀) hcf plan (F' := F') ⟨p1, p2, fun t x hx => by
        rcases p4 t x hx with ⟨j, o, hj, hd, hv⟩ | hh
        · exact .inl ⟨j, o, hj, hd, by simp [hv]⟩
        · exact .inr hh⟩ ops.size (Array.replicate ops.size false) a { w with drawn := w.drawn + 1 } ?_ ?_
      · rw [hendn] at main
        exact wp_region_any hmix main
      · unfold left
        have := List.countP_le_length (p := fun b => !b) (l := (Array.replicate ops.size false).toList)
        simpa using this
      · have hnup : ∀ i, ¬ Up (Array.replicate ops.size false) i := fun i hu => by
          unfold Up at hu
          by_cases hi : i < ops.size
          · simp [hi] at hu
          · simp [hi] at hu
        refine ⟨0, w₀, S, μ, fun _ => 0, ?_⟩
        exact { size := by simp, down := fun i hu => absurd hu (hnup i), le := Nat.zero_le _, done := fun i o hi => by omega
                ahead := fun i o _ _ _ _ => hnup i
                wk := Wk.refl _ _
                rel := by simp only [hg0, Option.getD_some]; exact r.drew _
                mu := hle, tsz := f.size
                put := fun i o t _ hu => absurd hu (hnup i)
                old := fun t x hx _ => f.tmp t x hx
                dfr := f.dfr
                pend := fun i o _ hu => absurd hu (hnup i)
                inj := fun i j _ _ _ _ hu => absurd hu (hnup i) }

end Go.Proofs.YtblgpcijbdbeiaaDoor.I
