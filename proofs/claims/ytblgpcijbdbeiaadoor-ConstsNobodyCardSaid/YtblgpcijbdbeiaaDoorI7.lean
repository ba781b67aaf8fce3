/- The ideal machine: slices, places, texts and bytes: its operations give what the model's give. -/
import Derived.Test.YtblgpcijbdbeiaaDoorI6
import Derived.Laws.BytesString
namespace Go.Proofs.YtblgpcijbdbeiaaDoor.I
open Go
set_option linter.unusedVariables false
set_option linter.unusedSimpArgs false

variable {P : Program} {w₀ : World} {S : Sc} {μ : Mu} {h : H} {w : World}

/-! ### places -/
theorem fieldAddrI_run {s : TypeId} {x v : IV} {f : Nat} {cx : Value} (e : fieldAddrI P s x f = some v) (hx : VR μ x cx) : ∃ cv, (Instr.fieldAt s cx f).run P w = .ok cv w ∧ VR μ v cv := by
  cases x with
  | ptr b off =>
    obtain ⟨blk, base, lim, hm, rfl⟩ := hx
    simp only [fieldAddrI] at e
    split at e
    · rename_i o t hf
      split at e
      · rename_i n hn
        injection e with e; subst e
        obtain ⟨fields, fd, hu, hfd, rfl, rfl⟩ := fieldT_spec hf
        refine ⟨.pointer (some ⟨blk, base + (off + fd.offset), none⟩), ?_, ⟨_, _, _, hm, rfl⟩⟩
        simp only [Instr.fieldAt, Sem.run_bind, run_underlying hu, Result.andThen_ok, hfd, Instr.sureAddr, Sem.run_pure, fieldPlace, sizeOf_run hn, Sem.run_ite, addr_add, Nat.add_assoc]
        rw [if_neg (Nat.succ_ne_zero n)]; rfl
      · cases e
    · cases e
  | _ => simp [fieldAddrI] at e
theorem fieldI_run {s : TypeId} {x v : IV} {f : Nat} {cx : Value} (e : fieldI P s x f = some v) (hx : VR μ x cx) : ∃ cv, (Instr.field s cx f).run P w = .ok cv w ∧ VR μ v cv := by
  cases x with
  | agg cs =>
    obtain ⟨ccs, rfl, hc⟩ := hx
    simp only [fieldI] at e
    split at e
    · rename_i o t hf
      obtain ⟨fields, fd, hu, hfd, rfl, rfl⟩ := fieldT_spec hf
      obtain ⟨cv, h1, h2⟩ := partI_run e hc w
      exact ⟨cv, by simp [Instr.field, run_underlying hu, hfd, asAgg, h1], h2⟩
    · cases e
  | _ => simp [fieldI] at e
theorem indexAddrI_run {t : TypeId} {x i v : IV} {cx ci : Value} (e : indexAddrI P t x i = some v) (hx : VR μ x cx) (hi : VR μ i ci) : ∃ cv, (Instr.indexAt t cx ci).run P w = .ok cv w ∧ VR μ v cv := by
  unfold indexAddrI at e
  split at e
  · rename_i b off len es k n
    simp only [VR] at hi; subst hi
    obtain ⟨a, cap, rfl, hcap, hc⟩ := hx
    split at e
    · rename_i el hu
      split at e
      · rename_i sz hsz
        split at e
        · rename_i hcond
          obtain ⟨rfl, h0, h1⟩ := hcond
          injection e with e; subst e
          rcases hc with hc | ⟨blk, base, lim, hm, rfl, hlim⟩
          · omega
          refine ⟨.pointer (some ⟨blk, base + (off + n.toNat * sz), none⟩), ?_, ⟨_, _, _, hm, rfl⟩⟩
          simp only [Instr.indexAt, Sem.run_bind, asIntOf, Sem.run_pure, Result.andThen_ok, run_underlying hu, Sem.run_ite, sizeOf_run hsz, addr_add, Nat.add_assoc]
          rw [if_pos ⟨h0, h1⟩]
        · cases e
      · cases e
    · cases e
  · rename_i b off k n
    simp only [VR] at hi; subst hi
    obtain ⟨blk, base, lim, hm, rfl⟩ := hx
    split at e
    · rename_i len el hu
      split at e
      · rename_i sz hsz
        split at e
        · rename_i hcond
          injection e with e; subst e
          refine ⟨.pointer (some ⟨blk, base + (off + n.toNat * sz), none⟩), ?_, ⟨_, _, _, hm, rfl⟩⟩
          simp only [Instr.indexAt, Sem.run_bind, asIntOf, Sem.run_pure, Result.andThen_ok, run_underlying hu, Instr.sureAddr, Sem.run_ite, sizeOf_run hsz, addr_add, Nat.add_assoc]
          rw [if_pos hcond]
        · cases e
      · cases e
    · cases e
  · cases e
theorem indexI_run {t : TypeId} {x i v : IV} {cx ci : Value} (e : indexI P t x i = some v) (hx : VR μ x cx) (hi : VR μ i ci) : ∃ cv, (Instr.index t cx ci).run P w = .ok cv w ∧ VR μ v cv := by
  unfold indexI at e
  split at e
  · rename_i s k n
    simp only [VR] at hi; subst hi
    obtain ⟨b, rfl, rfl⟩ := hx
    split at e
    · rename_i hu
      split at e
      · rename_i hcond
        injection e with e; subst e
        rw [pack_len] at hcond
        have hlt : n.toNat < b.size := by omega
        refine ⟨.int .u8 (b[n.toNat].toNat), ?_, by rw [pack_at b _ hlt]; rfl⟩
        have hget : b[n.toNat]? = some b[n.toNat] := by simp [hlt]
        simp only [Instr.index, Sem.run_bind, asIntOf, Sem.run_pure, Result.andThen_ok, run_underlying hu]
        rw [if_pos hcond.1, hget]; rfl
      · cases e
    · cases e
  · rename_i cs k n
    simp only [VR] at hi; subst hi
    obtain ⟨ccs, rfl, hc⟩ := hx
    split at e
    · rename_i len el hu
      split at e
      · rename_i sz hsz
        split at e
        · rename_i hcond
          obtain ⟨cv, h1, h2⟩ := partI_run e hc w
          refine ⟨cv, ?_, h2⟩
          simp only [Instr.index, Sem.run_bind, asIntOf, Sem.run_pure, Result.andThen_ok, run_underlying hu, Sem.run_ite]
          rw [if_pos hcond]
          simp [sizeOf_run hsz, h1]
        · cases e
      · cases e
    · cases e
  · cases e

/-! ### slicing -/
def OptR (μ : Mu) : Option IV → Option Value → Prop
  | none, c => c = none
  | some x, c => ∃ v, c = some v ∧ VR μ x v
theorem boundI_run {x : Option IV} {cx : Option Value} {most dflt n : Nat} (e : boundI x most dflt = some n) (hx : OptR μ x cx) :
    match cx with
    | none => x = none ∧ n = dflt
    | some v => x.isSome = true ∧ n ≤ most ∧ ∀ code, ∀ most', most ≤ most' → (Instr.sliceBound v most' code).run P w = .ok n w := by
  unfold boundI at e
  split at e
  · simp only [OptR] at hx; subst hx
    injection e with e; exact ⟨rfl, e.symm⟩
  · rename_i k i
    obtain ⟨v, rfl, hv⟩ := hx
    simp only [VR] at hv; subst hv
    split at e
    · rename_i hc
      injection e with e; subst e
      refine ⟨rfl, by omega, fun code most' hm => ?_⟩
      simp only [Instr.sliceBound, Sem.run_bind, asIntOf, Sem.run_pure, Result.andThen_ok, Sem.run_ite]
      rw [if_pos ⟨hc.1, by omega⟩]
    · cases e
  · cases e
theorem sliceI_run {t : TypeId} {x v : IV} {lo hi mx : Option IV} {cx : Value} {clo chi cmx : Option Value} (e : sliceI P t x lo hi mx = some v) (hx : VR μ x cx)
    (hlo : OptR μ lo clo) (hhi : OptR μ hi chi) (hmx : OptR μ mx cmx) : ∃ cv, (Instr.sliceAt t cx clo chi cmx).run P w = .ok cv w ∧ VR μ v cv := by
  unfold sliceI at e
  split at e
  · rename_i s
    obtain ⟨b, rfl, rfl⟩ := hx
    split at e
    · rename_i hu
      simp only [OptR] at hmx; subst hmx
      split at e
      · rename_i hn hh
        split at e
        · rename_i ln hl
          injection e with e; subst e
          have b1 := boundI_run (P := P) (w := w) hh hhi
          have b2 := boundI_run (P := P) (w := w) hl hlo
          rw [pack_len] at b1
          have hle : hn ≤ b.size ∧ ln ≤ hn ∧ (Instr.sliceBounds false b.size b.size clo chi none).run P w = .ok (ln, hn, b.size) w := by
            cases chi with
            | none =>
              obtain ⟨_, rfl⟩ := b1
              cases clo with
              | none => obtain ⟨_, rfl⟩ := b2; exact ⟨Nat.le_refl _, Nat.zero_le _, by simp [Instr.sliceBounds]⟩
              | some u => obtain ⟨_, b3, b4⟩ := b2; exact ⟨Nat.le_refl _, b3, by simp [Instr.sliceBounds, b4 _ _ (Nat.le_refl _)]⟩
            | some z =>
              obtain ⟨_, b5, b6⟩ := b1
              cases clo with
              | none => obtain ⟨_, rfl⟩ := b2; exact ⟨b5, Nat.zero_le _, by simp [Instr.sliceBounds, b6 _ _ (Nat.le_refl _)]⟩
              | some u => obtain ⟨_, b3, b4⟩ := b2; exact ⟨b5, b3, by simp [Instr.sliceBounds, b6 _ _ (Nat.le_refl _), b4 _ _ (Nat.le_refl _)]⟩
          obtain ⟨hle1, hle2, hrun⟩ := hle
          refine ⟨.string (b.extract ln hn), ?_, ⟨_, rfl, (pack_ext b ln hn hle2 hle1).symm⟩⟩
          simp only [Instr.sliceAt, Instr.slice, Sem.run_bind, run_underlying hu, Result.andThen_ok, Option.isSome_none, Bool.false_eq_true, if_false, hrun, Sem.run_pure]
        · cases e
      · cases e
    · cases e
  · rename_i b off len es
    obtain ⟨a, cap, rfl, hcap, hc⟩ := hx
    split at e
    · rename_i el hu
      split at e
      · rename_i sz hsz
        split at e
        · rename_i hes
          subst hes
          split at e
          · rename_i m hm
            split at e
            · rename_i hn hh
              split at e
              · rename_i ln hl
                split at e
                · cases e
                · rename_i hnn
                  injection e with e; subst e
                  have b0 := boundI_run (P := P) (w := w) hm hmx
                  have b1 := boundI_run (P := P) (w := w) hh hhi
                  have b2 := boundI_run (P := P) (w := w) hl hlo
                  have fin : ∃ cm, hn ≤ cm ∧ ln ≤ hn ∧ cm ≤ cap ∧ (Instr.sliceBounds true len cap clo chi cmx).run P w = .ok (ln, hn, cm) w := by
                    cases cmx with
                    | none =>
                      obtain ⟨rfl, rfl⟩ := b0
                      simp only [Option.isSome_none, Bool.false_eq_true, if_false] at b1
                      refine ⟨cap, ?_⟩
                      cases chi with
                      | none =>
                        obtain ⟨_, rfl⟩ := b1
                        cases clo with
                        | none => obtain ⟨_, rfl⟩ := b2; exact ⟨hcap, Nat.zero_le _, Nat.le_refl _, by simp [Instr.sliceBounds]⟩
                        | some u => obtain ⟨_, b3, b4⟩ := b2; exact ⟨hcap, b3, Nat.le_refl _, by simp [Instr.sliceBounds, b4 _ _ (Nat.le_refl _)]⟩
                      | some z =>
                        obtain ⟨_, b5, b6⟩ := b1
                        cases clo with
                        | none => obtain ⟨_, rfl⟩ := b2; exact ⟨by omega, Nat.zero_le _, Nat.le_refl _, by simp [Instr.sliceBounds, b6 _ _ hcap]⟩
                        | some u => obtain ⟨_, b3, b4⟩ := b2; exact ⟨by omega, b3, Nat.le_refl _, by simp [Instr.sliceBounds, b6 _ _ hcap, b4 _ _ (Nat.le_refl _)]⟩
                    | some q =>
                      obtain ⟨hms, b7, b8⟩ := b0
                      simp only [hms, if_true] at b1
                      refine ⟨m, ?_⟩
                      cases chi with
                      | none => obtain ⟨hin, _⟩ := b1; subst hin; simp [hms] at hnn
                      | some z =>
                        obtain ⟨_, b5, b6⟩ := b1
                        cases clo with
                        | none => obtain ⟨_, rfl⟩ := b2; exact ⟨b5, Nat.zero_le _, by omega, by simp [Instr.sliceBounds, b8 _ _ hcap, b6 _ _ (Nat.le_refl _)]⟩
                        | some u => obtain ⟨_, b3, b4⟩ := b2; exact ⟨b5, b3, by omega, by simp [Instr.sliceBounds, b8 _ _ hcap, b6 _ _ (Nat.le_refl _), b4 _ _ (Nat.le_refl _)]⟩
                  obtain ⟨cm, f1, f2, f3, frun⟩ := fin
                  have run : (Instr.sliceAt t (.slice (some a) len cap) clo chi cmx).run P w = .ok (.slice (if cm = ln then some a else some (a.add (ln * sz))) (hn - ln) (cm - ln)) w := by
                    simp only [Instr.sliceAt, Instr.slice, Sem.run_bind, run_underlying hu, Result.andThen_ok, frun, sizeOf_run hsz, Sem.run_pure, Option.map_some]
                  by_cases hz : cm = ln
                  · rw [if_pos hz] at run
                    exact ⟨_, run, a, cm - ln, rfl, by omega, .inl (by omega)⟩
                  · rw [if_neg hz] at run
                    rcases hc with hc | ⟨blk, base, lim, hmm, rfl, hlim⟩
                    · omega
                    rw [addr_add] at run
                    refine ⟨_, run, _, cm - ln, rfl, by omega, .inr ⟨blk, base, lim, hmm, by rw [Nat.add_assoc], ?_⟩⟩
                    have hmul : (cm - ln) * sz + ln * sz ≤ cap * sz := by
                      rw [← Nat.add_mul]; exact Nat.mul_le_mul_right _ (by omega)
                    omega
              · cases e
            · cases e
          · cases e
        · cases e
      · cases e
    · cases e
  · simp only [VR] at hx; subst hx
    split at e
    · rename_i el hu
      split at e
      · rename_i sz hsz
        split at e
        · simp only [OptR] at hmx; subst hmx
          split at e
          · rename_i hn hh
            split at e
            · rename_i ln hl
              injection e with e; subst e
              have b1 := boundI_run (P := P) (w := w) hh hhi
              have b2 := boundI_run (P := P) (w := w) hl hlo
              have fin : hn = 0 ∧ ln = 0 ∧ (Instr.sliceBounds true 0 0 clo chi none).run P w = .ok (0, 0, 0) w := by
                cases chi with
                | none =>
                  obtain ⟨_, rfl⟩ := b1
                  cases clo with
                  | none => obtain ⟨_, rfl⟩ := b2; exact ⟨rfl, rfl, by simp [Instr.sliceBounds]⟩
                  | some u =>
                    obtain ⟨_, b3, b4⟩ := b2
                    obtain rfl : ln = 0 := by omega
                    exact ⟨rfl, rfl, by simp [Instr.sliceBounds, b4 _ _ (Nat.le_refl _)]⟩
                | some z =>
                  obtain ⟨_, b5, b6⟩ := b1
                  obtain rfl : hn = 0 := by omega
                  cases clo with
                  | none => obtain ⟨_, rfl⟩ := b2; exact ⟨rfl, rfl, by simp [Instr.sliceBounds, b6 _ _ (Nat.le_refl _)]⟩
                  | some u =>
                    obtain ⟨_, b3, b4⟩ := b2
                    obtain rfl : ln = 0 := by omega
                    exact ⟨rfl, rfl, by simp [Instr.sliceBounds, b6 _ _ (Nat.le_refl _), b4 _ _ (Nat.le_refl _)]⟩
              obtain ⟨_, _, frun⟩ := fin
              refine ⟨.slice none 0 0, ?_, rfl⟩
              simp [Instr.sliceAt, Instr.slice, run_underlying hu, frun, sizeOf_run hsz]
            · cases e
          · cases e
        · cases e
      · cases e
    · cases e
  · cases e

/-! ### bytes -/
theorem byteCells_pack : ∀ l : List UInt8, byteCells l.length (packL l) = l.map fun c => IV.int .u8 (c.toNat : Int)
  | [] => rfl
  | c :: l => by
    have hc := c.toNat_lt
    have e1 : packL (c :: l) % 256 = c.toNat := by simp only [packL]; omega
    have e2 : packL (c :: l) / 256 = packL l := by simp only [packL]; omega
    simp only [List.length_cons, byteCells, e1, e2, byteCells_pack l, List.map_cons]
theorem byteCells_rel (b : ByteArray) : VRs μ (byteCells (pack b).len (pack b).val) (b.data.toList.map fun c => Value.int .u8 (c.toNat : Int)) := by
  have : byteCells (pack b).len (pack b).val = b.data.toList.map fun c => IV.int .u8 (c.toNat : Int) := by
    have := byteCells_pack b.data.toList
    simpa [pack] using this
  rw [this]
  have key : ∀ l : List UInt8, VRs μ (l.map fun c => IV.int .u8 (c.toNat : Int)) (l.map fun c => Value.int .u8 (c.toNat : Int)) := by
    intro l
    induction l with
    | nil => rfl
    | cons c l ih => exact ⟨_, _, rfl, rfl, ih⟩
  exact key _
theorem byteCells_scalar : ∀ n v, allScalar (byteCells n v) = true
  | 0, _ => rfl
  | n + 1, v => by simp only [byteCells, allScalar, IV.scalar, byteCells_scalar n, Bool.and_self]
theorem bytesI_spec : ∀ {l : List IV} {s : Str} {vs : List Value}, bytesI l = some s → VRs μ l vs → ∃ ns : List Int, vs = ns.map (Value.int .u8) ∧ s = ⟨ns.length, packL (ns.map fun n => UInt8.ofNat n.toNat)⟩
  | [], s, vs, e, f => by
    simp only [bytesI, Option.some.injEq] at e; subst e
    simp only [VRs] at f; subst f
    exact ⟨[], rfl, rfl⟩
  | x :: l, s, vs, e, f => by
    obtain ⟨v, vs, rfl, f2, f3⟩ := f
    cases x with
    | int k n =>
      cases k <;> try (simp [bytesI] at e; done)
      simp only [bytesI] at e
      split at e
      · rename_i t ht
        split at e
        · rename_i hn
          injection e with e; subst e
          simp only [VR] at f2; subst f2
          obtain ⟨ns, rfl, rfl⟩ := bytesI_spec ht f3
          refine ⟨n :: ns, rfl, ?_⟩
          simp only [List.map_cons, packL, List.length_cons, Str.mk.injEq, true_and]
          congr 1
          rw [UInt8.toNat_ofNat']; omega
        · cases e
      · cases e
    | _ => simp [bytesI] at e
theorem foldl_push (ns : List Int) : ∀ s : ByteArray, (ns.foldl (fun r n => r.push (UInt8.ofNat n.toNat)) s).data.toList = s.data.toList ++ ns.map fun n => UInt8.ofNat n.toNat := by
  induction ns with
  | nil => intro s; simp
  | cons n ns ih => intro s; rw [List.foldl_cons, ih]; simp
theorem convI_gives (r : Rel w₀ S μ h w) {src dst : TypeId} {x v : IV} {h' : H} {cx : Value} (e : convI P h src dst x = some (v, h')) (hx : VR μ x cx) :
    Gives P w₀ S μ (convert src dst cx) w v h' := by
  unfold convI at e
  split at e
  · rename_i k j n hs hd
    simp only [VR] at hx; subst hx
    simp only [Option.some.injEq, Prod.mk.injEq] at e
    obtain ⟨rfl, rfl⟩ := e
    refine .here r (cv := .int k (k.wrap n)) ?_ (by rw [wr_eq]; rfl)
    simp only [convert, Sem.run_bind, run_underlying hs, run_underlying hd, Result.andThen_ok, Conv.intToInt, Sem.run_pure]
  · rename_i s hs hd
    obtain ⟨b, rfl, rfl⟩ := hx
    simp only [Option.some.injEq, Prod.mk.injEq] at e
    obtain ⟨rfl, rfl⟩ := e
    refine .here r (cv := .string b) ?_ ⟨_, rfl, rfl⟩
    simp only [convert, Sem.run_bind, run_underlying hs, run_underlying hd, Result.andThen_ok, Sem.run_pure]
  · rename_i el s hs hd
    obtain ⟨b, rfl, rfl⟩ := hx
    split at e
    · rename_i hel
      simp only [Option.some.injEq, Prod.mk.injEq] at e
      obtain ⟨rfl, rfl⟩ := e
      -- the model's capacity is drawn
      have run : ∃ cap, b.size ≤ cap ∧ (convert src dst (.string b)).run P w = .ok (.slice (some ⟨w.heap.size, 0, none⟩) b.size cap)
          { w with drawn := w.drawn + 1, heap := w.heap.push (.cells ((b.data.map fun c => Value.int .u8 (c.toNat : Int)) ++ Array.replicate (cap - b.size) (.int .u8 0)) el (cap, cap + 1)) } := by
        refine ⟨(Question.appendCap b.size 0 el).cut (w.tape w.drawn (.appendCap b.size 0 el)), by simp [Question.cut], ?_⟩
        have hge : b.size ≤ (Question.appendCap b.size 0 el).cut (w.tape w.drawn (.appendCap b.size 0 el)) := by simp [Question.cut]
        generalize hq : (Question.appendCap b.size 0 el).cut (w.tape w.drawn (.appendCap b.size 0 el)) = cap at *
        have hf : (Question.appendCap b.size 0 el).forced = false := rfl
        simp only [convert, Sem.run_bind, run_underlying hs, run_underlying hd, Result.andThen_ok, run_underlying hel, Conv.stringToBytes, run_choose, hf, Bool.false_eq_true, if_false, hq]
        generalize hc : (b.data.map fun c => Value.int .u8 (c.toNat : Int)) ++ Array.replicate (cap - b.size) (.int .u8 0) = cs
        have hsz : cs.size = cap := by
          rw [← hc]; simp
          have : b.data.size = b.size := rfl
          omega
        simp only [newRow, Sem.run_bind, run_newObj, Result.andThen_ok, Sem.run_pure, markStringish, run_shape]
        have hsh : ({ heap := w.heap.push (.cells cs el), tape := w.tape, drawn := w.drawn + 1, os := w.os, output := w.output } : World).shape? w.heap.size = some (el, cap) := by
          simp [World.shape?, hsz]
        rw [hsh]
        simp only [run_freeze, Result.andThen_ok]
        congr 1
        simp only [World.freeze, Nat.one_ne_zero, if_false, World.mk.injEq, and_true]
        apply Array.ext_getElem?
        intro k
        simp only [Array.getElem?_modify, Array.getElem?_push]
        by_cases hk : w.heap.size = k
        · subst hk; simp
        · rw [if_neg hk]
          by_cases hk2 : k = w.heap.size
          · exact absurd hk2.symm hk
          · rw [if_neg hk2, if_neg hk2]
      obtain ⟨cap, hcap, hrun⟩ := run
      have hrel := byteCells_rel (μ := μ) b
      have hlen := hrel.length
      have hn := Mu.le_push (x := (w.heap.size, 0, cap)) (r.new _ (Nat.le_refl _))
      have hbc : (byteCells (pack b).len (pack b).val).length = b.size := by rw [← hlen]; simp
      refine ⟨_, _, μ.push h.next (w.heap.size, 0, cap), hrun, hn, ?_, ?_⟩
      · refine (r.drew (w.drawn + 1)).alloc _ _ cap fun w' hw => ?_
        refine ⟨by rw [pack_len]; omega, fun i x hi hg => ?_, fun _ => ⟨rfl, _, el, (cap, cap + 1), hw, ?_, fun hz => (by cases hz), fun j hj => by simp; omega⟩⟩
        · rw [get_setList_leaf] at hg
          obtain ⟨v, hv, hr⟩ := hrel.get _ _ hg
          refine ⟨allScalar_get (byteCells_scalar _ _) hg, v, ?_, hr.mono hn _ _⟩
          have hi' : i < b.size := by rw [pack_len] at hi; exact hi
          simp only [World.cell?, Nat.zero_add]
          have hw2 : w'.heap[w.heap.size]? = some (.cells ((b.data.map fun c => Value.int .u8 (c.toNat : Int)) ++ Array.replicate (cap - b.size) (.int .u8 0)) el (cap, cap + 1)) := hw
          rw [hw2]
          simp only [Option.isSome_none, Bool.false_eq_true, if_false]
          rw [Array.getElem?_append_left (by simpa using hi'), ← hv]
          simp
        · simp
          have : b.data.size = b.size := rfl
          omega
      · exact ⟨_, _, rfl, hcap, .inr ⟨_, _, _, Mu.push_same _ _ _, rfl, by omega⟩⟩
    · cases e
  · rename_i el hs hd
    simp only [VR] at hx; subst hx
    split at e
    · rename_i hel
      simp only [Option.some.injEq, Prod.mk.injEq] at e
      obtain ⟨rfl, rfl⟩ := e
      refine .here r (cv := .string .empty) ?_ ⟨_, rfl, rfl⟩
      rw [run_convert_bytes_string w src dst el none 0 0 hs hel hd]
      rfl
    · cases e
  · rename_i el b off len es hs hd
    obtain ⟨a, cap, rfl, hcap, hc⟩ := hx
    split at e
    · rename_i hel
      split at e
      · rename_i rw fz size cs hb
        split at e
        · rename_i hle
          split at e
          · rename_i l hg
            split at e
            · rename_i s hbs
              simp only [Option.some.injEq, Prod.mk.injEq] at e
              obtain ⟨rfl, rfl⟩ := e
              obtain ⟨hlen, hget⟩ := getList_spec hg
              have cells : ∃ vs, VRs μ l vs ∧ (loadCells a len).run P w = .ok vs.toArray w := by
                rcases hc with hc | ⟨blk, base, lim, hm, rfl, hlim⟩
                · obtain rfl : len = 0 := by omega
                  have hl0 : l = [] := by simpa using hlen
                  subst hl0
                  exact ⟨[], rfl, by simp [loadCells, loadCellsFrom]⟩
                · obtain ⟨k1, k2, k3, h1, ho, _⟩ := r.obj b _ hb
                  rw [hm] at h1; injection h1 with h1; injection h1 with e1 e2; injection e2 with e2 e3; subst e1; subst e2; subst e3
                  obtain ⟨vs, hv, hcc⟩ := cells_of ho (l := l) (off := off) (by omega) (fun j hj => hget j (by omega))
                  have := loadCells_run (P := P) (b := blk) (o := base + off) (vs := vs) (w := w) hcc
                  rw [hv.length, hlen] at this
                  exact ⟨vs, hv, this⟩
              obtain ⟨vs, hv, hrun⟩ := cells
              obtain ⟨ns, rfl, rfl⟩ := bytesI_spec hbs hv
              refine .here r (cv := .string (ns.foldl (fun r n => r.push (UInt8.ofNat n.toNat)) ByteArray.empty)) ?_ ⟨_, rfl, ?_⟩
              · rw [run_convert_bytes_string w src dst el _ _ _ hs hel hd]
                exact run_bytesToString w a len cap ns hrun
              · have hf := foldl_push ns ByteArray.empty
                simp only [pack, Str.mk.injEq]
                rw [hf]
                have hsz : (ns.foldl (fun r n => r.push (UInt8.ofNat n.toNat)) ByteArray.empty).size = ns.length := by
                  have := congrArg List.length hf
                  simpa using this
                exact ⟨hsz.symm, by simp⟩
            · cases e
          · cases e
        · cases e
      · cases e
    · cases e
  · cases e

end Go.Proofs.YtblgpcijbdbeiaaDoor.I
