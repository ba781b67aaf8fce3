/- The ideal machine: the evaluator of a region whose order is drawn, and that it is sound. -/
import Derived.Test.YtblgpcijbdbeiaaDoorI15
namespace Go.Proofs.YtblgpcijbdbeiaaDoor.I
open Go
set_option linter.unusedVariables false
set_option linter.unusedSimpArgs false

/-! ### the evaluator -/
def bit (m i : Nat) : Bool := Nat.beq (m / 2 ^ i % 2) 1
def bindsE (e : Edge) : Bool :=
  match e.ground with
  | .textOnly _ => false
  | .gcOnly _ => false
  | _ => true
def maskE (ms : List Nat) : List Edge → Nat → Nat
  | [], s => s
  | e :: l, s => maskE ms l (bif bindsE e then s ||| 2 ^ e.on ||| ms.getD e.on 0 else s)
def masks : List Oper → List Nat → List Nat
  | [], ms => ms
  | o :: os, ms => masks os (ms ++ [maskE ms o.after.toList 0])
def writerOf (t : Tmp) : List Oper → Nat → Option Nat
  | [], _ => none
  | o :: os, i => match o.dst with
    | some d => bif Nat.beq d t then some i else writerOf t os (i + 1)
    | none => writerOf t os (i + 1)
/-- what a temporary holds when an operation looks at it, whatever the order -/
def lookT (ops : List Oper) (ms : List Nat) (F : Fr) (i : Nat) (vs : List IV) (t : Tmp) : Option IV :=
  match writerOf t ops 0 with
  | none => F.tmps.get t
  | some j => bif bit (ms.getD i 0) j then vs[j]? else bif bit (ms.getD j 0) i || Nat.beq j i then F.tmps.get t else none
def envD (look : Tmp → Option IV) : Operand → Option IV
  | .tmp t => look t
  | .const v => ofV v
  | .func f => some (.func f [])
  | .global _ => none
def wantD (ops : List Oper) (look : Tmp → Option IV) (g : Option (Nat × Bool)) : Option Bool :=
  match g with
  | none => some true
  | some (j, want) => match (ops[j]?).bind (·.dst) with
    | some t => match look t with
      | some (.bool b) => some (b == want)
      | some (.tup []) => some false
      | _ => none
    | none => none
def evL (P : Program) (ops : List Oper) (look : Tmp → Option IV) (o : Oper) (h : H) : Option IV :=
  match wantD ops look o.guard with
  | some true => match opI P h (envD look) o.op with
    | .val v _ => some v
    | _ => none
  | some false => some (.tup [])
  | none => none
def evH (P : Program) (cf : CallF) (ops : List Oper) (look : Tmp → Option IV) (o : Oper) (h : H) : Option (IV × H) :=
  match wantD ops look o.guard with
  | some true => match opI P h (envD look) o.op with
    | .val v h' => some (v, h')
    | .skip h' => some (.tup [], h')
    | .call f args => match cf f args h with
      | .ok v h' => some (v, h')
      | _ => none
    | _ => none
  | some false => some (.tup [], h)
  | none => none
def pass1 (P : Program) (cf : CallF) (ops : List Oper) (ms : List Nat) (F : Fr) : List Oper → Nat → List IV → H → List H → Option (List IV × List H)
  | [], _, vs, h, hs => some (vs, hs ++ [h])
  | o :: os, i, vs, h, hs =>
    bif lightOp o.op then match evL P ops (lookT ops ms F i vs) o h with
      | some v => pass1 P cf ops ms F os (i + 1) (vs ++ [v]) h (hs ++ [h])
      | none => none
    else match evH P cf ops (lookT ops ms F i vs) o h with
      | some (v, h') => pass1 P cf ops ms F os (i + 1) (vs ++ [v]) h' (hs ++ [h])
      | none => none
/-- the places of the operations that may turn memory, and the end -/
def heavies : List Oper → Nat → List Nat
  | [], i => [i]
  | o :: os, i => bif lightOp o.op then heavies os (i + 1) else i :: heavies os (i + 1)
def sameAt (P : Program) (ops : List Oper) (look : Tmp → Option IV) (o : Oper) (v : IV) (g : Option H) : Bool :=
  match g with
  | none => false
  | some h => match evL P ops look o h with
    | some u => IV.beq u v
    | none => false
/-- a reading tells the same before each of the operations that it may come before or behind -/
def window (P : Program) (ops : List Oper) (ms : List Nat) (look : Tmp → Option IV) (hs : List H) (i : Nat) (o : Oper) (v : IV) : List Nat → Bool
  | [] => true
  | k :: ks => (bif bit (ms.getD i 0) k then true else sameAt P ops look o v hs[k]?) && (bif bit (ms.getD k 0) i then true else window P ops ms look hs i o v ks)
def pass2 (P : Program) (ops : List Oper) (ms : List Nat) (F : Fr) (vs : List IV) (hs : List H) (hv : List Nat) : List Oper → Nat → Bool
  | [], _ => true
  | o :: os, i => (bif !lightOp o.op || pureOp o.op then true else match vs[i]? with
      | some v => window P ops ms (lookT ops ms F i vs) hs i o v hv
      | none => false) && pass2 P ops ms F vs hs hv os (i + 1)
def allBits (m : Nat) : List Nat → Bool
  | [] => true
  | k :: ks => bit m k && allBits m ks
/-- what must stand fast of a region before it is carried out: 'sofar': the heavy operations ahead of this one -/
def staticO (ops : List Oper) (ms : List Nat) : List Oper → Nat → List Nat → List Tmp → Bool
  | [], _, _, _ => true
  | o :: os, i, sofar, dsts =>
    let m := ms.getD i 0
    Nat.blt m (2 ^ i) &&
    (match o.dst with
      | some d => !dsts.contains d
      | none => true) &&
    (bif lightOp o.op then staticO ops ms os (i + 1) sofar (o.dst.toList ++ dsts)
     else bif allocOp o.op then o.guard.isNone && ms.all (fun x => !bit x i || allBits x sofar) && staticO ops ms os (i + 1) (i :: sofar) (o.dst.toList ++ dsts)
     else allBits m sofar && staticO ops ms os (i + 1) (i :: sofar) (o.dst.toList ++ dsts))
def putAll : Fr → List Oper → List IV → Option Fr
  | F, o :: os, v :: vs => match F.put o.dst v with
    | some F' => putAll F' os vs
    | none => none
  | F, _, _ => some F
def drI (P : Program) (cf : CallF) (ops : Array Oper) (F : Fr) (h : H) : Out :=
  let l := ops.toList
  let ms := masks l []
  bif staticO l ms l 0 [] [] then
    match pass1 P cf l ms F l 0 [] h [] with
    | some (vs, hs) => bif pass2 P l ms F vs hs (heavies l 0) l 0 then
        match putAll F l vs, hs[l.length]? with
        | some F', some h' => .nrm F' h'
        | _, _ => .fail
      else .fail
    | none => .fail
  else .fail

/-! ### facts of the evaluator -/
theorem bit_testBit (m i : Nat) : bit m i = m.testBit i := by
  rw [bit, T.nbeq, Nat.testBit_eq_decide_div_mod_eq]
theorem bindsE_eq (e : Edge) : bindsE e = Region.binds .any e := by
  unfold bindsE Region.binds
  cases e.ground <;> rfl
theorem maskE_bit (ms : List Nat) : ∀ (l : List Edge) (s j : Nat), bit (maskE ms l s) j = true ↔ bit s j = true ∨ ∃ e ∈ l, Region.binds .any e = true ∧ (e.on = j ∨ bit (ms.getD e.on 0) j = true)
  | [], s, j => by simp [maskE]
  | e :: l, s, j => by
    simp only [maskE]
    rw [maskE_bit ms l]
    cases hb : bindsE e
    · have hb' : Region.binds .any e = false := by rw [← bindsE_eq]; exact hb
      simp [hb']
    · have hb' : Region.binds .any e = true := by rw [← bindsE_eq]; exact hb
      simp only [cond_true, List.mem_cons, exists_eq_or_imp, hb', true_and]
      simp only [bit_testBit, Nat.testBit_or, Nat.testBit_two_pow, Bool.or_eq_true, decide_eq_true_eq]
      constructor
      · rintro (((h | h) | h) | h)
        · exact .inl h
        · exact .inr (.inl (.inl h))
        · exact .inr (.inl (.inr h))
        · exact .inr (.inr h)
      · rintro (h | (h | h) | h)
        · exact .inl (.inl (.inl h))
        · exact .inl (.inl (.inr h))
        · exact .inl (.inr h)
        · exact .inr h
theorem masks_len : ∀ (os : List Oper) (ms : List Nat), (masks os ms).length = ms.length + os.length
  | [], ms => by simp [masks]
  | o :: os, ms => by simp only [masks]; rw [masks_len os]; simp; omega
theorem masks_pre : ∀ (os : List Oper) (ms : List Nat) (i : Nat), i < ms.length → (masks os ms).getD i 0 = ms.getD i 0
  | [], ms, i, h => rfl
  | o :: os, ms, i, h => by
    simp only [masks]
    rw [masks_pre os _ i (by simp; omega)]
    simp [List.getD_eq_getElem?_getD, List.getElem?_append_left h]
/-- the mask of each operation, from its edges; edges lead back, as the masks are less than 2 to the place -/
theorem masks_at : ∀ (os : List Oper) (ms : List Nat) (i : Nat) (o : Oper), os[i]? = some o →
    (masks os ms).getD (ms.length + i) 0 = maskE ((masks os ms).take (ms.length + i)) o.after.toList 0
  | [], ms, i, o, h => by simp at h
  | o' :: os, ms, 0, o, h => by
    simp only [List.getElem?_cons_zero, Option.some.injEq] at h; subst h
    simp only [masks, Nat.add_zero]
    have hl : ms.length < (ms ++ [maskE ms o'.after.toList 0]).length := by simp
    rw [masks_pre os _ _ hl]
    have ht : (masks os (ms ++ [maskE ms o'.after.toList 0])).take ms.length = ms := by
      apply List.ext_getElem?
      intro k
      rw [List.getElem?_take]
      by_cases hk : k < ms.length
      · rw [if_pos hk]
        have h1 := masks_pre os (ms ++ [maskE ms o'.after.toList 0]) k (by simp; omega)
        have h2 : k < (masks os (ms ++ [maskE ms o'.after.toList 0])).length := by rw [masks_len]; simp; omega
        have h3 : k < (ms ++ [maskE ms o'.after.toList 0]).length := by simp; omega
        simp only [List.getD_eq_getElem?_getD, List.getElem?_eq_getElem h2, List.getElem?_eq_getElem h3, Option.getD_some] at h1
        rw [List.getElem?_eq_getElem h2, h1, List.getElem?_eq_getElem hk, List.getElem_append_left hk]
      · rw [if_neg hk, List.getElem?_eq_none (by omega)]
    rw [ht]
    simp [List.getD_eq_getElem?_getD]
  | o' :: os, ms, i + 1, o, h => by
    simp only [List.getElem?_cons_succ] at h
    simp only [masks]
    have := masks_at os (ms ++ [maskE ms o'.after.toList 0]) i o h
    simp only [List.length_append, List.length_cons, List.length_nil] at this
    rw [show ms.length + (i + 1) = ms.length + (0 + 1) + i by omega]
    exact this
theorem lt_of_bit {m i j : Nat} (hm : m < 2 ^ i) (hb : bit m j = true) : j < i := by
  rw [bit_testBit] at hb
  have := Nat.ge_two_pow_of_testBit hb
  rcases Nat.lt_or_ge j i with h | h
  · exact h
  · have h2 : 2 ^ i ≤ 2 ^ j := Nat.pow_le_pow_right (by decide) h
    omega
/-- A1: what a mask says -/
theorem mask_bit (os : List Oper) {i : Nat} {o : Oper} (h : os[i]? = some o) (hm : (masks os []).getD i 0 < 2 ^ i) (j : Nat) :
    bit ((masks os []).getD i 0) j = true ↔ ∃ e ∈ o.after, Region.binds .any e = true ∧ (e.on = j ∨ bit ((masks os []).getD e.on 0) j = true) := by
  have h1 := masks_at os [] i o h
  simp only [List.length_nil, Nat.zero_add] at h1
  have h2 := maskE_bit ((masks os []).take i) o.after.toList 0 j
  rw [← h1] at h2
  rw [h2]
  have hz : bit 0 j = false := by simp [bit_testBit]
  simp only [hz, Bool.false_eq_true, false_or, Array.mem_toList_iff]
  have hon : ∀ e ∈ o.after, Region.binds .any e = true → e.on < i := fun e he hb => by
    have h3 := (maskE_bit ((masks os []).take i) o.after.toList 0 e.on).2 (.inr ⟨e, by simpa using he, hb, .inl rfl⟩)
    rw [← h1] at h3
    exact lt_of_bit hm h3
  have htake : ∀ k, k < i → ((masks os []).take i).getD k 0 = (masks os []).getD k 0 := fun k hk => by
    simp only [List.getD_eq_getElem?_getD, List.getElem?_take, if_pos hk]
  constructor
  · rintro ⟨e, he, hb, hh⟩
    refine ⟨e, he, hb, ?_⟩
    rw [← htake _ (hon e he hb)]; exact hh
  · rintro ⟨e, he, hb, hh⟩
    refine ⟨e, he, hb, ?_⟩
    rw [htake _ (hon e he hb)]; exact hh

end Go.Proofs.YtblgpcijbdbeiaaDoor.I
