/- The ideal machine: how its values and its memory stand to the model's; first laws of that relation. -/
import Derived.Test.YtblgpcijbdbeiaaDoorI0
import Derived.WalkKit
namespace Go.Proofs.YtblgpcijbdbeiaaDoor.I
open Go
set_option linter.unusedVariables false
set_option linter.unusedSimpArgs false

/-! ### packed strings -/
theorem packL_lt : ∀ l : List UInt8, packL l < 256 ^ l.length
  | [] => by simp [packL]
  | c :: l => by
    have h := packL_lt l
    have hc := c.toNat_lt
    simp only [packL, List.length_cons, Nat.pow_succ]
    omega
theorem packL_inj : ∀ {a b : List UInt8}, a.length = b.length → packL a = packL b → a = b
  | [], [], _, _ => rfl
  | [], _ :: _, h, _ => by simp at h
  | _ :: _, [], h, _ => by simp at h
  | x :: a, y :: b, h, e => by
    simp only [packL] at e
    have hx := x.toNat_lt
    have hy := y.toNat_lt
    have h1 : x.toNat = y.toNat := by omega
    have h2 : packL a = packL b := by omega
    rw [UInt8.toNat_inj.1 h1, packL_inj (by simpa using h) h2]
theorem packL_append : ∀ a b : List UInt8, packL (a ++ b) = packL a + 256 ^ a.length * packL b
  | [], b => by simp [packL]
  | x :: a, b => by
    simp only [packL, List.cons_append, packL_append a b, List.length_cons, Nat.pow_succ]
    rw [Nat.mul_add, ← Nat.mul_assoc, Nat.mul_comm 256 (256 ^ a.length)]; omega
theorem packL_drop : ∀ (i : Nat) (l : List UInt8), packL l / 256 ^ i = packL (l.drop i)
  | 0, l => by simp
  | i + 1, [] => by simp [packL]
  | i + 1, x :: l => by
    have hx := x.toNat_lt
    rw [List.drop_succ_cons, ← packL_drop i l, Nat.pow_succ, Nat.mul_comm, ← Nat.div_div_eq_div_mul]
    congr 1
    simp only [packL]; omega
theorem packL_take : ∀ (i : Nat) (l : List UInt8), packL l % 256 ^ i = packL (l.take i)
  | 0, l => by simp [packL, Nat.mod_one]
  | i + 1, [] => by simp [packL]
  | i + 1, x :: l => by
    have hx := x.toNat_lt
    simp only [List.take_succ_cons, packL, ← packL_take i l]
    rw [Nat.pow_succ, Nat.mul_comm (256 ^ i) 256, Nat.mod_mul]
    have h1 : (x.toNat + 256 * packL l) % 256 = x.toNat := by omega
    have h2 : (x.toNat + 256 * packL l) / 256 = packL l := by omega
    rw [h1, h2]
theorem pack_inj {a b : ByteArray} (h : pack a = pack b) : a = b := by
  simp only [pack, Str.mk.injEq] at h
  have := packL_inj (a := a.data.toList) (b := b.data.toList) (by simpa using h.1) h.2
  exact ByteArray.ext (Array.toList_inj.1 this)
theorem pack_len (a : ByteArray) : (pack a).len = a.size := rfl
theorem pack_eq (a b : ByteArray) : (pack a).eq (pack b) = decide (a = b) := by
  rw [Bool.eq_iff_iff]
  simp only [Str.eq, Bool.and_eq_true, T.nbeq, decide_eq_true_eq]
  constructor
  · rintro ⟨h1, h2⟩; exact pack_inj (by rw [Str.mk.injEq]; exact ⟨h1, h2⟩)
  · rintro rfl; exact ⟨rfl, rfl⟩
theorem pack_app (a b : ByteArray) : pack (a ++ b) = (pack a).app (pack b) := by
  simp only [pack, Str.app, Str.mk.injEq]
  refine ⟨by simp, ?_⟩
  have : (a ++ b).data.toList = a.data.toList ++ b.data.toList := by simp
  rw [this, packL_append]; simp
theorem pack_at (a : ByteArray) (i : Nat) (h : i < a.size) : (pack a).at i = (a[i]).toNat := by
  simp only [pack, Str.at, packL_drop]
  have hl : i < a.data.toList.length := by simpa using h
  rw [List.drop_eq_getElem_cons hl]
  have hx := (a.data.toList[i]).toNat_lt
  simp only [packL]
  have : (a.data.toList[i]'hl).toNat = (a[i]).toNat := rfl
  omega
theorem pack_ext (a : ByteArray) (l h : Nat) (h1 : l ≤ h) (h2 : h ≤ a.size) : pack (a.extract l h) = (pack a).ext l h := by
  simp only [pack, Str.ext, Str.mk.injEq]
  refine ⟨by simp; omega, ?_⟩
  rw [packL_drop, packL_take]
  congr 1
  simp

/-! ### values -/
/-- where an ideal block lies: the model's block, the place in it, where it ends -/
abbrev Mu := Nat → Option (Nat × Nat × Nat)
def Mu.le (μ ν : Mu) : Prop := ∀ b x, μ b = some x → ν b = some x
theorem Mu.le_refl (μ : Mu) : μ.le μ := fun _ _ h => h
theorem Mu.le_trans {a b c : Mu} (h : a.le b) (k : b.le c) : a.le c := fun _ _ e => k _ _ (h _ _ e)

mutual
def VR (μ : Mu) : IV → Value → Prop
  | .bool b, v => v = .bool b
  | .int k n, v => v = .int k n
  | .str s, v => ∃ t, v = .string t ∧ s = pack t
  | .nilPtr, v => v = .pointer none
  | .ptr b off, v => ∃ blk base lim, μ b = some (blk, base, lim) ∧ v = .pointer (some ⟨blk, base + off, none⟩)
  | .nilSlice, v => v = .slice none 0 0
  | .slice b off len es, v => ∃ a cap, v = .slice (some a) len cap ∧ len ≤ cap ∧
      (cap = 0 ∨ ∃ blk base lim, μ b = some (blk, base, lim) ∧ a = ⟨blk, base + off, none⟩ ∧ base + off + cap * es ≤ lim)
  | .nilMap, v => v = .map none
  | .map b, v => ∃ blk base lim, μ b = some (blk, base, lim) ∧ v = .map (some blk)
  | .nilFunc, v => v = .nilFunc
  | .func f caps, v => ∃ cs, v = .func (.func f) #[] cs ∧ VRs μ caps cs.toList
  | .nilIface, v => v = .nilIface
  | .iface t x, v => ∃ y, v = .iface t y ∧ VR μ x y
  | .agg xs, v => ∃ cs, v = .agg cs ∧ VRs μ xs cs.toList
  | .tup xs, v => ∃ cs, v = .tuple cs ∧ VRs μ xs cs.toList
def VRs (μ : Mu) : List IV → List Value → Prop
  | [], l => l = []
  | x :: xs, l => ∃ v vs, l = v :: vs ∧ VR μ x v ∧ VRs μ xs vs
end

mutual
theorem VR.mono {μ ν : Mu} (h : μ.le ν) : ∀ (x : IV) (v : Value), VR μ x v → VR ν x v
  | .bool _, _, e => e
  | .int _ _, _, e => e
  | .str _, _, e => e
  | .nilPtr, _, e => e
  | .ptr _ _, _, e => by obtain ⟨a, b, c, e1, e2⟩ := e; exact ⟨a, b, c, h _ _ e1, e2⟩
  | .nilSlice, _, e => e
  | .slice _ _ _ _, _, e => by
    obtain ⟨a, cap, e1, e2, e3⟩ := e
    refine ⟨a, cap, e1, e2, ?_⟩
    rcases e3 with e3 | ⟨x, y, z, e3, e4⟩
    · exact .inl e3
    · exact .inr ⟨x, y, z, h _ _ e3, e4⟩
  | .nilMap, _, e => e
  | .map _, _, e => by obtain ⟨a, b, c, e1, e2⟩ := e; exact ⟨a, b, c, h _ _ e1, e2⟩
  | .nilFunc, _, e => e
  | .func _ caps, _, e => by obtain ⟨cs, e1, e2⟩ := e; exact ⟨cs, e1, VRs.mono h caps _ e2⟩
  | .nilIface, _, e => e
  | .iface _ x, _, e => by obtain ⟨y, e1, e2⟩ := e; exact ⟨y, e1, VR.mono h x _ e2⟩
  | .agg xs, _, e => by obtain ⟨cs, e1, e2⟩ := e; exact ⟨cs, e1, VRs.mono h xs _ e2⟩
  | .tup xs, _, e => by obtain ⟨cs, e1, e2⟩ := e; exact ⟨cs, e1, VRs.mono h xs _ e2⟩
theorem VRs.mono {μ ν : Mu} (h : μ.le ν) : ∀ (xs : List IV) (l : List Value), VRs μ xs l → VRs ν xs l
  | [], _, e => e
  | x :: xs, _, e => by obtain ⟨v, vs, e1, e2, e3⟩ := e; exact ⟨v, vs, e1, VR.mono h x v e2, VRs.mono h xs vs e3⟩
end

theorem VRs.length {μ : Mu} : ∀ {xs : List IV} {l : List Value}, VRs μ xs l → l.length = xs.length
  | [], _, e => by simp only [VRs] at e; subst e; rfl
  | _ :: _, _, e => by obtain ⟨v, vs, rfl, _, e3⟩ := e; simp [e3.length]
theorem VRs.get {μ : Mu} : ∀ {xs : List IV} {l : List Value}, VRs μ xs l → ∀ (i : Nat) (x : IV), xs[i]? = some x → ∃ v, l[i]? = some v ∧ VR μ x v
  | [], _, _, i, x, h => by simp at h
  | y :: xs, _, e, i, x, h => by
    obtain ⟨v, vs, rfl, e2, e3⟩ := e
    cases i with
    | zero => simp at h; subst h; exact ⟨v, rfl, e2⟩
    | succ i => simpa using e3.get i x (by simpa using h)
theorem VRs.append {μ : Mu} : ∀ {xs ys : List IV} {l m : List Value}, VRs μ xs l → VRs μ ys m → VRs μ (xs ++ ys) (l ++ m)
  | [], _, _, _, e, f => by simp only [VRs] at e; subst e; exact f
  | _ :: _, _, _, _, e, f => by obtain ⟨v, vs, rfl, e2, e3⟩ := e; exact ⟨v, vs ++ _, rfl, e2, e3.append f⟩
theorem VRs.take {μ : Mu} : ∀ {xs : List IV} {l : List Value} (n : Nat), VRs μ xs l → VRs μ (xs.take n) (l.take n)
  | [], _, n, e => by simp only [VRs] at e; subst e; simp [VRs]
  | _ :: _, _, 0, e => by simp [VRs]
  | _ :: _, _, n + 1, e => by obtain ⟨v, vs, rfl, e2, e3⟩ := e; exact ⟨v, vs.take n, rfl, e2, e3.take n⟩
theorem VRs.drop {μ : Mu} : ∀ {xs : List IV} {l : List Value} (n : Nat), VRs μ xs l → VRs μ (xs.drop n) (l.drop n)
  | [], _, n, e => by simp only [VRs] at e; subst e; simp [VRs]
  | _ :: _, _, 0, e => e
  | _ :: _, _, n + 1, e => by obtain ⟨v, vs, rfl, e2, e3⟩ := e; exact e3.drop n
theorem VRs.set {μ : Mu} : ∀ {xs : List IV} {l : List Value} (i : Nat) {x : IV} {v : Value}, VRs μ xs l → VR μ x v → VRs μ (xs.set i x) (l.set i v)
  | [], _, i, _, _, e, f => by simp only [VRs] at e; subst e; simp [VRs]
  | _ :: _, _, 0, _, _, e, f => by obtain ⟨v, vs, rfl, e2, e3⟩ := e; exact ⟨_, vs, rfl, f, e3⟩
  | _ :: _, _, i + 1, _, _, e, f => by obtain ⟨v, vs, rfl, e2, e3⟩ := e; exact ⟨v, _, rfl, e2, e3.set i f⟩
theorem VRs.one {μ : Mu} {x : IV} {v : Value} (h : VR μ x v) : VRs μ [x] [v] := ⟨v, [], rfl, h, rfl⟩

theorem VR.cells {μ : Mu} {x : IV} {v : Value} (h : VR μ x v) : VRs μ x.cells v.cells.toList := by
  cases x with
  | agg xs => obtain ⟨cs, rfl, e⟩ := h; exact e
  | tup xs => obtain ⟨cs, rfl, e⟩ := h; exact .one ⟨cs, rfl, e⟩
  | str s => obtain ⟨t, rfl, e⟩ := h; exact .one ⟨t, rfl, e⟩
  | ptr b off => obtain ⟨a, b, c, e1, rfl⟩ := h; exact .one ⟨a, b, c, e1, rfl⟩
  | slice b off len es => obtain ⟨a, cap, rfl, e2⟩ := h; exact .one ⟨a, cap, rfl, e2⟩
  | map b => obtain ⟨a, b, c, e1, rfl⟩ := h; exact .one ⟨a, b, c, e1, rfl⟩
  | func f caps => obtain ⟨cs, rfl, e⟩ := h; exact .one ⟨cs, rfl, e⟩
  | iface t x => obtain ⟨y, rfl, e⟩ := h; exact .one ⟨y, rfl, e⟩
  | _ => simp only [VR] at h; subst h; exact .one rfl
/-- a scalar's value is one cell's -/
theorem VR.scalar {μ : Mu} {x : IV} {v : Value} (h : VR μ x v) (hs : x.scalar = true) : (∀ cs, v ≠ .agg cs) ∧ (∀ cs, v ≠ .tuple cs) := by
  cases x with
  | agg xs => simp [IV.scalar] at hs
  | tup xs => simp [IV.scalar] at hs
  | str s => obtain ⟨t, rfl, e⟩ := h; simp
  | ptr b off => obtain ⟨a, b, c, e1, rfl⟩ := h; simp
  | slice b off len es => obtain ⟨a, cap, rfl, e2⟩ := h; simp
  | map b => obtain ⟨a, b, c, e1, rfl⟩ := h; simp
  | func f caps => obtain ⟨cs, rfl, e⟩ := h; simp
  | iface t x => obtain ⟨y, rfl, e⟩ := h; simp
  | _ => simp only [VR] at h; subst h; simp

theorem ofS_VR {μ : Mu} {v : Value} {x : IV} (h : ofS v = some x) : VR μ x v := by
  unfold ofS at h
  split at h <;> first
    | (injection h with h; subst h; first | rfl | exact ⟨_, rfl, rfl⟩)
    | cases h
theorem ofSs_VR {μ : Mu} : ∀ {l : List Value} {xs : List IV}, ofSs l = some xs → VRs μ xs l
  | [], xs, h => by simp only [ofSs, Option.some.injEq] at h; subst h; rfl
  | v :: l, xs, h => by
    simp only [ofSs] at h
    split at h
    · rename_i x hx
      split at h
      · rename_i y hy
        injection h with h; subst h
        exact ⟨v, l, rfl, ofS_VR hx, ofSs_VR hy⟩
      · cases h
    · cases h
theorem ofV_VR {μ : Mu} {v : Value} {x : IV} (h : ofV v = some x) : VR μ x v := by
  unfold ofV at h
  split at h
  · rename_i cs
    split at h
    · rename_i l hl
      injection h with h; subst h
      exact ⟨cs, rfl, ofSs_VR hl⟩
    · cases h
  · exact ofS_VR h

/-! ### memory -/
def Obj.rw : Obj → Bool
  | .cells rw _ _ _ => rw
  | _ => true

/-- entries of a map -/
def EntsR (μ : Mu) : List (IV × IV × Nat) → List MapEntry → Prop
  | [], l => l = []
  | (k, v, b) :: es, l => ∃ e l', l = e :: l' ∧ VR μ k e.key ∧ VR μ v e.val ∧ b = e.born ∧ EntsR μ es l'

/-- an ideal object, and what lies there -/
def OR (μ : Mu) (o : Obj) (blk base lim : Nat) (w : World) : Prop :=
  match o with
  | .cells rw fz size cs =>
    (base + size ≤ lim) ∧
    (∀ i x, i < size → cs.get i = some x → x.scalar = true ∧ ∃ v, w.cell? ⟨blk, base + i, none⟩ = some v ∧ VR μ x v) ∧
    (rw = true → base = 0 ∧ ∃ c e fr, w.heap[blk]? = some (.cells c e fr) ∧ c.size = lim ∧ (fz = false → fr = (0, 0)) ∧ (∀ j, j < lim → ¬ (fr.1 ≤ j ∧ j < fr.2)))
  | .map es clock => ∃ ents, w.heap[blk]? = some (.map ents clock) ∧ EntsR μ es ents.toList
  | .iter m since seen last => ∃ mb, w.heap[blk]? = some (.mapIter mb since seen.toArray last) ∧ base = 0 ∧
      (match m with
       | none => mb = none
       | some b => ∃ x, μ b = some x ∧ mb = some x.1)
  | .siter s pos => ∃ t, w.heap[blk]? = some (.stringIter t pos) ∧ s = pack t ∧ base = 0

theorem EntsR.mono {μ ν : Mu} (h : μ.le ν) : ∀ {es : List (IV × IV × Nat)} {l : List MapEntry}, EntsR μ es l → EntsR ν es l
  | [], _, e => e
  | (_, _, _) :: _, _, e => by obtain ⟨x, l', rfl, e2, e3, e4, e5⟩ := e; exact ⟨x, l', rfl, e2.mono h _ _, e3.mono h _ _, e4, e5.mono h⟩
theorem EntsR.length {μ : Mu} : ∀ {es : List (IV × IV × Nat)} {l : List MapEntry}, EntsR μ es l → l.length = es.length
  | [], _, e => by simp only [EntsR] at e; subst e; rfl
  | (_, _, _) :: _, _, e => by obtain ⟨x, l', rfl, _, _, _, e5⟩ := e; simp [e5.length]

theorem OR.mono {μ ν : Mu} (h : μ.le ν) {o : Obj} {blk base lim : Nat} {w : World} (e : OR μ o blk base lim w) : OR ν o blk base lim w := by
  cases o with
  | cells rw fz size cs =>
    obtain ⟨e0, e1, e2⟩ := e
    exact ⟨e0, fun i x hi hx => by obtain ⟨hs, v, hv, hr⟩ := e1 i x hi hx; exact ⟨hs, v, hv, hr.mono h _ _⟩, e2⟩
  | map es clock => obtain ⟨ents, e1, e2⟩ := e; exact ⟨ents, e1, e2.mono h⟩
  | iter m since seen last =>
    obtain ⟨mb, e1, e2, e3⟩ := e
    refine ⟨mb, e1, e2, ?_⟩
    cases m with
    | none => exact e3
    | some b => obtain ⟨x, h1, h2⟩ := e3; exact ⟨x, h _ _ h1, h2⟩
  | siter s pos => exact e
/-- the object's own block is as it was -/
theorem OR.same {μ : Mu} {o : Obj} {blk base lim : Nat} {w w' : World} (h : w'.heap[blk]? = w.heap[blk]?) (e : OR μ o blk base lim w) : OR μ o blk base lim w' := by
  cases o with
  | cells rw fz size cs =>
    obtain ⟨e0, e1, e2⟩ := e
    refine ⟨e0, fun i x hi hx => ?_, fun hr => ?_⟩
    · obtain ⟨hs, v, hv, hr⟩ := e1 i x hi hx
      refine ⟨hs, v, ?_, hr⟩
      rw [← hv]
      simp only [World.cell?, h]
    · obtain ⟨h0, c, e, fr, hc, rest⟩ := e2 hr
      exact ⟨h0, c, e, fr, h.trans hc, rest⟩
  | map es clock => obtain ⟨ents, e1, e2⟩ := e; exact ⟨ents, h.trans e1, e2⟩
  | iter m since seen last => obtain ⟨mb, e1, e2⟩ := e; exact ⟨mb, h.trans e1, e2⟩
  | siter s pos => obtain ⟨t, e1, e2⟩ := e; exact ⟨t, h.trans e1, e2⟩

/-- of the world at the begin: the blocks that may be written, and those that may be seen -/
structure Sc where
  wr : Nat → Prop
  vis : Nat → Prop
/-- How the ideal memory stands to the world; w₀: the world at the begin, S: its blocks that may be written or seen. -/
structure Rel (w₀ : World) (S : Sc) (μ : Mu) (h : H) (w : World) : Prop where
  obj : ∀ b o, h.get b = some o → ∃ blk base lim, μ b = some (blk, base, lim) ∧ OR μ o blk base lim w ∧ (o.rw = true → S.wr blk ∨ w₀.heap.size ≤ blk)
  sep : ∀ b c o p x y, b ≠ c → h.get b = some o → h.get c = some p → o.rw = true → μ b = some x → μ c = some y → x.1 ≠ y.1
  lt : ∀ b x, μ b = some x → x.1 < w.heap.size
  new : ∀ b, h.next ≤ b → μ b = none
  vis : ∀ b x, μ b = some x → S.vis x.1 ∨ w₀.heap.size ≤ x.1
  keep : ∀ k, k < w₀.heap.size → ¬ S.wr k → w.heap[k]? = w₀.heap[k]?
  size : w₀.heap.size ≤ w.heap.size
  os : w.os = w₀.os
  tape : w.tape = w₀.tape
  output : w.output = w₀.output

theorem H.get_push (h : H) (o : Obj) (b : Nat) : (h.push o).get b = if b = h.next then some o else h.get b := T.get_set _ _ _ _
theorem H.get_put (h : H) (c : Nat) (o : Obj) (b : Nat) : (h.put c o).get b = if b = c then some o else h.get b := T.get_set _ _ _ _
theorem H.get_drop (h : H) (c : Nat) (b : Nat) : (h.drop c).get b = if b = c then none else h.get b := T.get_del _ _ _

theorem Rel.fresh {w₀ : World} {S : Sc} {μ : Mu} {h : H} {w : World} (r : Rel w₀ S μ h w) (b : Nat) (hb : h.next ≤ b) : h.get b = none := by
  cases hg : h.get b with
  | none => rfl
  | some o => obtain ⟨blk, base, lim, hm, _⟩ := r.obj b o hg; rw [r.new b hb] at hm; cases hm
/-- a draw turns nothing -/
theorem Rel.drew {w₀ : World} {S : Sc} {μ : Mu} {h : H} {w : World} (r : Rel w₀ S μ h w) (n : Nat) : Rel w₀ S μ h { w with drawn := n } :=
  { obj := fun b o hb => by
      obtain ⟨blk, base, lim, h1, h2, h3⟩ := r.obj b o hb
      exact ⟨blk, base, lim, h1, OR.same (w := w) rfl h2, h3⟩
    sep := r.sep, lt := r.lt, new := r.new, vis := r.vis, keep := r.keep, size := r.size, os := r.os, tape := r.tape, output := r.output }

/-- a map of ideal blocks with one more -/
def Mu.push (μ : Mu) (b : Nat) (x : Nat × Nat × Nat) : Mu := fun c => if c = b then some x else μ c
theorem Mu.le_push {μ : Mu} {b : Nat} {x : Nat × Nat × Nat} (h : μ b = none) : μ.le (μ.push b x) := by
  intro c y hy
  unfold Mu.push
  by_cases e : c = b
  · subst e; rw [h] at hy; cases hy
  · rw [if_neg e]; exact hy
theorem Mu.push_same (μ : Mu) (b : Nat) (x : Nat × Nat × Nat) : (μ.push b x) b = some x := by simp [Mu.push]

/-- A new object: a new block of the world. -/
theorem Rel.alloc {w₀ : World} {S : Sc} {μ : Mu} {h : H} {w : World} (r : Rel w₀ S μ h w) (o : Obj) (g : _root_.Go.Obj) (lim : Nat)
    (ho : ∀ w' : World, w'.heap[w.heap.size]? = some g → OR (μ.push h.next (w.heap.size, 0, lim)) o w.heap.size 0 lim w') :
    Rel w₀ S (μ.push h.next (w.heap.size, 0, lim)) (h.push o) { w with heap := w.heap.push g } := by
  have hn := r.new h.next (Nat.le_refl _)
  have hle := Mu.le_push (x := (w.heap.size, 0, lim)) hn
  have hsame : ∀ k, k < w.heap.size → (w.heap.push g)[k]? = w.heap[k]? := fun k hk => by rw [Array.getElem?_push, if_neg (by omega)]
  refine { obj := ?_, sep := ?_, lt := ?_, new := ?_, vis := ?_, keep := ?_, size := ?_, os := r.os, tape := r.tape, output := r.output }
  · intro b p hb
    rw [H.get_push] at hb
    by_cases e : b = h.next
    · subst e
      rw [if_pos rfl] at hb; injection hb with hb; subst hb
      exact ⟨_, _, _, Mu.push_same _ _ _, ho _ (by simp), fun _ => .inr r.size⟩
    · rw [if_neg e] at hb
      obtain ⟨blk, base, lim', h1, h2, h3⟩ := r.obj b p hb
      exact ⟨blk, base, lim', hle _ _ h1, (OR.same (w := w) (hsame _ (r.lt _ _ h1)) h2).mono hle, h3⟩
  · intro b c p q x y hne hb hc hrw hx hy
    rw [H.get_push] at hb hc
    simp only [Mu.push] at hx hy
    by_cases e : b = h.next
    · subst e
      rw [if_pos rfl] at hx; injection hx with hx; subst hx
      rw [if_neg (Ne.symm hne)] at hy
      have := r.lt _ _ hy
      simp only []; omega
    · by_cases e' : c = h.next
      · subst e'
        rw [if_pos rfl] at hy; injection hy with hy; subst hy
        rw [if_neg hne] at hx
        have := r.lt _ _ hx
        simp only []; omega
      · rw [if_neg e] at hb hx
        rw [if_neg e'] at hc hy
        exact r.sep b c p q x y hne hb hc hrw hx hy
  · intro b x hx
    simp only [Mu.push] at hx
    simp only [Array.size_push]
    by_cases e : b = h.next
    · rw [if_pos e] at hx; injection hx with hx; subst hx; simp
    · rw [if_neg e] at hx; have := r.lt _ _ hx; omega
  · intro b hb
    simp only [H.push] at hb
    simp only [Mu.push]
    rw [if_neg (by omega)]
    exact r.new b (by omega)
  · intro b x hx
    simp only [Mu.push] at hx
    by_cases e : b = h.next
    · rw [if_pos e] at hx; injection hx with hx; subst hx; exact .inr r.size
    · rw [if_neg e] at hx; exact r.vis _ _ hx
  · intro k hk hs
    rw [hsame k (by have := r.size; omega)]
    exact r.keep k hk hs
  · have := r.size; simp; omega

/-- An object that may be written is written over: its block alone turns. -/
theorem Rel.write {w₀ : World} {S : Sc} {μ : Mu} {h : H} {w w' : World} (r : Rel w₀ S μ h w) {b : Nat} {o p : Obj} {blk base lim : Nat}
    (hb : h.get b = some o) (hrw : o.rw = true) (hm : μ b = some (blk, base, lim)) (hp : OR μ p blk base lim w')
    (hheap : ∀ k, k ≠ blk → w'.heap[k]? = w.heap[k]?) (hsize : w'.heap.size = w.heap.size)
    (hos : w'.os = w.os) (htape : w'.tape = w.tape) (hout : w'.output = w.output) : Rel w₀ S μ (h.put b p) w' := by
  have hblk : S.wr blk ∨ w₀.heap.size ≤ blk := by
    obtain ⟨k1, k2, k3, h1, _, h3⟩ := r.obj b o hb
    rw [hm] at h1; injection h1 with h1
    rw [show blk = k1 from congrArg (·.1) h1]
    exact h3 hrw
  refine { obj := ?_, sep := ?_, lt := ?_, new := r.new, vis := r.vis, keep := ?_, size := ?_, os := hos.trans r.os, tape := htape.trans r.tape, output := hout.trans r.output }
  · intro c q hc
    rw [H.get_put] at hc
    by_cases e : c = b
    · subst e
      rw [if_pos rfl] at hc; injection hc with hc; subst hc
      exact ⟨blk, base, lim, hm, hp, fun _ => hblk⟩
    · rw [if_neg e] at hc
      obtain ⟨k1, k2, k3, h1, h2, h3⟩ := r.obj c q hc
      have hne : blk ≠ k1 := r.sep b c o q _ _ (Ne.symm e) hb hc hrw hm h1
      exact ⟨k1, k2, k3, h1, OR.same (hheap _ (Ne.symm hne)) h2, h3⟩
  · intro c d q1 q2 x y hne hc hd hq hx hy
    rw [H.get_put] at hc hd
    by_cases e : c = b
    · subst e
      rw [if_neg (Ne.symm hne)] at hd
      exact r.sep c d o q2 x y hne hb hd hrw hx hy
    · rw [if_neg e] at hc
      by_cases e' : d = b
      · subst e'
        exact r.sep c d q1 o x y hne hc hb hq hx hy
      · rw [if_neg e'] at hd
        exact r.sep c d q1 q2 x y hne hc hd hq hx hy
  · intro c x hx; rw [hsize]; exact r.lt c x hx
  · intro k hk hs
    have : k ≠ blk := by
      rintro rfl
      rcases hblk with h1 | h1
      · exact hs h1
      · omega
    rw [hheap k this]; exact r.keep k hk hs
  · rw [hsize]; exact r.size
/-- What counts of the ideal memory is what stands at each number, and the next number. -/
theorem Rel.congr {w₀ : World} {S : Sc} {μ : Mu} {h h' : H} {w : World} (r : Rel w₀ S μ h w) (hg : ∀ b, h'.get b = h.get b) (hn : h'.next = h.next) : Rel w₀ S μ h' w :=
  { obj := fun b o hb => r.obj b o (by rw [← hg]; exact hb)
    sep := fun b c o p x y hne hb hc => r.sep b c o p x y hne (by rw [← hg]; exact hb) (by rw [← hg]; exact hc)
    lt := r.lt, new := fun b hb => r.new b (by rw [← hn]; exact hb), vis := r.vis, keep := r.keep, size := r.size, os := r.os, tape := r.tape, output := r.output }
/-- An object that may be written gets a new number. -/
theorem Rel.rename {w₀ : World} {S : Sc} {μ : Mu} {h : H} {w : World} (r : Rel w₀ S μ h w) {b : Nat} {p : Obj} {x : Nat × Nat × Nat} (hb : h.get b = some p) (hrw : p.rw = true) (hm : μ b = some x) :
    Rel w₀ S (μ.push h.next x) ((h.drop b).push p) w := by
  have hn := r.new h.next (Nat.le_refl _)
  have hle := Mu.le_push (x := x) hn
  have hnb : b ≠ h.next := by rintro rfl; rw [hn] at hm; cases hm
  have get : ∀ c o, ((h.drop b).push p).get c = some o → (c = h.next ∧ o = p) ∨ (c ≠ h.next ∧ c ≠ b ∧ h.get c = some o) := by
    intro c o hc
    rw [H.get_push] at hc
    have hd : (h.drop b).next = h.next := rfl
    rw [hd] at hc
    by_cases e : c = h.next
    · rw [if_pos e] at hc; injection hc with hc; exact .inl ⟨e, hc.symm⟩
    · rw [if_neg e, H.get_drop] at hc
      by_cases e' : c = b
      · rw [if_pos e'] at hc; cases hc
      · rw [if_neg e'] at hc; exact .inr ⟨e, e', hc⟩
  refine { obj := ?_, sep := ?_, lt := ?_, new := ?_, vis := ?_, keep := r.keep, size := r.size, os := r.os, tape := r.tape, output := r.output }
  · intro c o hc
    rcases get c o hc with ⟨rfl, rfl⟩ | ⟨e, e', hg⟩
    · obtain ⟨k1, k2, k3, h1, h2, h3⟩ := r.obj b _ hb
      rw [hm] at h1; injection h1 with h1; subst h1
      exact ⟨k1, k2, k3, Mu.push_same _ _ _, h2.mono hle, h3⟩
    · obtain ⟨k1, k2, k3, h1, h2, h3⟩ := r.obj c _ hg
      exact ⟨k1, k2, k3, hle _ _ h1, h2.mono hle, h3⟩
  · intro c d q1 q2 y z hne hc hd hq hy hz
    simp only [Mu.push] at hy hz
    rcases get c q1 hc with ⟨rfl, rfl⟩ | ⟨e, e', hg⟩
    · rcases get d q2 hd with ⟨rfl, rfl⟩ | ⟨f, f', hg'⟩
      · exact absurd rfl hne
      · rw [if_pos rfl] at hy; injection hy with hy; subst hy
        rw [if_neg f] at hz
        exact r.sep b d _ q2 _ _ (Ne.symm f') hb hg' hq hm hz
    · rcases get d q2 hd with ⟨rfl, rfl⟩ | ⟨f, f', hg'⟩
      · rw [if_pos rfl] at hz; injection hz with hz; subst hz
        rw [if_neg e] at hy
        exact r.sep c b q1 _ _ _ e' hg hb hq hy hm
      · rw [if_neg e] at hy; rw [if_neg f] at hz
        exact r.sep c d q1 q2 _ _ hne hg hg' hq hy hz
  · intro c y hy
    simp only [Mu.push] at hy
    by_cases e : c = h.next
    · rw [if_pos e] at hy; injection hy with hy; subst hy; exact r.lt _ _ hm
    · rw [if_neg e] at hy; exact r.lt _ _ hy
  · intro c hc
    simp only [H.push, H.drop] at hc
    simp only [Mu.push]
    rw [if_neg (by omega)]
    exact r.new c (by omega)
  · intro c y hy
    simp only [Mu.push] at hy
    by_cases e : c = h.next
    · rw [if_pos e] at hy; injection hy with hy; subst hy; exact r.vis _ _ hm
    · rw [if_neg e] at hy; exact r.vis _ _ hy
/-- An object may be forgotten. -/
theorem Rel.drop {w₀ : World} {S : Sc} {μ : Mu} {h : H} {w : World} (r : Rel w₀ S μ h w) (b : Nat) : Rel w₀ S μ (h.drop b) w :=
  { obj := fun c o hc => by
      rw [H.get_drop] at hc
      by_cases e : c = b
      · rw [if_pos e] at hc; cases hc
      · rw [if_neg e] at hc; exact r.obj c o hc
    sep := fun c d o p x y hne hc hd hr hx hy => by
      rw [H.get_drop] at hc hd
      by_cases e : c = b
      · rw [if_pos e] at hc; cases hc
      · by_cases e' : d = b
        · rw [if_pos e'] at hd; cases hd
        · rw [if_neg e] at hc; rw [if_neg e'] at hd
          exact r.sep c d o p x y hne hc hd hr hx hy
    lt := r.lt, new := r.new, vis := r.vis, keep := r.keep, size := r.size, os := r.os, tape := r.tape, output := r.output }

end Go.Proofs.YtblgpcijbdbeiaaDoor.I
