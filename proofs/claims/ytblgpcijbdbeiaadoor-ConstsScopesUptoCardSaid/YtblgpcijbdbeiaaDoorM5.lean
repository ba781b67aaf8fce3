/- M5: Law06: an expression's number: what (*Scope).eval comes to. Law06: (*Scope).Eval, Set, New. Law06: New, Set, num; literal expressions. Law06: diagnoses held against one another; whole numbers by bits. Law06: ConstsSums: whatever the numbers, the law returns true. Law06: ConstsSums, whole: whatever the numbers, true. Law06: small: whether an expression has few parts; it comes to a value. Law06: ConstsWays: of a choice the way that is not taken is not looked at: the run. Law06: ConstsWays: the run returns true. Law06: an expression that was read is a tree, of no more parts than its bulk. -/
import Derived.Test.YtblgpcijbdbeiaaDoorM4
import Derived.Test.YtblgpcijbdbeiaaDoorM3
import Derived.Test.YtblgpcijbdbeiaaDoorRows
namespace Go.Proofs.YtblgpcijbdbeiaaDoor
open Go I
set_option maxRecDepth 100000
set_option linter.unusedVariables false
set_option linter.unusedSimpArgs false

/-- two numbers under an operator; none: they are too large for it -/
def binF (op a b : Int) : Option Int :=
  if op = 13 then some (wr .i64 (a + b))
  else if op = 14 then some (wr .i64 (a - b))
  else if op = 17 then some (isF (decide (a < b)))
  else if op = 18 then some (isF (decide (a ≤ b)))
  else if op = 19 then some (isF (decide (b < a)))
  else if op = 20 then some (isF (decide (b ≤ a)))
  else if op = 21 then some (isF (decide (a = b)))
  else if op = 22 then some (isF (!decide (a = b)))
  else if op = 26 then some (isF (!decide (a = 0) && !decide (b = 0)))
  else if op = 27 then some (isF (!decide (a = 0) || !decide (b = 0)))
  else if op = 15 ∨ op = 16 then
    if b < 0 ∨ 31 < b then none
    else if op = 15 then some (wr .i64 (a * 2 ^ (min b.toNat IntKind.i64.bits)))
    else some (a.fdiv (2 ^ (min b.toNat IntKind.i64.bits)))
  else if a < 0 ∨ b < 0 then none
  else if op = 23 then some (IntKind.i64.wrap (BitVec.ofInt IntKind.i64.bits a &&& BitVec.ofInt IntKind.i64.bits b).toNat)
  else if op = 25 then some (IntKind.i64.wrap (BitVec.ofInt IntKind.i64.bits a ||| BitVec.ofInt IntKind.i64.bits b).toNat)
  else some (IntKind.i64.wrap (BitVec.ofInt IntKind.i64.bits a ^^^ BitVec.ofInt IntKind.i64.bits b).toNat)
inductive Res where
  | ok (n : Int)
  | er (at_ e : Int)
def Outs (c : CRes) (h : H) : Res → Prop
  | .ok v => ∃ h', c = .ok (.int .i64 v) h' ∧ Ex h h'
  | .er a e => ∃ h', c = .pan (refv a e) h' ∧ Ex h h'

theorem bin29 {op at_ : Int} {nm v : Bs} {pl : Bool} {K : IV} (hK : K.scalar = true) (a b : Int) {h : H} (g : Gd h) :
    Outs (CL tab2 29 [.agg (ecells op nm v pl K at_), .int .i64 a, .int .i64 b] h) h (match binF op a b with | some n => .ok n | none => .er at_ 61) := by
  obtain ⟨h1, e1, x1, c1⟩ := newI_ex g (ecells_scalar (op := op) (nm := nm) (v := v) (p := pl) (a := at_) hK)
  have g1 := x1.gd
  have fin : ∀ {n : Int}, t29_0 (CL tab2) (J29 tab2) (.agg (ecells op nm v pl K at_)) (.int .i64 a) (.int .i64 b) h = .ok (.int .i64 n) h1 → Outs (CL tab2 29 [.agg (ecells op nm v pl K at_), .int .i64 a, .int .i64 b] h) h (.ok n) :=
    fun e => ⟨h1, c29 step2 rfl rfl g e (by simp), x1⟩
  have ld := c1.ldAll (n := 6) rfl
  unfold binF
  by_cases h13 : op = 13
  · subst h13
    simp only [↓reduceIte]
    exact fin (by simp only [t29_0, IV.cells, e1, W, decide_eq_true_eq, Bool.not_eq_true', decide_eq_false_iff_not, Bool.false_eq_true, Bool.not_true, Bool.not_false, decide_true, decide_false, not_true_eq_false, not_false_eq_true, and_true, true_and, and_false, false_and, ne_eq, Nat.zero_add, Nat.add_zero, cond_true, cond_false, ↓reduceIte, reduceCtorEq, Nat.reduceAdd, Int.reduceEq, Int.reduceNe, Int.reduceLT, Int.reduceLE, Int.reduceAdd, Int.reduceSub, Int.reduceMul, Int.reduceNeg, Nat.reduceMul, List.getElem?_cons_zero, List.getElem?_cons_succ, c1.ld0, EC])
  by_cases h14 : op = 14
  · subst h14
    exact fin (by simp only [t29_0, IV.cells, e1, W, decide_eq_true_eq, Bool.not_eq_true', decide_eq_false_iff_not, Bool.false_eq_true, Bool.not_true, Bool.not_false, decide_true, decide_false, not_true_eq_false, not_false_eq_true, and_true, true_and, and_false, false_and, ne_eq, Nat.zero_add, Nat.add_zero, cond_true, cond_false, ↓reduceIte, reduceCtorEq, Nat.reduceAdd, Int.reduceEq, Int.reduceNe, Int.reduceLT, Int.reduceLE, Int.reduceAdd, Int.reduceSub, Int.reduceMul, Int.reduceNeg, Nat.reduceMul, List.getElem?_cons_zero, List.getElem?_cons_succ, c1.ld0, EC])
  by_cases h17 : op = 17
  · subst h17
    exact fin (by simp only [t29_0, IV.cells, e1, W, decide_eq_true_eq, Bool.not_eq_true', decide_eq_false_iff_not, Bool.false_eq_true, Bool.not_true, Bool.not_false, decide_true, decide_false, not_true_eq_false, not_false_eq_true, and_true, true_and, and_false, false_and, ne_eq, Nat.zero_add, Nat.add_zero, cond_true, cond_false, ↓reduceIte, reduceCtorEq, Nat.reduceAdd, Int.reduceEq, Int.reduceNe, Int.reduceLT, Int.reduceLE, Int.reduceAdd, Int.reduceSub, Int.reduceMul, Int.reduceNeg, Nat.reduceMul, List.getElem?_cons_zero, List.getElem?_cons_succ, c1.ld0, EC, is28 _ g1])
  by_cases h18 : op = 18
  · subst h18
    exact fin (by simp only [t29_0, IV.cells, e1, W, decide_eq_true_eq, Bool.not_eq_true', decide_eq_false_iff_not, Bool.false_eq_true, Bool.not_true, Bool.not_false, decide_true, decide_false, not_true_eq_false, not_false_eq_true, and_true, true_and, and_false, false_and, ne_eq, Nat.zero_add, Nat.add_zero, cond_true, cond_false, ↓reduceIte, reduceCtorEq, Nat.reduceAdd, Int.reduceEq, Int.reduceNe, Int.reduceLT, Int.reduceLE, Int.reduceAdd, Int.reduceSub, Int.reduceMul, Int.reduceNeg, Nat.reduceMul, List.getElem?_cons_zero, List.getElem?_cons_succ, c1.ld0, EC, is28 _ g1])
  by_cases h19 : op = 19
  · subst h19
    exact fin (by simp only [t29_0, IV.cells, e1, W, decide_eq_true_eq, Bool.not_eq_true', decide_eq_false_iff_not, Bool.false_eq_true, Bool.not_true, Bool.not_false, decide_true, decide_false, not_true_eq_false, not_false_eq_true, and_true, true_and, and_false, false_and, ne_eq, Nat.zero_add, Nat.add_zero, cond_true, cond_false, ↓reduceIte, reduceCtorEq, Nat.reduceAdd, Int.reduceEq, Int.reduceNe, Int.reduceLT, Int.reduceLE, Int.reduceAdd, Int.reduceSub, Int.reduceMul, Int.reduceNeg, Nat.reduceMul, List.getElem?_cons_zero, List.getElem?_cons_succ, c1.ld0, EC, is28 _ g1])
  by_cases h20 : op = 20
  · subst h20
    exact fin (by simp only [t29_0, IV.cells, e1, W, decide_eq_true_eq, Bool.not_eq_true', decide_eq_false_iff_not, Bool.false_eq_true, Bool.not_true, Bool.not_false, decide_true, decide_false, not_true_eq_false, not_false_eq_true, and_true, true_and, and_false, false_and, ne_eq, Nat.zero_add, Nat.add_zero, cond_true, cond_false, ↓reduceIte, reduceCtorEq, Nat.reduceAdd, Int.reduceEq, Int.reduceNe, Int.reduceLT, Int.reduceLE, Int.reduceAdd, Int.reduceSub, Int.reduceMul, Int.reduceNeg, Nat.reduceMul, List.getElem?_cons_zero, List.getElem?_cons_succ, c1.ld0, EC, is28 _ g1])
  by_cases h21 : op = 21
  · subst h21
    exact fin (by simp only [t29_0, IV.cells, e1, W, decide_eq_true_eq, Bool.not_eq_true', decide_eq_false_iff_not, Bool.false_eq_true, Bool.not_true, Bool.not_false, decide_true, decide_false, not_true_eq_false, not_false_eq_true, and_true, true_and, and_false, false_and, ne_eq, Nat.zero_add, Nat.add_zero, cond_true, cond_false, ↓reduceIte, reduceCtorEq, Nat.reduceAdd, Int.reduceEq, Int.reduceNe, Int.reduceLT, Int.reduceLE, Int.reduceAdd, Int.reduceSub, Int.reduceMul, Int.reduceNeg, Nat.reduceMul, List.getElem?_cons_zero, List.getElem?_cons_succ, c1.ld0, EC, is28 _ g1])
  by_cases h22 : op = 22
  · subst h22
    exact fin (by simp only [t29_0, IV.cells, e1, W, decide_eq_true_eq, Bool.not_eq_true', decide_eq_false_iff_not, Bool.false_eq_true, Bool.not_true, Bool.not_false, decide_true, decide_false, not_true_eq_false, not_false_eq_true, and_true, true_and, and_false, false_and, ne_eq, Nat.zero_add, Nat.add_zero, cond_true, cond_false, ↓reduceIte, reduceCtorEq, Nat.reduceAdd, Int.reduceEq, Int.reduceNe, Int.reduceLT, Int.reduceLE, Int.reduceAdd, Int.reduceSub, Int.reduceMul, Int.reduceNeg, Nat.reduceMul, List.getElem?_cons_zero, List.getElem?_cons_succ, c1.ld0, EC, is28 _ g1])
  by_cases h26 : op = 26
  · subst h26
    refine fin ?_
    by_cases ha : a = 0
    · simp only [t29_0, IV.cells, e1, W, decide_eq_true_eq, Bool.not_eq_true', decide_eq_false_iff_not, Bool.false_eq_true, Bool.not_true, Bool.not_false, decide_true, decide_false, not_true_eq_false, not_false_eq_true, and_true, true_and, and_false, false_and, ne_eq, Nat.zero_add, Nat.add_zero, cond_true, cond_false, ↓reduceIte, reduceCtorEq, Nat.reduceAdd, Int.reduceEq, Int.reduceNe, Int.reduceLT, Int.reduceLE, Int.reduceAdd, Int.reduceSub, Int.reduceMul, Int.reduceNeg, Nat.reduceMul, List.getElem?_cons_zero, List.getElem?_cons_succ, c1.ld0, EC, is28 _ g1, ha, Bool.and_self, Bool.or_self, Bool.true_or, Bool.false_or, Bool.false_and, Bool.true_and, Bool.and_true, Bool.and_false, Bool.or_false, Bool.or_true]
    · by_cases hb : b = 0
      · simp only [t29_0, IV.cells, e1, W, decide_eq_true_eq, Bool.not_eq_true', decide_eq_false_iff_not, Bool.false_eq_true, Bool.not_true, Bool.not_false, decide_true, decide_false, not_true_eq_false, not_false_eq_true, and_true, true_and, and_false, false_and, ne_eq, Nat.zero_add, Nat.add_zero, cond_true, cond_false, ↓reduceIte, reduceCtorEq, Nat.reduceAdd, Int.reduceEq, Int.reduceNe, Int.reduceLT, Int.reduceLE, Int.reduceAdd, Int.reduceSub, Int.reduceMul, Int.reduceNeg, Nat.reduceMul, List.getElem?_cons_zero, List.getElem?_cons_succ, c1.ld0, EC, is28 _ g1, ha, hb, Bool.and_self, Bool.or_self, Bool.true_or, Bool.false_or, Bool.false_and, Bool.true_and, Bool.and_true, Bool.and_false, Bool.or_false, Bool.or_true]
      · simp only [t29_0, IV.cells, e1, W, decide_eq_true_eq, Bool.not_eq_true', decide_eq_false_iff_not, Bool.false_eq_true, Bool.not_true, Bool.not_false, decide_true, decide_false, not_true_eq_false, not_false_eq_true, and_true, true_and, and_false, false_and, ne_eq, Nat.zero_add, Nat.add_zero, cond_true, cond_false, ↓reduceIte, reduceCtorEq, Nat.reduceAdd, Int.reduceEq, Int.reduceNe, Int.reduceLT, Int.reduceLE, Int.reduceAdd, Int.reduceSub, Int.reduceMul, Int.reduceNeg, Nat.reduceMul, List.getElem?_cons_zero, List.getElem?_cons_succ, c1.ld0, EC, is28 _ g1, ha, hb, Bool.and_self, Bool.or_self, Bool.true_or, Bool.false_or, Bool.false_and, Bool.true_and, Bool.and_true, Bool.and_false, Bool.or_false, Bool.or_true]
  by_cases h27 : op = 27
  · subst h27
    refine fin ?_
    by_cases ha : a = 0
    · by_cases hb : b = 0
      · simp only [t29_0, IV.cells, e1, W, decide_eq_true_eq, Bool.not_eq_true', decide_eq_false_iff_not, Bool.false_eq_true, Bool.not_true, Bool.not_false, decide_true, decide_false, not_true_eq_false, not_false_eq_true, and_true, true_and, and_false, false_and, ne_eq, Nat.zero_add, Nat.add_zero, cond_true, cond_false, ↓reduceIte, reduceCtorEq, Nat.reduceAdd, Int.reduceEq, Int.reduceNe, Int.reduceLT, Int.reduceLE, Int.reduceAdd, Int.reduceSub, Int.reduceMul, Int.reduceNeg, Nat.reduceMul, List.getElem?_cons_zero, List.getElem?_cons_succ, c1.ld0, EC, is28 _ g1, ha, hb, Bool.and_self, Bool.or_self, Bool.true_or, Bool.false_or, Bool.false_and, Bool.true_and, Bool.and_true, Bool.and_false, Bool.or_false, Bool.or_true]
      · simp only [t29_0, IV.cells, e1, W, decide_eq_true_eq, Bool.not_eq_true', decide_eq_false_iff_not, Bool.false_eq_true, Bool.not_true, Bool.not_false, decide_true, decide_false, not_true_eq_false, not_false_eq_true, and_true, true_and, and_false, false_and, ne_eq, Nat.zero_add, Nat.add_zero, cond_true, cond_false, ↓reduceIte, reduceCtorEq, Nat.reduceAdd, Int.reduceEq, Int.reduceNe, Int.reduceLT, Int.reduceLE, Int.reduceAdd, Int.reduceSub, Int.reduceMul, Int.reduceNeg, Nat.reduceMul, List.getElem?_cons_zero, List.getElem?_cons_succ, c1.ld0, EC, is28 _ g1, ha, hb, Bool.and_self, Bool.or_self, Bool.true_or, Bool.false_or, Bool.false_and, Bool.true_and, Bool.and_true, Bool.and_false, Bool.or_false, Bool.or_true]
    · simp only [t29_0, IV.cells, e1, W, decide_eq_true_eq, Bool.not_eq_true', decide_eq_false_iff_not, Bool.false_eq_true, Bool.not_true, Bool.not_false, decide_true, decide_false, not_true_eq_false, not_false_eq_true, and_true, true_and, and_false, false_and, ne_eq, Nat.zero_add, Nat.add_zero, cond_true, cond_false, ↓reduceIte, reduceCtorEq, Nat.reduceAdd, Int.reduceEq, Int.reduceNe, Int.reduceLT, Int.reduceLE, Int.reduceAdd, Int.reduceSub, Int.reduceMul, Int.reduceNeg, Nat.reduceMul, List.getElem?_cons_zero, List.getElem?_cons_succ, c1.ld0, EC, is28 _ g1, ha, Bool.and_self, Bool.or_self, Bool.true_or, Bool.false_or, Bool.false_and, Bool.true_and, Bool.and_true, Bool.and_false, Bool.or_false, Bool.or_true]
  simp only [h13, h14, h17, h18, h19, h20, h21, h22, h26, h27, if_false]
  have up : ∀ {r : CRes}, r ≠ .fail → J29 tab2 1 [.int .i64 a, .int .i64 b, .ptr h.next 0, .bool (decide (op = 15 ∨ op = 16))] h1 = r → CL tab2 29 [.agg (ecells op nm v pl K at_), .int .i64 a, .int .i64 b] h = r := by
    intro r hr e
    refine c29 step2 rfl rfl g ?_ hr
    by_cases h15 : op = 15
    · subst h15
      simp only [t29_0, IV.cells, e1, W, decide_eq_true_eq, Bool.not_eq_true', decide_eq_false_iff_not, Bool.false_eq_true, Bool.not_true, Bool.not_false, decide_true, decide_false, not_true_eq_false, not_false_eq_true, and_true, true_and, and_false, false_and, ne_eq, Nat.zero_add, Nat.add_zero, cond_true, cond_false, ↓reduceIte, reduceCtorEq, Nat.reduceAdd, Int.reduceEq, Int.reduceNe, Int.reduceLT, Int.reduceLE, Int.reduceAdd, Int.reduceSub, Int.reduceMul, Int.reduceNeg, Nat.reduceMul, List.getElem?_cons_zero, List.getElem?_cons_succ, c1.ld0, EC]
      simpa using e
    · simp only [t29_0, IV.cells, e1, W, decide_eq_true_eq, Bool.not_eq_true', decide_eq_false_iff_not, Bool.false_eq_true, Bool.not_true, Bool.not_false, decide_true, decide_false, not_true_eq_false, not_false_eq_true, and_true, true_and, and_false, false_and, ne_eq, Nat.zero_add, Nat.add_zero, cond_true, cond_false, ↓reduceIte, reduceCtorEq, Nat.reduceAdd, Int.reduceEq, Int.reduceNe, Int.reduceLT, Int.reduceLE, Int.reduceAdd, Int.reduceSub, Int.reduceMul, Int.reduceNeg, Nat.reduceMul, List.getElem?_cons_zero, List.getElem?_cons_succ, c1.ld0, EC, h13, h14, h15, h17, h18, h19, h20, h21, h22, h26, h27]
      simpa [h15] using e
  by_cases hs : op = 15 ∨ op = 16
  · simp only [hs, if_true, decide_true] at up ⊢
    by_cases hb : b < 0 ∨ 31 < b
    · simp only [hb, if_true]
      obtain ⟨h2, e2, x2⟩ := no26 (op := op) (at_ := at_) (nm := nm) (v := v) (pl := pl) hK 61 g1
      refine ⟨h2, up (by simp) (e29_1 ?_ (by simp)), x1.trans x2⟩
      by_cases hb0 : b < 0
      · simp only [t29_1, W, decide_eq_true_eq, Bool.not_eq_true', decide_eq_false_iff_not, Bool.false_eq_true, Bool.not_true, Bool.not_false, decide_true, decide_false, not_true_eq_false, not_false_eq_true, and_true, true_and, and_false, false_and, ne_eq, Nat.zero_add, Nat.add_zero, cond_true, cond_false, ↓reduceIte, reduceCtorEq, Nat.reduceAdd, Int.reduceEq, Int.reduceNe, Int.reduceLT, Int.reduceLE, Int.reduceAdd, Int.reduceSub, Int.reduceMul, Int.reduceNeg, Nat.reduceMul, List.getElem?_cons_zero, List.getElem?_cons_succ, hb0, ld, e2]
      · have hb1 := hb.resolve_left hb0
        simp only [t29_1, W, decide_eq_true_eq, Bool.not_eq_true', decide_eq_false_iff_not, Bool.false_eq_true, Bool.not_true, Bool.not_false, decide_true, decide_false, not_true_eq_false, not_false_eq_true, and_true, true_and, and_false, false_and, ne_eq, Nat.zero_add, Nat.add_zero, cond_true, cond_false, ↓reduceIte, reduceCtorEq, Nat.reduceAdd, Int.reduceEq, Int.reduceNe, Int.reduceLT, Int.reduceLE, Int.reduceAdd, Int.reduceSub, Int.reduceMul, Int.reduceNeg, Nat.reduceMul, List.getElem?_cons_zero, List.getElem?_cons_succ, hb0, hb1, ld, e2]
    · simp only [hb, if_false]
      have hb0 : ¬ b < 0 := fun h => hb (.inl h)
      have hb1 : ¬ 31 < b := fun h => hb (.inr h)
      by_cases h15 : op = 15
      · subst h15
        refine ⟨h1, up (by simp) (e29_1 ?_ (by simp)), x1⟩
        simp only [t29_1, W, decide_eq_true_eq, Bool.not_eq_true', decide_eq_false_iff_not, Bool.false_eq_true, Bool.not_true, Bool.not_false, decide_true, decide_false, not_true_eq_false, not_false_eq_true, and_true, true_and, and_false, false_and, ne_eq, Nat.zero_add, Nat.add_zero, cond_true, cond_false, ↓reduceIte, reduceCtorEq, Nat.reduceAdd, Int.reduceEq, Int.reduceNe, Int.reduceLT, Int.reduceLE, Int.reduceAdd, Int.reduceSub, Int.reduceMul, Int.reduceNeg, Nat.reduceMul, List.getElem?_cons_zero, List.getElem?_cons_succ, hb0, hb1]
        refine e29_2 ?_ (by simp)
        simp only [t29_2, W, decide_eq_true_eq, Bool.not_eq_true', decide_eq_false_iff_not, Bool.false_eq_true, Bool.not_true, Bool.not_false, decide_true, decide_false, not_true_eq_false, not_false_eq_true, and_true, true_and, and_false, false_and, ne_eq, Nat.zero_add, Nat.add_zero, cond_true, cond_false, ↓reduceIte, reduceCtorEq, Nat.reduceAdd, Int.reduceEq, Int.reduceNe, Int.reduceLT, Int.reduceLE, Int.reduceAdd, Int.reduceSub, Int.reduceMul, Int.reduceNeg, Nat.reduceMul, List.getElem?_cons_zero, List.getElem?_cons_succ, c1.ld0, EC, binN_shl .i64 .i64 a b (by omega)]
      · simp only [h15, if_false]
        refine ⟨h1, up (by simp) (e29_1 ?_ (by simp)), x1⟩
        simp only [t29_1, W, decide_eq_true_eq, Bool.not_eq_true', decide_eq_false_iff_not, Bool.false_eq_true, Bool.not_true, Bool.not_false, decide_true, decide_false, not_true_eq_false, not_false_eq_true, and_true, true_and, and_false, false_and, ne_eq, Nat.zero_add, Nat.add_zero, cond_true, cond_false, ↓reduceIte, reduceCtorEq, Nat.reduceAdd, Int.reduceEq, Int.reduceNe, Int.reduceLT, Int.reduceLE, Int.reduceAdd, Int.reduceSub, Int.reduceMul, Int.reduceNeg, Nat.reduceMul, List.getElem?_cons_zero, List.getElem?_cons_succ, hb0, hb1]
        refine e29_2 ?_ (by simp)
        simp only [t29_2, W, decide_eq_true_eq, Bool.not_eq_true', decide_eq_false_iff_not, Bool.false_eq_true, Bool.not_true, Bool.not_false, decide_true, decide_false, not_true_eq_false, not_false_eq_true, and_true, true_and, and_false, false_and, ne_eq, Nat.zero_add, Nat.add_zero, cond_true, cond_false, ↓reduceIte, reduceCtorEq, Nat.reduceAdd, Int.reduceEq, Int.reduceNe, Int.reduceLT, Int.reduceLE, Int.reduceAdd, Int.reduceSub, Int.reduceMul, Int.reduceNeg, Nat.reduceMul, List.getElem?_cons_zero, List.getElem?_cons_succ, c1.ld0, EC, binN_shr .i64 .i64 a b (by omega), h15]
  · simp only [hs, if_false, decide_false] at up ⊢
    by_cases hb : a < 0 ∨ b < 0
    · simp only [hb, if_true]
      obtain ⟨h2, e2, x2⟩ := no26 (op := op) (at_ := at_) (nm := nm) (v := v) (pl := pl) hK 61 g1
      refine ⟨h2, up (by simp) (e29_1 ?_ (by simp)), x1.trans x2⟩
      by_cases hb0 : a < 0
      · simp only [t29_1, W, decide_eq_true_eq, Bool.not_eq_true', decide_eq_false_iff_not, Bool.false_eq_true, Bool.not_true, Bool.not_false, decide_true, decide_false, not_true_eq_false, not_false_eq_true, and_true, true_and, and_false, false_and, ne_eq, Nat.zero_add, Nat.add_zero, cond_true, cond_false, ↓reduceIte, reduceCtorEq, Nat.reduceAdd, Int.reduceEq, Int.reduceNe, Int.reduceLT, Int.reduceLE, Int.reduceAdd, Int.reduceSub, Int.reduceMul, Int.reduceNeg, Nat.reduceMul, List.getElem?_cons_zero, List.getElem?_cons_succ, hb0, ld, e2]
      · have hb1 := hb.resolve_left hb0
        simp only [t29_1, W, decide_eq_true_eq, Bool.not_eq_true', decide_eq_false_iff_not, Bool.false_eq_true, Bool.not_true, Bool.not_false, decide_true, decide_false, not_true_eq_false, not_false_eq_true, and_true, true_and, and_false, false_and, ne_eq, Nat.zero_add, Nat.add_zero, cond_true, cond_false, ↓reduceIte, reduceCtorEq, Nat.reduceAdd, Int.reduceEq, Int.reduceNe, Int.reduceLT, Int.reduceLE, Int.reduceAdd, Int.reduceSub, Int.reduceMul, Int.reduceNeg, Nat.reduceMul, List.getElem?_cons_zero, List.getElem?_cons_succ, hb0, hb1, ld, e2]
    · simp only [hb, if_false]
      have hb0 : ¬ a < 0 := fun h => hb (.inl h)
      have hb1 : ¬ b < 0 := fun h => hb (.inr h)
      have e : ∀ {r : CRes}, r ≠ .fail → t29_3 (CL tab2) (J29 tab2) (.int .i64 a) (.int .i64 b) (.ptr h.next 0) h1 = r → CL tab2 29 [.agg (ecells op nm v pl K at_), .int .i64 a, .int .i64 b] h = r := fun {r} hr e => by
        refine up hr (e29_1 ?_ hr)
        simp only [t29_1, W, decide_eq_true_eq, Bool.not_eq_true', decide_eq_false_iff_not, Bool.false_eq_true, Bool.not_true, Bool.not_false, decide_true, decide_false, not_true_eq_false, not_false_eq_true, and_true, true_and, and_false, false_and, ne_eq, Nat.zero_add, Nat.add_zero, cond_true, cond_false, ↓reduceIte, reduceCtorEq, Nat.reduceAdd, Int.reduceEq, Int.reduceNe, Int.reduceLT, Int.reduceLE, Int.reduceAdd, Int.reduceSub, Int.reduceMul, Int.reduceNeg, Nat.reduceMul, List.getElem?_cons_zero, List.getElem?_cons_succ, hb0, hb1]
        exact e29_3 e hr
      by_cases h23 : op = 23
      · subst h23
        exact ⟨h1, e (by simp) (by simp only [t29_3, W, decide_eq_true_eq, Bool.not_eq_true', decide_eq_false_iff_not, Bool.false_eq_true, Bool.not_true, Bool.not_false, decide_true, decide_false, not_true_eq_false, not_false_eq_true, and_true, true_and, and_false, false_and, ne_eq, Nat.zero_add, Nat.add_zero, cond_true, cond_false, ↓reduceIte, reduceCtorEq, Nat.reduceAdd, Int.reduceEq, Int.reduceNe, Int.reduceLT, Int.reduceLE, Int.reduceAdd, Int.reduceSub, Int.reduceMul, Int.reduceNeg, Nat.reduceMul, List.getElem?_cons_zero, List.getElem?_cons_succ, c1.ld0, EC, binN_and]), x1⟩
      · by_cases h25 : op = 25
        · subst h25
          exact ⟨h1, e (by simp) (by simp only [t29_3, W, decide_eq_true_eq, Bool.not_eq_true', decide_eq_false_iff_not, Bool.false_eq_true, Bool.not_true, Bool.not_false, decide_true, decide_false, not_true_eq_false, not_false_eq_true, and_true, true_and, and_false, false_and, ne_eq, Nat.zero_add, Nat.add_zero, cond_true, cond_false, ↓reduceIte, reduceCtorEq, Nat.reduceAdd, Int.reduceEq, Int.reduceNe, Int.reduceLT, Int.reduceLE, Int.reduceAdd, Int.reduceSub, Int.reduceMul, Int.reduceNeg, Nat.reduceMul, List.getElem?_cons_zero, List.getElem?_cons_succ, c1.ld0, EC, binN_or]), x1⟩
        · simp only [h23, h25, if_false]
          exact ⟨h1, e (by simp) (by simp only [t29_3, W, decide_eq_true_eq, Bool.not_eq_true', decide_eq_false_iff_not, Bool.false_eq_true, Bool.not_true, Bool.not_false, decide_true, decide_false, not_true_eq_false, not_false_eq_true, and_true, true_and, and_false, false_and, ne_eq, Nat.zero_add, Nat.add_zero, cond_true, cond_false, ↓reduceIte, reduceCtorEq, Nat.reduceAdd, Int.reduceEq, Int.reduceNe, Int.reduceLT, Int.reduceLE, Int.reduceAdd, Int.reduceSub, Int.reduceMul, Int.reduceNeg, Nat.reduceMul, List.getElem?_cons_zero, List.getElem?_cons_succ, c1.ld0, EC, binN_xor, h23, h25]), x1⟩

/-! ### eval -/
def kidF (f : E → Res) (kids : List E) (i : Nat) : Res :=
  match kids[i]? with
  | some x => f x
  | none => .er 0 0
def evalF (s : Sc) : Nat → E → Res
  | 0, _ => .er 0 0
  | n + 1, .mk op nm v pl kids at_ =>
    if op = 1 then (if (numberM v).2 = 0 then .ok (numberM v).1 else .er at_ 60)
    else if op = 2 then (match getM s nm with | some k => .ok k | none => .er at_ 71)
    else if op = 9 then (if kids.length = 1 then (match kidF (evalF s n) kids 0 with | .ok k => .ok (wr .i64 (0 - k)) | r => r) else .er at_ 60)
    else if op = 8 then (if kids.length = 1 then (match kidF (evalF s n) kids 0 with | .ok k => .ok (isF (decide (k = 0))) | r => r) else .er at_ 60)
    else if op = 6 then (if kids.length = 3 then (match kidF (evalF s n) kids 0 with | .ok c => if c = 0 then kidF (evalF s n) kids 2 else kidF (evalF s n) kids 1 | r => r) else .er at_ 60)
    else if op < 13 ∨ 27 < op then .er at_ 60
    else if kids.length = 2 then
      (match kidF (evalF s n) kids 0 with
        | .ok a => (match kidF (evalF s n) kids 1 with
          | .ok b => (match binF op a b with
            | some k => if -2147483647 ≤ k ∧ k ≤ 2147483647 then .ok k else .er at_ 61
            | none => .er at_ 61)
          | r => r)
        | r => r)
    else .er at_ 60

theorem eval23 {s : Sc} : ∀ (n : Nat) (x : E) (cs : List IV) (h : H) (p : Nat), XR h n x cs → ScR h p s → Gd h → Outs (CL tab2 23 [.ptr p 0, .agg cs] h) h (evalF s n x) := by
  intro n
  induction n with
  | zero => intro x cs h p r; cases r
  | succ n ih =>
    intro x cs h p r sc g
    obtain ⟨op, nm, v, pl, kids, at_⟩ := x
    obtain ⟨K, rfl, hk⟩ := r
    have hK := hk.scalar
    have hlen := hk.len
    obtain ⟨h1, e1, x1, c1⟩ := newI_ex g (ecells_scalar (op := op) (nm := nm) (v := v) (p := pl) (a := at_) hK)
    have g1 := x1.gd
    have ld := c1.ldAll (n := 6) rfl
    -- kids, from a later memory
    have kid : ∀ {h2 : H}, Ex h1 h2 → ∀ (i : Nat) (x : E), kids[i]? = some x → ∃ q c, ixS 6 K (.int .i64 i) = some q ∧ ldA 6 h2 q = some (.agg c) ∧ Outs (CL tab2 23 [.ptr p 0, .agg c] h2) h2 (evalF s n x) := by
      intro h2 x2 i x hx
      have x02 := x1.trans x2
      obtain ⟨q, c, q1, q2, q3, _⟩ := (hk.mono x02.ext fun y c r => r.mono x02.ext n).ix hx
      exact ⟨q, c, q1 .i64, q2, ih x c h2 p q3 (sc.keep x02) x2.gd⟩
    have k27 := fun (m : Int) => kids27 (op := op) (at_ := at_) (nm := nm) (v := v) (pl := pl) hK hlen m g1
    have err : ∀ {e : Int} {h2 : H}, t23_0 (CL tab2) (J23 tab2) (.ptr p 0) (.agg (ecells op nm v pl K at_)) h = .pan (refv at_ e) h2 → Ex h1 h2 → Outs (CL tab2 23 [.ptr p 0, .agg (ecells op nm v pl K at_)] h) h (.er at_ e) :=
      fun e x => ⟨_, c23 step2 rfl rfl g e (by simp), x1.trans x⟩
    have fin : ∀ {k : Int} {h2 : H}, t23_0 (CL tab2) (J23 tab2) (.ptr p 0) (.agg (ecells op nm v pl K at_)) h = .ok (.int .i64 k) h2 → Ex h1 h2 → Outs (CL tab2 23 [.ptr p 0, .agg (ecells op nm v pl K at_)] h) h (.ok k) :=
      fun e x => ⟨_, c23 step2 rfl rfl g e (by simp), x1.trans x⟩
    unfold evalF
    by_cases o1 : op = 1
    · subst o1
      simp only [↓reduceIte]
      by_cases hn : (numberM v).2 = 0
      · simp only [hn, if_true]
        refine fin (h2 := h1) ?_ (.refl g1)
        simp only [t23_0, IV.cells, e1, W, decide_eq_true_eq, Bool.not_eq_true', decide_eq_false_iff_not, Bool.false_eq_true, Bool.not_true, Bool.not_false, decide_true, decide_false, not_true_eq_false, not_false_eq_true, and_true, true_and, and_false, false_and, ne_eq, Nat.zero_add, Nat.add_zero, cond_true, cond_false, ↓reduceIte, reduceCtorEq, Nat.reduceAdd, Int.reduceEq, Int.reduceNe, Int.reduceLT, Int.reduceLE, Int.reduceAdd, Int.reduceSub, Int.reduceMul, Int.reduceNeg, Nat.reduceMul, List.getElem?_cons_zero, List.getElem?_cons_succ, c1.ld0, EC, number v g1, hn]
        exact e23_1 rfl (by simp)
      · simp only [hn, if_false]
        obtain ⟨h2, e2, x2⟩ := no26 (op := 1) (at_ := at_) (nm := nm) (v := v) (pl := pl) hK 60 g1
        refine err (h2 := h2) ?_ x2
        simp only [t23_0, IV.cells, e1, W, decide_eq_true_eq, Bool.not_eq_true', decide_eq_false_iff_not, Bool.false_eq_true, Bool.not_true, Bool.not_false, decide_true, decide_false, not_true_eq_false, not_false_eq_true, and_true, true_and, and_false, false_and, ne_eq, Nat.zero_add, Nat.add_zero, cond_true, cond_false, ↓reduceIte, reduceCtorEq, Nat.reduceAdd, Int.reduceEq, Int.reduceNe, Int.reduceLT, Int.reduceLE, Int.reduceAdd, Int.reduceSub, Int.reduceMul, Int.reduceNeg, Nat.reduceMul, List.getElem?_cons_zero, List.getElem?_cons_succ, c1.ld0, EC, number v g1, hn, ld, e2]
    by_cases o2 : op = 2
    · subst o2
      obtain ⟨⟨m, es, clock, q1, q2, q3⟩, _⟩ := sc.keep x1
      simp only [Int.reduceEq, ↓reduceIte]
      cases hgm : getM s nm with
      | some k =>
        refine fin (h2 := h1) ?_ (.refl g1)
        simp only [t23_0, IV.cells, e1, W, decide_eq_true_eq, Bool.not_eq_true', decide_eq_false_iff_not, Bool.false_eq_true, Bool.not_true, Bool.not_false, decide_true, decide_false, not_true_eq_false, not_false_eq_true, and_true, true_and, and_false, false_and, ne_eq, Nat.zero_add, Nat.add_zero, cond_true, cond_false, ↓reduceIte, reduceCtorEq, Nat.reduceAdd, Int.reduceEq, Int.reduceNe, Int.reduceLT, Int.reduceLE, Int.reduceAdd, Int.reduceSub, Int.reduceMul, Int.reduceNeg, Nat.reduceMul, List.getElem?_cons_zero, List.getElem?_cons_succ, c1.ld0, EC, q1.ld0, look_get q2 q3, hgm]
        exact e23_2 rfl (by simp)
      | none =>
        obtain ⟨h2, e2, x2⟩ := no26 (op := 2) (at_ := at_) (nm := nm) (v := v) (pl := pl) hK 71 g1
        refine err (h2 := h2) ?_ x2
        simp only [t23_0, IV.cells, e1, W, decide_eq_true_eq, Bool.not_eq_true', decide_eq_false_iff_not, Bool.false_eq_true, Bool.not_true, Bool.not_false, decide_true, decide_false, not_true_eq_false, not_false_eq_true, and_true, true_and, and_false, false_and, ne_eq, Nat.zero_add, Nat.add_zero, cond_true, cond_false, ↓reduceIte, reduceCtorEq, Nat.reduceAdd, Int.reduceEq, Int.reduceNe, Int.reduceLT, Int.reduceLE, Int.reduceAdd, Int.reduceSub, Int.reduceMul, Int.reduceNeg, Nat.reduceMul, List.getElem?_cons_zero, List.getElem?_cons_succ, c1.ld0, EC, q1.ld0, look_get q2 q3, hgm, ld, e2]
    simp only [o1, o2, if_false]
    by_cases o9 : op = 9
    · subst o9
      simp only [↓reduceIte]
      by_cases hl : kids.length = 1
      · simp only [hl, if_true]
        obtain ⟨h2, e2, x2⟩ := (k27 1).1 (by omega)
        have hx : kids[0]? = some kids[0] := List.getElem?_eq_getElem (by omega)
        obtain ⟨q, c, e3, e4, o⟩ := kid x2 0 _ hx
        simp only [kidF, hx]
        cases hr : evalF s n kids[0] with
        | ok k =>
          rw [hr] at o
          obtain ⟨h3, e5, x3⟩ := o
          refine fin (h2 := h3) ?_ (x2.trans x3)
          simp only [t23_0, IV.cells, e1, W, decide_eq_true_eq, Bool.not_eq_true', decide_eq_false_iff_not, Bool.false_eq_true, Bool.not_true, Bool.not_false, decide_true, decide_false, not_true_eq_false, not_false_eq_true, and_true, true_and, and_false, false_and, ne_eq, Nat.zero_add, Nat.add_zero, cond_true, cond_false, ↓reduceIte, reduceCtorEq, Nat.reduceAdd, Int.reduceEq, Int.reduceNe, Int.reduceLT, Int.reduceLE, Int.reduceAdd, Int.reduceSub, Int.reduceMul, Int.reduceNeg, Nat.reduceMul, List.getElem?_cons_zero, List.getElem?_cons_succ, c1.ld0, EC, ld, e2, (c1.ex x2).ld0, Int.ofNat_zero] at e3 ⊢
          simp only [W, decide_eq_true_eq, Bool.not_eq_true', decide_eq_false_iff_not, Bool.false_eq_true, Bool.not_true, Bool.not_false, decide_true, decide_false, not_true_eq_false, not_false_eq_true, and_true, true_and, and_false, false_and, ne_eq, Nat.zero_add, Nat.add_zero, cond_true, cond_false, ↓reduceIte, reduceCtorEq, Nat.reduceAdd, Int.reduceEq, Int.reduceNe, Int.reduceLT, Int.reduceLE, Int.reduceAdd, Int.reduceSub, Int.reduceMul, Int.reduceNeg, Nat.reduceMul, List.getElem?_cons_zero, List.getElem?_cons_succ, e3, e4, e5]
        | er a e =>
          rw [hr] at o
          obtain ⟨h3, e5, x3⟩ := o
          refine ⟨h3, c23 step2 rfl rfl g ?_ (by simp), x1.trans (x2.trans x3)⟩
          simp only [t23_0, IV.cells, e1, W, decide_eq_true_eq, Bool.not_eq_true', decide_eq_false_iff_not, Bool.false_eq_true, Bool.not_true, Bool.not_false, decide_true, decide_false, not_true_eq_false, not_false_eq_true, and_true, true_and, and_false, false_and, ne_eq, Nat.zero_add, Nat.add_zero, cond_true, cond_false, ↓reduceIte, reduceCtorEq, Nat.reduceAdd, Int.reduceEq, Int.reduceNe, Int.reduceLT, Int.reduceLE, Int.reduceAdd, Int.reduceSub, Int.reduceMul, Int.reduceNeg, Nat.reduceMul, List.getElem?_cons_zero, List.getElem?_cons_succ, c1.ld0, EC, ld, e2, (c1.ex x2).ld0, Int.ofNat_zero] at e3 ⊢
          simp only [W, decide_eq_true_eq, Bool.not_eq_true', decide_eq_false_iff_not, Bool.false_eq_true, Bool.not_true, Bool.not_false, decide_true, decide_false, not_true_eq_false, not_false_eq_true, and_true, true_and, and_false, false_and, ne_eq, Nat.zero_add, Nat.add_zero, cond_true, cond_false, ↓reduceIte, reduceCtorEq, Nat.reduceAdd, Int.reduceEq, Int.reduceNe, Int.reduceLT, Int.reduceLE, Int.reduceAdd, Int.reduceSub, Int.reduceMul, Int.reduceNeg, Nat.reduceMul, List.getElem?_cons_zero, List.getElem?_cons_succ, e3, e4, e5]
      · simp only [hl, if_false]
        obtain ⟨h2, e2, x2⟩ := (k27 1).2 (by omega)
        refine err (h2 := h2) ?_ x2
        simp only [t23_0, IV.cells, e1, W, decide_eq_true_eq, Bool.not_eq_true', decide_eq_false_iff_not, Bool.false_eq_true, Bool.not_true, Bool.not_false, decide_true, decide_false, not_true_eq_false, not_false_eq_true, and_true, true_and, and_false, false_and, ne_eq, Nat.zero_add, Nat.add_zero, cond_true, cond_false, ↓reduceIte, reduceCtorEq, Nat.reduceAdd, Int.reduceEq, Int.reduceNe, Int.reduceLT, Int.reduceLE, Int.reduceAdd, Int.reduceSub, Int.reduceMul, Int.reduceNeg, Nat.reduceMul, List.getElem?_cons_zero, List.getElem?_cons_succ, c1.ld0, EC, ld, e2]
    by_cases o8 : op = 8
    · subst o8
      simp only [Int.reduceEq, ↓reduceIte]
      by_cases hl : kids.length = 1
      · simp only [hl, if_true]
        obtain ⟨h2, e2, x2⟩ := (k27 1).1 (by omega)
        have hx : kids[0]? = some kids[0] := List.getElem?_eq_getElem (by omega)
        obtain ⟨q, c, e3, e4, o⟩ := kid x2 0 _ hx
        simp only [kidF, hx]
        cases hr : evalF s n kids[0] with
        | ok k =>
          rw [hr] at o
          obtain ⟨h3, e5, x3⟩ := o
          refine fin (h2 := h3) ?_ (x2.trans x3)
          simp only [t23_0, IV.cells, e1, W, decide_eq_true_eq, Bool.not_eq_true', decide_eq_false_iff_not, Bool.false_eq_true, Bool.not_true, Bool.not_false, decide_true, decide_false, not_true_eq_false, not_false_eq_true, and_true, true_and, and_false, false_and, ne_eq, Nat.zero_add, Nat.add_zero, cond_true, cond_false, ↓reduceIte, reduceCtorEq, Nat.reduceAdd, Int.reduceEq, Int.reduceNe, Int.reduceLT, Int.reduceLE, Int.reduceAdd, Int.reduceSub, Int.reduceMul, Int.reduceNeg, Nat.reduceMul, List.getElem?_cons_zero, List.getElem?_cons_succ, c1.ld0, EC, ld, e2, (c1.ex x2).ld0, Int.ofNat_zero] at e3 ⊢
          simp only [W, decide_eq_true_eq, Bool.not_eq_true', decide_eq_false_iff_not, Bool.false_eq_true, Bool.not_true, Bool.not_false, decide_true, decide_false, not_true_eq_false, not_false_eq_true, and_true, true_and, and_false, false_and, ne_eq, Nat.zero_add, Nat.add_zero, cond_true, cond_false, ↓reduceIte, reduceCtorEq, Nat.reduceAdd, Int.reduceEq, Int.reduceNe, Int.reduceLT, Int.reduceLE, Int.reduceAdd, Int.reduceSub, Int.reduceMul, Int.reduceNeg, Nat.reduceMul, List.getElem?_cons_zero, List.getElem?_cons_succ, e3, e4, e5, is28 _ x3.gd]
        | er a e =>
          rw [hr] at o
          obtain ⟨h3, e5, x3⟩ := o
          refine ⟨h3, c23 step2 rfl rfl g ?_ (by simp), x1.trans (x2.trans x3)⟩
          simp only [t23_0, IV.cells, e1, W, decide_eq_true_eq, Bool.not_eq_true', decide_eq_false_iff_not, Bool.false_eq_true, Bool.not_true, Bool.not_false, decide_true, decide_false, not_true_eq_false, not_false_eq_true, and_true, true_and, and_false, false_and, ne_eq, Nat.zero_add, Nat.add_zero, cond_true, cond_false, ↓reduceIte, reduceCtorEq, Nat.reduceAdd, Int.reduceEq, Int.reduceNe, Int.reduceLT, Int.reduceLE, Int.reduceAdd, Int.reduceSub, Int.reduceMul, Int.reduceNeg, Nat.reduceMul, List.getElem?_cons_zero, List.getElem?_cons_succ, c1.ld0, EC, ld, e2, (c1.ex x2).ld0, Int.ofNat_zero] at e3 ⊢
          simp only [W, decide_eq_true_eq, Bool.not_eq_true', decide_eq_false_iff_not, Bool.false_eq_true, Bool.not_true, Bool.not_false, decide_true, decide_false, not_true_eq_false, not_false_eq_true, and_true, true_and, and_false, false_and, ne_eq, Nat.zero_add, Nat.add_zero, cond_true, cond_false, ↓reduceIte, reduceCtorEq, Nat.reduceAdd, Int.reduceEq, Int.reduceNe, Int.reduceLT, Int.reduceLE, Int.reduceAdd, Int.reduceSub, Int.reduceMul, Int.reduceNeg, Nat.reduceMul, List.getElem?_cons_zero, List.getElem?_cons_succ, e3, e4, e5]
      · simp only [hl, if_false]
        obtain ⟨h2, e2, x2⟩ := (k27 1).2 (by omega)
        refine err (h2 := h2) ?_ x2
        simp only [t23_0, IV.cells, e1, W, decide_eq_true_eq, Bool.not_eq_true', decide_eq_false_iff_not, Bool.false_eq_true, Bool.not_true, Bool.not_false, decide_true, decide_false, not_true_eq_false, not_false_eq_true, and_true, true_and, and_false, false_and, ne_eq, Nat.zero_add, Nat.add_zero, cond_true, cond_false, ↓reduceIte, reduceCtorEq, Nat.reduceAdd, Int.reduceEq, Int.reduceNe, Int.reduceLT, Int.reduceLE, Int.reduceAdd, Int.reduceSub, Int.reduceMul, Int.reduceNeg, Nat.reduceMul, List.getElem?_cons_zero, List.getElem?_cons_succ, c1.ld0, EC, ld, e2]
    by_cases o6 : op = 6
    · subst o6
      simp only [Int.reduceEq, ↓reduceIte]
      by_cases hl : kids.length = 3
      · simp only [hl, if_true]
        obtain ⟨h2, e2, x2⟩ := (k27 3).1 (by omega)
        have hx0 : kids[0]? = some kids[0] := List.getElem?_eq_getElem (by omega)
        have hx1 : kids[1]? = some kids[1] := List.getElem?_eq_getElem (by omega)
        have hx2 : kids[2]? = some kids[2] := List.getElem?_eq_getElem (by omega)
        obtain ⟨q, c, e3, e4, o⟩ := kid x2 0 _ hx0
        simp only [kidF, hx0, hx1, hx2]
        cases hr : evalF s n kids[0] with
        | er a e =>
          rw [hr] at o
          obtain ⟨h3, e5, x3⟩ := o
          refine ⟨h3, c23 step2 rfl rfl g ?_ (by simp), x1.trans (x2.trans x3)⟩
          simp only [t23_0, IV.cells, e1, W, decide_eq_true_eq, Bool.not_eq_true', decide_eq_false_iff_not, Bool.false_eq_true, Bool.not_true, Bool.not_false, decide_true, decide_false, not_true_eq_false, not_false_eq_true, and_true, true_and, and_false, false_and, ne_eq, Nat.zero_add, Nat.add_zero, cond_true, cond_false, ↓reduceIte, reduceCtorEq, Nat.reduceAdd, Int.reduceEq, Int.reduceNe, Int.reduceLT, Int.reduceLE, Int.reduceAdd, Int.reduceSub, Int.reduceMul, Int.reduceNeg, Nat.reduceMul, List.getElem?_cons_zero, List.getElem?_cons_succ, c1.ld0, EC, ld, e2, (c1.ex x2).ld0, Int.ofNat_zero] at e3 ⊢
          simp only [W, decide_eq_true_eq, Bool.not_eq_true', decide_eq_false_iff_not, Bool.false_eq_true, Bool.not_true, Bool.not_false, decide_true, decide_false, not_true_eq_false, not_false_eq_true, and_true, true_and, and_false, false_and, ne_eq, Nat.zero_add, Nat.add_zero, cond_true, cond_false, ↓reduceIte, reduceCtorEq, Nat.reduceAdd, Int.reduceEq, Int.reduceNe, Int.reduceLT, Int.reduceLE, Int.reduceAdd, Int.reduceSub, Int.reduceMul, Int.reduceNeg, Nat.reduceMul, List.getElem?_cons_zero, List.getElem?_cons_succ, e3, e4, e5]
        | ok k =>
          rw [hr] at o
          obtain ⟨h3, e5, x3⟩ := o
          have x23 := x2.trans x3
          by_cases hk0 : k = 0
          · simp only [hk0, if_true]
            obtain ⟨q', c', f3, f4, o'⟩ := kid x23 2 _ hx2
            cases hr2 : evalF s n kids[2] with
            | ok k' =>
              rw [hr2] at o'
              obtain ⟨h4, f5, x4⟩ := o'
              refine fin (h2 := h4) ?_ (x23.trans x4)
              simp only [t23_0, IV.cells, e1, W, decide_eq_true_eq, Bool.not_eq_true', decide_eq_false_iff_not, Bool.false_eq_true, Bool.not_true, Bool.not_false, decide_true, decide_false, not_true_eq_false, not_false_eq_true, and_true, true_and, and_false, false_and, ne_eq, Nat.zero_add, Nat.add_zero, cond_true, cond_false, ↓reduceIte, reduceCtorEq, Nat.reduceAdd, Int.reduceEq, Int.reduceNe, Int.reduceLT, Int.reduceLE, Int.reduceAdd, Int.reduceSub, Int.reduceMul, Int.reduceNeg, Nat.reduceMul, List.getElem?_cons_zero, List.getElem?_cons_succ, c1.ld0, EC, ld, e2, (c1.ex x2).ld0, Int.ofNat_zero] at e3 ⊢
              simp only [W, decide_eq_true_eq, Bool.not_eq_true', decide_eq_false_iff_not, Bool.false_eq_true, Bool.not_true, Bool.not_false, decide_true, decide_false, not_true_eq_false, not_false_eq_true, and_true, true_and, and_false, false_and, ne_eq, Nat.zero_add, Nat.add_zero, cond_true, cond_false, ↓reduceIte, reduceCtorEq, Nat.reduceAdd, Int.reduceEq, Int.reduceNe, Int.reduceLT, Int.reduceLE, Int.reduceAdd, Int.reduceSub, Int.reduceMul, Int.reduceNeg, Nat.reduceMul, List.getElem?_cons_zero, List.getElem?_cons_succ, e3, e4, e5, hk0, (c1.ex x23).ld0, EC]
              rw [show ixS 6 K (.int .i64 2) = some q' from f3]
              simp only [W, decide_eq_true_eq, Bool.not_eq_true', decide_eq_false_iff_not, Bool.false_eq_true, Bool.not_true, Bool.not_false, decide_true, decide_false, not_true_eq_false, not_false_eq_true, and_true, true_and, and_false, false_and, ne_eq, Nat.zero_add, Nat.add_zero, cond_true, cond_false, ↓reduceIte, reduceCtorEq, Nat.reduceAdd, Int.reduceEq, Int.reduceNe, Int.reduceLT, Int.reduceLE, Int.reduceAdd, Int.reduceSub, Int.reduceMul, Int.reduceNeg, Nat.reduceMul, List.getElem?_cons_zero, List.getElem?_cons_succ, f4, f5]
            | er a e =>
              rw [hr2] at o'
              obtain ⟨h4, f5, x4⟩ := o'
              refine ⟨h4, c23 step2 rfl rfl g ?_ (by simp), x1.trans (x23.trans x4)⟩
              simp only [t23_0, IV.cells, e1, W, decide_eq_true_eq, Bool.not_eq_true', decide_eq_false_iff_not, Bool.false_eq_true, Bool.not_true, Bool.not_false, decide_true, decide_false, not_true_eq_false, not_false_eq_true, and_true, true_and, and_false, false_and, ne_eq, Nat.zero_add, Nat.add_zero, cond_true, cond_false, ↓reduceIte, reduceCtorEq, Nat.reduceAdd, Int.reduceEq, Int.reduceNe, Int.reduceLT, Int.reduceLE, Int.reduceAdd, Int.reduceSub, Int.reduceMul, Int.reduceNeg, Nat.reduceMul, List.getElem?_cons_zero, List.getElem?_cons_succ, c1.ld0, EC, ld, e2, (c1.ex x2).ld0, Int.ofNat_zero] at e3 ⊢
              simp only [W, decide_eq_true_eq, Bool.not_eq_true', decide_eq_false_iff_not, Bool.false_eq_true, Bool.not_true, Bool.not_false, decide_true, decide_false, not_true_eq_false, not_false_eq_true, and_true, true_and, and_false, false_and, ne_eq, Nat.zero_add, Nat.add_zero, cond_true, cond_false, ↓reduceIte, reduceCtorEq, Nat.reduceAdd, Int.reduceEq, Int.reduceNe, Int.reduceLT, Int.reduceLE, Int.reduceAdd, Int.reduceSub, Int.reduceMul, Int.reduceNeg, Nat.reduceMul, List.getElem?_cons_zero, List.getElem?_cons_succ, e3, e4, e5, hk0, (c1.ex x23).ld0, EC]
              rw [show ixS 6 K (.int .i64 2) = some q' from f3]
              simp only [W, decide_eq_true_eq, Bool.not_eq_true', decide_eq_false_iff_not, Bool.false_eq_true, Bool.not_true, Bool.not_false, decide_true, decide_false, not_true_eq_false, not_false_eq_true, and_true, true_and, and_false, false_and, ne_eq, Nat.zero_add, Nat.add_zero, cond_true, cond_false, ↓reduceIte, reduceCtorEq, Nat.reduceAdd, Int.reduceEq, Int.reduceNe, Int.reduceLT, Int.reduceLE, Int.reduceAdd, Int.reduceSub, Int.reduceMul, Int.reduceNeg, Nat.reduceMul, List.getElem?_cons_zero, List.getElem?_cons_succ, f4, f5]
          · simp only [hk0, if_false]
            obtain ⟨q', c', f3, f4, o'⟩ := kid x23 1 _ hx1
            cases hr2 : evalF s n kids[1] with
            | ok k' =>
              rw [hr2] at o'
              obtain ⟨h4, f5, x4⟩ := o'
              refine fin (h2 := h4) ?_ (x23.trans x4)
              simp only [t23_0, IV.cells, e1, W, decide_eq_true_eq, Bool.not_eq_true', decide_eq_false_iff_not, Bool.false_eq_true, Bool.not_true, Bool.not_false, decide_true, decide_false, not_true_eq_false, not_false_eq_true, and_true, true_and, and_false, false_and, ne_eq, Nat.zero_add, Nat.add_zero, cond_true, cond_false, ↓reduceIte, reduceCtorEq, Nat.reduceAdd, Int.reduceEq, Int.reduceNe, Int.reduceLT, Int.reduceLE, Int.reduceAdd, Int.reduceSub, Int.reduceMul, Int.reduceNeg, Nat.reduceMul, List.getElem?_cons_zero, List.getElem?_cons_succ, c1.ld0, EC, ld, e2, (c1.ex x2).ld0, Int.ofNat_zero] at e3 ⊢
              simp only [W, decide_eq_true_eq, Bool.not_eq_true', decide_eq_false_iff_not, Bool.false_eq_true, Bool.not_true, Bool.not_false, decide_true, decide_false, not_true_eq_false, not_false_eq_true, and_true, true_and, and_false, false_and, ne_eq, Nat.zero_add, Nat.add_zero, cond_true, cond_false, ↓reduceIte, reduceCtorEq, Nat.reduceAdd, Int.reduceEq, Int.reduceNe, Int.reduceLT, Int.reduceLE, Int.reduceAdd, Int.reduceSub, Int.reduceMul, Int.reduceNeg, Nat.reduceMul, List.getElem?_cons_zero, List.getElem?_cons_succ, e3, e4, e5, hk0, (c1.ex x23).ld0, EC]
              rw [show ixS 6 K (.int .i64 1) = some q' from f3]
              simp only [W, decide_eq_true_eq, Bool.not_eq_true', decide_eq_false_iff_not, Bool.false_eq_true, Bool.not_true, Bool.not_false, decide_true, decide_false, not_true_eq_false, not_false_eq_true, and_true, true_and, and_false, false_and, ne_eq, Nat.zero_add, Nat.add_zero, cond_true, cond_false, ↓reduceIte, reduceCtorEq, Nat.reduceAdd, Int.reduceEq, Int.reduceNe, Int.reduceLT, Int.reduceLE, Int.reduceAdd, Int.reduceSub, Int.reduceMul, Int.reduceNeg, Nat.reduceMul, List.getElem?_cons_zero, List.getElem?_cons_succ, f4, f5]
            | er a e =>
              rw [hr2] at o'
              obtain ⟨h4, f5, x4⟩ := o'
              refine ⟨h4, c23 step2 rfl rfl g ?_ (by simp), x1.trans (x23.trans x4)⟩
              simp only [t23_0, IV.cells, e1, W, decide_eq_true_eq, Bool.not_eq_true', decide_eq_false_iff_not, Bool.false_eq_true, Bool.not_true, Bool.not_false, decide_true, decide_false, not_true_eq_false, not_false_eq_true, and_true, true_and, and_false, false_and, ne_eq, Nat.zero_add, Nat.add_zero, cond_true, cond_false, ↓reduceIte, reduceCtorEq, Nat.reduceAdd, Int.reduceEq, Int.reduceNe, Int.reduceLT, Int.reduceLE, Int.reduceAdd, Int.reduceSub, Int.reduceMul, Int.reduceNeg, Nat.reduceMul, List.getElem?_cons_zero, List.getElem?_cons_succ, c1.ld0, EC, ld, e2, (c1.ex x2).ld0, Int.ofNat_zero] at e3 ⊢
              simp only [W, decide_eq_true_eq, Bool.not_eq_true', decide_eq_false_iff_not, Bool.false_eq_true, Bool.not_true, Bool.not_false, decide_true, decide_false, not_true_eq_false, not_false_eq_true, and_true, true_and, and_false, false_and, ne_eq, Nat.zero_add, Nat.add_zero, cond_true, cond_false, ↓reduceIte, reduceCtorEq, Nat.reduceAdd, Int.reduceEq, Int.reduceNe, Int.reduceLT, Int.reduceLE, Int.reduceAdd, Int.reduceSub, Int.reduceMul, Int.reduceNeg, Nat.reduceMul, List.getElem?_cons_zero, List.getElem?_cons_succ, e3, e4, e5, hk0, (c1.ex x23).ld0, EC]
              rw [show ixS 6 K (.int .i64 1) = some q' from f3]
              simp only [W, decide_eq_true_eq, Bool.not_eq_true', decide_eq_false_iff_not, Bool.false_eq_true, Bool.not_true, Bool.not_false, decide_true, decide_false, not_true_eq_false, not_false_eq_true, and_true, true_and, and_false, false_and, ne_eq, Nat.zero_add, Nat.add_zero, cond_true, cond_false, ↓reduceIte, reduceCtorEq, Nat.reduceAdd, Int.reduceEq, Int.reduceNe, Int.reduceLT, Int.reduceLE, Int.reduceAdd, Int.reduceSub, Int.reduceMul, Int.reduceNeg, Nat.reduceMul, List.getElem?_cons_zero, List.getElem?_cons_succ, f4, f5]
      · simp only [hl, if_false]
        obtain ⟨h2, e2, x2⟩ := (k27 3).2 (by omega)
        refine err (h2 := h2) ?_ x2
        simp only [t23_0, IV.cells, e1, W, decide_eq_true_eq, Bool.not_eq_true', decide_eq_false_iff_not, Bool.false_eq_true, Bool.not_true, Bool.not_false, decide_true, decide_false, not_true_eq_false, not_false_eq_true, and_true, true_and, and_false, false_and, ne_eq, Nat.zero_add, Nat.add_zero, cond_true, cond_false, ↓reduceIte, reduceCtorEq, Nat.reduceAdd, Int.reduceEq, Int.reduceNe, Int.reduceLT, Int.reduceLE, Int.reduceAdd, Int.reduceSub, Int.reduceMul, Int.reduceNeg, Nat.reduceMul, List.getElem?_cons_zero, List.getElem?_cons_succ, c1.ld0, EC, ld, e2]
    simp only [o9, o8, o6, if_false]
    by_cases ob : op < 13 ∨ 27 < op
    · simp only [ob, if_true]
      obtain ⟨h2, e2, x2⟩ := no26 (op := op) (at_ := at_) (nm := nm) (v := v) (pl := pl) hK 60 g1
      refine err (h2 := h2) ?_ x2
      by_cases ob0 : op < 13
      · simp only [t23_0, IV.cells, e1, W, decide_eq_true_eq, Bool.not_eq_true', decide_eq_false_iff_not, Bool.false_eq_true, Bool.not_true, Bool.not_false, decide_true, decide_false, not_true_eq_false, not_false_eq_true, and_true, true_and, and_false, false_and, ne_eq, Nat.zero_add, Nat.add_zero, cond_true, cond_false, ↓reduceIte, reduceCtorEq, Nat.reduceAdd, Int.reduceEq, Int.reduceNe, Int.reduceLT, Int.reduceLE, Int.reduceAdd, Int.reduceSub, Int.reduceMul, Int.reduceNeg, Nat.reduceMul, List.getElem?_cons_zero, List.getElem?_cons_succ, c1.ld0, EC, o1, o2, o9, o8, o6, ob0, ld, e2]
      · have ob1 := ob.resolve_left ob0
        simp only [t23_0, IV.cells, e1, W, decide_eq_true_eq, Bool.not_eq_true', decide_eq_false_iff_not, Bool.false_eq_true, Bool.not_true, Bool.not_false, decide_true, decide_false, not_true_eq_false, not_false_eq_true, and_true, true_and, and_false, false_and, ne_eq, Nat.zero_add, Nat.add_zero, cond_true, cond_false, ↓reduceIte, reduceCtorEq, Nat.reduceAdd, Int.reduceEq, Int.reduceNe, Int.reduceLT, Int.reduceLE, Int.reduceAdd, Int.reduceSub, Int.reduceMul, Int.reduceNeg, Nat.reduceMul, List.getElem?_cons_zero, List.getElem?_cons_succ, c1.ld0, EC, o1, o2, o9, o8, o6, ob0, ob1, ld, e2]
    · have ob0 : ¬ op < 13 := fun h => ob (.inl h)
      have ob1 : ¬ 27 < op := fun h => ob (.inr h)
      have up : ∀ {r : CRes}, r ≠ .fail → t23_3 (CL tab2) (J23 tab2) (.ptr p 0) (.ptr h.next 0) h1 = r → CL tab2 23 [.ptr p 0, .agg (ecells op nm v pl K at_)] h = r := fun {r} hr e => by
        refine c23 step2 rfl rfl g ?_ hr
        simp only [t23_0, IV.cells, e1, W, decide_eq_true_eq, Bool.not_eq_true', decide_eq_false_iff_not, Bool.false_eq_true, Bool.not_true, Bool.not_false, decide_true, decide_false, not_true_eq_false, not_false_eq_true, and_true, true_and, and_false, false_and, ne_eq, Nat.zero_add, Nat.add_zero, cond_true, cond_false, ↓reduceIte, reduceCtorEq, Nat.reduceAdd, Int.reduceEq, Int.reduceNe, Int.reduceLT, Int.reduceLE, Int.reduceAdd, Int.reduceSub, Int.reduceMul, Int.reduceNeg, Nat.reduceMul, List.getElem?_cons_zero, List.getElem?_cons_succ, c1.ld0, EC, o1, o2, o9, o8, o6, ob0, ob1]
        exact e23_3 e hr
      simp only [ob, if_false]
      by_cases hl : kids.length = 2
      · simp only [hl, if_true]
        obtain ⟨h2, e2, x2⟩ := (k27 2).1 (by omega)
        have hx0 : kids[0]? = some kids[0] := List.getElem?_eq_getElem (by omega)
        have hx1 : kids[1]? = some kids[1] := List.getElem?_eq_getElem (by omega)
        obtain ⟨q, c, e3, e4, o⟩ := kid x2 0 _ hx0
        simp only [kidF, hx0, hx1]
        cases hr : evalF s n kids[0] with
        | er a e =>
          rw [hr] at o
          obtain ⟨h3, e5, x3⟩ := o
          refine ⟨h3, up (by simp) ?_, x1.trans (x2.trans x3)⟩
          simp only [t23_3, W, decide_eq_true_eq, Bool.not_eq_true', decide_eq_false_iff_not, Bool.false_eq_true, Bool.not_true, Bool.not_false, decide_true, decide_false, not_true_eq_false, not_false_eq_true, and_true, true_and, and_false, false_and, ne_eq, Nat.zero_add, Nat.add_zero, cond_true, cond_false, ↓reduceIte, reduceCtorEq, Nat.reduceAdd, Int.reduceEq, Int.reduceNe, Int.reduceLT, Int.reduceLE, Int.reduceAdd, Int.reduceSub, Int.reduceMul, Int.reduceNeg, Nat.reduceMul, List.getElem?_cons_zero, List.getElem?_cons_succ, c1.ld0, EC, ld, e2, (c1.ex x2).ld0, Int.ofNat_zero] at e3 ⊢
          simp only [W, decide_eq_true_eq, Bool.not_eq_true', decide_eq_false_iff_not, Bool.false_eq_true, Bool.not_true, Bool.not_false, decide_true, decide_false, not_true_eq_false, not_false_eq_true, and_true, true_and, and_false, false_and, ne_eq, Nat.zero_add, Nat.add_zero, cond_true, cond_false, ↓reduceIte, reduceCtorEq, Nat.reduceAdd, Int.reduceEq, Int.reduceNe, Int.reduceLT, Int.reduceLE, Int.reduceAdd, Int.reduceSub, Int.reduceMul, Int.reduceNeg, Nat.reduceMul, List.getElem?_cons_zero, List.getElem?_cons_succ, e3, e4, e5]
        | ok a =>
          rw [hr] at o
          obtain ⟨h3, e5, x3⟩ := o
          have x23 := x2.trans x3
          obtain ⟨q', c', f3, f4, o'⟩ := kid x23 1 _ hx1
          cases hr2 : evalF s n kids[1] with
          | er a' e =>
            rw [hr2] at o'
            obtain ⟨h4, f5, x4⟩ := o'
            refine ⟨h4, up (by simp) ?_, x1.trans (x23.trans x4)⟩
            simp only [t23_3, W, decide_eq_true_eq, Bool.not_eq_true', decide_eq_false_iff_not, Bool.false_eq_true, Bool.not_true, Bool.not_false, decide_true, decide_false, not_true_eq_false, not_false_eq_true, and_true, true_and, and_false, false_and, ne_eq, Nat.zero_add, Nat.add_zero, cond_true, cond_false, ↓reduceIte, reduceCtorEq, Nat.reduceAdd, Int.reduceEq, Int.reduceNe, Int.reduceLT, Int.reduceLE, Int.reduceAdd, Int.reduceSub, Int.reduceMul, Int.reduceNeg, Nat.reduceMul, List.getElem?_cons_zero, List.getElem?_cons_succ, c1.ld0, EC, ld, e2, (c1.ex x2).ld0, Int.ofNat_zero] at e3 ⊢
            simp only [W, decide_eq_true_eq, Bool.not_eq_true', decide_eq_false_iff_not, Bool.false_eq_true, Bool.not_true, Bool.not_false, decide_true, decide_false, not_true_eq_false, not_false_eq_true, and_true, true_and, and_false, false_and, ne_eq, Nat.zero_add, Nat.add_zero, cond_true, cond_false, ↓reduceIte, reduceCtorEq, Nat.reduceAdd, Int.reduceEq, Int.reduceNe, Int.reduceLT, Int.reduceLE, Int.reduceAdd, Int.reduceSub, Int.reduceMul, Int.reduceNeg, Nat.reduceMul, List.getElem?_cons_zero, List.getElem?_cons_succ, e3, e4, e5, (c1.ex x23).ld0, EC, (c1.ex x23).ldAll (n := 6) rfl]
            rw [show ixS 6 K (.int .i64 1) = some q' from f3]
            simp only [W, decide_eq_true_eq, Bool.not_eq_true', decide_eq_false_iff_not, Bool.false_eq_true, Bool.not_true, Bool.not_false, decide_true, decide_false, not_true_eq_false, not_false_eq_true, and_true, true_and, and_false, false_and, ne_eq, Nat.zero_add, Nat.add_zero, cond_true, cond_false, ↓reduceIte, reduceCtorEq, Nat.reduceAdd, Int.reduceEq, Int.reduceNe, Int.reduceLT, Int.reduceLE, Int.reduceAdd, Int.reduceSub, Int.reduceMul, Int.reduceNeg, Nat.reduceMul, List.getElem?_cons_zero, List.getElem?_cons_succ, f4, f5]
          | ok b =>
            rw [hr2] at o'
            obtain ⟨h4, f5, x4⟩ := o'
            have x24 := x23.trans x4
            have ob29 := bin29 (op := op) (at_ := at_) (nm := nm) (v := v) (pl := pl) hK a b x4.gd
            simp only
            have walk : ∀ {r : CRes} (k : IV → H → CRes), True := fun _ => trivial
            cases hb : binF op a b with
            | none =>
              rw [hb] at ob29
              obtain ⟨h5, b5, x5⟩ := ob29
              refine ⟨h5, up (by simp) ?_, x1.trans (x24.trans x5)⟩
              simp only [t23_3, W, decide_eq_true_eq, Bool.not_eq_true', decide_eq_false_iff_not, Bool.false_eq_true, Bool.not_true, Bool.not_false, decide_true, decide_false, not_true_eq_false, not_false_eq_true, and_true, true_and, and_false, false_and, ne_eq, Nat.zero_add, Nat.add_zero, cond_true, cond_false, ↓reduceIte, reduceCtorEq, Nat.reduceAdd, Int.reduceEq, Int.reduceNe, Int.reduceLT, Int.reduceLE, Int.reduceAdd, Int.reduceSub, Int.reduceMul, Int.reduceNeg, Nat.reduceMul, List.getElem?_cons_zero, List.getElem?_cons_succ, c1.ld0, EC, ld, e2, (c1.ex x2).ld0, Int.ofNat_zero] at e3 ⊢
              simp only [W, decide_eq_true_eq, Bool.not_eq_true', decide_eq_false_iff_not, Bool.false_eq_true, Bool.not_true, Bool.not_false, decide_true, decide_false, not_true_eq_false, not_false_eq_true, and_true, true_and, and_false, false_and, ne_eq, Nat.zero_add, Nat.add_zero, cond_true, cond_false, ↓reduceIte, reduceCtorEq, Nat.reduceAdd, Int.reduceEq, Int.reduceNe, Int.reduceLT, Int.reduceLE, Int.reduceAdd, Int.reduceSub, Int.reduceMul, Int.reduceNeg, Nat.reduceMul, List.getElem?_cons_zero, List.getElem?_cons_succ, e3, e4, e5, (c1.ex x23).ld0, EC, (c1.ex x23).ldAll (n := 6) rfl]
              rw [show ixS 6 K (.int .i64 1) = some q' from f3]
              simp only [W, decide_eq_true_eq, Bool.not_eq_true', decide_eq_false_iff_not, Bool.false_eq_true, Bool.not_true, Bool.not_false, decide_true, decide_false, not_true_eq_false, not_false_eq_true, and_true, true_and, and_false, false_and, ne_eq, Nat.zero_add, Nat.add_zero, cond_true, cond_false, ↓reduceIte, reduceCtorEq, Nat.reduceAdd, Int.reduceEq, Int.reduceNe, Int.reduceLT, Int.reduceLE, Int.reduceAdd, Int.reduceSub, Int.reduceMul, Int.reduceNeg, Nat.reduceMul, List.getElem?_cons_zero, List.getElem?_cons_succ, f4, f5, (c1.ex x24).ldAll (n := 6) rfl, b5]
            | some k =>
              rw [hb] at ob29
              obtain ⟨h5, b5, x5⟩ := ob29
              have x25 := x24.trans x5
              have m21 := may21 k x5.gd
              by_cases hm : -2147483647 ≤ k ∧ k ≤ 2147483647
              · simp only [hm, and_self, if_true]
                refine ⟨h5, up (by simp) ?_, x1.trans x25⟩
                simp only [t23_3, W, decide_eq_true_eq, Bool.not_eq_true', decide_eq_false_iff_not, Bool.false_eq_true, Bool.not_true, Bool.not_false, decide_true, decide_false, not_true_eq_false, not_false_eq_true, and_true, true_and, and_false, false_and, ne_eq, Nat.zero_add, Nat.add_zero, cond_true, cond_false, ↓reduceIte, reduceCtorEq, Nat.reduceAdd, Int.reduceEq, Int.reduceNe, Int.reduceLT, Int.reduceLE, Int.reduceAdd, Int.reduceSub, Int.reduceMul, Int.reduceNeg, Nat.reduceMul, List.getElem?_cons_zero, List.getElem?_cons_succ, c1.ld0, EC, ld, e2, (c1.ex x2).ld0, Int.ofNat_zero] at e3 ⊢
                simp only [W, decide_eq_true_eq, Bool.not_eq_true', decide_eq_false_iff_not, Bool.false_eq_true, Bool.not_true, Bool.not_false, decide_true, decide_false, not_true_eq_false, not_false_eq_true, and_true, true_and, and_false, false_and, ne_eq, Nat.zero_add, Nat.add_zero, cond_true, cond_false, ↓reduceIte, reduceCtorEq, Nat.reduceAdd, Int.reduceEq, Int.reduceNe, Int.reduceLT, Int.reduceLE, Int.reduceAdd, Int.reduceSub, Int.reduceMul, Int.reduceNeg, Nat.reduceMul, List.getElem?_cons_zero, List.getElem?_cons_succ, e3, e4, e5, (c1.ex x23).ld0, EC, (c1.ex x23).ldAll (n := 6) rfl]
                rw [show ixS 6 K (.int .i64 1) = some q' from f3]
                simp only [W, decide_eq_true_eq, Bool.not_eq_true', decide_eq_false_iff_not, Bool.false_eq_true, Bool.not_true, Bool.not_false, decide_true, decide_false, not_true_eq_false, not_false_eq_true, and_true, true_and, and_false, false_and, ne_eq, Nat.zero_add, Nat.add_zero, cond_true, cond_false, ↓reduceIte, reduceCtorEq, Nat.reduceAdd, Int.reduceEq, Int.reduceNe, Int.reduceLT, Int.reduceLE, Int.reduceAdd, Int.reduceSub, Int.reduceMul, Int.reduceNeg, Nat.reduceMul, List.getElem?_cons_zero, List.getElem?_cons_succ, f4, f5, (c1.ex x24).ldAll (n := 6) rfl, b5, m21, hm, and_self]
                exact e23_4 rfl (by simp)
              · simp only [hm, if_false]
                obtain ⟨h6, e6, x6⟩ := no26 (op := op) (at_ := at_) (nm := nm) (v := v) (pl := pl) hK 61 x5.gd
                refine ⟨h6, up (by simp) ?_, x1.trans (x25.trans x6)⟩
                simp only [t23_3, W, decide_eq_true_eq, Bool.not_eq_true', decide_eq_false_iff_not, Bool.false_eq_true, Bool.not_true, Bool.not_false, decide_true, decide_false, not_true_eq_false, not_false_eq_true, and_true, true_and, and_false, false_and, ne_eq, Nat.zero_add, Nat.add_zero, cond_true, cond_false, ↓reduceIte, reduceCtorEq, Nat.reduceAdd, Int.reduceEq, Int.reduceNe, Int.reduceLT, Int.reduceLE, Int.reduceAdd, Int.reduceSub, Int.reduceMul, Int.reduceNeg, Nat.reduceMul, List.getElem?_cons_zero, List.getElem?_cons_succ, c1.ld0, EC, ld, e2, (c1.ex x2).ld0, Int.ofNat_zero] at e3 ⊢
                simp only [W, decide_eq_true_eq, Bool.not_eq_true', decide_eq_false_iff_not, Bool.false_eq_true, Bool.not_true, Bool.not_false, decide_true, decide_false, not_true_eq_false, not_false_eq_true, and_true, true_and, and_false, false_and, ne_eq, Nat.zero_add, Nat.add_zero, cond_true, cond_false, ↓reduceIte, reduceCtorEq, Nat.reduceAdd, Int.reduceEq, Int.reduceNe, Int.reduceLT, Int.reduceLE, Int.reduceAdd, Int.reduceSub, Int.reduceMul, Int.reduceNeg, Nat.reduceMul, List.getElem?_cons_zero, List.getElem?_cons_succ, e3, e4, e5, (c1.ex x23).ld0, EC, (c1.ex x23).ldAll (n := 6) rfl]
                rw [show ixS 6 K (.int .i64 1) = some q' from f3]
                simp only [W, decide_eq_true_eq, Bool.not_eq_true', decide_eq_false_iff_not, Bool.false_eq_true, Bool.not_true, Bool.not_false, decide_true, decide_false, not_true_eq_false, not_false_eq_true, and_true, true_and, and_false, false_and, ne_eq, Nat.zero_add, Nat.add_zero, cond_true, cond_false, ↓reduceIte, reduceCtorEq, Nat.reduceAdd, Int.reduceEq, Int.reduceNe, Int.reduceLT, Int.reduceLE, Int.reduceAdd, Int.reduceSub, Int.reduceMul, Int.reduceNeg, Nat.reduceMul, List.getElem?_cons_zero, List.getElem?_cons_succ, f4, f5, (c1.ex x24).ldAll (n := 6) rfl, b5, m21, hm, (c1.ex x25).ldAll (n := 6) rfl, e6]
      · simp only [hl, if_false]
        obtain ⟨h2, e2, x2⟩ := (k27 2).2 (by omega)
        refine ⟨h2, up (by simp) ?_, x1.trans x2⟩
        simp only [t23_3, W, decide_eq_true_eq, Bool.not_eq_true', decide_eq_false_iff_not, Bool.false_eq_true, Bool.not_true, Bool.not_false, decide_true, decide_false, not_true_eq_false, not_false_eq_true, and_true, true_and, and_false, false_and, ne_eq, Nat.zero_add, Nat.add_zero, cond_true, cond_false, ↓reduceIte, reduceCtorEq, Nat.reduceAdd, Int.reduceEq, Int.reduceNe, Int.reduceLT, Int.reduceLE, Int.reduceAdd, Int.reduceSub, Int.reduceMul, Int.reduceNeg, Nat.reduceMul, List.getElem?_cons_zero, List.getElem?_cons_succ, ld, e2]

end Go.Proofs.YtblgpcijbdbeiaaDoor

namespace Go.Proofs.YtblgpcijbdbeiaaDoor
open Go I
set_option maxRecDepth 100000
set_option linter.unusedVariables false
set_option linter.unusedSimpArgs false

theorem given20 {s : Sc} {h : H} {p : Nat} (sc : ScR h p s) (g : Gd h) : CL tab2 20 [.ptr p 0] h = .ok (.bool true) h := by
  obtain ⟨⟨m, es, clock, q1, q2, q3⟩, _⟩ := sc
  refine c20 step2 rfl rfl g ?_ (by simp)
  simp only [t20_0, W, decide_eq_true_eq, Bool.not_eq_true', decide_eq_false_iff_not, Bool.false_eq_true, Bool.not_true, Bool.not_false, decide_true, decide_false, not_true_eq_false, not_false_eq_true, and_true, true_and, and_false, false_and, ne_eq, Nat.zero_add, Nat.add_zero, cond_true, cond_false, ↓reduceIte, reduceCtorEq, Nat.reduceAdd, Int.reduceEq, Int.reduceNe, Int.reduceLT, Int.reduceLE, Int.reduceAdd, Int.reduceSub, Int.reduceMul, Int.reduceNeg, Nat.reduceMul, List.getElem?_cons_zero, List.getElem?_cons_succ, q1.ld0]
/-- what Eval answers: a number, a diagnosis -/
def ansN : Res → Int
  | .ok n => n
  | .er _ _ => 0
def ansD : Res → Int × Int
  | .ok _ => (0, 0)
  | .er a e => (a, e)
def dg (d : Int × Int) : List IV := [.int .i64 d.1, .int .i64 d.2]
def ans (r : Res) : IV := .tup [.int .i64 (ansN r), .agg (dg (ansD r))]
theorem bldD0 : bldK [.int .i64 0, .int .i64 0] [(0, 1), (1, 1)] [] = some (.agg (dg (0, 0))) := rfl
theorem bldD2 (a b : Int) : bldK [.int .i64 0, .int .i64 0] [(0, 1), (1, 1)] [(0, .int .i64 a), (1, .int .i64 b)] = some (.agg (dg (a, b))) := rfl
theorem eval12 {s : Sc} {n : Nat} {x : E} {cs : List IV} {h : H} {p : Nat} (r : XR h n x cs) (sc : ScR h p s) (g : Gd h) : ∃ h', CL tab2 12 [.ptr p 0, .agg cs] h = .ok (ans (evalF s n x)) h' ∧ Ex h h' := by
  obtain ⟨b1, h2, e2, l2⟩ := (Lv.start g).newI r.scalar.1
  obtain ⟨b3, h4, e4, l4⟩ := l2.newI (cs := [.int .i64 0]) rfl
  obtain ⟨b5, h6, e6, l6⟩ := l4.newI (cs := [.int .i64 0, .int .i64 0]) rfl
  have e20 := given20 (sc.keep l6.ex) l6.gd
  have ld1 := l6.ldA 2 rfl (n := 6) r.scalar.2.symm
  have o := eval23 n x cs h6 p (r.mono l6.ex.ext) (sc.keep l6.ex) l6.gd
  cases hr : evalF s n x with
  | ok v =>
    rw [hr] at o
    obtain ⟨h20, e23, x20⟩ := o
    have l20 := l6.go x20
    obtain ⟨h22, e22, l22'⟩ := l20.set 1 rfl (n := 1) (v := .int .i64 v) rfl rfl rfl
    obtain ⟨h23, e23', l23⟩ := l22'.set 0 rfl (n := 2) (v := .agg (dg (0, 0))) rfl rfl rfl
    simp only [List.set_cons_zero, List.set_cons_succ, IV.cells] at l23
    have lv : LV Tryd.prog (CL tab2) 22 [.ptr b3 0, .ptr b5 0] .ret h23 = some (.ret, h23) := l22 (v := .tup []) (by simp) (by simp only [t22_0, recV, W, decide_eq_true_eq, Bool.not_eq_true', decide_eq_false_iff_not, Bool.false_eq_true, Bool.not_true, Bool.not_false, decide_true, decide_false, not_true_eq_false, not_false_eq_true, and_true, true_and, and_false, false_and, ne_eq, Nat.zero_add, Nat.add_zero, cond_true, cond_false, ↓reduceIte, reduceCtorEq, Nat.reduceAdd, Int.reduceEq, Int.reduceNe, Int.reduceLT, Int.reduceLE, Int.reduceAdd, Int.reduceSub, Int.reduceMul, Int.reduceNeg, Nat.reduceMul, List.getElem?_cons_zero, List.getElem?_cons_succ])
    refine ⟨h23, c12 step2 rfl rfl g ?_ (by simp), l23.ex⟩
    simp only [t12_0, IV.cells, e2, e4, e6, W, decide_eq_true_eq, Bool.not_eq_true', decide_eq_false_iff_not, Bool.false_eq_true, Bool.not_true, Bool.not_false, decide_true, decide_false, not_true_eq_false, not_false_eq_true, and_true, true_and, and_false, false_and, ne_eq, Nat.zero_add, Nat.add_zero, cond_true, cond_false, ↓reduceIte, reduceCtorEq, Nat.reduceAdd, Int.reduceEq, Int.reduceNe, Int.reduceLT, Int.reduceLE, Int.reduceAdd, Int.reduceSub, Int.reduceMul, Int.reduceNeg, Nat.reduceMul, List.getElem?_cons_zero, List.getElem?_cons_succ, e20, ld1, e23, bldD0, e22, e23', lv, dfK]
    rw [l23.ld0 1 rfl, l23.ldA (n := 2) 0 rfl rfl]
    rfl
  | er a e =>
    rw [hr] at o
    obtain ⟨h20, e23, x20⟩ := o
    have l20 := l6.go x20
    obtain ⟨b, h7, e7, l7⟩ := l20.newI (cs := [.int .i64 0, .int .i64 0]) rfl
    obtain ⟨h8, e8, l8⟩ := l7.set 0 rfl (n := 2) (v := .agg (dg (a, e))) rfl rfl rfl
    simp only [List.set_cons_zero, List.set_cons_succ, IV.cells] at l8
    obtain ⟨h10, e10, l10⟩ := l8.set 2 rfl (n := 1) (v := .int .i64 0) rfl rfl rfl
    simp only [List.set_cons_zero, List.set_cons_succ, IV.cells] at l10
    obtain ⟨h12, e12, l12⟩ := l10.set 1 rfl (n := 2) (v := .agg (dg (a, e))) rfl rfl rfl
    simp only [List.set_cons_zero, List.set_cons_succ, IV.cells] at l12
    have lv : LV Tryd.prog (CL tab2) 22 [.ptr b3 0, .ptr b5 0] (.pan (refv a e)) h20 = some (.ret, h12) := by
      refine l22 (v := .tup []) (by simp) ?_
      have has : assertI 64 true (some (.agg [.int .i64 0, .int .i64 0])) (refv a e) = some (.tup [.agg (dg (a, e)), .bool true]) := rfl
      have hif : eqIf .eql true (refv a e) .nilIface = some (.bool false) := rfl
      simp only [t22_0, recV, has, hif, W, decide_eq_true_eq, Bool.not_eq_true', decide_eq_false_iff_not, Bool.false_eq_true, Bool.not_true, Bool.not_false, decide_true, decide_false, not_true_eq_false, not_false_eq_true, and_true, true_and, and_false, false_and, ne_eq, Nat.zero_add, Nat.add_zero, cond_true, cond_false, ↓reduceIte, reduceCtorEq, Nat.reduceAdd, Int.reduceEq, Int.reduceNe, Int.reduceLT, Int.reduceLE, Int.reduceAdd, Int.reduceSub, Int.reduceMul, Int.reduceNeg, Nat.reduceMul, List.getElem?_cons_zero, List.getElem?_cons_succ, e7, e8]
      rw [l8.ldA (n := 2) 0 rfl rfl]
      simp only [W, decide_eq_true_eq, Bool.not_eq_true', decide_eq_false_iff_not, Bool.false_eq_true, Bool.not_true, Bool.not_false, decide_true, decide_false, not_true_eq_false, not_false_eq_true, and_true, true_and, and_false, false_and, ne_eq, Nat.zero_add, Nat.add_zero, cond_true, cond_false, ↓reduceIte, reduceCtorEq, Nat.reduceAdd, Int.reduceEq, Int.reduceNe, Int.reduceLT, Int.reduceLE, Int.reduceAdd, Int.reduceSub, Int.reduceMul, Int.reduceNeg, Nat.reduceMul, List.getElem?_cons_zero, List.getElem?_cons_succ, e10]
      rw [l10.ldA (n := 2) 0 rfl rfl]
      simp only [W, decide_eq_true_eq, Bool.not_eq_true', decide_eq_false_iff_not, Bool.false_eq_true, Bool.not_true, Bool.not_false, decide_true, decide_false, not_true_eq_false, not_false_eq_true, and_true, true_and, and_false, false_and, ne_eq, Nat.zero_add, Nat.add_zero, cond_true, cond_false, ↓reduceIte, reduceCtorEq, Nat.reduceAdd, Int.reduceEq, Int.reduceNe, Int.reduceLT, Int.reduceLE, Int.reduceAdd, Int.reduceSub, Int.reduceMul, Int.reduceNeg, Nat.reduceMul, List.getElem?_cons_zero, List.getElem?_cons_succ, e12]
    refine ⟨h12, c12 step2 rfl rfl g ?_ (by simp), l12.ex⟩
    simp only [t12_0, IV.cells, e2, e4, e6, W, decide_eq_true_eq, Bool.not_eq_true', decide_eq_false_iff_not, Bool.false_eq_true, Bool.not_true, Bool.not_false, decide_true, decide_false, not_true_eq_false, not_false_eq_true, and_true, true_and, and_false, false_and, ne_eq, Nat.zero_add, Nat.add_zero, cond_true, cond_false, ↓reduceIte, reduceCtorEq, Nat.reduceAdd, Int.reduceEq, Int.reduceNe, Int.reduceLT, Int.reduceLE, Int.reduceAdd, Int.reduceSub, Int.reduceMul, Int.reduceNeg, Nat.reduceMul, List.getElem?_cons_zero, List.getElem?_cons_succ, e20, ld1, e23, dfP, lv, dfK]
    rw [l12.ld0 2 rfl, l12.ldA (n := 2) 1 rfl rfl]
    rfl

end Go.Proofs.YtblgpcijbdbeiaaDoor

namespace Go.Proofs.YtblgpcijbdbeiaaDoor
open Go I
set_option maxRecDepth 100000
set_option linter.unusedVariables false
set_option linter.unusedSimpArgs false

/-- a scope in memory, and where its map lies -/
structure ScM (h : H) (p m : Nat) (s : Sc) : Prop where
  mk ::
  cell : Cs h p true false [.map m]
  ents : ∃ es clock, h.get m = some (.map es clock) ∧ EsR es s
  small : ∀ x ∈ s, -2147483647 ≤ x.2 ∧ x.2 ≤ 2147483647
theorem ScM.r {h : H} {p m : Nat} {s : Sc} (c : ScM h p m s) : ScR h p s := by
  obtain ⟨h1, ⟨es, clock, h2, h3⟩, h4⟩ := c
  exact ⟨⟨m, es, clock, h1, h2, h3⟩, h4⟩
theorem ScM.keep {h h' : H} {p m : Nat} {s : Sc} (c : ScM h p m s) (x : Ex h h') : ScM h' p m s := by
  obtain ⟨h1, ⟨es, clock, h2, h3⟩, h4⟩ := c
  exact ⟨h1.ex x, ⟨es, clock, x.kp m _ h2 rfl, h3⟩, h4⟩
theorem ScM.st {h h' : H} {p m : Nat} {s : Sc} (c : ScM h p m s) {n b off : Nat} {v : IV} (e : stA n h (.ptr b off) v = some h') (hne : b ≠ p) : ScM h' p m s := by
  obtain ⟨⟨t, q1, q2⟩, ⟨es, clock, h2, h3⟩, h4⟩ := c
  obtain ⟨⟨rw', fz, size, t', hb⟩, hk⟩ := stA_get e
  have hm : m ≠ b := by rintro rfl; rw [h2] at hb; cases hb
  exact ⟨⟨t, by rw [hk p (Ne.symm hne)]; exact q1, q2⟩, ⟨es, clock, by rw [hk m hm]; exact h2, h3⟩, h4⟩
theorem new10 {h₀ h : H} {L : List (Nat × List IV)} (l : Lv h₀ h L) : ∃ p m h', CL tab2 10 [] h = .ok (.ptr p 0) h' ∧ ScM h' p m [] ∧ Lv h₀ h' L ∧ h₀.next ≤ m := by
  have x1 := Ex.push l.gd (.map [] 0)
  obtain ⟨h', e, x2, c⟩ := newI_ex x1.gd (cs := [.map h.next]) rfl
  refine ⟨(h.push (.map [] 0)).next, h.next, h', c10 step2 rfl rfl l.gd ?_ (by simp), ⟨c, ⟨[], 0, x2.kp _ _ (by rw [H.get_push, if_pos rfl]) rfl, rfl⟩, by simp⟩, l.go (x1.trans x2), l.ex.ext.next⟩
  simp only [t10_0, W, decide_eq_true_eq, Bool.not_eq_true', decide_eq_false_iff_not, Bool.false_eq_true, Bool.not_true, Bool.not_false, decide_true, decide_false, not_true_eq_false, not_false_eq_true, and_true, true_and, and_false, false_and, ne_eq, Nat.zero_add, Nat.add_zero, cond_true, cond_false, ↓reduceIte, reduceCtorEq, Nat.reduceAdd, Int.reduceEq, Int.reduceNe, Int.reduceLT, Int.reduceLE, Int.reduceAdd, Int.reduceSub, Int.reduceMul, Int.reduceNeg, Nat.reduceMul, List.getElem?_cons_zero, List.getElem?_cons_succ, show bldK [.nilMap] [(0, 1)] [(0, IV.map h.next)] = some (.agg [.map h.next]) from rfl, IV.cells, e]
theorem set11 {h₀ h : H} {L : List (Nat × List IV)} (l : Lv h₀ h L) {p m : Nat} {s : Sc} (sc : ScM h p m s) {nm : Bs} {n : Int} (hf : getM s nm = none) (hb : -2147483647 ≤ n ∧ n ≤ 2147483647) (hm : h₀.next ≤ m) :
    ∃ h', CL tab2 11 [.ptr p 0, sv nm, .int .i64 n] h = .ok (.int .i64 0) h' ∧ ScM h' p m (s ++ [(nm, n)]) ∧ Lv h₀ h' L := by
  have e20 := given20 sc.r l.gd
  have e21 := may21 n l.gd
  obtain ⟨h1, ⟨es, clock, h2, h3⟩, h4⟩ := sc
  have hfi := findI_get nm 0 h3
  rw [hf] at hfi
  simp only at hfi
  have hpm : p ≠ m := by
    rintro rfl
    obtain ⟨t, q, _⟩ := h1
    rw [q] at h2; cases h2
  have ll := l.putMap (es' := es ++ [(sv nm, .int .i64 n, clock)]) (c' := clock + 1) h2 hm
  have happ : ∀ {es : List (IV × IV × Nat)} {s : Sc}, EsR es s → EsR (es ++ [(sv nm, .int .i64 n, clock)]) (s ++ [(nm, n)]) := by
    intro es
    induction es with
    | nil => intro s h; simp only [EsR] at h; subst h; exact ⟨(nm, n), [], rfl, rfl, rfl, rfl⟩
    | cons e es ih =>
      obtain ⟨k, v, st⟩ := e
      intro s h
      obtain ⟨p, q, rfl, rfl, rfl, h4⟩ := h
      exact ⟨p, q ++ [(nm, n)], rfl, rfl, rfl, ih h4⟩
  have hmu : mupK true h (.map m) (sv nm) (.int .i64 n) = some (h.put m (.map (es ++ [(sv nm, .int .i64 n, clock)]) (clock + 1))) := by
    have hk : keyK true (sv nm) = true := rfl
    simp only [mupK, hk, cond_true, h2, hfi]
  refine ⟨_, c11 step2 rfl rfl l.gd ?_ (by simp), ⟨h1.of_put hpm, ⟨_, _, by rw [H.get_put, if_pos rfl], happ h3⟩, fun x hx => ?_⟩, ll⟩
  · simp only [t11_0, W, decide_eq_true_eq, Bool.not_eq_true', decide_eq_false_iff_not, Bool.false_eq_true, Bool.not_true, Bool.not_false, decide_true, decide_false, not_true_eq_false, not_false_eq_true, and_true, true_and, and_false, false_and, ne_eq, Nat.zero_add, Nat.add_zero, cond_true, cond_false, ↓reduceIte, reduceCtorEq, Nat.reduceAdd, Int.reduceEq, Int.reduceNe, Int.reduceLT, Int.reduceLE, Int.reduceAdd, Int.reduceSub, Int.reduceMul, Int.reduceNeg, Nat.reduceMul, List.getElem?_cons_zero, List.getElem?_cons_succ, e20, e21, hb, and_self, h1.ld0, hmu]
  · rcases List.mem_append.1 hx with hx | hx
    · exact h4 x hx
    · rcases List.mem_singleton.1 hx with rfl; exact hb

/-! ### expressions, told in the text -/
theorem bldE2 (op : Int) (nm : Bs) : bldK z0 p1 [(0, .int .i64 op), (1, sv nm)] = some (.agg (ecells op nm [] false .nilSlice 0)) := rfl
theorem bldE3 (op : Int) (v : Bs) : bldK z0 p1 [(0, .int .i64 op), (2, sv v)] = some (.agg (ecells op [] v false .nilSlice 0)) := rfl
theorem bldE4 (op : Int) (b o n e : Nat) : bldK z0 p1 [(0, .int .i64 op), (4, .slice b o n e)] = some (.agg (ecells op [] [] false (.slice b o n e) 0)) := rfl
theorem bldE5 (op a : Int) (b o n e : Nat) : bldK z0 p1 [(0, .int .i64 op), (5, .int .i64 a), (4, .slice b o n e)] = some (.agg (ecells op [] [] false (.slice b o n e) a)) := rfl
theorem z0_len : z0.length = 6 := rfl
theorem xrLeaf (h : H) (n : Nat) (op : Int) (nm v : Bs) (a : Int) : XR h (n + 1) (.mk op nm v false [] a) (ecells op nm v false .nilSlice a) := ⟨.nilSlice, rfl, .inl ⟨rfl, .inl rfl⟩⟩
/-- kids that stand in a literal slice -/
theorem kids_of {h : H} {n b : Nat} {fz : Bool} : ∀ {kids : List E} {css : List (List IV)}, css.length = kids.length → (∀ (i : Nat) (x : E) (c : List IV), kids[i]? = some x → css[i]? = some c → XR h n x c) → Cs h b false fz css.flatten → LR h 6 (XR h n) kids (.slice b 0 kids.length 6) := by
  intro kids css hl hx hc
  have hch : ∀ {kids : List E} {css : List (List IV)}, css.length = kids.length → (∀ (i : Nat) (x : E) (c : List IV), kids[i]? = some x → css[i]? = some c → XR h n x c) → Ch (XR h n) 6 kids css.flatten := by
    intro kids
    induction kids with
    | nil => intro css hl _; simp at hl; subst hl; rfl
    | cons k kids ih =>
      intro css hl hx
      cases css with
      | nil => simp at hl
      | cons c css =>
        have h0 := hx 0 k c rfl rfl
        exact ⟨c, css.flatten, rfl, h0.scalar.2, h0, ih (by simpa using hl) fun i x d h1 h2 => hx (i + 1) x d (by simpa using h1) (by simpa using h2)⟩
  have h1 := hch hl hx
  have h2 := h1.len
  exact .inr ⟨b, 0, _, rfl, ⟨fz, hc⟩, by omega, by rw [List.drop_zero, List.take_of_length_le (by omega)]; exact h1⟩
theorem num14 {h₀ h : H} {L : List (Nat × List IV)} (l : Lv h₀ h L) (v : Bs) : ∃ h', CL tab2 14 [sv v] h = .ok (.agg (ecells 1 [] v false .nilSlice 0)) h' ∧ Ex h h' := by
  obtain ⟨b, h2, e2, l2⟩ := (Lv.start l.gd).newI (cs := z0) rfl
  obtain ⟨h3, e3, l3⟩ := l2.set 0 rfl (n := 6) (v := .agg (ecells 1 [] v false .nilSlice 0)) rfl rfl rfl
  refine ⟨h3, c14 step2 rfl rfl l.gd ?_ (by simp), l3.ex⟩
  simp only [t14_0, e2, W, decide_eq_true_eq, Bool.not_eq_true', decide_eq_false_iff_not, Bool.false_eq_true, Bool.not_true, Bool.not_false, decide_true, decide_false, not_true_eq_false, not_false_eq_true, and_true, true_and, and_false, false_and, ne_eq, Nat.zero_add, Nat.add_zero, cond_true, cond_false, ↓reduceIte, reduceCtorEq, Nat.reduceAdd, Int.reduceEq, Int.reduceNe, Int.reduceLT, Int.reduceLE, Int.reduceAdd, Int.reduceSub, Int.reduceMul, Int.reduceNeg, Nat.reduceMul, List.getElem?_cons_zero, List.getElem?_cons_succ, bldE3, e3]
  rw [l3.ldA (n := 6) 0 rfl rfl]
  rfl

end Go.Proofs.YtblgpcijbdbeiaaDoor

namespace Go.Proofs.YtblgpcijbdbeiaaDoor
open Go I
set_option maxRecDepth 100000
set_option linter.unusedVariables false
set_option linter.unusedSimpArgs false

theorem dg_ieq' (h : H) (a1 a2 b1 b2 : Int) : ieq Tryd.prog h 10000 33 (.agg [.int .i64 a1, .int .i64 a2]) (.agg [.int .i64 b1, .int .i64 b2]) = (match decide (a1 = b1) with | true => (match decide (a2 = b2) with | true => some true | false => some false) | false => some false) := by kernel_rfl
theorem dg_eql (h : H) (a b : Int × Int) : binK Tryd.prog h .eql 33 false false (.agg (dg a)) (.agg (dg b)) = some (.bool (decide (a = b))) := by
  have hg : guardEqB Tryd.prog 33 false false (.agg (dg a)) (.agg (dg b)) = true := by kernel_rfl
  have := dg_ieq' h a.1 a.2 b.1 b.2
  simp only [binK, hg, if_true]
  unfold dg
  rw [this]
  by_cases h1 : a.1 = b.1
  · by_cases h2 : a.2 = b.2
    · simp [h1, h2, Prod.ext_iff]
    · simp [h1, h2, Prod.ext_iff]
  · simp [h1, Prod.ext_iff]
theorem dg_neq (h : H) (a b : Int × Int) : binK Tryd.prog h .neq 33 false false (.agg (dg a)) (.agg (dg b)) = some (.bool (!decide (a = b))) := by
  have hg : guardEqB Tryd.prog 33 false false (.agg (dg a)) (.agg (dg b)) = true := by kernel_rfl
  have := dg_ieq' h a.1 a.2 b.1 b.2
  simp only [binK, hg, if_true]
  unfold dg
  rw [this]
  by_cases h1 : a.1 = b.1
  · by_cases h2 : a.2 = b.2
    · simp [h1, h2, Prod.ext_iff]
    · simp [h1, h2, Prod.ext_iff]
  · simp [h1, Prod.ext_iff]
theorem and7 (q : Int) : IntKind.i64.wrap (BitVec.ofInt IntKind.i64.bits q &&& BitVec.ofInt IntKind.i64.bits 7).toNat = q % 8 := by
  have e : (BitVec.ofInt 64 q &&& BitVec.ofInt 64 7).toNat = (q % 8).toNat := by
    rw [BitVec.toNat_and]
    have h7 : (BitVec.ofInt 64 7).toNat = 2 ^ 3 - 1 := by decide
    rw [h7, Nat.and_two_pow_sub_one_eq_mod]
    rw [BitVec.toNat_ofInt]
    omega
  show IntKind.i64.wrap (BitVec.ofInt 64 q &&& BitVec.ofInt 64 7).toNat = q % 8
  rw [e]
  have : 0 ≤ q % 8 ∧ q % 8 < 8 := by omega
  rw [← wr_eq, wr_i64] <;> omega

theorem and1 (q : Int) : IntKind.i64.wrap (BitVec.ofInt IntKind.i64.bits q &&& BitVec.ofInt IntKind.i64.bits 1).toNat = q % 2 := by
  have e : (BitVec.ofInt 64 q &&& BitVec.ofInt 64 1).toNat = (q % 2).toNat := by
    rw [BitVec.toNat_and]
    have h7 : (BitVec.ofInt 64 1).toNat = 2 ^ 1 - 1 := by decide
    rw [h7, Nat.and_two_pow_sub_one_eq_mod]
    rw [BitVec.toNat_ofInt]
    omega
  show IntKind.i64.wrap (BitVec.ofInt 64 q &&& BitVec.ofInt 64 1).toNat = q % 2
  rw [e]
  have : 0 ≤ q % 2 ∧ q % 2 < 2 := by omega
  rw [← wr_eq, wr_i64] <;> omega
theorem shr64 (q : Int) (k : Nat) (hk : k ≤ 64) : binN .shr (.int .i64 q) (.int .u64 k) = some (.int .i64 (q / 2 ^ k)) := by
  rw [binN_shr _ _ _ _ (by omega)]
  have : min (k : Int).toNat IntKind.i64.bits = k := by
    show min (k : Int).toNat 64 = k
    omega
  rw [this, Int.fdiv_eq_ediv_of_nonneg _ (Int.pow_nonneg (by omega))]

end Go.Proofs.YtblgpcijbdbeiaaDoor

namespace Go.Proofs.YtblgpcijbdbeiaaDoor
open Go I
set_option maxRecDepth 100000
set_option linter.unusedVariables false
set_option linter.unusedSimpArgs false

/-- what an operator of two numbers is held against -/
theorem sum_eval {s : Sc} {xS : E} {op p q v : Int} (hp : getM s [65] = some p) (hS : evalF s 1 xS = .ok q) (ho : 13 ≤ op ∧ op ≤ 27) (hb : binF op p q = some v) :
    evalF s 2 (.mk op [] [] false [.mk 2 [65] [] false [] 0, xS] 9) = if -2147483647 ≤ v ∧ v ≤ 2147483647 then .ok v else .er 9 61 := by
  have o1 : ¬ op = 1 := by omega
  have o2 : ¬ op = 2 := by omega
  have o9 : ¬ op = 9 := by omega
  have o8 : ¬ op = 8 := by omega
  have o6 : ¬ op = 6 := by omega
  have ob : ¬ (op < 13 ∨ 27 < op) := by omega
  have hA : evalF s 1 (.mk 2 [65] [] false [] 0) = .ok p := by simp [evalF, hp]
  rw [evalF]
  simp only [o1, o2, o9, o8, o6, ob, if_false, List.length_cons, List.length_nil, Nat.zero_add, Nat.reduceAdd, if_true, kidF, List.getElem?_cons_zero, List.getElem?_cons_succ, hA, hS, hb]

theorem turn5 {h : H} {pS mS bN bO b38 : Nat} {N O cS : List IV} {s : Sc} {xS : E} {op p q' v : Int} {q : IV} {i : Nat} (l : Lv H0 h [(b38, cS), (bN, N), (bO, O)]) (hx : XR h 1 xS cS) (sc : ScM h pS mS s)
    (hp : getM s [65] = some p) (hS : evalF s 1 xS = .ok q') (ho : 13 ≤ op ∧ op ≤ 27) (hb : binF op p q' = some v) (hO : O[i]? = some (.int .i64 op)) (hN : N[i]? = some (.int .i64 v)) (hi : i < 5) :
    ∃ h', Lv H0 h' [(bN, N), (bO, O)] ∧ ScM h' pS mS s ∧ ∀ r : CRes, r ≠ .fail → J4 tab2 4 [q, .ptr pS 0, .slice bO 0 5 1, .slice bN 0 5 1, .int .i64 i] h' = r → J4 tab2 5 [q, .ptr pS 0, .slice bO 0 5 1, .slice bN 0 5 1, .int .i64 i, .ptr b38 0] h = r := by
  have ixO : ixS 1 (.slice bO 0 5 1) (.int .i64 i) = some (.ptr bO i) := by
    simp only [ixS]; rw [if_pos ⟨trivial, by omega, by omega⟩]; simp
  have ixN : ixS 1 (.slice bN 0 5 1) (.int .i64 i) = some (.ptr bN i) := by
    simp only [ixS]; rw [if_pos ⟨trivial, by omega, by omega⟩]; simp
  have hl6 := hx.scalar.2
  -- the two kids
  obtain ⟨h68, e68, x68, c68⟩ := bslK_imm (z := z0) (vs := [.agg (ecells 2 [65] [] false .nilSlice 0), .agg cS]) l.gd z0_len (by
      intro w hw
      rcases List.mem_cons.1 hw with rfl | hw
      · rfl
      · rcases List.mem_singleton.1 hw with rfl; exact hl6) (by
      show allScalar (ecells 2 [65] [] false .nilSlice 0 ++ (cS ++ [])) = true
      rw [allScalar_app, List.append_nil, hx.scalar.1]; rfl)
  have e68' : bslK false 6 z0 2 [(0, .agg (ecells 2 [65] [] false .nilSlice 0)), (1, .agg cS)] h = some (.slice h.next 0 2 6, h68) := e68
  have l68 := l.go x68
  have hxr : XR h68 2 (.mk op [] [] false [.mk 2 [65] [] false [] 0, xS] 9) (ecells op [] [] false (.slice h.next 0 2 6) 9) := by
    refine ⟨_, rfl, kids_of (css := [ecells 2 [65] [] false .nilSlice 0, cS]) rfl ?_ c68⟩
    intro j x c h1 h2
    match j with
    | 0 => simp at h1 h2; subst h1; subst h2; exact xrLeaf _ _ _ _ _ _
    | 1 => simp at h1 h2; subst h1; subst h2; exact hx.mono x68.ext 1
    | j + 2 => simp at h1
  obtain ⟨h74, e74, x74⟩ := eval12 hxr (sc.keep x68).r l68.gd
  rw [sum_eval hp hS ho hb] at e74
  have l74 := l68.go x74
  generalize hres : (if -2147483647 ≤ v ∧ v ≤ 2147483647 then Res.ok v else .er 9 61) = res at e74
  have sc74 := (sc.keep x68).keep x74
  obtain ⟨h78, e78, l78, x78⟩ := l74.newI' (cs := [.int .i64 0, .int .i64 0]) rfl
  obtain ⟨h79, e79, l79⟩ := l78.set 0 rfl (n := 2) (v := .agg (dg (ansD res))) rfl rfl rfl
  simp only [List.set_cons_zero, IV.cells] at l79
  have hlt := sc74.cell.lt l74.gd.wf
  have sc79 : ScM h79 pS mS s := (sc74.keep x78).st e79 (by omega)
  refine ⟨h79, l79.drop1.drop1, sc79, fun r hr e => e4_5 ?_ hr⟩
  have ld1 : ldA 6 h (.ptr b38 0) = some (.agg cS) := l.ldA 0 rfl hl6.symm
  have hN' := l79.ld0 2 rfl i
  rw [hN] at hN'
  have ldD : ldA 2 h79 (.ptr h74.next 0) = some (.agg (dg (ansD res))) := l79.ldA 0 rfl rfl
  have ldC : ld0 h79 (.ptr h74.next 1) = some (.int .i64 (ansD res).2) := l79.ld0 0 rfl 1
  simp only [t4_5, ixO, W, decide_eq_true_eq, Bool.not_eq_true', decide_eq_false_iff_not, Bool.false_eq_true, Bool.not_true, Bool.not_false, decide_true, decide_false, not_true_eq_false, not_false_eq_true, and_true, true_and, and_false, false_and, ne_eq, Nat.zero_add, Nat.add_zero, cond_true, cond_false, ↓reduceIte, reduceCtorEq, Nat.reduceAdd, Int.reduceEq, Int.reduceNe, Int.reduceLT, Int.reduceLE, Int.reduceAdd, Int.reduceSub, Int.reduceMul, Int.reduceNeg, Nat.reduceMul, List.getElem?_cons_zero, List.getElem?_cons_succ, l.ld0 2 rfl, hO, show IV.str ⟨1, 65⟩ = sv [65] from rfl, bldE2, ld1, e68', l68.ld0 2 rfl, bldE5, e74, ans, e78, e79, ixN, hN']
  by_cases h1 : 2147483647 < v
  · have : res = .er 9 61 := by rw [← hres, if_neg (by omega)]
    subst this
    simp only [h1, W, decide_eq_true_eq, Bool.not_eq_true', decide_eq_false_iff_not, Bool.false_eq_true, Bool.not_true, Bool.not_false, decide_true, decide_false, not_true_eq_false, not_false_eq_true, and_true, true_and, and_false, false_and, ne_eq, Nat.zero_add, Nat.add_zero, cond_true, cond_false, ↓reduceIte, reduceCtorEq, Nat.reduceAdd, Int.reduceEq, Int.reduceNe, Int.reduceLT, Int.reduceLE, Int.reduceAdd, Int.reduceSub, Int.reduceMul, Int.reduceNeg, Nat.reduceMul, List.getElem?_cons_zero, List.getElem?_cons_succ, ldD, bldD2, dg_neq, ansN, ansD]
    exact e
  · by_cases h2 : v < -2147483647
    · have : res = .er 9 61 := by rw [← hres, if_neg (by omega)]
      subst this
      simp only [h1, h2, W, decide_eq_true_eq, Bool.not_eq_true', decide_eq_false_iff_not, Bool.false_eq_true, Bool.not_true, Bool.not_false, decide_true, decide_false, not_true_eq_false, not_false_eq_true, and_true, true_and, and_false, false_and, ne_eq, Nat.zero_add, Nat.add_zero, cond_true, cond_false, ↓reduceIte, reduceCtorEq, Nat.reduceAdd, Int.reduceEq, Int.reduceNe, Int.reduceLT, Int.reduceLE, Int.reduceAdd, Int.reduceSub, Int.reduceMul, Int.reduceNeg, Nat.reduceMul, List.getElem?_cons_zero, List.getElem?_cons_succ, ldD, bldD2, dg_neq, ansN, ansD]
      exact e
    · have : res = .ok v := by rw [← hres, if_pos (by omega)]
      subst this
      simp only [h1, h2, W, decide_eq_true_eq, Bool.not_eq_true', decide_eq_false_iff_not, Bool.false_eq_true, Bool.not_true, Bool.not_false, decide_true, decide_false, not_true_eq_false, not_false_eq_true, and_true, true_and, and_false, false_and, ne_eq, Nat.zero_add, Nat.add_zero, cond_true, cond_false, ↓reduceIte, reduceCtorEq, Nat.reduceAdd, Int.reduceEq, Int.reduceNe, Int.reduceLT, Int.reduceLE, Int.reduceAdd, Int.reduceSub, Int.reduceMul, Int.reduceNeg, Nat.reduceMul, List.getElem?_cons_zero, List.getElem?_cons_succ, ldC, ansN, ansD]
      exact e


theorem bits3 {h : H} {L : List (Nat × List IV)} (l : Lv H0 h L) (q : Int) : ∃ h' v, bslK true 1 [.int .u8 0] 3 [(0, .int .u8 (wr .u8 (48 + q / 4 % 2))), (1, .int .u8 (wr .u8 (48 + q / 2 % 2))), (2, .int .u8 (wr .u8 (48 + q % 2)))] h = some (.slice h.next 0 3 1, h') ∧ Lv H0 h' ((h.next, bcells v) :: L) ∧ Ex h h' ∧
    cvS h' (.slice h.next 0 3 1) = some (sv v) ∧ numberM v = (q % 8, 0) := by
  have key : ∀ (a b c : Bool), q / 4 % 2 = isF a → q / 2 % 2 = isF b → q % 2 = isF c → ∃ h' v, bslK true 1 [.int .u8 0] 3 [(0, .int .u8 (wr .u8 (48 + q / 4 % 2))), (1, .int .u8 (wr .u8 (48 + q / 2 % 2))), (2, .int .u8 (wr .u8 (48 + q % 2)))] h = some (.slice h.next 0 3 1, h') ∧ Lv H0 h' ((h.next, bcells v) :: L) ∧ Ex h h' ∧
      cvS h' (.slice h.next 0 3 1) = some (sv v) ∧ numberM v = (q % 8, 0) := by
    intro a b c ha hb hc
    let v : Bs := [if a then 49 else 48, if b then 49 else 48, if c then 49 else 48]
    have hcells : [IV.int .u8 (wr .u8 (48 + q / 4 % 2)), .int .u8 (wr .u8 (48 + q / 2 % 2)), .int .u8 (wr .u8 (48 + q % 2))] = bcells v := by
      rw [ha, hb, hc]
      cases a <;> cases b <;> cases c <;> rfl
    obtain ⟨h', e, l', x'⟩ := l.lit (es := 1) (z := [.int .u8 0]) (vs := [IV.int .u8 (wr .u8 (48 + q / 4 % 2)), .int .u8 (wr .u8 (48 + q / 2 % 2)), .int .u8 (wr .u8 (48 + q % 2))]) rfl (by
      intro w hw
      simp only [List.mem_cons, List.not_mem_nil, or_false] at hw
      rcases hw with rfl | rfl | rfl <;> rfl) rfl
    have hco : cellsOf [IV.int .u8 (wr .u8 (48 + q / 4 % 2)), .int .u8 (wr .u8 (48 + q / 2 % 2)), .int .u8 (wr .u8 (48 + q % 2))] = bcells v := by
      rw [← hcells]; rfl
    rw [hco] at l'
    refine ⟨h', v, e, l', x', cvS_of (l'.cs _ (List.mem_cons_self ..)), ?_⟩
    have hn : numberM v = ((4 * isF a + 2 * isF b + isF c), 0) := by
      cases a <;> cases b <;> cases c <;> decide
    rw [hn]
    congr 1
    omega
  have h4 : q / 4 % 2 = isF (decide (q / 4 % 2 = 1)) := by
    unfold isF
    by_cases hh : q / 4 % 2 = 1
    · simp only [hh, decide_true, if_true]
    · simp only [hh, decide_false, Bool.false_eq_true, if_false]; omega
  have h2 : q / 2 % 2 = isF (decide (q / 2 % 2 = 1)) := by
    unfold isF
    by_cases hh : q / 2 % 2 = 1
    · simp only [hh, decide_true, if_true]
    · simp only [hh, decide_false, Bool.false_eq_true, if_false]; omega
  have h1 : q % 2 = isF (decide (q % 2 = 1)) := by
    unfold isF
    by_cases hh : q % 2 = 1
    · simp only [hh, decide_true, if_true]
    · simp only [hh, decide_false, Bool.false_eq_true, if_false]; omega
  exact key _ _ _ h4 h2 h1

theorem turn3 {h : H} {pS mS bN bO : Nat} {N O : List IV} {op p v q : Int} {i : Nat} (l : Lv H0 h [(bN, N), (bO, O)]) (sc : ScM h pS mS [([65], p), ([66], q)])
    (ho : 13 ≤ op ∧ op ≤ 27) (hb : binF op p (if op = 15 then q % 8 else q) = some v) (hO : O[i]? = some (.int .i64 op)) (hN : N[i]? = some (.int .i64 v)) (hi : i < 5) :
    ∃ h', Lv H0 h' [(bN, N), (bO, O)] ∧ ScM h' pS mS [([65], p), ([66], q)] ∧ ∀ r : CRes, r ≠ .fail → J4 tab2 3 [.int .i64 q, .ptr pS 0, .slice bO 0 5 1, .slice bN 0 5 1, .int .i64 (i + 1 : Nat)] h' = r → J4 tab2 3 [.int .i64 q, .ptr pS 0, .slice bO 0 5 1, .slice bN 0 5 1, .int .i64 i] h = r := by
  have ixO : ixS 1 (.slice bO 0 5 1) (.int .i64 i) = some (.ptr bO i) := by
    simp only [ixS]; rw [if_pos ⟨trivial, by omega, by omega⟩]; simp
  have hA : getM [([65], p), ([66], q)] [65] = some p := by simp [getM]
  have next : ∀ {h' : H} {r : CRes}, r ≠ .fail → J4 tab2 3 [.int .i64 q, .ptr pS 0, .slice bO 0 5 1, .slice bN 0 5 1, .int .i64 (i + 1 : Nat)] h' = r → J4 tab2 4 [.int .i64 q, .ptr pS 0, .slice bO 0 5 1, .slice bN 0 5 1, .int .i64 i] h' = r := fun hr e => by
    refine e4_4 ?_ hr
    simp only [t4_4, W, decide_eq_true_eq, Bool.not_eq_true', decide_eq_false_iff_not, Bool.false_eq_true, Bool.not_true, Bool.not_false, decide_true, decide_false, not_true_eq_false, not_false_eq_true, and_true, true_and, and_false, false_and, ne_eq, Nat.zero_add, Nat.add_zero, cond_true, cond_false, ↓reduceIte, reduceCtorEq, Nat.reduceAdd, Int.reduceEq, Int.reduceNe, Int.reduceLT, Int.reduceLE, Int.reduceAdd, Int.reduceSub, Int.reduceMul, Int.reduceNeg, Nat.reduceMul, List.getElem?_cons_zero, List.getElem?_cons_succ]
    rw [wr_i64 (by omega) (by omega)]
    rw [Int.natCast_add, Int.natCast_one] at e
    exact e
  have hi5 : (i : Int) < 5 := by omega
  have lnO : lenS (.slice bO 0 5 1) = some (.int .i64 5) := rfl
  have sB : (IV.str ⟨1, 66⟩) = sv [66] := rfl
  obtain ⟨h39, e39, l39, x39⟩ := l.newI' (cs := z0) rfl
  obtain ⟨h40, e40, l40⟩ := l39.set 0 rfl (n := 6) (v := .agg (ecells 2 [66] [] false .nilSlice 0)) rfl rfl rfl
  simp only [List.set_cons_zero, IV.cells] at l40
  have hlt := sc.cell.lt l.gd.wf
  have sc40 := (sc.keep x39).st e40 (by omega)
  have hO' := l40.ld0 2 rfl i
  rw [hO] at hO'
  by_cases h15 : op = 15
  · subst h15
    rw [if_pos rfl] at hb
    obtain ⟨h56, v8, e56, l56, x56, e57, hnum⟩ := bits3 l40 q
    have sc56 := sc40.keep x56
    obtain ⟨h59, e59, x59⟩ := num14 l56 v8
    have l59 := l56.go x59
    obtain ⟨h60, e60, l60⟩ := l59.set 1 rfl (n := 6) (v := .agg (ecells 1 [] v8 false .nilSlice 0)) rfl rfl rfl
    simp only [List.set_cons_zero, List.set_cons_succ, IV.cells] at l60
    have sc60 := (sc56.keep x59).st e60 (by omega)
    obtain ⟨h', l', sc', k⟩ := turn5 (i := i) (q := .int .i64 q) (xS := .mk 1 [] v8 false [] 0) (q' := q % 8) l60.drop1 (xrLeaf _ _ _ _ _ _) sc60 hA (by simp [evalF, hnum]) ho hb hO hN hi
    refine ⟨h', l', sc', fun r hr e => e4_3 ?_ hr⟩
    have s4 : binN .shr (.int .i64 q) (.int .u64 2) = some (.int .i64 (q / 4)) := shr64 q 2 (by omega)
    have s2 : binN .shr (.int .i64 q) (.int .u64 1) = some (.int .i64 (q / 2)) := by have := shr64 q 1 (by omega); simpa using this
    have w2 : wr .i64 (48 + q / 4 % 2) = 48 + q / 4 % 2 := wr_i64 (by omega) (by omega)
    have w1 : wr .i64 (48 + q / 2 % 2) = 48 + q / 2 % 2 := wr_i64 (by omega) (by omega)
    have w0 : wr .i64 (48 + q % 2) = 48 + q % 2 := wr_i64 (by omega) (by omega)
    simp only [t4_3, lnO, W, decide_eq_true_eq, Bool.not_eq_true', decide_eq_false_iff_not, Bool.false_eq_true, Bool.not_true, Bool.not_false, decide_true, decide_false, not_true_eq_false, not_false_eq_true, and_true, true_and, and_false, false_and, ne_eq, Nat.zero_add, Nat.add_zero, cond_true, cond_false, ↓reduceIte, reduceCtorEq, Nat.reduceAdd, Int.reduceEq, Int.reduceNe, Int.reduceLT, Int.reduceLE, Int.reduceAdd, Int.reduceSub, Int.reduceMul, Int.reduceNeg, Nat.reduceMul, List.getElem?_cons_zero, List.getElem?_cons_succ, hi5, sB, bldE2, e39, e40, ixO, hO', binN_and, and1, s4, s2, w2, w1, w0, e56, e57, e59, e60]
    exact k r hr (next hr e)
  · rw [if_neg h15] at hb
    obtain ⟨h', l', sc', k⟩ := turn5 (i := i) (q := .int .i64 q) (xS := .mk 2 [66] [] false [] 0) (q' := q) l40 (xrLeaf _ _ _ _ _ _) sc40 hA (by simp [evalF, getM]) ho hb hO hN hi
    refine ⟨h', l', sc', fun r hr e => e4_3 ?_ hr⟩
    simp only [t4_3, lnO, W, decide_eq_true_eq, Bool.not_eq_true', decide_eq_false_iff_not, Bool.false_eq_true, Bool.not_true, Bool.not_false, decide_true, decide_false, not_true_eq_false, not_false_eq_true, and_true, true_and, and_false, false_and, ne_eq, Nat.zero_add, Nat.add_zero, cond_true, cond_false, ↓reduceIte, reduceCtorEq, Nat.reduceAdd, Int.reduceEq, Int.reduceNe, Int.reduceLT, Int.reduceLE, Int.reduceAdd, Int.reduceSub, Int.reduceMul, Int.reduceNeg, Nat.reduceMul, List.getElem?_cons_zero, List.getElem?_cons_succ, hi5, sB, bldE2, e39, e40, ixO, hO', h15]
    exact k r hr (next hr e)

end Go.Proofs.YtblgpcijbdbeiaaDoor

namespace Go.Proofs.YtblgpcijbdbeiaaDoor
open Go I
set_option maxRecDepth 100000
set_option linter.unusedVariables false
set_option linter.unusedSimpArgs false

theorem tmod_small (a m : Int) (hm : 0 < m) : -m < a.tmod m ∧ a.tmod m < m := by
  rcases Int.le_total 0 a with h | h
  · exact ⟨by have := Int.tmod_nonneg m h; omega, Int.tmod_lt_of_pos a hm⟩
  · have h1 := Int.tmod_nonneg (a := -a) m (by omega)
    have h2 := Int.tmod_lt_of_pos (-a) hm
    rw [Int.neg_tmod] at h1 h2
    omega
theorem loop4s {pS mS bN bO : Nat} {p q : Int} {v0 v1 v2 v3 v4 : Int} (b0 : binF 13 p q = some v0) (b1 : binF 14 p q = some v1) (b2 : binF 15 p (q % 8) = some v2) (b3 : binF 17 p q = some v3) (b4 : binF 21 p q = some v4)
    {h : H} (l : Lv H0 h [(bN, [.int .i64 v0, .int .i64 v1, .int .i64 v2, .int .i64 v3, .int .i64 v4]), (bO, [.int .i64 13, .int .i64 14, .int .i64 15, .int .i64 17, .int .i64 21])]) (sc : ScM h pS mS [([65], p), ([66], q)]) :
    ∃ h', J4 tab2 3 [.int .i64 q, .ptr pS 0, .slice bO 0 5 1, .slice bN 0 5 1, .int .i64 0] h = .ok (.bool true) h' := by
  obtain ⟨h1, l1, sc1, k1⟩ := turn3 (i := 0) (op := 13) l sc (by omega) (by simpa using b0) rfl rfl (by omega)
  obtain ⟨h2, l2, sc2, k2⟩ := turn3 (i := 1) (op := 14) l1 sc1 (by omega) (by simpa using b1) rfl rfl (by omega)
  obtain ⟨h3, l3, sc3, k3⟩ := turn3 (i := 2) (op := 15) l2 sc2 (by omega) (by simpa using b2) rfl rfl (by omega)
  obtain ⟨h4, l4, sc4, k4⟩ := turn3 (i := 3) (op := 17) l3 sc3 (by omega) (by simpa using b3) rfl rfl (by omega)
  obtain ⟨h5, l5, sc5, k5⟩ := turn3 (i := 4) (op := 21) l4 sc4 (by omega) (by simpa using b4) rfl rfl (by omega)
  have e : J4 tab2 3 [.int .i64 q, .ptr pS 0, .slice bO 0 5 1, .slice bN 0 5 1, .int .i64 (5 : Nat)] h5 = .ok (.bool true) h5 := by
    refine e4_3 ?_ (by simp)
    have lnO : lenS (.slice bO 0 5 1) = some (.int .i64 5) := rfl
    simp only [t4_3, lnO, W, decide_eq_true_eq, Bool.not_eq_true', decide_eq_false_iff_not, Bool.false_eq_true, Bool.not_true, Bool.not_false, decide_true, decide_false, not_true_eq_false, not_false_eq_true, and_true, true_and, and_false, false_and, ne_eq, Nat.zero_add, Nat.add_zero, cond_true, cond_false, ↓reduceIte, reduceCtorEq, Nat.reduceAdd, Int.reduceEq, Int.reduceNe, Int.reduceLT, Int.reduceLE, Int.reduceAdd, Int.reduceSub, Int.reduceMul, Int.reduceNeg, Nat.reduceMul, List.getElem?_cons_zero, List.getElem?_cons_succ, call9]
    rfl
  exact ⟨h5, k1 _ (by simp) (k2 _ (by simp) (k3 _ (by simp) (k4 _ (by simp) (k5 _ (by simp) e))))⟩

theorem sums (a b : Int) : ∃ h', CL tab2 4 [.int .i64 a, .int .i64 b] H0 = .ok (.bool true) h' := by
  obtain ⟨ha, ha'⟩ := tmod_small a 2147483647 (by omega)
  obtain ⟨hb, hb'⟩ := tmod_small b 2147483647 (by omega)
  generalize hp : a.tmod 2147483647 = p at ha ha'
  generalize hq : b.tmod 2147483647 = q at hb hb'
  obtain ⟨pS, mS, h4, e10, sc4, l4, hm⟩ := new10 (Lv.start gd0)
  obtain ⟨h10, eA, scA, lA⟩ := set11 l4 sc4 (nm := [65]) (n := p) rfl (by omega) hm
  obtain ⟨h17, eB, scB, lB⟩ := set11 lA scA (nm := [66]) (n := q) rfl (by omega) hm
  obtain ⟨h21, e21, l21, x21⟩ := lB.lit (es := 1) (z := [.int .i64 0]) (vs := [.int .i64 13, .int .i64 14, .int .i64 15, .int .i64 17, .int .i64 21]) rfl (by
      intro w hw
      simp only [List.mem_cons, List.not_mem_nil, or_false] at hw
      rcases hw with rfl | rfl | rfl | rfl | rfl <;> rfl) rfl
  have sc21 := scB.keep x21
  generalize hv2 : wr .i64 (p * (1 * 2 ^ (min (q % 8).toNat 64))) = v2
  obtain ⟨h28, e28, l28, x28⟩ := l21.lit (es := 1) (z := [.int .i64 0]) (vs := [.int .i64 (p + q), .int .i64 (p - q), .int .i64 v2, .int .i64 0, .int .i64 0]) rfl (by
      intro w hw
      simp only [List.mem_cons, List.not_mem_nil, or_false] at hw
      rcases hw with rfl | rfl | rfl | rfl | rfl <;> rfl) rfl
  have sc28 := sc21.keep x28
  have hq8 : 0 ≤ q % 8 ∧ q % 8 < 8 := by omega
  have hpow : (1 : Int) ≤ 2 ^ (min (q % 8).toNat 64) ∧ (2 : Int) ^ (min (q % 8).toNat 64) ≤ 128 := by
    have : (q % 8).toNat < 8 := by omega
    generalize (q % 8).toNat = k at this
    match k with
    | 0 | 1 | 2 | 3 | 4 | 5 | 6 | 7 => decide
    | k + 8 => omega
  have b0 : binF 13 p q = some (p + q) := by simp only [binF, if_true]; rw [wr_i64 (by omega) (by omega)]
  have b1 : binF 14 p q = some (p - q) := by simp only [binF]; rw [if_neg (by omega), if_pos trivial, wr_i64 (by omega) (by omega)]
  have b2 : binF 15 p (q % 8) = some v2 := by
    have n1 : ¬ (q % 8 < 0 ∨ 31 < q % 8) := by omega
    simp only [binF, Int.reduceEq, if_false, if_true, true_or, n1]
    rw [← hv2, Int.one_mul]; rfl
  have b3 : binF 17 p q = some (isF (decide (p < q))) := rfl
  have b4 : binF 21 p q = some (isF (decide (p = q))) := rfl
  have hlt : pS ≠ h21.next ∧ pS ≠ h17.next := by
    have h1 := scB.cell.lt lB.gd.wf
    have h2 := (scB.keep x21).cell.lt l21.gd.wf
    omega
  have l28' : Lv H0 h28 [(h21.next, [.int .i64 (p + q), .int .i64 (p - q), .int .i64 v2, .int .i64 0, .int .i64 0]), (h17.next, [.int .i64 13, .int .i64 14, .int .i64 15, .int .i64 17, .int .i64 21])] := l28
  -- the last two, when they hold
  have fin : ∀ (h : H), Lv H0 h [(h21.next, [.int .i64 (p + q), .int .i64 (p - q), .int .i64 v2, .int .i64 (isF (decide (p < q))), .int .i64 0]), (h17.next, [.int .i64 13, .int .i64 14, .int .i64 15, .int .i64 17, .int .i64 21])] → ScM h pS mS [([65], p), ([66], q)] →
      ∃ h', J4 tab2 1 [.int .i64 p, .int .i64 q, .ptr pS 0, .slice h17.next 0 5 1, .slice h21.next 0 5 1] h = .ok (.bool true) h' := by
    intro h l sc
    have ix4 : ixS 1 (.slice h21.next 0 5 1) (.int .i64 4) = some (.ptr h21.next 4) := rfl
    by_cases he : p = q
    · obtain ⟨h', e', l'⟩ := l.st 0 rfl (n := 1) (off := 4) (v := .int .i64 1) rfl rfl (by simp)
      have sc' := sc.st e' (Ne.symm hlt.1)
      have l'' : Lv H0 h' [(h21.next, [.int .i64 (p + q), .int .i64 (p - q), .int .i64 v2, .int .i64 (isF (decide (p < q))), .int .i64 1]), (h17.next, [.int .i64 13, .int .i64 14, .int .i64 15, .int .i64 17, .int .i64 21])] := l'
      obtain ⟨g, k⟩ := loop4s b0 b1 b2 b3 (by rw [b4]; simp [isF, he]) l'' sc'
      refine ⟨g, e4_1 ?_ (by simp)⟩
      have he' : decide (p = q) = true := by simp [he]
      simp only [t4_1, W, decide_eq_true_eq, Bool.not_eq_true', decide_eq_false_iff_not, Bool.false_eq_true, Bool.not_true, Bool.not_false, decide_true, decide_false, not_true_eq_false, not_false_eq_true, and_true, true_and, and_false, false_and, ne_eq, Nat.zero_add, Nat.add_zero, cond_true, cond_false, ↓reduceIte, reduceCtorEq, Nat.reduceAdd, Int.reduceEq, Int.reduceNe, Int.reduceLT, Int.reduceLE, Int.reduceAdd, Int.reduceSub, Int.reduceMul, Int.reduceNeg, Nat.reduceMul, List.getElem?_cons_zero, List.getElem?_cons_succ, he, ix4, e']
      refine e4_2 ?_ (by simp)
      simp only [t4_2]
      exact k
    · obtain ⟨g, k⟩ := loop4s (v4 := 0) b0 b1 b2 b3 (by rw [b4]; simp [isF, he]) l sc
      refine ⟨g, e4_1 ?_ (by simp)⟩
      simp only [t4_1, W, decide_eq_true_eq, Bool.not_eq_true', decide_eq_false_iff_not, Bool.false_eq_true, Bool.not_true, Bool.not_false, decide_true, decide_false, not_true_eq_false, not_false_eq_true, and_true, true_and, and_false, false_and, ne_eq, Nat.zero_add, Nat.add_zero, cond_true, cond_false, ↓reduceIte, reduceCtorEq, Nat.reduceAdd, Int.reduceEq, Int.reduceNe, Int.reduceLT, Int.reduceLE, Int.reduceAdd, Int.reduceSub, Int.reduceMul, Int.reduceNeg, Nat.reduceMul, List.getElem?_cons_zero, List.getElem?_cons_succ, he]
      refine e4_2 ?_ (by simp)
      simp only [t4_2]
      exact k
  have e21' : bslK true 1 [.int .i64 0] 5 [(0, .int .i64 13), (1, .int .i64 14), (2, .int .i64 15), (3, .int .i64 17), (4, .int .i64 21)] h17 = some (.slice h17.next 0 5 1, h21) := e21
  have e28' : bslK true 1 [.int .i64 0] 5 [(0, .int .i64 (p + q)), (1, .int .i64 (p - q)), (2, .int .i64 v2), (3, .int .i64 0), (4, .int .i64 0)] h21 = some (.slice h21.next 0 5 1, h28) := e28
  have wa : wr .i64 (p + q) = p + q := wr_i64 (by omega) (by omega)
  have ws : wr .i64 (p - q) = p - q := wr_i64 (by omega) (by omega)
  have wp : wr .i64 (1 * 2 ^ (min (q % 8).toNat 64)) = 1 * 2 ^ (min (q % 8).toNat 64) := wr_i64 (by omega) (by omega)
  have wp' : wr .i64 (1 * 2 ^ (min (q % 8).toNat IntKind.i64.bits)) = 1 * 2 ^ (min (q % 8).toNat 64) := wp
  have sA : IV.str ⟨1, 65⟩ = sv [65] := rfl
  have sB : IV.str ⟨1, 66⟩ = sv [66] := rfl
  have shl := binN_shl .i64 .i64 1 (q % 8) hq8.1
  by_cases hlt' : p < q
  · obtain ⟨h', e', l'⟩ := l28'.st 0 rfl (n := 1) (off := 3) (v := .int .i64 1) rfl rfl (by simp)
    have sc' := sc28.st e' (Ne.symm hlt.1)
    have ix3 : ixS 1 (.slice h21.next 0 5 1) (.int .i64 3) = some (.ptr h21.next 3) := rfl
    have l'' : Lv H0 h' [(h21.next, [.int .i64 (p + q), .int .i64 (p - q), .int .i64 v2, .int .i64 1, .int .i64 0]), (h17.next, [.int .i64 13, .int .i64 14, .int .i64 15, .int .i64 17, .int .i64 21])] := l'
    obtain ⟨g, k⟩ := fin h' (by simpa [isF, hlt'] using l'') sc'
    refine ⟨g, c4 step2 rfl rfl gd0 ?_ (by simp)⟩
    simp only [t4_0, binN_rem _ _ _ (show (2147483647 : Int) ≠ 0 by omega), hp, hq, W, decide_eq_true_eq, Bool.not_eq_true', decide_eq_false_iff_not, Bool.false_eq_true, Bool.not_true, Bool.not_false, decide_true, decide_false, not_true_eq_false, not_false_eq_true, and_true, true_and, and_false, false_and, ne_eq, Nat.zero_add, Nat.add_zero, cond_true, cond_false, ↓reduceIte, reduceCtorEq, Nat.reduceAdd, Int.reduceEq, Int.reduceNe, Int.reduceLT, Int.reduceLE, Int.reduceAdd, Int.reduceSub, Int.reduceMul, Int.reduceNeg, Nat.reduceMul, List.getElem?_cons_zero, List.getElem?_cons_succ, e10, sA, sB, eA, eB, e21', wa, ws, binN_and, and7, shl, wp', hv2, e28', hlt', ix3, e']
    exact k
  · obtain ⟨g, k⟩ := fin h28 (by simpa [isF, hlt'] using l28') sc28
    refine ⟨g, c4 step2 rfl rfl gd0 ?_ (by simp)⟩
    simp only [t4_0, binN_rem _ _ _ (show (2147483647 : Int) ≠ 0 by omega), hp, hq, W, decide_eq_true_eq, Bool.not_eq_true', decide_eq_false_iff_not, Bool.false_eq_true, Bool.not_true, Bool.not_false, decide_true, decide_false, not_true_eq_false, not_false_eq_true, and_true, true_and, and_false, false_and, ne_eq, Nat.zero_add, Nat.add_zero, cond_true, cond_false, ↓reduceIte, reduceCtorEq, Nat.reduceAdd, Int.reduceEq, Int.reduceNe, Int.reduceLT, Int.reduceLE, Int.reduceAdd, Int.reduceSub, Int.reduceMul, Int.reduceNeg, Nat.reduceMul, List.getElem?_cons_zero, List.getElem?_cons_succ, e10, sA, sB, eA, eB, e21', wa, ws, binN_and, and7, shl, wp', hv2, e28', hlt']
    exact k

end Go.Proofs.YtblgpcijbdbeiaaDoor

namespace Go.Proofs.YtblgpcijbdbeiaaDoor
open Go I
set_option maxRecDepth 100000
set_option linter.unusedVariables false
set_option linter.unusedSimpArgs false

def XA (h : H) (e : E) (c : List IV) : Prop := ∃ n, XR h n e c
theorem XA.scalar {h : H} {e : E} {c : List IV} (r : XA h e c) : allScalar c = true ∧ c.length = 6 := by
  obtain ⟨n, r⟩ := r; exact r.scalar
theorem z0s : allScalar z0 = true := rfl

theorem Cs_same {h h' : H} {b : Nat} {rw fz : Bool} {cs : List IV} (c : Cs h b rw fz cs) (e : h'.get b = h.get b) : Cs h' b rw fz cs := by
  obtain ⟨t, h1, h2⟩ := c
  exact ⟨t, e.trans h1, h2⟩
theorem Dp_gr {h₀ h : H} (w : WF h₀) (d : Dp h₀ h) : Gr h₀ h := fun b o hb => by
  have hlt : b < h₀.next := by
    rcases Nat.lt_or_ge b h₀.next with hl | hl
    · exact hl
    · rw [w b hl] at hb; cases hb
  exact (d.low b hlt).trans hb
theorem small1 {h₀ : H} (w₀ : WF h₀) {most : Int} (hm : most ≤ 2000) : ∀ (k : Nat) (h : H) (b : Nat) (fz : Bool) (cells : List IV) (l : List E) (n : Int), Dp h₀ h → h.pol = false → h₀.next ≤ b → Cs h b true fz cells → l.length * 6 ≤ cells.length →
    Ch (XA h₀) 6 l (cells.take (l.length * 6)) → nodesL l ≤ 2 ^ 21 → 0 ≤ n → (most + 1 - n).toNat = k → ∃ r h', J8 tab2 1 [.int .i64 most, .slice b 0 l.length 6, .int .i64 n] h = .ok (.bool r) h' ∧ Dp h₀ h' := by
  intro k
  induction k with
  | zero =>
    intro h b fz cells l n d hp hb c hle hch hnd hn hk
    refine ⟨decide (n ≤ most), h, e8_1 ?_ (by simp), d⟩
    have h1 : ¬ n ≤ most := by omega
    by_cases hl : (l.length : Int) > 0
    · simp only [t8_1, W, decide_eq_true_eq, Bool.not_eq_true', decide_eq_false_iff_not, Bool.false_eq_true, Bool.not_true, Bool.not_false, decide_true, decide_false, not_true_eq_false, not_false_eq_true, and_true, true_and, and_false, false_and, ne_eq, Nat.zero_add, Nat.add_zero, cond_true, cond_false, ↓reduceIte, reduceCtorEq, Nat.reduceAdd, Int.reduceEq, Int.reduceNe, Int.reduceLT, Int.reduceLE, Int.reduceAdd, Int.reduceSub, Int.reduceMul, Int.reduceNeg, Nat.reduceMul, List.getElem?_cons_zero, List.getElem?_cons_succ, lenS, hl, h1]
    · simp only [t8_1, W, decide_eq_true_eq, Bool.not_eq_true', decide_eq_false_iff_not, Bool.false_eq_true, Bool.not_true, Bool.not_false, decide_true, decide_false, not_true_eq_false, not_false_eq_true, and_true, true_and, and_false, false_and, ne_eq, Nat.zero_add, Nat.add_zero, cond_true, cond_false, ↓reduceIte, reduceCtorEq, Nat.reduceAdd, Int.reduceEq, Int.reduceNe, Int.reduceLT, Int.reduceLE, Int.reduceAdd, Int.reduceSub, Int.reduceMul, Int.reduceNeg, Nat.reduceMul, List.getElem?_cons_zero, List.getElem?_cons_succ, lenS, hl, h1]
  | succ k ih =>
    intro h b fz cells l n d hp hb c hle hch hnd hn hk
    have h1 : n ≤ most := by omega
    rcases List.eq_nil_or_concat l with rfl | ⟨l', y, rfl⟩
    · refine ⟨decide (n ≤ most), h, e8_1 ?_ (by simp), d⟩
      simp only [t8_1, W, decide_eq_true_eq, Bool.not_eq_true', decide_eq_false_iff_not, Bool.false_eq_true, Bool.not_true, Bool.not_false, decide_true, decide_false, not_true_eq_false, not_false_eq_true, and_true, true_and, and_false, false_and, ne_eq, Nat.zero_add, Nat.add_zero, cond_true, cond_false, ↓reduceIte, reduceCtorEq, Nat.reduceAdd, Int.reduceEq, Int.reduceNe, Int.reduceLT, Int.reduceLE, Int.reduceAdd, Int.reduceSub, Int.reduceMul, Int.reduceNeg, Nat.reduceMul, List.getElem?_cons_zero, List.getElem?_cons_succ, lenS, h1, List.length_nil]
      rfl
    · simp only [List.concat_eq_append] at *
      have hlen : (l' ++ [y]).length = l'.length + 1 := by simp
      rw [hlen] at hle hch ⊢
      obtain ⟨s1, s2, s3⟩ := hch.split
      have hb21 : (l' ++ [y]).length ≤ 2 ^ 21 := Nat.le_trans (len_nodes _) hnd
      rw [hlen] at hb21
      have hcl : l'.length * 6 + 6 ≤ cells.length := by omega
      have hy : ((cells.take ((l'.length + 1) * 6)).drop (l'.length * 6)).take 6 = (cells.drop (l'.length * 6)).take 6 := by
        rw [List.drop_take, List.take_take]; congr 1; omega
      rw [hy] at s2
      have hl2 : (cells.take ((l'.length + 1) * 6)).take (l'.length * 6) = cells.take (l'.length * 6) := by
        rw [List.take_take]; congr 1; omega
      rw [hl2] at s1
      obtain ⟨m, hxr⟩ := s2
      obtain ⟨op, nm, v, pl, kids, at_⟩ := y
      rw [nodesL_app] at hnd
      simp only [nodesL, E.nodes] at hnd
      cases m with
      | zero => cases hxr
      | succ m =>
        obtain ⟨K, hK1, hK2⟩ := hxr
        have e1 := c.ldA 6 (l'.length * 6) hcl
        rw [hK1] at e1
        obtain ⟨h18, e18, d18, c18, o18, n18⟩ := d.newI z0s
        obtain ⟨h19, e19, d19, c19, o19, n19, p19⟩ := d18.st (n := 6) (off := 0) (v := .agg (ecells op nm v pl K at_)) d.ext.next c18 rfl (ecells_scalar hK2.scalar) (by show 0 + 6 ≤ 6; omega)
        have e22 : I.ld0 h19 (.ptr h.next 4) = some K := c19.ld0 4
        have hbl := c.lt d.wf
        have c2 : Cs h19 b true fz cells := Cs_same c ((o19 b (by omega)).trans (o18 b hbl))
        have p19' : h19.pol = false := by
          have := d19.ext.pol
          have := d.ext.pol
          rw [d19.ext.pol, ← d.ext.pol]; exact hp
        obtain ⟨new, hsrc, hch2, hnl⟩ := (LR.gr (Dp_gr w₀ d19) (fun _ _ r => r) hK2 : LR h19 6 (XR h₀ m) kids K).source
        have eix : ixS 6 (.slice b 0 (l'.length + 1) 6) (.int .i64 (l'.length : Nat)) = some (.ptr b (l'.length * 6)) := by
          simp only [ixS]
          rw [if_pos ⟨trivial, by omega, by omega⟩]
          simp
        have esub : wr .i64 (((l'.length + 1 : Nat) : Int) - 1) = (l'.length : Nat) := by rw [wr_i64 (by omega) (by omega)]; omega
        have eadd : wr .i64 (n + 1) = n + 1 := wr_i64 (by omega) (by omega)
        have hg : ((l'.length + 1 : Nat) : Int) > 0 := by omega
        have esl : slcS 6 (.slice b 0 (l'.length + 1) 6) none (some (.int .i64 (l'.length : Nat))) none = some (.slice b 0 l'.length 6) := slcS_to (by omega)
        have main : ∀ (b' : Nat) (len' : Nat) (h24 : H), appK 6 80 h19 (.slice b 0 l'.length 6) K = some (.slice b' 0 len' 6, h24) → ∀ r h', J8 tab2 1 [.int .i64 most, .slice b' 0 len' 6, .int .i64 (n + 1)] h24 = .ok (.bool r) h' →
            J8 tab2 1 [.int .i64 most, .slice b 0 (l'.length + 1) 6, .int .i64 n] h = .ok (.bool r) h' := by
          intro b' len' h24 ea r h' ej
          refine e8_1 ?_ (by simp)
          simp only [t8_1, W, decide_eq_true_eq, Bool.not_eq_true', decide_eq_false_iff_not, Bool.false_eq_true, Bool.not_true, Bool.not_false, decide_true, decide_false, not_true_eq_false, not_false_eq_true, and_true, true_and, and_false, false_and, ne_eq, Nat.zero_add, Nat.add_zero, cond_true, cond_false, ↓reduceIte, reduceCtorEq, Nat.reduceAdd, Int.reduceEq, Int.reduceNe, Int.reduceLT, Int.reduceLE, Int.reduceAdd, Int.reduceSub, Int.reduceMul, Int.reduceNeg, Nat.reduceMul, List.getElem?_cons_zero, List.getElem?_cons_succ, lenS, hg, h1, esub, eix, e1, e18, e19, esl, fadK, e22, ea, eadd]
          exact ej
        rcases Nat.eq_zero_or_pos kids.length with h0 | h0
        · have hk0 : kids = [] := List.eq_nil_of_length_eq_zero h0
          subst hk0
          have hn0 : new = [] := List.eq_nil_of_length_eq_zero (by simpa using hnl)
          subst hn0
          obtain ⟨r, h', ej, d'⟩ := ih h19 b fz cells l' (n + 1) d19 p19' hb c2 (by omega) s1 (by omega) (by omega) (by omega)
          exact ⟨r, h', main _ _ _ (app_none hsrc) r h' ej, d'⟩
        · have hlk : l'.length + kids.length ≤ 2 ^ 21 := by
            have := len_nodes l'
            have := len_nodes kids
            omega
          obtain ⟨h24, ea, d24, p24, hb24, c24⟩ := d19.app (bytes := 80) p19' hb c2 (len := l'.length) (by omega) hsrc hnl (hch2.scalar fun x c r => r.scalar.1) (by omega) (by omega)
          have hlen2 : (cells.take (l'.length * 6) ++ new).length = (l' ++ kids).length * 6 := by
            rw [List.length_append, List.length_take, hnl, List.length_append, Nat.add_mul]; omega
          obtain ⟨r, h', ej, d'⟩ := ih h24 h19.next fz _ (l' ++ kids) (n + 1) d24 p24 hb24 c24 (by omega) (by
            rw [← hlen2, List.take_length]
            exact Ch.app (hch2.mono fun x c r => ⟨m, r⟩) s1) (by rw [nodesL_app]; omega) (by omega) (by omega)
          rw [List.length_append] at ej
          exact ⟨r, h', main _ _ _ ea r h' ej, d'⟩

/-- small -/
theorem small8 {h : H} (g : Gd h) {n : Nat} {x : E} {cs : List IV} (r : XR h n x cs) (hx : x.nodes ≤ 2 ^ 21) {most : Int} (h0 : 0 ≤ most) (hm : most ≤ 2000) : ∃ b h', CL tab2 8 [.agg cs, .int .i64 most] h = .ok (.bool b) h' ∧ Ex h h' := by
  have d := Dp.start g
  have hs := r.scalar
  obtain ⟨h2, e2, d2, c2, o2, n2⟩ := d.newI hs.1
  have e3 := c2.ldAll (n := 6) hs.2.symm
  obtain ⟨h5, e5, d5, c5, o5, n5⟩ := d2.lit (by rw [d2.ext.pol]; rfl) (es := 6) (z := z0) (vs := [.agg cs]) rfl (by simpa [IV.cells] using hs.2) (by simpa [cellsOf, IV.cells] using hs.1)
  have hcs : cellsOf [.agg cs] = cs := by simp [cellsOf, IV.cells]
  rw [hcs] at c5
  obtain ⟨b, h', ej, d'⟩ := small1 (h₀ := h.setPol false) g.wf hm _ h5 h2.next false cs [x] 0 d5 (by rw [d5.ext.pol]; rfl) (by have := d2.ext.next; exact this) c5 (by simp [hs.2]) (by
    rw [show [x].length * 6 = cs.length by simp [hs.2], List.take_length]
    exact ⟨cs, [], by simp, hs.2, ⟨n, XR.gr (h := h) (h' := h.setPol false) (fun b o hb => hb) n r⟩, rfl⟩) (by simp only [nodesL]; omega) (by omega) rfl
  refine ⟨b, _, c8 step2 rfl rfl g (r := .ok (.bool b) h') ?_ (by simp), d'.done g⟩
  have e5' : bslK false 6 z0 1 [(0, .agg cs)] h2 = some (.slice h2.next 0 1 6, h5) := e5
  have hI : I.newI (h.setPol false) (IV.cells (.agg cs)) = some (.ptr (h.setPol false).next 0, h2) := e2
  simp only [t8_0, hI, W, decide_eq_true_eq, Bool.not_eq_true', decide_eq_false_iff_not, Bool.false_eq_true, Bool.not_true, Bool.not_false, decide_true, decide_false, not_true_eq_false, not_false_eq_true, and_true, true_and, and_false, false_and, ne_eq, Nat.zero_add, Nat.add_zero, cond_true, cond_false, ↓reduceIte, reduceCtorEq, Nat.reduceAdd, Int.reduceEq, Int.reduceNe, Int.reduceLT, Int.reduceLE, Int.reduceAdd, Int.reduceSub, Int.reduceMul, Int.reduceNeg, Nat.reduceMul, List.getElem?_cons_zero, List.getElem?_cons_succ, e3, e5']
  exact ej

end Go.Proofs.YtblgpcijbdbeiaaDoor

namespace Go.Proofs.YtblgpcijbdbeiaaDoor
open Go I
set_option maxRecDepth 100000
set_option linter.unusedVariables false
set_option linter.unusedSimpArgs false

/-- an evaluation, and its reason put into a variable -/
theorem evalD {h₀ h : H} {L : List (Nat × List IV)} (l : Lv h₀ h L) {pS mS : Nat} {s : Sc} (sc : ScM h pS mS s) {n : Nat} {x : E} {cs : List IV} (r : XR h n x cs) :
    ∃ h3 h4 h5, CL tab2 12 [.ptr pS 0, .agg cs] h = .ok (ans (evalF s n x)) h3 ∧ I.newI h3 [.int .i64 0, .int .i64 0] = some (.ptr h3.next 0, h4) ∧ stA 2 h4 (.ptr h3.next 0) (.agg (dg (ansD (evalF s n x)))) = some h5 ∧
      Lv h₀ h5 ((h3.next, dg (ansD (evalF s n x))) :: L) ∧ ScM h5 pS mS s := by
  obtain ⟨h3, e3, x3⟩ := eval12 r sc.r l.gd
  have l3 := l.go x3
  have sc3 := sc.keep x3
  obtain ⟨h4, e4, l4, x4⟩ := l3.newI' (cs := [.int .i64 0, .int .i64 0]) rfl
  obtain ⟨h5, e5, l5⟩ := l4.set 0 rfl (n := 2) (v := .agg (dg (ansD (evalF s n x)))) rfl rfl rfl
  simp only [List.set_cons_zero, IV.cells] at l5
  have hlt := sc3.cell.lt l3.gd.wf
  exact ⟨h3, h4, h5, e3, e4, e5, l5, (sc3.keep x4).st e5 (by omega)⟩
theorem lit3 {h₀ h : H} {L : List (Nat × List IV)} (l : Lv h₀ h L) {pS mS : Nat} {s : Sc} (sc : ScM h pS mS s) {n : Nat} {a b c : E} {ca cb cc : List IV} (ra : XR h n a ca) (rb : XR h n b cb) (rc : XR h n c cc) (op : Int) :
    ∃ h', bslK false 6 z0 3 [(0, .agg ca), (1, .agg cb), (2, .agg cc)] h = some (.slice h.next 0 3 6, h') ∧ Lv h₀ h' L ∧ ScM h' pS mS s ∧ XR h' (n + 1) (.mk op [] [] false [a, b, c] 0) (ecells op [] [] false (.slice h.next 0 3 6) 0) := by
  obtain ⟨h', e, x, c'⟩ := bslK_imm (z := z0) (vs := [.agg ca, .agg cb, .agg cc]) l.gd z0_len (by
      intro w hw
      simp only [List.mem_cons, List.not_mem_nil, or_false] at hw
      rcases hw with rfl | rfl | rfl
      · exact ra.scalar.2
      · exact rb.scalar.2
      · exact rc.scalar.2) (by
      show allScalar (ca ++ (cb ++ (cc ++ []))) = true
      simp only [allScalar_app, ra.scalar.1, rb.scalar.1, rc.scalar.1]; rfl)
  refine ⟨h', e, l.go x, sc.keep x, _, rfl, kids_of (css := [ca, cb, cc]) rfl ?_ c'⟩
  intro j y d h1 h2
  match j with
  | 0 => simp at h1 h2; subst h1; subst h2; exact ra.mono x.ext n
  | 1 => simp at h1 h2; subst h1; subst h2; exact rb.mono x.ext n
  | 2 => simp at h1 h2; subst h1; subst h2; exact rc.mono x.ext n
  | j + 3 => simp at h1
theorem lit2 {h₀ h : H} {L : List (Nat × List IV)} (l : Lv h₀ h L) {pS mS : Nat} {s : Sc} (sc : ScM h pS mS s) {n : Nat} {a b : E} {ca cb : List IV} (ra : XR h n a ca) (rb : XR h n b cb) (op : Int) :
    ∃ h', bslK false 6 z0 2 [(0, .agg ca), (1, .agg cb)] h = some (.slice h.next 0 2 6, h') ∧ Lv h₀ h' L ∧ ScM h' pS mS s ∧ XR h' (n + 1) (.mk op [] [] false [a, b] 0) (ecells op [] [] false (.slice h.next 0 2 6) 0) := by
  obtain ⟨h', e, x, c'⟩ := bslK_imm (z := z0) (vs := [.agg ca, .agg cb]) l.gd z0_len (by
      intro w hw
      simp only [List.mem_cons, List.not_mem_nil, or_false] at hw
      rcases hw with rfl | rfl
      · exact ra.scalar.2
      · exact rb.scalar.2) (by
      show allScalar (ca ++ (cb ++ [])) = true
      simp only [allScalar_app, ra.scalar.1, rb.scalar.1]; rfl)
  refine ⟨h', e, l.go x, sc.keep x, _, rfl, kids_of (css := [ca, cb]) rfl ?_ c'⟩
  intro j y d h1 h2
  match j with
  | 0 => simp at h1 h2; subst h1; subst h2; exact ra.mono x.ext n
  | 1 => simp at h1 h2; subst h1; subst h2; exact rb.mono x.ext n
  | j + 2 => simp at h1

/-! ### the plain law -/
def eN : E := .mk 2 [78] [] false [] 0
def eOne : E := .mk 1 [] [49] false [] 0
theorem evN (k : Int) (n : Nat) : evalF [([78], k)] (n + 1) eN = .ok k := by simp [evalF, eN, getM]
theorem evOne (s : Sc) (n : Nat) : evalF s (n + 1) eOne = .ok 1 := by
  have : numberM [49] = (1, 0) := by decide
  simp [evalF, eOne, this]
theorem evCond (k : Int) (n : Nat) (a b : E) : evalF [([78], k)] (n + 1 + 1) (.mk 6 [] [] false [eN, a, b] 0) = if k = 0 then evalF [([78], k)] (n + 1) b else evalF [([78], k)] (n + 1) a := by
  rw [evalF]
  simp only [Int.reduceEq, if_false, if_true, List.length_cons, List.length_nil, Nat.zero_add, Nat.reduceAdd, kidF, List.getElem?_cons_zero, List.getElem?_cons_succ, evN]
theorem evLor (k : Int) (n : Nat) (x : E) : evalF [([78], k)] (n + 1 + 1) (.mk 27 [] [] false [eOne, x] 0) = match evalF [([78], k)] (n + 1) x with | .ok b => .ok 1 | r => r := by
  rw [evalF]
  simp only [Int.reduceEq, if_false, if_true, List.length_cons, List.length_nil, Nat.zero_add, Nat.reduceAdd, kidF, List.getElem?_cons_zero, List.getElem?_cons_succ, evOne, Int.reduceLT, or_self]
  cases evalF [([78], k)] (n + 1) x with
  | ok b =>
    have : binF 27 1 b = some 1 := by simp [binF, isF]
    simp [this]
  | er a e => rfl

end Go.Proofs.YtblgpcijbdbeiaaDoor

namespace Go.Proofs.YtblgpcijbdbeiaaDoor
open Go I
set_option maxRecDepth 100000
set_option linter.unusedVariables false
set_option linter.unusedSimpArgs false

theorem ways {h : H} (g : Gd h) {m : Nat} {x : E} {cs : List IV} (r : XR h m x cs) (hx : x.nodes ≤ 2 ^ 21) (a : Int) : ∃ h', CL tab2 5 [.int .i64 a, .agg cs] h = .ok (.bool true) h' := by
  cases m with
  | zero => cases r
  | succ n =>
  obtain ⟨hb, hb'⟩ := tmod_small a 2147483648 (by omega)
  generalize hk : a.tmod 2147483648 = k at hb hb'
  have hs := r.scalar
  obtain ⟨h2, e2, l2, x2⟩ := (Lv.start g).newI' hs.1
  obtain ⟨pS, mS, h4, e10, sc4, l4, hm⟩ := new10 l2
  have ld4 : I.ldA 6 h4 (.ptr h.next 0) = some (.agg cs) := l4.ldA 0 rfl hs.2.symm
  obtain ⟨b8, h12, e8, x12⟩ := small8 l4.gd (r.mono l4.ex.ext _) hx (most := 500) (by omega) (by omega)
  have sc12 := sc4.keep x12
  have l12 := l4.go x12
  have sN : IV.str ⟨1, 78⟩ = sv [78] := rfl
  have s1 : IV.str ⟨1, 49⟩ = sv [49] := rfl
  cases b8 with
  | false =>
    have e9 : CL tab2 9 [] h12 = .ok (.bool true) h12 := call_pure rfl rfl h12
    refine ⟨h12, c5 step2 rfl rfl g ?_ (by simp)⟩
    simp only [t5_0, IV.cells, e2, W, decide_eq_true_eq, Bool.not_eq_true', decide_eq_false_iff_not, Bool.false_eq_true, Bool.not_true, Bool.not_false, decide_true, decide_false, not_true_eq_false, not_false_eq_true, and_true, true_and, and_false, false_and, ne_eq, Nat.zero_add, Nat.add_zero, cond_true, cond_false, ↓reduceIte, reduceCtorEq, Nat.reduceAdd, Int.reduceEq, Int.reduceNe, Int.reduceLT, Int.reduceLE, Int.reduceAdd, Int.reduceSub, Int.reduceMul, Int.reduceNeg, Nat.reduceMul, List.getElem?_cons_zero, List.getElem?_cons_succ, e10, binN_rem _ _ _ (show (2147483648 : Int) ≠ 0 by omega), hk, ld4, e8, unI, e9]
  | true =>
    obtain ⟨h19, e11, sc19, l19⟩ := set11 l12 sc12 (nm := [78]) (n := k) rfl (by omega) hm
    obtain ⟨h31, e31, l31, x31⟩ := l19.newI' (cs := z0) rfl
    obtain ⟨h32, e32, l32⟩ := l31.set 0 rfl (n := 6) (v := .agg (ecells 2 [78] [] false .nilSlice 0)) rfl rfl rfl
    simp only [List.set_cons_zero, IV.cells] at l32
    have hlt19 := sc19.cell.lt l19.gd.wf
    have sc32 := (sc19.keep x31).st e32 (by omega)
    obtain ⟨h34, e34, x34⟩ := num14 l32 [49]
    have l34 := l32.go x34
    have sc34 := sc32.keep x34
    obtain ⟨h36, e36, l36, x36⟩ := l34.newI' (cs := z0) rfl
    obtain ⟨h37, e37, l37⟩ := l36.set 0 rfl (n := 6) (v := .agg (ecells 1 [] [49] false .nilSlice 0)) rfl rfl rfl
    simp only [List.set_cons_zero, IV.cells] at l37
    have hlt34 := sc34.cell.lt l34.gd.wf
    have sc37 := (sc34.keep x36).st e37 (by omega)
    have ld38 : I.ldA 6 h37 (.ptr h.next 0) = some (.agg cs) := l37.ldA 2 rfl hs.2.symm
    obtain ⟨h40, h44, h45, e12, e44, e45, l45, sc45⟩ := evalD l37 sc37 (r.mono l37.ex.ext _)
    have ld46 : I.ldA 6 h45 (.ptr h19.next 0) = some (.agg (ecells 2 [78] [] false .nilSlice 0)) := l45.ldA 2 rfl rfl
    have ld47 : I.ldA 6 h45 (.ptr h34.next 0) = some (.agg (ecells 1 [] [49] false .nilSlice 0)) := l45.ldA 1 rfl rfl
    have ld48 : I.ldA 6 h45 (.ptr h.next 0) = some (.agg cs) := l45.ldA 3 rfl hs.2.symm
    obtain ⟨h50, e50, l50, sc50, r50⟩ := lit3 l45 sc45 (xrLeaf h45 n 2 [78] [] 0) (xrLeaf h45 n 1 [] [49] 0) (r.mono l45.ex.ext _) 6
    obtain ⟨h53, h57, h58, e53, e57, e58, l58, sc58⟩ := evalD l50 sc50 r50
    have ld59 : I.ldA 6 h58 (.ptr h19.next 0) = some (.agg (ecells 2 [78] [] false .nilSlice 0)) := l58.ldA 3 rfl rfl
    have ld60 : I.ldA 6 h58 (.ptr h34.next 0) = some (.agg (ecells 1 [] [49] false .nilSlice 0)) := l58.ldA 2 rfl rfl
    have ld61 : I.ldA 6 h58 (.ptr h.next 0) = some (.agg cs) := l58.ldA 4 rfl hs.2.symm
    obtain ⟨h63, e63, l63, sc63, r63⟩ := lit3 l58 sc58 (xrLeaf h58 n 2 [78] [] 0) (r.mono l58.ex.ext _) (xrLeaf h58 n 1 [] [49] 0) 6
    obtain ⟨h66, h70, h71, e66, e70, e71, l71, sc71⟩ := evalD l63 sc63 r63
    have ld72 : I.ldA 6 h71 (.ptr h34.next 0) = some (.agg (ecells 1 [] [49] false .nilSlice 0)) := l71.ldA 3 rfl rfl
    have ld73 : I.ldA 6 h71 (.ptr h.next 0) = some (.agg cs) := l71.ldA 5 rfl hs.2.symm
    obtain ⟨h75, e75, l75, sc75, r75⟩ := lit2 l71 sc71 (xrLeaf h71 n 1 [] [49] 0) (r.mono l71.ex.ext _) 27
    obtain ⟨h78, h82, h83, e78, e82, e83, l83, sc83⟩ := evalD l75 sc75 r75
    have v1 := evCond k n eOne x
    have v2 := evCond k n x eOne
    have v3 := evLor k n x
    simp only [eN, eOne] at v1 v2 v3
    simp only [List.nil_append] at *
    have w1 := evOne [([78], k)] n
    simp only [eOne] at w1
    rw [w1] at v1 v2
    have ld84 := l83.ldA 0 rfl (n := 2) rfl
    have ld85 := l83.ldA 3 rfl (n := 2) rfl
    have ld91 := l83.ld0 3 rfl 1
    have ld104 := l83.ld0 0 rfl 1
    have ld117 := l83.ld0 2 rfl 1
    have ld142 := l83.ld0 1 rfl 1
    have ld128 := l83.ldA 1 rfl (n := 2) rfl
    have ld154 := l83.ldA 2 rfl (n := 2) rfl
    have e9 : CL tab2 9 [] h83 = .ok (.bool true) h83 := call_pure rfl rfl h83
    generalize hv : evalF [([78], k)] (n + 1) x = v at *
    generalize hu1 : evalF [([78], k)] (n + 1 + 1) (.mk 6 [] [] false [.mk 2 [78] [] false [] 0, .mk 1 [] [49] false [] 0, x] 0) = u1 at *
    generalize hu2 : evalF [([78], k)] (n + 1 + 1) (.mk 6 [] [] false [.mk 2 [78] [] false [] 0, x, .mk 1 [] [49] false [] 0] 0) = u2 at *
    generalize hu3 : evalF [([78], k)] (n + 1 + 1) (.mk 27 [] [] false [.mk 1 [] [49] false [] 0, x] 0) = u3 at *
    refine ⟨h83, c5 step2 rfl rfl g ?_ (by simp)⟩
    simp only [t5_0, IV.cells, e2, W, decide_eq_true_eq, Bool.not_eq_true', decide_eq_false_iff_not, Bool.false_eq_true, Bool.not_true, Bool.not_false, decide_true, decide_false, not_true_eq_false, not_false_eq_true, and_true, true_and, and_false, false_and, ne_eq, Nat.zero_add, Nat.add_zero, cond_true, cond_false, ↓reduceIte, reduceCtorEq, Nat.reduceAdd, Int.reduceEq, Int.reduceNe, Int.reduceLT, Int.reduceLE, Int.reduceAdd, Int.reduceSub, Int.reduceMul, Int.reduceNeg, Nat.reduceMul, List.getElem?_cons_zero, List.getElem?_cons_succ, e10, binN_rem _ _ _ (show (2147483648 : Int) ≠ 0 by omega), hk, ld4, e8, unI, sN, e11, bldE2, e31, e32, s1, e34, e36, e37, ld38, e12, ans, e44, e45, ld46, ld47, ld48, e50, bldE4, e53, e57, e58, ld59, ld60, ld61, e63, e66, e70, e71, ld72, ld73, e75, e78, e82, e83,
      ld84, ld85, dg_neq, fadK, ld91, ld104, ld117, ld142, ld128, ld154, dg_eql, e9]
    have dg1 : ∀ d : Int × Int, (dg d)[1]? = some (.int .i64 d.2) := fun _ => rfl
    by_cases hk0 : k = 0
    · rw [if_pos hk0] at v1 v2
      cases v with
      | ok b =>
        have v3 : u3 = .ok 1 := v3
        subst v1; subst v2; subst v3
        simp only [dg1, ansD, ansN, hk0, W, decide_eq_true_eq, Bool.not_eq_true', decide_eq_false_iff_not, Bool.false_eq_true, Bool.not_true, Bool.not_false, decide_true, decide_false, not_true_eq_false, not_false_eq_true, and_true, true_and, and_false, false_and, ne_eq, Nat.zero_add, Nat.add_zero, cond_true, cond_false, ↓reduceIte, reduceCtorEq, Nat.reduceAdd, Int.reduceEq, Int.reduceNe, Int.reduceLT, Int.reduceLE, Int.reduceAdd, Int.reduceSub, Int.reduceMul, Int.reduceNeg, Nat.reduceMul, List.getElem?_cons_zero, List.getElem?_cons_succ, ld91, ld104, ld117, ld142, ld128, ld154, ld85, dg_eql, e9]
      | er p e =>
        have v3 : u3 = .er p e := v3
        subst v1; subst v2; subst v3
        by_cases he : e = 0
        · simp only [dg1, ansD, ansN, hk0, W, decide_eq_true_eq, Bool.not_eq_true', decide_eq_false_iff_not, Bool.false_eq_true, Bool.not_true, Bool.not_false, decide_true, decide_false, not_true_eq_false, not_false_eq_true, and_true, true_and, and_false, false_and, ne_eq, Nat.zero_add, Nat.add_zero, cond_true, cond_false, ↓reduceIte, reduceCtorEq, Nat.reduceAdd, Int.reduceEq, Int.reduceNe, Int.reduceLT, Int.reduceLE, Int.reduceAdd, Int.reduceSub, Int.reduceMul, Int.reduceNeg, Nat.reduceMul, List.getElem?_cons_zero, List.getElem?_cons_succ, ld91, ld104, ld117, ld142, ld128, ld154, ld85, dg_eql, e9, he]
        · simp only [dg1, ansD, ansN, hk0, W, decide_eq_true_eq, Bool.not_eq_true', decide_eq_false_iff_not, Bool.false_eq_true, Bool.not_true, Bool.not_false, decide_true, decide_false, not_true_eq_false, not_false_eq_true, and_true, true_and, and_false, false_and, ne_eq, Nat.zero_add, Nat.add_zero, cond_true, cond_false, ↓reduceIte, reduceCtorEq, Nat.reduceAdd, Int.reduceEq, Int.reduceNe, Int.reduceLT, Int.reduceLE, Int.reduceAdd, Int.reduceSub, Int.reduceMul, Int.reduceNeg, Nat.reduceMul, List.getElem?_cons_zero, List.getElem?_cons_succ, ld91, ld104, ld117, ld142, ld128, ld154, ld85, dg_eql, e9, he]
    · rw [if_neg hk0] at v1 v2
      cases v with
      | ok b =>
        have v3 : u3 = .ok 1 := v3
        subst v1; subst v2; subst v3
        simp only [dg1, ansD, ansN, hk0, W, decide_eq_true_eq, Bool.not_eq_true', decide_eq_false_iff_not, Bool.false_eq_true, Bool.not_true, Bool.not_false, decide_true, decide_false, not_true_eq_false, not_false_eq_true, and_true, true_and, and_false, false_and, ne_eq, Nat.zero_add, Nat.add_zero, cond_true, cond_false, ↓reduceIte, reduceCtorEq, Nat.reduceAdd, Int.reduceEq, Int.reduceNe, Int.reduceLT, Int.reduceLE, Int.reduceAdd, Int.reduceSub, Int.reduceMul, Int.reduceNeg, Nat.reduceMul, List.getElem?_cons_zero, List.getElem?_cons_succ, ld91, ld104, ld117, ld142, ld128, ld154, ld85, dg_eql, e9]
      | er p e =>
        have v3 : u3 = .er p e := v3
        subst v1; subst v2; subst v3
        by_cases he : e = 0
        · simp only [dg1, ansD, ansN, hk0, W, decide_eq_true_eq, Bool.not_eq_true', decide_eq_false_iff_not, Bool.false_eq_true, Bool.not_true, Bool.not_false, decide_true, decide_false, not_true_eq_false, not_false_eq_true, and_true, true_and, and_false, false_and, ne_eq, Nat.zero_add, Nat.add_zero, cond_true, cond_false, ↓reduceIte, reduceCtorEq, Nat.reduceAdd, Int.reduceEq, Int.reduceNe, Int.reduceLT, Int.reduceLE, Int.reduceAdd, Int.reduceSub, Int.reduceMul, Int.reduceNeg, Nat.reduceMul, List.getElem?_cons_zero, List.getElem?_cons_succ, ld91, ld104, ld117, ld142, ld128, ld154, ld85, dg_eql, e9, he]
        · simp only [dg1, ansD, ansN, hk0, W, decide_eq_true_eq, Bool.not_eq_true', decide_eq_false_iff_not, Bool.false_eq_true, Bool.not_true, Bool.not_false, decide_true, decide_false, not_true_eq_false, not_false_eq_true, and_true, true_and, and_false, false_and, ne_eq, Nat.zero_add, Nat.add_zero, cond_true, cond_false, ↓reduceIte, reduceCtorEq, Nat.reduceAdd, Int.reduceEq, Int.reduceNe, Int.reduceLT, Int.reduceLE, Int.reduceAdd, Int.reduceSub, Int.reduceMul, Int.reduceNeg, Nat.reduceMul, List.getElem?_cons_zero, List.getElem?_cons_succ, ld91, ld104, ld117, ld142, ld128, ld154, ld85, dg_eql, e9, he]

end Go.Proofs.YtblgpcijbdbeiaaDoor

namespace Go.Proofs.YtblgpcijbdbeiaaDoor
open Go I
set_option maxRecDepth 100000
set_option linter.unusedVariables false
set_option linter.unusedSimpArgs false

theorem XR_up {h : H} : ∀ {n m : Nat}, n ≤ m → ∀ {e : E} {c : List IV}, XR h n e c → XR h m e c
  | 0, _, _, _, _, r => by cases r
  | n + 1, 0, hle, _, _, _ => by omega
  | n + 1, m + 1, hle, .mk _ _ _ _ _ _, _, ⟨K, h1, h2⟩ => ⟨K, h1, LR.gr (fun _ _ h => h) (fun y c r => XR_up (by omega) r) h2⟩
theorem closE : closT Tryd.prog [24, 3, 9, 4, 22] = true := by kernel_rfl
theorem ut24 : ∃ fs : Array Field, Tryd.prog.underlying 24 = some (.struct fs) ∧ (fs.toList.map fun f => (f.offset, f.type)) = [(0, 3), (1, 9), (2, 9), (3, 4), (4, 22), (5, 3)] := ⟨_, rfl, by kernel_rfl⟩
theorem ut3 : Tryd.prog.underlying 3 = some (.int .i64) := by kernel_rfl
theorem ut9 : Tryd.prog.underlying 9 = some .string := by kernel_rfl
theorem ut4 : Tryd.prog.underlying 4 = some .bool := by kernel_rfl
theorem ut22 : Tryd.prog.underlying 22 = some (.slice 24) := by kernel_rfl
theorem ce24 : Tryd.prog.cellsOf 24 = 6 := by kernel_rfl

variable {Q : Type} {h : H}
theorem DR_int {d : DataW Q} {c : List IV} (r : DR Tryd.prog h 3 d c) : ∃ n, c = [.int .i64 n] := by
  generalize ht : (3 : TypeId) = t at r
  have hu := ut3
  rw [ht] at hu
  cases r with
  | bool u => rw [hu] at u; cases u
  | int u => rw [hu] at u; injection u with u; injection u with u; subst u; exact ⟨_, rfl⟩
  | str u => rw [hu] at u; cases u
  | nil u => rw [hu] at u; cases u
  | struct u => rw [hu] at u; cases u
  | slice u => rw [hu] at u; cases u
theorem DR_str {d : DataW Q} {c : List IV} (r : DR Tryd.prog h 9 d c) : ∃ l, c = [sv l] := by
  generalize ht : (9 : TypeId) = t at r
  have hu := ut9
  rw [ht] at hu
  cases r with
  | bool u => rw [hu] at u; cases u
  | int u => rw [hu] at u; cases u
  | str u => exact ⟨_, rfl⟩
  | nil u => rw [hu] at u; cases u
  | struct u => rw [hu] at u; cases u
  | slice u => rw [hu] at u; cases u
theorem DR_bool {d : DataW Q} {c : List IV} (r : DR Tryd.prog h 4 d c) : ∃ b, c = [.bool b] := by
  generalize ht : (4 : TypeId) = t at r
  have hu := ut4
  rw [ht] at hu
  cases r with
  | bool u => exact ⟨_, rfl⟩
  | int u => rw [hu] at u; cases u
  | str u => rw [hu] at u; cases u
  | nil u => rw [hu] at u; cases u
  | struct u => rw [hu] at u; cases u
  | slice u => rw [hu] at u; cases u
theorem bulk_pos (d : DataW Q) : 1 ≤ Rows.uptoBulk d := by
  cases d with
  | lit l => cases l <;> simp [Rows.uptoBulk]
  | nil => simp [Rows.uptoBulk]
  | ptr d => simp [Rows.uptoBulk]
  | slice elems spare => simp [Rows.uptoBulk]
  | agg parts => simp [Rows.uptoBulk]
  | iface t d => simp [Rows.uptoBulk]
  | map entries => simp [Rows.uptoBulk]
  | held h => simp [Rows.uptoBulk]

theorem tree : ∀ (k : Nat) (d : DataW Q) (xs : List IV), Rows.uptoBulk d ≤ k → DR Tryd.prog h 24 d xs → ∃ n e, XR h n e xs ∧ e.nodes ≤ Rows.uptoBulk d := by
  intro k
  induction k with
  | zero => intro d xs hk; have := bulk_pos d; omega
  | succ k ih =>
    intro d xs hk r
    -- elements, one behind the other
    have key : ∀ (ds : List (DataW Q)) (cs : List (List IV)), cs.length = ds.length → (∀ c ∈ cs, c.length = 6) → (∀ (i : Nat) (d : DataW Q) (c : List IV), ds[i]? = some d → cs[i]? = some c → DR Tryd.prog h 24 d c) → Rows.uptoBulkAll ds ≤ k →
        ∃ (n : Nat) (l : List E), l.length = ds.length ∧ Ch (XR h n) 6 l cs.flatten ∧ nodesL l ≤ Rows.uptoBulkAll ds := by
      intro ds
      induction ds with
      | nil =>
        intro cs hl _ _ _
        have : cs = [] := List.eq_nil_of_length_eq_zero (by simpa using hl)
        subst this
        exact ⟨0, [], rfl, by simp [Ch], by simp [nodesL]⟩
      | cons d ds ih2 =>
        intro cs hl hw hd hb
        cases cs with
        | nil => simp at hl
        | cons c cs =>
          simp only [Rows.uptoBulkAll] at hb ⊢
          obtain ⟨n1, l, q1, q2, q3⟩ := ih2 cs (by simpa using hl) (fun c hc => hw c (List.mem_cons_of_mem _ hc)) (fun i d c hd' hc' => hd (i + 1) d c hd' hc') (by omega)
          obtain ⟨n2, e, p1, p2⟩ := ih d c (by omega) (hd 0 d c rfl rfl)
          refine ⟨max n1 n2, e :: l, by simp [q1], ?_, by simp only [nodesL]; omega⟩
          rw [List.flatten_cons]
          exact ⟨c, _, rfl, hw c (List.mem_cons_self ..), XR_up (Nat.le_max_right ..) p1, q2.mono fun y z r => XR_up (Nat.le_max_left ..) r⟩
    obtain ⟨fs0, hu, hfs⟩ := ut24
    generalize ht : (24 : TypeId) = t at r
    rw [ht] at hu
    cases r with
    | bool u => rw [hu] at u; cases u
    | int u => rw [hu] at u; cases u
    | str u => rw [hu] at u; cases u
    | nil u => rw [hu] at u; cases u
    | slice u => rw [hu] at u; cases u
    | struct u hl hp hd =>
      rename_i fs parts xss
      rw [hu] at u
      have he : fs0 = fs := by injection u with u; injection u
      subst he
      have hlen : fs0.size = 6 := by
        have := congrArg List.length hfs
        simpa using this
      rw [hlen] at hl hp
      obtain ⟨x0, x1, x2, x3, x4, x5, rfl⟩ : ∃ a b c d e f, xss = [a, b, c, d, e, f] := by
        match xss, hl with
        | [a, b, c, d, e, f], _ => exact ⟨a, b, c, d, e, f, rfl⟩
      obtain ⟨d0, d1, d2, d3, d4, d5, rfl⟩ : ∃ a b c d e f, parts = [a, b, c, d, e, f] := by
        match parts, hp with
        | [a, b, c, d, e, f], _ => exact ⟨a, b, c, d, e, f, rfl⟩
      have hf : ∀ (i : Nat) (o : Nat) (t : TypeId), ([(0, 3), (1, 9), (2, 9), (3, 4), (4, 22), (5, 3)] : List (Nat × TypeId))[i]? = some (o, t) → ∃ f : Field, fs0[i]? = some f ∧ f.type = t := by
        intro i o t hi
        rw [← hfs, List.getElem?_map] at hi
        cases hg : fs0.toList[i]? with
        | none => rw [hg] at hi; cases hi
        | some f =>
          rw [hg] at hi
          injection hi with hi
          injection hi with _ hi
          exact ⟨f, by rw [← Array.getElem?_toList]; exact hg, hi⟩
      obtain ⟨f0, a0, b0⟩ := hf 0 0 3 rfl
      obtain ⟨f1, a1, b1⟩ := hf 1 1 9 rfl
      obtain ⟨f2, a2, b2⟩ := hf 2 2 9 rfl
      obtain ⟨f3, a3, b3⟩ := hf 3 3 4 rfl
      obtain ⟨f4, a4, b4⟩ := hf 4 4 22 rfl
      obtain ⟨f5, a5, b5⟩ := hf 5 5 3 rfl
      obtain ⟨op, rfl⟩ := DR_int (b0 ▸ hd 0 f0 d0 x0 a0 rfl rfl)
      obtain ⟨nm, rfl⟩ := DR_str (b1 ▸ hd 1 f1 d1 x1 a1 rfl rfl)
      obtain ⟨v, rfl⟩ := DR_str (b2 ▸ hd 2 f2 d2 x2 a2 rfl rfl)
      obtain ⟨pl, rfl⟩ := DR_bool (b3 ▸ hd 3 f3 d3 x3 a3 rfl rfl)
      obtain ⟨at_, rfl⟩ := DR_int (b5 ▸ hd 5 f5 d5 x5 a5 rfl rfl)
      have r4 : DR Tryd.prog h 22 d4 x4 := b4 ▸ hd 4 f4 d4 x4 a4 rfl rfl
      simp only [Rows.uptoBulk, Rows.uptoBulkAll] at hk ⊢
      have kidsR : ∃ (n : Nat) (l : List E) (K : IV), x4 = [K] ∧ LR h 6 (XR h n) l K ∧ nodesL l ≤ Rows.uptoBulk d4 := by
        generalize ht2 : (22 : TypeId) = t2 at r4
        have hu2 := ut22
        rw [ht2] at hu2
        cases r4 with
        | bool u => rw [hu2] at u; cases u
        | int u => rw [hu2] at u; cases u
        | str u => rw [hu2] at u; cases u
        | struct u => rw [hu2] at u; cases u
        | nil u => exact ⟨0, [], .nilSlice, rfl, .inl ⟨rfl, .inl rfl⟩, by simp [nodesL]⟩
        | slice u gl gm hw hc gd =>
          rename_i e' b elems rest css
          rw [hu2] at u
          have he : 24 = e' := by injection u with u; injection u
          subst he
          simp only [Rows.uptoBulk] at hk ⊢
          rw [ce24] at hw ⊢
          obtain ⟨n, l, q1, q2, q3⟩ := key elems css gl hw gd (by have := bulk_pos d0; omega)
          refine ⟨n, l, _, rfl, ?_, by omega⟩
          rcases Nat.eq_zero_or_pos elems.length with h0 | h0
          · rw [h0] at q1 ⊢
            exact .inl ⟨List.eq_nil_of_length_eq_zero q1, .inr ⟨b, 0, rfl⟩⟩
          · have hne : elems ≠ [] := by rintro rfl; simp at h0
            have hfl := q2.len
            refine .inr ⟨b, 0, css.flatten, by rw [q1], ⟨false, hc hne⟩, by rw [hfl]; omega, ?_⟩
            rw [List.drop_zero, ← hfl, List.take_length]
            exact q2
      obtain ⟨n, l, K, rfl, hlr, hn⟩ := kidsR
      refine ⟨n + 1, .mk op nm v pl l at_, ⟨K, rfl, hlr⟩, ?_⟩
      simp only [E.nodes]; omega

end Go.Proofs.YtblgpcijbdbeiaaDoor
