/- M6: Law02: kinds of bytes, runs of bytes, one token (lexer.kind, lexer.run, lexer.token). Law02: one token (lexer.token). Law02: comments; the tokens of a source (lexer.Lex). Law02: lexer.Lex is lexF. Law02: where the tokens stand (LexerPlaces). Law02: LexerPlaces. Law02: the tokens of two sources with a newline between them: a law of lexF. Law02: the tokens of two sources with a newline between them: a law of lexF (the rest). Law02: LexerJoins. -/
import Derived.Test.YtfegkjmghbdogaaDoorM5
import Derived.Test.YtfegkjmghbdogaaDoorM3
namespace Go.Proofs.YtfegkjmghbdogaaDoor
open Go I
set_option maxRecDepth 100000
set_option linter.unusedVariables false
set_option linter.unusedSimpArgs false

noncomputable def tabA0 : Tab := tab3.add 8 (pureF (fn1 dS fun s => if s.length < 1073741824 then some (numI (numberF s)) else none))
theorem goodA0 : GoodT Tryd.prog EP tabA0 := good3.also envK mixed noNum good3 tNumber
theorem awakeA : PureT Tryd.prog (CL tabA0) 10 (fn0 (.bool true)) := pure0 Tryd.func10 rfl rfl (closed_val (m := 100) (n := 40) (by kernel_rfl))
noncomputable def tabA : Tab := tabA0.add 10 (pureF (fn0 (.bool true)))
theorem goodA : GoodT Tryd.prog EP tabA := goodA0.also envK mixed noNum goodA0 awakeA

/-! ### what a byte is -/
def isSign (n : Nat) : Bool := [40, 41, 91, 93, 123, 125, 44, 59, 58, 46, 35, 64, 63, 43, 45, 126, 33, 38, 124, 94, 61, 60, 62, 42].any fun k => Nat.beq k n
def kindN (n : Nat) : Nat :=
  if n = 32 ∨ n = 9 ∨ n = 10 ∨ n = 13 then 1
  else if (65 ≤ n ∧ n ≤ 90) ∨ (97 ≤ n ∧ n ≤ 122) ∨ n = 95 then 2
  else if 48 ≤ n ∧ n ≤ 57 then 3
  else if n = 96 then 4
  else if isSign n = true then 5 else 0
theorem tKind : PureT Tryd.prog (CL tabA) 26 (fn1 dU fun c => some (.int .i64 (kindN c.toNat : Nat))) := pureU (T := tabA) (m := 100) (n := 20) Tryd.func26 rfl (F := fun n => .int .i64 (kindN n : Nat)) (by kernel_rfl)
noncomputable def tabB : Tab := tabA.add 26 (pureF (fn1 dU fun c => some (.int .i64 (kindN c.toNat : Nat))))
theorem goodB : GoodT Tryd.prog EP tabB := goodA.also envK mixed noNum goodA tKind
def kindF (c : UInt8) : Nat := kindN c.toNat
theorem kindB {h : H} (c : UInt8) : CL tabB 26 [.int .u8 (c.toNat : Nat)] h = .ok (.int .i64 (kindF c : Nat)) h := call1 (A := dU) (a := c) rfl rfl h
/-! ### where a run ends -/
/-- a byte of a name; of a number -/
def isWord (c : UInt8) : Bool := kindF c == 2 || kindF c == 3
def isNum (c : UInt8) : Bool := isWord c || c == 39
def runN (p : UInt8 → Bool) (r : Bs) : Nat := (r.takeWhile p).length
theorem runN_le (p : UInt8 → Bool) (r : Bs) : runN p r ≤ r.length := (List.takeWhile_sublist p).length_le
theorem run_loop {h : H} (g : Gd h) {kv : IV} (s : Bs) (hs : s.length ≤ 1099511627776) {p : UInt8 → Bool}
    (hstep : ∀ (i : Nat) (hi : i < s.length) {r : CRes}, r ≠ .fail → (p s[i] = true → J44 tabB 2 [sv s, .int .i64 ((i + 1 : Nat) : Int), kv] h = r) → (p s[i] = false → r = .ok (.int .i64 (i : Nat)) h) → J44 tabB 2 [sv s, .int .i64 (i : Nat), kv] h = r) :
    ∀ (k i : Nat), i + k = s.length → J44 tabB 2 [sv s, .int .i64 (i : Nat), kv] h = .ok (.int .i64 ((i + runN p (s.drop i) : Nat) : Int)) h := by
  intro k
  induction k with
  | zero =>
    intro i hi
    refine e44_2 ?_ (by simp)
    have h0 : ¬ ((i : Nat) : Int) < (s.length : Nat) := by omega
    rw [List.drop_of_length_le (by omega)]
    simp only [t44_2, W, spanK_u, decide_eq_true_eq, Bool.not_eq_true', decide_eq_false_iff_not, Bool.false_eq_true, Bool.not_true, Bool.not_false, decide_true, decide_false, not_true_eq_false, not_false_eq_true, and_true, true_and, and_false, false_and, ne_eq, Nat.zero_add, Nat.add_zero, cond_true, cond_false, ↓reduceIte, reduceCtorEq, Nat.reduceAdd, Int.reduceEq, Int.reduceNe, Int.reduceLT, Int.reduceLE, Int.reduceAdd, Int.reduceSub, Int.reduceMul, Int.reduceNeg, Nat.reduceMul, List.getElem?_cons_zero, List.getElem?_cons_succ, h0]
    exact e44_1 rfl (by simp)
  | succ k ih =>
    intro i hi
    have hil : i < s.length := by omega
    rw [List.drop_eq_getElem_cons hil]
    refine hstep i hil (by simp) (fun hp => ?_) (fun hp => ?_)
    · rw [ih (i + 1) (by omega)]
      unfold runN
      rw [List.takeWhile_cons, if_pos hp, List.length_cons]
      congr 2; omega
    · unfold runN
      rw [List.takeWhile_cons, if_neg (by rw [hp]; simp)]
      rfl
def kinds2 : List IV := [.int .i64 2, .int .i64 3]
def kinds3 : List IV := [.int .i64 2, .int .i64 3, .int .i64 3]
theorem kind_int (c : UInt8) (n : Nat) : (((kindF c : Nat) : Int) = ((n : Nat) : Int)) = (kindF c = n) := by apply propext; omega
theorem run2 {h : H} (g : Gd h) {b : Nat} {rw fz : Bool} (c : Cs h b rw fz kinds2) (s : Bs) (hs : s.length ≤ 1099511627776) (i : Nat) (hi : i ≤ s.length) :
    CL tabB 44 [sv s, .int .i64 (i : Nat), .slice b 0 2 1] h = .ok (.int .i64 ((i + runN isWord (s.drop i) : Nat) : Int)) h := by
  refine c44 goodB.step rfl rfl g ?_ (by simp)
  simp only [t44_0]
  refine run_loop g s hs (p := isWord) (fun i hil r hr h1 h2 => ?_) (s.length - i) i (by omega)
  have h0 : ((i : Nat) : Int) < (s.length : Nat) := by omega
  have eix := ixStr_nat s i hil
  have kd := kindB (h := h) s[i]
  have x0 : ixS 1 (.slice b 0 2 1) (.int .i64 0) = some (.ptr b 0) := ixS_byte (i := 0) (by omega)
  have x1 : ixS 1 (.slice b 0 2 1) (.int .i64 1) = some (.ptr b 1) := ixS_byte (i := 1) (by omega)
  have l0 : I.ld0 h (.ptr b 0) = some (.int .i64 2) := by rw [c.ld0]; rfl
  have l1 : I.ld0 h (.ptr b 1) = some (.int .i64 3) := by rw [c.ld0]; rfl
  have k2 := kind_int s[i] 2
  have k3 := kind_int s[i] 3
  simp only [Int.cast_ofNat_Int] at k2 k3
  have u39 : (((s[i].toNat : Nat) : Int) = 39) = (s[i] = 39) := u8_eq s[i] 39 (by decide)
  have w1 := wr_succ (show i < 9223372036854775807 by omega)
  have w01 : wr .i64 (0 + 1) = 1 := rfl
  have w12 : wr .i64 (1 + 1) = 2 := rfl
  have hp : isWord s[i] = (kindF s[i] == 2 || kindF s[i] == 3) := rfl
  have w01 : wr .i64 1 = 1 := rfl
  have w12 : wr .i64 2 = 2 := rfl
  generalize s[i] = ch at *
  -- the three rounds
  have last : ∀ q : Bool, q = isWord ch → J44 tabB 3 [sv s, .int .i64 (i : Nat), .slice b 0 2 1, .bool q, .slice b 0 2 1, .int .i64 2, .int .i64 2] h = r := by
    rintro q hq
    refine e44_3 ?_ hr
    cases q with
    | true => simp only [t44_3, W, spanK_u, decide_eq_true_eq, Bool.not_eq_true', decide_eq_false_iff_not, Bool.false_eq_true, Bool.not_true, Bool.not_false, decide_true, decide_false, not_true_eq_false, not_false_eq_true, and_true, true_and, and_false, false_and, ne_eq, Nat.zero_add, Nat.add_zero, cond_true, cond_false, ↓reduceIte, reduceCtorEq, Nat.reduceAdd, Int.reduceEq, Int.reduceNe, Int.reduceLT, Int.reduceLE, Int.reduceAdd, Int.reduceSub, Int.reduceMul, Int.reduceNeg, Nat.reduceMul, List.getElem?_cons_zero, List.getElem?_cons_succ, Int.lt_irrefl, w1]; exact h1 hq.symm
    | false =>
      simp only [t44_3, W, spanK_u, decide_eq_true_eq, Bool.not_eq_true', decide_eq_false_iff_not, Bool.false_eq_true, Bool.not_true, Bool.not_false, decide_true, decide_false, not_true_eq_false, not_false_eq_true, and_true, true_and, and_false, false_and, ne_eq, Nat.zero_add, Nat.add_zero, cond_true, cond_false, ↓reduceIte, reduceCtorEq, Nat.reduceAdd, Int.reduceEq, Int.reduceNe, Int.reduceLT, Int.reduceLE, Int.reduceAdd, Int.reduceSub, Int.reduceMul, Int.reduceNeg, Nat.reduceMul, List.getElem?_cons_zero, List.getElem?_cons_succ, Int.lt_irrefl]
      rw [h2 hq.symm]
      exact e44_1 rfl (by simp)
  have second : ∀ q : Bool, q = (kindF ch == 2) → J44 tabB 3 [sv s, .int .i64 (i : Nat), .slice b 0 2 1, .bool q, .slice b 0 2 1, .int .i64 2, .int .i64 1] h = r := by
    rintro q hq
    refine e44_3 ?_ hr
    cases q with
    | true =>
      simp only [t44_3, W, spanK_u, decide_eq_true_eq, Bool.not_eq_true', decide_eq_false_iff_not, Bool.false_eq_true, Bool.not_true, Bool.not_false, decide_true, decide_false, not_true_eq_false, not_false_eq_true, and_true, true_and, and_false, false_and, ne_eq, Nat.zero_add, Nat.add_zero, cond_true, cond_false, ↓reduceIte, reduceCtorEq, Nat.reduceAdd, Int.reduceEq, Int.reduceNe, Int.reduceLT, Int.reduceLE, Int.reduceAdd, Int.reduceSub, Int.reduceMul, Int.reduceNeg, Nat.reduceMul, List.getElem?_cons_zero, List.getElem?_cons_succ, x1, l1, w12]
      exact last true (by rw [hp, ← hq]; rfl)
    | false =>
      by_cases q3 : kindF ch = 3
      · simp only [t44_3, W, spanK_u, decide_eq_true_eq, Bool.not_eq_true', decide_eq_false_iff_not, Bool.false_eq_true, Bool.not_true, Bool.not_false, decide_true, decide_false, not_true_eq_false, not_false_eq_true, and_true, true_and, and_false, false_and, ne_eq, Nat.zero_add, Nat.add_zero, cond_true, cond_false, ↓reduceIte, reduceCtorEq, Nat.reduceAdd, Int.reduceEq, Int.reduceNe, Int.reduceLT, Int.reduceLE, Int.reduceAdd, Int.reduceSub, Int.reduceMul, Int.reduceNeg, Nat.reduceMul, List.getElem?_cons_zero, List.getElem?_cons_succ, x1, l1, eix, kd, k3, eq_true q3, w12]
        exact last true (by rw [hp, q3]; rfl)
      · by_cases q39 : ch = 39
        · simp only [t44_3, W, spanK_u, decide_eq_true_eq, Bool.not_eq_true', decide_eq_false_iff_not, Bool.false_eq_true, Bool.not_true, Bool.not_false, decide_true, decide_false, not_true_eq_false, not_false_eq_true, and_true, true_and, and_false, false_and, ne_eq, Nat.zero_add, Nat.add_zero, cond_true, cond_false, ↓reduceIte, reduceCtorEq, Nat.reduceAdd, Int.reduceEq, Int.reduceNe, Int.reduceLT, Int.reduceLE, Int.reduceAdd, Int.reduceSub, Int.reduceMul, Int.reduceNeg, Nat.reduceMul, List.getElem?_cons_zero, List.getElem?_cons_succ, x1, l1, eix, kd, k3, eq_false q3, u39, eq_true q39, lenS, w12]
          exact last false (by rw [hp, ← hq]; simp [q3])
        · simp only [t44_3, W, spanK_u, decide_eq_true_eq, Bool.not_eq_true', decide_eq_false_iff_not, Bool.false_eq_true, Bool.not_true, Bool.not_false, decide_true, decide_false, not_true_eq_false, not_false_eq_true, and_true, true_and, and_false, false_and, ne_eq, Nat.zero_add, Nat.add_zero, cond_true, cond_false, ↓reduceIte, reduceCtorEq, Nat.reduceAdd, Int.reduceEq, Int.reduceNe, Int.reduceLT, Int.reduceLE, Int.reduceAdd, Int.reduceSub, Int.reduceMul, Int.reduceNeg, Nat.reduceMul, List.getElem?_cons_zero, List.getElem?_cons_succ, x1, l1, eix, kd, k3, eq_false q3, u39, eq_false q39, lenS, w12]
          exact last false (by rw [hp, ← hq]; simp [q3])
  refine e44_2 ?_ hr
  simp only [t44_2, W, spanK_u, decide_eq_true_eq, Bool.not_eq_true', decide_eq_false_iff_not, Bool.false_eq_true, Bool.not_true, Bool.not_false, decide_true, decide_false, not_true_eq_false, not_false_eq_true, and_true, true_and, and_false, false_and, ne_eq, Nat.zero_add, Nat.add_zero, cond_true, cond_false, ↓reduceIte, reduceCtorEq, Nat.reduceAdd, Int.reduceEq, Int.reduceNe, Int.reduceLT, Int.reduceLE, Int.reduceAdd, Int.reduceSub, Int.reduceMul, Int.reduceNeg, Nat.reduceMul, List.getElem?_cons_zero, List.getElem?_cons_succ, h0, lenS]
  refine e44_3 ?_ hr
  by_cases q2 : kindF ch = 2
  · simp only [t44_3, W, spanK_u, decide_eq_true_eq, Bool.not_eq_true', decide_eq_false_iff_not, Bool.false_eq_true, Bool.not_true, Bool.not_false, decide_true, decide_false, not_true_eq_false, not_false_eq_true, and_true, true_and, and_false, false_and, ne_eq, Nat.zero_add, Nat.add_zero, cond_true, cond_false, ↓reduceIte, reduceCtorEq, Nat.reduceAdd, Int.reduceEq, Int.reduceNe, Int.reduceLT, Int.reduceLE, Int.reduceAdd, Int.reduceSub, Int.reduceMul, Int.reduceNeg, Nat.reduceMul, List.getElem?_cons_zero, List.getElem?_cons_succ, x0, l0, eix, kd, k2, eq_true q2, w01, Int.cast_ofNat_Int]
    exact second true (by rw [q2]; rfl)
  · simp only [t44_3, W, spanK_u, decide_eq_true_eq, Bool.not_eq_true', decide_eq_false_iff_not, Bool.false_eq_true, Bool.not_true, Bool.not_false, decide_true, decide_false, not_true_eq_false, not_false_eq_true, and_true, true_and, and_false, false_and, ne_eq, Nat.zero_add, Nat.add_zero, cond_true, cond_false, ↓reduceIte, reduceCtorEq, Nat.reduceAdd, Int.reduceEq, Int.reduceNe, Int.reduceLT, Int.reduceLE, Int.reduceAdd, Int.reduceSub, Int.reduceMul, Int.reduceNeg, Nat.reduceMul, List.getElem?_cons_zero, List.getElem?_cons_succ, x0, l0, eix, kd, k2, eq_false q2, w01, Int.cast_ofNat_Int]
    exact second false (by simp [q2])

end Go.Proofs.YtfegkjmghbdogaaDoor

namespace Go.Proofs.YtfegkjmghbdogaaDoor
open Go I
set_option maxRecDepth 100000
set_option linter.unusedVariables false
set_option linter.unusedSimpArgs false

theorem run3 {h : H} (g : Gd h) {b : Nat} {rw fz : Bool} (c : Cs h b rw fz kinds3) (s : Bs) (hs : s.length ≤ 1099511627776) (i : Nat) (hi : i ≤ s.length) :
    CL tabB 44 [sv s, .int .i64 (i : Nat), .slice b 0 3 1] h = .ok (.int .i64 ((i + runN isNum (s.drop i) : Nat) : Int)) h := by
  refine c44 goodB.step rfl rfl g ?_ (by simp)
  simp only [t44_0]
  refine run_loop g s hs (p := isNum) (fun i hil r hr h1 h2 => ?_) (s.length - i) i (by omega)
  have h0 : ((i : Nat) : Int) < (s.length : Nat) := by omega
  have eix := ixStr_nat s i hil
  have kd := kindB (h := h) s[i]
  have x0 : ixS 1 (.slice b 0 3 1) (.int .i64 0) = some (.ptr b 0) := ixS_byte (i := 0) (by omega)
  have x1 : ixS 1 (.slice b 0 3 1) (.int .i64 1) = some (.ptr b 1) := ixS_byte (i := 1) (by omega)
  have x2 : ixS 1 (.slice b 0 3 1) (.int .i64 2) = some (.ptr b 2) := ixS_byte (i := 2) (by omega)
  have l0 : I.ld0 h (.ptr b 0) = some (.int .i64 2) := by rw [c.ld0]; rfl
  have l1 : I.ld0 h (.ptr b 1) = some (.int .i64 3) := by rw [c.ld0]; rfl
  have l2 : I.ld0 h (.ptr b 2) = some (.int .i64 3) := by rw [c.ld0]; rfl
  have k2 := kind_int s[i] 2
  have k3 := kind_int s[i] 3
  simp only [Int.cast_ofNat_Int] at k2 k3
  have u39 : (((s[i].toNat : Nat) : Int) = 39) = (s[i] = 39) := u8_eq s[i] 39 (by decide)
  have w1 := wr_succ (show i < 9223372036854775807 by omega)
  have w01 : wr .i64 1 = 1 := rfl
  have w12 : wr .i64 2 = 2 := rfl
  have w23 : wr .i64 3 = 3 := rfl
  have hp : isNum s[i] = ((kindF s[i] == 2 || kindF s[i] == 3) || s[i] == 39) := rfl
  generalize s[i] = ch at *
  have last : ∀ q : Bool, q = isNum ch → J44 tabB 3 [sv s, .int .i64 (i : Nat), .slice b 0 3 1, .bool q, .slice b 0 3 1, .int .i64 3, .int .i64 3] h = r := by
    rintro q hq
    refine e44_3 ?_ hr
    cases q with
    | true => simp only [t44_3, W, spanK_u, decide_eq_true_eq, Bool.not_eq_true', decide_eq_false_iff_not, Bool.false_eq_true, Bool.not_true, Bool.not_false, decide_true, decide_false, not_true_eq_false, not_false_eq_true, and_true, true_and, and_false, false_and, ne_eq, Nat.zero_add, Nat.add_zero, cond_true, cond_false, ↓reduceIte, reduceCtorEq, Nat.reduceAdd, Int.reduceEq, Int.reduceNe, Int.reduceLT, Int.reduceLE, Int.reduceAdd, Int.reduceSub, Int.reduceMul, Int.reduceNeg, Nat.reduceMul, List.getElem?_cons_zero, List.getElem?_cons_succ, Int.lt_irrefl, w1]; exact h1 hq.symm
    | false =>
      simp only [t44_3, W, spanK_u, decide_eq_true_eq, Bool.not_eq_true', decide_eq_false_iff_not, Bool.false_eq_true, Bool.not_true, Bool.not_false, decide_true, decide_false, not_true_eq_false, not_false_eq_true, and_true, true_and, and_false, false_and, ne_eq, Nat.zero_add, Nat.add_zero, cond_true, cond_false, ↓reduceIte, reduceCtorEq, Nat.reduceAdd, Int.reduceEq, Int.reduceNe, Int.reduceLT, Int.reduceLE, Int.reduceAdd, Int.reduceSub, Int.reduceMul, Int.reduceNeg, Nat.reduceMul, List.getElem?_cons_zero, List.getElem?_cons_succ, Int.lt_irrefl]
      rw [h2 hq.symm]
      exact e44_1 rfl (by simp)
  have third : ∀ q : Bool, q = isNum ch → J44 tabB 3 [sv s, .int .i64 (i : Nat), .slice b 0 3 1, .bool q, .slice b 0 3 1, .int .i64 3, .int .i64 2] h = r := by
    rintro q hq
    refine e44_3 ?_ hr
    cases q with
    | true =>
      simp only [t44_3, W, spanK_u, decide_eq_true_eq, Bool.not_eq_true', decide_eq_false_iff_not, Bool.false_eq_true, Bool.not_true, Bool.not_false, decide_true, decide_false, not_true_eq_false, not_false_eq_true, and_true, true_and, and_false, false_and, ne_eq, Nat.zero_add, Nat.add_zero, cond_true, cond_false, ↓reduceIte, reduceCtorEq, Nat.reduceAdd, Int.reduceEq, Int.reduceNe, Int.reduceLT, Int.reduceLE, Int.reduceAdd, Int.reduceSub, Int.reduceMul, Int.reduceNeg, Nat.reduceMul, List.getElem?_cons_zero, List.getElem?_cons_succ, x2, l2, w23]
      exact last true hq
    | false =>
      rw [hp] at hq
      have hq' := hq.symm
      simp only [Bool.or_eq_false_iff, beq_eq_false_iff_ne] at hq'
      simp only [t44_3, W, spanK_u, decide_eq_true_eq, Bool.not_eq_true', decide_eq_false_iff_not, Bool.false_eq_true, Bool.not_true, Bool.not_false, decide_true, decide_false, not_true_eq_false, not_false_eq_true, and_true, true_and, and_false, false_and, ne_eq, Nat.zero_add, Nat.add_zero, cond_true, cond_false, ↓reduceIte, reduceCtorEq, Nat.reduceAdd, Int.reduceEq, Int.reduceNe, Int.reduceLT, Int.reduceLE, Int.reduceAdd, Int.reduceSub, Int.reduceMul, Int.reduceNeg, Nat.reduceMul, List.getElem?_cons_zero, List.getElem?_cons_succ, x2, l2, eix, kd, k3, eq_false hq'.1.2, u39, eq_false hq'.2, lenS, w23]
      exact last false (by rw [hp]; exact hq)
  have second : ∀ q : Bool, q = (kindF ch == 2) → J44 tabB 3 [sv s, .int .i64 (i : Nat), .slice b 0 3 1, .bool q, .slice b 0 3 1, .int .i64 3, .int .i64 1] h = r := by
    rintro q hq
    refine e44_3 ?_ hr
    cases q with
    | true =>
      simp only [t44_3, W, spanK_u, decide_eq_true_eq, Bool.not_eq_true', decide_eq_false_iff_not, Bool.false_eq_true, Bool.not_true, Bool.not_false, decide_true, decide_false, not_true_eq_false, not_false_eq_true, and_true, true_and, and_false, false_and, ne_eq, Nat.zero_add, Nat.add_zero, cond_true, cond_false, ↓reduceIte, reduceCtorEq, Nat.reduceAdd, Int.reduceEq, Int.reduceNe, Int.reduceLT, Int.reduceLE, Int.reduceAdd, Int.reduceSub, Int.reduceMul, Int.reduceNeg, Nat.reduceMul, List.getElem?_cons_zero, List.getElem?_cons_succ, x1, l1, w12]
      exact third true (by rw [hp, ← hq]; rfl)
    | false =>
      by_cases q3 : kindF ch = 3
      · simp only [t44_3, W, spanK_u, decide_eq_true_eq, Bool.not_eq_true', decide_eq_false_iff_not, Bool.false_eq_true, Bool.not_true, Bool.not_false, decide_true, decide_false, not_true_eq_false, not_false_eq_true, and_true, true_and, and_false, false_and, ne_eq, Nat.zero_add, Nat.add_zero, cond_true, cond_false, ↓reduceIte, reduceCtorEq, Nat.reduceAdd, Int.reduceEq, Int.reduceNe, Int.reduceLT, Int.reduceLE, Int.reduceAdd, Int.reduceSub, Int.reduceMul, Int.reduceNeg, Nat.reduceMul, List.getElem?_cons_zero, List.getElem?_cons_succ, x1, l1, eix, kd, k3, eq_true q3, w12]
        exact third true (by rw [hp, q3]; rfl)
      · by_cases q39 : ch = 39
        · simp only [t44_3, W, spanK_u, decide_eq_true_eq, Bool.not_eq_true', decide_eq_false_iff_not, Bool.false_eq_true, Bool.not_true, Bool.not_false, decide_true, decide_false, not_true_eq_false, not_false_eq_true, and_true, true_and, and_false, false_and, ne_eq, Nat.zero_add, Nat.add_zero, cond_true, cond_false, ↓reduceIte, reduceCtorEq, Nat.reduceAdd, Int.reduceEq, Int.reduceNe, Int.reduceLT, Int.reduceLE, Int.reduceAdd, Int.reduceSub, Int.reduceMul, Int.reduceNeg, Nat.reduceMul, List.getElem?_cons_zero, List.getElem?_cons_succ, x1, l1, eix, kd, k3, eq_false q3, u39, eq_true q39, lenS, w12]
          exact third true (by rw [hp]; simp [q39])
        · simp only [t44_3, W, spanK_u, decide_eq_true_eq, Bool.not_eq_true', decide_eq_false_iff_not, Bool.false_eq_true, Bool.not_true, Bool.not_false, decide_true, decide_false, not_true_eq_false, not_false_eq_true, and_true, true_and, and_false, false_and, ne_eq, Nat.zero_add, Nat.add_zero, cond_true, cond_false, ↓reduceIte, reduceCtorEq, Nat.reduceAdd, Int.reduceEq, Int.reduceNe, Int.reduceLT, Int.reduceLE, Int.reduceAdd, Int.reduceSub, Int.reduceMul, Int.reduceNeg, Nat.reduceMul, List.getElem?_cons_zero, List.getElem?_cons_succ, x1, l1, eix, kd, k3, eq_false q3, u39, eq_false q39, lenS, w12]
          exact third false (by rw [hp, ← hq]; simp [q3, q39])
  refine e44_2 ?_ hr
  simp only [t44_2, W, spanK_u, decide_eq_true_eq, Bool.not_eq_true', decide_eq_false_iff_not, Bool.false_eq_true, Bool.not_true, Bool.not_false, decide_true, decide_false, not_true_eq_false, not_false_eq_true, and_true, true_and, and_false, false_and, ne_eq, Nat.zero_add, Nat.add_zero, cond_true, cond_false, ↓reduceIte, reduceCtorEq, Nat.reduceAdd, Int.reduceEq, Int.reduceNe, Int.reduceLT, Int.reduceLE, Int.reduceAdd, Int.reduceSub, Int.reduceMul, Int.reduceNeg, Nat.reduceMul, List.getElem?_cons_zero, List.getElem?_cons_succ, h0, lenS]
  refine e44_3 ?_ hr
  by_cases q2 : kindF ch = 2
  · simp only [t44_3, W, spanK_u, decide_eq_true_eq, Bool.not_eq_true', decide_eq_false_iff_not, Bool.false_eq_true, Bool.not_true, Bool.not_false, decide_true, decide_false, not_true_eq_false, not_false_eq_true, and_true, true_and, and_false, false_and, ne_eq, Nat.zero_add, Nat.add_zero, cond_true, cond_false, ↓reduceIte, reduceCtorEq, Nat.reduceAdd, Int.reduceEq, Int.reduceNe, Int.reduceLT, Int.reduceLE, Int.reduceAdd, Int.reduceSub, Int.reduceMul, Int.reduceNeg, Nat.reduceMul, List.getElem?_cons_zero, List.getElem?_cons_succ, x0, l0, eix, kd, k2, eq_true q2, w01, Int.cast_ofNat_Int]
    exact second true (by rw [q2]; rfl)
  · by_cases q3 : kindF ch = 3
    · simp only [t44_3, W, spanK_u, decide_eq_true_eq, Bool.not_eq_true', decide_eq_false_iff_not, Bool.false_eq_true, Bool.not_true, Bool.not_false, decide_true, decide_false, not_true_eq_false, not_false_eq_true, and_true, true_and, and_false, false_and, ne_eq, Nat.zero_add, Nat.add_zero, cond_true, cond_false, ↓reduceIte, reduceCtorEq, Nat.reduceAdd, Int.reduceEq, Int.reduceNe, Int.reduceLT, Int.reduceLE, Int.reduceAdd, Int.reduceSub, Int.reduceMul, Int.reduceNeg, Nat.reduceMul, List.getElem?_cons_zero, List.getElem?_cons_succ, x0, l0, eix, kd, k2, eq_false q2, w01, Int.cast_ofNat_Int]
      exact second false (by simp [q2])
    · simp only [t44_3, W, spanK_u, decide_eq_true_eq, Bool.not_eq_true', decide_eq_false_iff_not, Bool.false_eq_true, Bool.not_true, Bool.not_false, decide_true, decide_false, not_true_eq_false, not_false_eq_true, and_true, true_and, and_false, false_and, ne_eq, Nat.zero_add, Nat.add_zero, cond_true, cond_false, ↓reduceIte, reduceCtorEq, Nat.reduceAdd, Int.reduceEq, Int.reduceNe, Int.reduceLT, Int.reduceLE, Int.reduceAdd, Int.reduceSub, Int.reduceMul, Int.reduceNeg, Nat.reduceMul, List.getElem?_cons_zero, List.getElem?_cons_succ, x0, l0, eix, kd, k2, eq_false q2, w01, Int.cast_ofNat_Int]
      exact second false (by simp [q2])

/-! ### tokens -/
structure Tok where
  kind : Int
  text : Bs
  at_ : Nat
def tokC (t : Tok) : List IV := [.int .i64 t.kind, sv t.text, .int .i64 (t.at_ : Nat)]
def twoF (a b : UInt8) : Bool := decide (0 ≤ Lib.index [32, 38, 38, 32, 124, 124, 32, 61, 61, 32, 33, 61, 32, 60, 61, 32, 62, 61, 32, 60, 60, 32, 62, 62, 32] [32, a, b, 32])
/-- the token with which a text begins: it, how many bytes it takes, why it may not be -/
def nameF (kind : Int) (skip : Nat) (l : Bs) (at_ : Nat) : Tok × Nat × Int :=
  if 64 < runN isWord l then (⟨0, [], 0⟩, 0, 4) else (⟨kind, l.take (runN isWord l), at_⟩, at_ + skip + runN isWord l, 0)
def tokF (c : UInt8) (l : Bs) (at_ : Nat) : Tok × Nat × Int :=
  if kindF c = 2 then nameF 1 0 (c :: l) at_
  else if kindF c = 4 then (match l with
    | d :: _ => if kindF d = 2 then nameF 4 1 l at_ else (⟨0, [], 0⟩, 0, 20)
    | [] => (⟨0, [], 0⟩, 0, 20))
  else if kindF c = 3 then (⟨2, (c :: l).take (runN isNum (c :: l)), at_⟩, at_ + runN isNum (c :: l), (numberF ((c :: l).take (runN isNum (c :: l)))).2.2)
  else if kindF c = 5 then (match l with
    | d :: _ => if twoF c d = true then (⟨3, [c, d], at_⟩, at_ + 2, 0) else (⟨3, [c], at_⟩, at_ + 1, 0)
    | [] => (⟨3, [c], at_⟩, at_ + 1, 0))
  else (⟨0, [], 0⟩, 0, 20)
def tokI (x : Tok × Nat × Int) : IV := .tup [.agg (tokC x.1), .int .i64 (x.2.1 : Nat), .int .i64 x.2.2]
theorem litInts {h : H} (g : Gd h) (vs : List IV) (hv : ∀ v ∈ vs, v.cells.length = 1) (he : cellsOf vs = vs) (hs : allScalar vs = true) : ∃ h', bslK true 1 [.int .i64 0] vs.length (partsFrom vs 0) h = some (.slice h.next 0 vs.length 1, h') ∧ Ky h h' ∧ Cs h' h.next true false vs := by
  have e := bslK_all (w := true) (es := 1) (z := [.int .i64 0]) (vs := vs) rfl hv (by rw [he]; exact hs) h
  rw [he, Bool.not_true, Bool.and_false, Bool.not_false] at e
  exact ⟨_, e, (Ky.refl g).push _, Cs.push (h := h) (rw := true) (fz := false) vs⟩
theorem bld_tok (k : Int) (t : Bs) (n : Int) : bldK z0 p1 [(0, .int .i64 k), (1, sv t), (2, .int .i64 n)] = some (.agg [.int .i64 k, sv t, .int .i64 n]) := rfl
theorem bld_none : bldK z0 p1 [] = some (.agg (tokC ⟨0, [], 0⟩)) := rfl
/-- a token's variable is written and read -/
theorem st_tok {h : H} {b : Nat} {cs : List IV} (c : Cs h b true false cs) (hl : cs.length = 3) {l : List IV} (hs : allScalar l = true) (h3 : l.length = 3) : ∃ h', stA 3 h (.ptr b 0) (.agg l) = some h' ∧ ldA 3 h' (.ptr b 0) = some (.agg l) ∧ (Gd h → Gd h') := by
  obtain ⟨o, e, c', _⟩ := c.st (n := 3) (off := 0) (v := .agg l) h3 hs (by omega)
  have hp : placeL cs 0 (IV.agg l).cells = l := by
    show placeL cs 0 l = l
    match cs, hl, l, h3 with
    | [_, _, _], _, [_, _, _], _ => rfl
  rw [hp] at c'
  exact ⟨_, e, c'.ldAll h3.symm, fun g => g.put c⟩
/-- a name, from a place on -/
theorem named {h : H} (g : Gd h) (s : Bs) (hs : s.length ≤ 1073741824) (kind : Int) (at_ skip : Nat) (hi : at_ + skip ≤ s.length) {ps pa : Nat} (cs : Cs h ps true false [sv s]) (ca : Cs h pa true false [.int .i64 (at_ : Nat)]) :
    ∃ h', CL tabB 43 [.int .i64 kind, .int .i64 ((at_ + skip : Nat) : Int), .ptr ps 0, .ptr pa 0] h = .ok (tokI (nameF kind skip (s.drop (at_ + skip)) at_)) h' ∧ Ky h h' := by
  obtain ⟨h1, e1, k1, c1, _, _⟩ := (Ky.refl g).newI (cs := z0) rfl
  have s1 := (cs.ky g.wf k1).ld0 0
  have a1 := (ca.ky g.wf k1).ld0 0
  simp only [List.getElem?_cons_zero] at s1 a1
  obtain ⟨h2, e2, k2, c2⟩ := litInts k1.gd kinds2 (by simp [kinds2, IV.cells]) rfl rfl
  have e2 : bslK true 1 [(.int .i64 0)] 2 [(0, (.int .i64 2)), (1, (.int .i64 3))] h1 = some (.slice h1.next 0 2 1, h2) := e2
  have er := run2 k2.gd c2 s (by omega) (at_ + skip) hi
  have s2 := ((cs.ky g.wf k1).ky k1.gd.wf k2).ld0 0
  have a2 := ((ca.ky g.wf k1).ky k1.gd.wf k2).ld0 0
  simp only [List.getElem?_cons_zero] at s2 a2
  have hrl := runN_le isWord (s.drop (at_ + skip))
  rw [List.length_drop] at hrl
  generalize hn : runN isWord (s.drop (at_ + skip)) = n at er hrl
  have w1 : wr .i64 (((at_ + skip + n : Nat) : Int) - ((at_ + skip : Nat) : Int)) = (n : Nat) := by rw [wr_i64 (by omega) (by omega)]; omega
  have c1' : Cs h2 h.next true false z0 := c1.ky k1.gd.wf k2
  have fin : ∀ (l : List IV), allScalar l = true → l.length = 3 → ∃ h', stA 3 h2 (.ptr h.next 0) (.agg l) = some h' ∧ ldA 3 h' (.ptr h.next 0) = some (.agg l) ∧ Ky h h' := by
    intro l q1 q2
    obtain ⟨h', p1, p2, p3⟩ := st_tok c1' rfl q1 q2
    refine ⟨h', p1, p2, ?_⟩
    obtain ⟨o, e, _⟩ := c1'.st (n := 3) (off := 0) (v := .agg l) q2 q1 (by show 0 + 3 ≤ 3; omega)
    obtain ⟨t, q, _⟩ := c1'
    rw [e] at p1
    injection p1 with p1
    subst p1
    exact (k1.trans k2).put (Nat.le_refl _) q (fun fz size cs hh => by cases hh)
  unfold nameF
  rw [hn]
  by_cases hb : 64 < n
  · have hb' : (64 : Int) < (n : Nat) := by omega
    obtain ⟨h', p1, p2, p3⟩ := fin (tokC ⟨0, [], 0⟩) rfl rfl
    refine ⟨h', c43 goodB.step rfl rfl g ?_ (by simp [tokI]), p3⟩
    rw [if_pos hb]
    simp only [t43_0, W, spanK_u, decide_eq_true_eq, Bool.not_eq_true', decide_eq_false_iff_not, Bool.false_eq_true, Bool.not_true, Bool.not_false, decide_true, decide_false, not_true_eq_false, not_false_eq_true, and_true, true_and, and_false, false_and, ne_eq, Nat.zero_add, Nat.add_zero, cond_true, cond_false, ↓reduceIte, reduceCtorEq, Nat.reduceAdd, Int.reduceEq, Int.reduceNe, Int.reduceLT, Int.reduceLE, Int.reduceAdd, Int.reduceSub, Int.reduceMul, Int.reduceNeg, Nat.reduceMul, List.getElem?_cons_zero, List.getElem?_cons_succ, e1, s1, e2, er, w1, hb', bld_none, p1, p2, tokI]
    rfl
  · have hb' : ¬ (64 : Int) < (n : Nat) := by omega
    have htx : (s.take (at_ + skip + n)).drop (at_ + skip) = (s.drop (at_ + skip)).take n := by
      rw [List.drop_take, show at_ + skip + n - (at_ + skip) = n by omega]
    have esl : slcStr (sv s) (some (.int .i64 ((at_ + skip : Nat) : Int))) (some (.int .i64 ((at_ + skip + n : Nat) : Int))) = some (sv ((s.drop (at_ + skip)).take n)) := by
      rw [slcStr_sv _ _ _ (by omega) (by omega) (by omega), Int.toNat_natCast, Int.toNat_natCast, htx]
    obtain ⟨h', p1, p2, p3⟩ := fin (tokC ⟨kind, (s.drop (at_ + skip)).take n, at_⟩) rfl rfl
    refine ⟨h', c43 goodB.step rfl rfl g ?_ (by simp [tokI]), p3⟩
    rw [if_neg hb]
    simp only [tokC] at p1 p2
    simp only [t43_0, W, spanK_u, decide_eq_true_eq, Bool.not_eq_true', decide_eq_false_iff_not, Bool.false_eq_true, Bool.not_true, Bool.not_false, decide_true, decide_false, not_true_eq_false, not_false_eq_true, and_true, true_and, and_false, false_and, ne_eq, Nat.zero_add, Nat.add_zero, cond_true, cond_false, ↓reduceIte, reduceCtorEq, Nat.reduceAdd, Int.reduceEq, Int.reduceNe, Int.reduceLT, Int.reduceLE, Int.reduceAdd, Int.reduceSub, Int.reduceMul, Int.reduceNeg, Nat.reduceMul, List.getElem?_cons_zero, List.getElem?_cons_succ, e1, s1, e2, er, w1, hb', s2, esl, a2, bld_tok, p1, p2, tokI, tokC]

theorem at_dropB {s : Bs} {i : Nat} {c : UInt8} {l : Bs} (h : s.drop i = c :: l) : ∃ hi : i < s.length, s[i] = c := by
  have hi : i < s.length := by
    rcases Nat.lt_or_ge i s.length with h' | h'
    · exact h'
    · rw [List.drop_of_length_le h'] at h; cases h
  refine ⟨hi, ?_⟩
  rw [List.drop_eq_getElem_cons hi] at h
  injection h
theorem contains45 {h : H} (g : Gd h) (a b : Bs) (ha : a.length < 4294967281) : CL tabB 45 [sv a, sv b] h = .ok (.bool (decide (0 ≤ Lib.index a b))) h := by
  have e46 : CL tabB 46 [sv a, sv b] h = .ok (.int .i64 (Lib.index a b)) h := call2 (A := dS) (B := dS) rfl (by simp only [idxF, ha, if_true]) h
  have e42 : CL tabB 42 [sv a, sv b] h = .ok (.int .i64 (Lib.index a b)) h := c42 goodB.step rfl rfl g (by simp only [t42_0, e46, W, spanK_u, decide_eq_true_eq, Bool.not_eq_true', decide_eq_false_iff_not, Bool.false_eq_true, Bool.not_true, Bool.not_false, decide_true, decide_false, not_true_eq_false, not_false_eq_true, and_true, true_and, and_false, false_and, ne_eq, Nat.zero_add, Nat.add_zero, cond_true, cond_false, ↓reduceIte, reduceCtorEq, Nat.reduceAdd, Int.reduceEq, Int.reduceNe, Int.reduceLT, Int.reduceLE, Int.reduceAdd, Int.reduceSub, Int.reduceMul, Int.reduceNeg, Nat.reduceMul, List.getElem?_cons_zero, List.getElem?_cons_succ]) (by simp)
  refine c45 goodB.step rfl rfl g ?_ (by simp)
  simp only [t45_0, e42, W, spanK_u, decide_eq_true_eq, Bool.not_eq_true', decide_eq_false_iff_not, Bool.false_eq_true, Bool.not_true, Bool.not_false, decide_true, decide_false, not_true_eq_false, not_false_eq_true, and_true, true_and, and_false, false_and, ne_eq, Nat.zero_add, Nat.add_zero, cond_true, cond_false, ↓reduceIte, reduceCtorEq, Nat.reduceAdd, Int.reduceEq, Int.reduceNe, Int.reduceLT, Int.reduceLE, Int.reduceAdd, Int.reduceSub, Int.reduceMul, Int.reduceNeg, Nat.reduceMul, List.getElem?_cons_zero, List.getElem?_cons_succ]
def tokV (s : Bs) (i : Int) : Option IV :=
  if s.length ≤ 1073741823 ∧ 0 ≤ i then (match s.drop i.toNat with
    | c :: l => some (tokI (tokF c l i.toNat))
    | [] => none) else none
theorem numB {h : H} (s : Bs) (hs : s.length < 1073741824) : CL tabB 8 [sv s] h = .ok (numI (numberF s)) h := call1 (A := dS) (a := s) rfl (by simp only [hs, if_true]) h
theorem ops_str : IV.str ⟨25, 202393441589788371169259346588455910987090342398092682602016⟩ = sv [32, 38, 38, 32, 124, 124, 32, 61, 61, 32, 33, 61, 32, 60, 61, 32, 62, 61, 32, 60, 60, 32, 62, 62, 32] := by kernel_rfl
theorem sp_str : IV.str ⟨1, 32⟩ = sv [32] := rfl
theorem tToken : PureT Tryd.prog (CL tabB) 27 (fn2 dS dI tokV) := pure2 Tryd.func27 rfl fun s i v e => by
  unfold tokV at e
  split at e
  rotate_left
  · cases e
  rename_i hc
  obtain ⟨hs, h0⟩ := hc
  obtain ⟨i, rfl⟩ := Int.eq_ofNat_of_zero_le h0
  simp only [Int.toNat_natCast] at e
  split at e
  rotate_left
  · cases e
  rename_i c l hd
  injection e with e; subst e
  refine ⟨rfl, ?_⟩
  obtain ⟨hil, hsi⟩ := at_dropB hd
  have hdl : s.drop (i + 1) = l := by
    have := List.drop_eq_getElem_cons hil
    rw [hd] at this
    injection this with _ h2
    exact h2.symm
  have hlen : l.length + (i + 1) = s.length := by rw [← hdl, List.length_drop]; omega
  -- the three variables
  obtain ⟨h1, e1, k1, c1, _, n1⟩ := (Ky.refl gd0).newI (cs := [sv s]) rfl
  obtain ⟨h2, e2, k2, c2, k12, n2⟩ := k1.newI (cs := [.int .i64 (i : Nat)]) rfl
  obtain ⟨h3, e3, k3, c3, k23, n3⟩ := k2.newI (cs := z0) rfl
  have cs3 : Cs h3 H0.next true false [sv s] := (c1.ky k1.gd.wf k12).ky k2.gd.wf k23
  have ca3 : Cs h3 h1.next true false [.int .i64 (i : Nat)] := c2.ky k2.gd.wf k23
  have g3 := k3.gd
  have ls := cs3.ld0 0
  have la := ca3.ld0 0
  simp only [List.getElem?_cons_zero] at ls la
  have eix := ixStr_nat s i hil
  rw [hsi] at eix
  have kd := kindB (h := h3) c
  have kk := kind_int c
  have q2 := kk 2
  have q3 := kk 3
  have q4 := kk 4
  have q5 := kk 5
  simp only [Int.cast_ofNat_Int] at q2 q3 q4 q5
  have es : I.newI H0 (IV.cells (sv s)) = some (.ptr H0.next 0, h1) := e1
  have ei : I.newI h1 (IV.cells (.int .i64 (i : Nat))) = some (.ptr h1.next 0, h2) := e2
  show ∃ h', CL tabB 27 [sv s, .int .i64 (i : Nat)] H0 = .ok (tokI (tokF c l i)) h'
  -- what is told into the third variable
  have tellC : ∀ {h : H}, Cs h h2.next true false z0 → ∀ (l : List IV), allScalar l = true → l.length = 3 → ∃ h', stA 3 h (.ptr h2.next 0) (.agg l) = some h' ∧ ldA 3 h' (.ptr h2.next 0) = some (.agg l) := by
    intro h cz l p1 p2
    obtain ⟨h', r1, r2, _⟩ := st_tok cz rfl p1 p2
    exact ⟨h', r1, r2⟩
  have bad : ∀ {r : Tok × Nat × Int}, r = (⟨0, [], 0⟩, 0, 20) → ∃ h', J27 tabB 1 [.ptr h2.next 0] h3 = .ok (tokI r) h' := by
    rintro r rfl
    obtain ⟨h', r1, r2⟩ := tellC c3 (tokC ⟨0, [], 0⟩) rfl rfl
    refine ⟨h', e27_1 ?_ (by simp [tokI])⟩
    simp only [t27_1, bld_none, W, spanK_u, decide_eq_true_eq, Bool.not_eq_true', decide_eq_false_iff_not, Bool.false_eq_true, Bool.not_true, Bool.not_false, decide_true, decide_false, not_true_eq_false, not_false_eq_true, and_true, true_and, and_false, false_and, ne_eq, Nat.zero_add, Nat.add_zero, cond_true, cond_false, ↓reduceIte, reduceCtorEq, Nat.reduceAdd, Int.reduceEq, Int.reduceNe, Int.reduceLT, Int.reduceLE, Int.reduceAdd, Int.reduceSub, Int.reduceMul, Int.reduceNeg, Nat.reduceMul, List.getElem?_cons_zero, List.getElem?_cons_succ, r1, r2, tokI]
    rfl
  unfold tokF
  by_cases p2 : kindF c = 2
  · obtain ⟨h4, e4, k4⟩ := named g3 s (by omega) 1 i 0 (by omega) cs3 ca3
    simp only [Nat.add_zero] at e4
    rw [hd] at e4
    obtain ⟨h', r1, r2⟩ := tellC (c3.ky k3.gd.wf k4) (tokC (nameF 1 0 (c :: l) i).1) rfl rfl
    rw [if_pos p2]
    refine ⟨h', c27 goodB.step rfl rfl gd0 ?_ (by simp [tokI])⟩
    simp only [tokI] at e4
    simp only [t27_0, es, ei, e3, W, spanK_u, decide_eq_true_eq, Bool.not_eq_true', decide_eq_false_iff_not, Bool.false_eq_true, Bool.not_true, Bool.not_false, decide_true, decide_false, not_true_eq_false, not_false_eq_true, and_true, true_and, and_false, false_and, ne_eq, Nat.zero_add, Nat.add_zero, cond_true, cond_false, ↓reduceIte, reduceCtorEq, Nat.reduceAdd, Int.reduceEq, Int.reduceNe, Int.reduceLT, Int.reduceLE, Int.reduceAdd, Int.reduceSub, Int.reduceMul, Int.reduceNeg, Nat.reduceMul, List.getElem?_cons_zero, List.getElem?_cons_succ, ls, la, eix, kd, q2, eq_true p2, List.cons_append, List.nil_append, e4, r1, r2, tokI]
  rw [if_neg p2]
  by_cases p4 : kindF c = 4
  · rw [if_pos p4]
    have w1 := wr_succ (show i < 9223372036854775807 by omega)
    cases l with
    | nil =>
      have hlt : ¬ ((i + 1 : Nat) : Int) < (s.length : Nat) := by simp at hlen; omega
      obtain ⟨h', b1⟩ := bad rfl
      refine ⟨h', c27 goodB.step rfl rfl gd0 ?_ (by simp [tokI])⟩
      simp only [t27_0, es, ei, e3, W, spanK_u, decide_eq_true_eq, Bool.not_eq_true', decide_eq_false_iff_not, Bool.false_eq_true, Bool.not_true, Bool.not_false, decide_true, decide_false, not_true_eq_false, not_false_eq_true, and_true, true_and, and_false, false_and, ne_eq, Nat.zero_add, Nat.add_zero, cond_true, cond_false, ↓reduceIte, reduceCtorEq, Nat.reduceAdd, Int.reduceEq, Int.reduceNe, Int.reduceLT, Int.reduceLE, Int.reduceAdd, Int.reduceSub, Int.reduceMul, Int.reduceNeg, Nat.reduceMul, List.getElem?_cons_zero, List.getElem?_cons_succ, ls, la, eix, kd, q2, q4, eq_false p2, eq_true p4, w1, hlt]
      exact b1
    | cons d l =>
      simp only [List.length_cons] at hlen
      have hlt : ((i + 1 : Nat) : Int) < (s.length : Nat) := by omega
      have hi1 : i + 1 < s.length := by omega
      have eix1 := ixStr_nat s (i + 1) hi1
      have hd1 : s[i + 1] = d := by
        obtain ⟨_, e⟩ := at_dropB hdl
        exact e
      rw [hd1] at eix1
      have kd1 := kindB (h := h3) d
      have r2' := kind_int d 2
      simp only [Int.cast_ofNat_Int] at r2'
      by_cases pd : kindF d = 2
      · obtain ⟨h4, e4, k4⟩ := named g3 s (by omega) 4 i 1 (by omega) cs3 ca3
        rw [hdl] at e4
        obtain ⟨h', r1, r2⟩ := tellC (c3.ky k3.gd.wf k4) (tokC (nameF 4 1 (d :: l) i).1) rfl rfl
        simp only [pd, if_true]
        refine ⟨h', c27 goodB.step rfl rfl gd0 ?_ (by simp [tokI])⟩
        simp only [tokI] at e4
        simp only [t27_0, es, ei, e3, W, spanK_u, decide_eq_true_eq, Bool.not_eq_true', decide_eq_false_iff_not, Bool.false_eq_true, Bool.not_true, Bool.not_false, decide_true, decide_false, not_true_eq_false, not_false_eq_true, and_true, true_and, and_false, false_and, ne_eq, Nat.zero_add, Nat.add_zero, cond_true, cond_false, ↓reduceIte, reduceCtorEq, Nat.reduceAdd, Int.reduceEq, Int.reduceNe, Int.reduceLT, Int.reduceLE, Int.reduceAdd, Int.reduceSub, Int.reduceMul, Int.reduceNeg, Nat.reduceMul, List.getElem?_cons_zero, List.getElem?_cons_succ, ls, la, eix, kd, q2, q4, eq_false p2, eq_true p4, w1, hlt, eix1, kd1, r2', eq_true pd, List.cons_append, List.nil_append, e4, r1, r2, tokI]
      · obtain ⟨h', b1⟩ := bad rfl
        simp only [pd, if_false]
        refine ⟨h', c27 goodB.step rfl rfl gd0 ?_ (by simp [tokI])⟩
        simp only [t27_0, es, ei, e3, W, spanK_u, decide_eq_true_eq, Bool.not_eq_true', decide_eq_false_iff_not, Bool.false_eq_true, Bool.not_true, Bool.not_false, decide_true, decide_false, not_true_eq_false, not_false_eq_true, and_true, true_and, and_false, false_and, ne_eq, Nat.zero_add, Nat.add_zero, cond_true, cond_false, ↓reduceIte, reduceCtorEq, Nat.reduceAdd, Int.reduceEq, Int.reduceNe, Int.reduceLT, Int.reduceLE, Int.reduceAdd, Int.reduceSub, Int.reduceMul, Int.reduceNeg, Nat.reduceMul, List.getElem?_cons_zero, List.getElem?_cons_succ, ls, la, eix, kd, q2, q4, eq_false p2, eq_true p4, w1, hlt, eix1, kd1, r2', eq_false pd]
        exact b1
  rw [if_neg p4]
  by_cases p3 : kindF c = 3
  · rw [if_pos p3]
    obtain ⟨h4, e4, k4, c4⟩ := litInts g3 kinds3 (by simp [kinds3, IV.cells]) rfl rfl
    have e4 : bslK true 1 [(.int .i64 0)] 3 [(0, (.int .i64 2)), (1, (.int .i64 3)), (2, (.int .i64 3))] h3 = some (.slice h3.next 0 3 1, h4) := e4
    have er := run3 k4.gd c4 s (by omega) i (by omega)
    have hrl := runN_le isNum (s.drop i)
    rw [List.length_drop] at hrl
    rw [hd] at er hrl
    generalize runN isNum (c :: l) = n at er hrl ⊢
    have ls4 := (cs3.ky k3.gd.wf k4).ld0 0
    have la4 := (ca3.ky k3.gd.wf k4).ld0 0
    simp only [List.getElem?_cons_zero] at ls4 la4
    have htx : (s.take (i + n)).drop i = (c :: l).take n := by
      rw [List.drop_take, show i + n - i = n by omega, hd]
    have esl : slcStr (sv s) (some (.int .i64 (i : Nat))) (some (.int .i64 ((i + n : Nat) : Int))) = some (sv ((c :: l).take n)) := by
      rw [slcStr_sv _ _ _ (by omega) (by omega) (by omega), Int.toNat_natCast, Int.toNat_natCast, htx]
    have en := numB (h := h4) ((c :: l).take n) (by rw [List.length_take, List.length_cons]; omega)
    obtain ⟨h', r1, r2⟩ := tellC (c3.ky k3.gd.wf k4) (tokC ⟨2, (c :: l).take n, i⟩) rfl rfl
    simp only [tokC] at r1 r2
    refine ⟨h', c27 goodB.step rfl rfl gd0 ?_ (by simp [tokI])⟩
    simp only [t27_0, es, ei, e3, W, spanK_u, decide_eq_true_eq, Bool.not_eq_true', decide_eq_false_iff_not, Bool.false_eq_true, Bool.not_true, Bool.not_false, decide_true, decide_false, not_true_eq_false, not_false_eq_true, and_true, true_and, and_false, false_and, ne_eq, Nat.zero_add, Nat.add_zero, cond_true, cond_false, ↓reduceIte, reduceCtorEq, Nat.reduceAdd, Int.reduceEq, Int.reduceNe, Int.reduceLT, Int.reduceLE, Int.reduceAdd, Int.reduceSub, Int.reduceMul, Int.reduceNeg, Nat.reduceMul, List.getElem?_cons_zero, List.getElem?_cons_succ, ls, la, eix, kd, q2, q3, q4, eq_false p2, eq_true p3, eq_false p4, e4, er, ls4, la4, esl, en, numI, bld_tok, r1, r2, tokI, tokC]
  rw [if_neg p3]
  by_cases p5 : kindF c = 5
  · rw [if_pos p5]
    have w1 := wr_succ (show i < 9223372036854775807 by omega)
    have sign : ∀ n : Nat, (n = 1 ∨ n = 2) → n ≤ l.length + 1 → ∃ h', J27 tabB 2 [.ptr H0.next 0, .ptr h1.next 0, .ptr h2.next 0, .int .i64 (n : Nat)] h3 = .ok (tokI (⟨3, (c :: l).take n, i⟩, i + n, 0)) h' := by
      intro n hn hnl
      have wn : wr .i64 (((i : Nat) : Int) + ((n : Nat) : Int)) = ((i + n : Nat) : Int) := by rw [wr_i64 (by omega) (by omega)]; omega
      have htx : (s.take (i + n)).drop i = (c :: l).take n := by
        rw [List.drop_take, show i + n - i = n by omega, hd]
      have esl : slcStr (sv s) (some (.int .i64 (i : Nat))) (some (.int .i64 ((i + n : Nat) : Int))) = some (sv ((c :: l).take n)) := by
        rw [slcStr_sv _ _ _ (by omega) (by omega) (by omega), Int.toNat_natCast, Int.toNat_natCast, htx]
      obtain ⟨o, r1, r3, _⟩ := c3.st (n := 3) (off := 0) (v := .agg (tokC ⟨3, (c :: l).take n, i⟩)) rfl rfl (by show 0 + 3 ≤ 3; omega)
      have hp : placeL z0 0 (IV.agg (tokC ⟨3, (c :: l).take n, i⟩)).cells = tokC ⟨3, (c :: l).take n, i⟩ := rfl
      rw [hp] at r3
      have r2 := r3.ldAll (n := 3) rfl
      have hne : h1.next ≠ h2.next := by omega
      have la5 := (ca3.of_put (o := o) hne).ld0 0
      simp only [List.getElem?_cons_zero] at la5
      simp only [tokC] at r1 r2
      refine ⟨h3.put h2.next o, e27_2 ?_ (by simp [tokI])⟩
      simp only [t27_2, W, spanK_u, decide_eq_true_eq, Bool.not_eq_true', decide_eq_false_iff_not, Bool.false_eq_true, Bool.not_true, Bool.not_false, decide_true, decide_false, not_true_eq_false, not_false_eq_true, and_true, true_and, and_false, false_and, ne_eq, Nat.zero_add, Nat.add_zero, cond_true, cond_false, ↓reduceIte, reduceCtorEq, Nat.reduceAdd, Int.reduceEq, Int.reduceNe, Int.reduceLT, Int.reduceLE, Int.reduceAdd, Int.reduceSub, Int.reduceMul, Int.reduceNeg, Nat.reduceMul, List.getElem?_cons_zero, List.getElem?_cons_succ, ls, la, wn, esl, bld_tok, r1, la5, r2, tokI, tokC]
    cases l with
    | nil =>
      obtain ⟨h', b1⟩ := sign 1 (.inl rfl) (by simp)
      have hlt : ¬ ((i + 1 : Nat) : Int) < (s.length : Nat) := by simp at hlen; omega
      refine ⟨h', c27 goodB.step rfl rfl gd0 ?_ (by simp [tokI])⟩
      simp only [t27_0, es, ei, e3, W, spanK_u, decide_eq_true_eq, Bool.not_eq_true', decide_eq_false_iff_not, Bool.false_eq_true, Bool.not_true, Bool.not_false, decide_true, decide_false, not_true_eq_false, not_false_eq_true, and_true, true_and, and_false, false_and, ne_eq, Nat.zero_add, Nat.add_zero, cond_true, cond_false, ↓reduceIte, reduceCtorEq, Nat.reduceAdd, Int.reduceEq, Int.reduceNe, Int.reduceLT, Int.reduceLE, Int.reduceAdd, Int.reduceSub, Int.reduceMul, Int.reduceNeg, Nat.reduceMul, List.getElem?_cons_zero, List.getElem?_cons_succ, ls, la, eix, kd, q2, q3, q4, q5, eq_false p2, eq_false p3, eq_false p4, eq_true p5, w1, hlt]
      exact b1
    | cons d l =>
      simp only [List.length_cons] at hlen
      have hlt : ((i + 1 : Nat) : Int) < (s.length : Nat) := by omega
      have w2 : wr .i64 (((i : Nat) : Int) + 2) = ((i + 2 : Nat) : Int) := by rw [wr_i64 (by omega) (by omega)]; omega
      have htx : (s.take (i + 2)).drop i = [c, d] := by
        rw [List.drop_take, show i + 2 - i = 2 by omega, hd]; rfl
      have esl : slcStr (sv s) (some (.int .i64 (i : Nat))) (some (.int .i64 ((i + 2 : Nat) : Int))) = some (sv [c, d]) := by
        rw [slcStr_sv _ _ _ (by omega) (by omega) (by omega), Int.toNat_natCast, Int.toNat_natCast, htx]
      have a1 : binS .add (sv [32]) (sv [c, d]) = some (sv [32, c, d]) := binS_add _ _ (by simp)
      have a2 : binS .add (sv [32, c, d]) (sv [32]) = some (sv [32, c, d, 32]) := binS_add _ _ (by simp)
      have e45 := contains45 g3 [32, 38, 38, 32, 124, 124, 32, 61, 61, 32, 33, 61, 32, 60, 61, 32, 62, 61, 32, 60, 60, 32, 62, 62, 32] [32, c, d, 32] (by simp)
      have hty : decide (0 ≤ Lib.index [32, 38, 38, 32, 124, 124, 32, 61, 61, 32, 33, 61, 32, 60, 61, 32, 62, 61, 32, 60, 60, 32, 62, 62, 32] [32, c, d, 32]) = twoF c d := rfl
      rw [hty] at e45
      cases ht : twoF c d with
      | true =>
        rw [ht] at e45
        obtain ⟨h', b1⟩ := sign 2 (.inr rfl) (by simp)
        refine ⟨h', c27 goodB.step rfl rfl gd0 ?_ (by simp [tokI])⟩
        simp only [ht, if_true]
        simp only [t27_0, es, ei, e3, W, spanK_u, decide_eq_true_eq, Bool.not_eq_true', decide_eq_false_iff_not, Bool.false_eq_true, Bool.not_true, Bool.not_false, decide_true, decide_false, not_true_eq_false, not_false_eq_true, and_true, true_and, and_false, false_and, ne_eq, Nat.zero_add, Nat.add_zero, cond_true, cond_false, ↓reduceIte, reduceCtorEq, Nat.reduceAdd, Int.reduceEq, Int.reduceNe, Int.reduceLT, Int.reduceLE, Int.reduceAdd, Int.reduceSub, Int.reduceMul, Int.reduceNeg, Nat.reduceMul, List.getElem?_cons_zero, List.getElem?_cons_succ, ls, la, eix, kd, q2, q3, q4, q5, eq_false p2, eq_false p3, eq_false p4, eq_true p5, w1, hlt, w2, esl, sp_str, a1, a2, ops_str, e45]
        exact b1
      | false =>
        rw [ht] at e45
        obtain ⟨h', b1⟩ := sign 1 (.inl rfl) (by simp)
        refine ⟨h', c27 goodB.step rfl rfl gd0 ?_ (by simp [tokI])⟩
        simp only [ht, Bool.false_eq_true, if_false]
        simp only [t27_0, es, ei, e3, W, spanK_u, decide_eq_true_eq, Bool.not_eq_true', decide_eq_false_iff_not, Bool.false_eq_true, Bool.not_true, Bool.not_false, decide_true, decide_false, not_true_eq_false, not_false_eq_true, and_true, true_and, and_false, false_and, ne_eq, Nat.zero_add, Nat.add_zero, cond_true, cond_false, ↓reduceIte, reduceCtorEq, Nat.reduceAdd, Int.reduceEq, Int.reduceNe, Int.reduceLT, Int.reduceLE, Int.reduceAdd, Int.reduceSub, Int.reduceMul, Int.reduceNeg, Nat.reduceMul, List.getElem?_cons_zero, List.getElem?_cons_succ, ls, la, eix, kd, q2, q3, q4, q5, eq_false p2, eq_false p3, eq_false p4, eq_true p5, w1, hlt, w2, esl, sp_str, a1, a2, ops_str, e45]
        exact b1
  rw [if_neg p5]
  obtain ⟨h', b1⟩ := bad rfl
  refine ⟨h', c27 goodB.step rfl rfl gd0 ?_ (by simp [tokI])⟩
  simp only [t27_0, es, ei, e3, W, spanK_u, decide_eq_true_eq, Bool.not_eq_true', decide_eq_false_iff_not, Bool.false_eq_true, Bool.not_true, Bool.not_false, decide_true, decide_false, not_true_eq_false, not_false_eq_true, and_true, true_and, and_false, false_and, ne_eq, Nat.zero_add, Nat.add_zero, cond_true, cond_false, ↓reduceIte, reduceCtorEq, Nat.reduceAdd, Int.reduceEq, Int.reduceNe, Int.reduceLT, Int.reduceLE, Int.reduceAdd, Int.reduceSub, Int.reduceMul, Int.reduceNeg, Nat.reduceMul, List.getElem?_cons_zero, List.getElem?_cons_succ, ls, la, eix, kd, q2, q3, q4, q5, eq_false p2, eq_false p3, eq_false p4, eq_false p5]
  exact b1

end Go.Proofs.YtfegkjmghbdogaaDoor

namespace Go.Proofs.YtfegkjmghbdogaaDoor
open Go I
set_option maxRecDepth 100000
set_option linter.unusedVariables false
set_option linter.unusedSimpArgs false

noncomputable def tabC : Tab := tabB.add 27 (pureF (fn2 dS dI tokV))
theorem goodC : GoodT Tryd.prog EP tabC := goodB.also envK mixed noNum goodB tToken

/-! ### strings.IndexByte -/
theorem findB_cut (c : UInt8) : ∀ (l : Bs) (i : Nat), findB l.length (packL l) c.toNat i = if (cutL c l).2.2 = true then ((i + (cutL c l).1.length : Nat) : Int) else -1
  | [], i => rfl
  | x :: l, i => by
    have hx := x.toNat_lt
    have e1 : (x.toNat + 256 * packL l) % 256 = x.toNat := by omega
    have e2 : (x.toNat + 256 * packL l) / 256 = packL l := by omega
    simp only [List.length_cons, findB, packL, e1, e2, findB_cut c l (i + 1), cutL]
    by_cases h : x = c
    · subst h
      rw [show Nat.beq x.toNat x.toNat = true from Nat.beq_refl _]
      simp
    · have : Nat.beq x.toNat c.toNat = false := by
        rw [Go.Proofs.YtfegkjmghbdogaaDoor.I.T.nbeq]
        exact decide_eq_false fun e => h (UInt8.toNat_inj.1 e)
      rw [this]
      simp only [cond_false, h, if_false, List.length_cons]
      split
      · congr 1; omega
      · rfl
theorem indexByte41 {h : H} (g : Gd h) (l : Bs) (c : UInt8) : CL tabC 41 [sv l, .int .u8 (c.toNat : Nat)] h = .ok (.int .i64 (if (cutL c l).2.2 = true then (((cutL c l).1.length : Nat) : Int) else -1)) h := by
  have hc := c.toNat_lt
  have e77 : CL tabC 77 [sv l, .int .u8 (c.toNat : Nat)] h = .ok (.int .i64 (if (cutL c l).2.2 = true then (((cutL c l).1.length : Nat) : Int) else -1)) h := by
    refine call_tab (g := indexByteI) rfl ?_ (by simp)
    simp only [indexByteI, sv]
    rw [if_pos ⟨by omega, by omega⟩, Int.toNat_natCast, findB_cut, Nat.zero_add]
  have e61 : CL tabC 61 [sv l, .int .u8 (c.toNat : Nat)] h = .ok (.int .i64 (if (cutL c l).2.2 = true then (((cutL c l).1.length : Nat) : Int) else -1)) h :=
    c61 goodC.step rfl rfl g (by simp only [t61_0, e77, W, spanK_u, decide_eq_true_eq, Bool.not_eq_true', decide_eq_false_iff_not, Bool.false_eq_true, Bool.not_true, Bool.not_false, decide_true, decide_false, not_true_eq_false, not_false_eq_true, and_true, true_and, and_false, false_and, ne_eq, Nat.zero_add, Nat.add_zero, cond_true, cond_false, ↓reduceIte, reduceCtorEq, Nat.reduceAdd, Int.reduceEq, Int.reduceNe, Int.reduceLT, Int.reduceLE, Int.reduceAdd, Int.reduceSub, Int.reduceMul, Int.reduceNeg, Nat.reduceMul, List.getElem?_cons_zero, List.getElem?_cons_succ]) (by simp)
  exact c41 goodC.step rfl rfl g (by simp only [t41_0, e61, W, spanK_u, decide_eq_true_eq, Bool.not_eq_true', decide_eq_false_iff_not, Bool.false_eq_true, Bool.not_true, Bool.not_false, decide_true, decide_false, not_true_eq_false, not_false_eq_true, and_true, true_and, and_false, false_and, ne_eq, Nat.zero_add, Nat.add_zero, cond_true, cond_false, ↓reduceIte, reduceCtorEq, Nat.reduceAdd, Int.reduceEq, Int.reduceNe, Int.reduceLT, Int.reduceLE, Int.reduceAdd, Int.reduceSub, Int.reduceMul, Int.reduceNeg, Nat.reduceMul, List.getElem?_cons_zero, List.getElem?_cons_succ]) (by simp)
theorem index42 {h : H} (g : Gd h) (a b : Bs) (ha : a.length < 4294967281) : CL tabC 42 [sv a, sv b] h = .ok (.int .i64 (Lib.index a b)) h := by
  have e46 : CL tabC 46 [sv a, sv b] h = .ok (.int .i64 (Lib.index a b)) h := call2 (A := dS) (B := dS) rfl (by simp only [idxF, ha, if_true]) h
  exact c42 goodC.step rfl rfl g (by simp only [t42_0, e46, W, spanK_u, decide_eq_true_eq, Bool.not_eq_true', decide_eq_false_iff_not, Bool.false_eq_true, Bool.not_true, Bool.not_false, decide_true, decide_false, not_true_eq_false, not_false_eq_true, and_true, true_and, and_false, false_and, ne_eq, Nat.zero_add, Nat.add_zero, cond_true, cond_false, ↓reduceIte, reduceCtorEq, Nat.reduceAdd, Int.reduceEq, Int.reduceNe, Int.reduceLT, Int.reduceLE, Int.reduceAdd, Int.reduceSub, Int.reduceMul, Int.reduceNeg, Nat.reduceMul, List.getElem?_cons_zero, List.getElem?_cons_succ]) (by simp)
theorem preC {h : H} (s p : Bs) (hs : s.length ≤ 1099511627776) : CL tabC 36 [sv s, sv p] h = .ok (.bool (p.isPrefixOf s)) h := call2 (A := dS) (B := dS) (a := s) (b := p) rfl (by unfold preF; rw [if_pos hs]) h

/-! ### comments -/
/-- how many bytes a comment takes with which a text begins; none: it does not end -/
def comF (r : Bs) : Option (Option Nat) :=
  if [47, 47].isPrefixOf r = true then some (some (cutL 10 r).1.length)
  else if [47, 42].isPrefixOf r = true then (if 0 ≤ Lib.index (r.drop 2) [42, 47] then some (some ((Lib.index (r.drop 2) [42, 47]).toNat + 4)) else some none)
  else none
def comI (at_ : Nat) : Option (Option Nat) → IV
  | none => .tup [.int .i64 0, .bool false]
  | some none => .tup [.int .i64 (-1), .bool true]
  | some (some n) => .tup [.int .i64 ((at_ + n : Nat) : Int), .bool true]
theorem index_le (a b : Bs) : Lib.index a b ≤ a.length := by
  induction a with
  | nil => unfold Lib.index; split <;> simp
  | cons x l ih =>
    unfold Lib.index
    split
    · simp; omega
    · split
      · simp; omega
      · rw [List.length_cons]; omega
theorem pre_len {a b : UInt8} {r : Bs} (h : [a, b].isPrefixOf r = true) : 2 ≤ r.length := by
  rw [List.isPrefixOf_iff_prefix] at h
  simpa using h.length_le
theorem s2f2f : IV.str ⟨2, 12079⟩ = sv [47, 47] := rfl
theorem s2f2a : IV.str ⟨2, 10799⟩ = sv [47, 42] := rfl
theorem s2a2f : IV.str ⟨2, 12074⟩ = sv [42, 47] := rfl
def comV (s : Bs) (i : Int) : Option IV := if s.length ≤ 1073741823 ∧ 0 ≤ i ∧ i ≤ s.length then some (comI i.toNat (comF (s.drop i.toNat))) else none
theorem tComment : PureT Tryd.prog (CL tabC) 25 (fn2 dS dI comV) := pure2 Tryd.func25 rfl fun s i v e => by
  unfold comV at e
  split at e
  rotate_left
  · cases e
  rename_i hc
  obtain ⟨hs, h0, hi⟩ := hc
  obtain ⟨i, rfl⟩ := Int.eq_ofNat_of_zero_le h0
  injection e with e; subst e
  simp only [Int.toNat_natCast]
  refine ⟨by unfold comI; split <;> rfl, H0, ?_⟩
  show CL tabC 25 [sv s, .int .i64 (i : Nat)] H0 = _
  refine c25 goodC.step rfl rfl gd0 ?_ (by unfold comI; split <;> simp)
  have esl : slcStr (sv s) (some (.int .i64 (i : Nat))) none = some (sv (s.drop i)) := by rw [slcStr_from _ _ (by omega) hi, Int.toNat_natCast]
  have hl : (s.drop i).length = s.length - i := List.length_drop
  generalize hr : s.drop i = r at esl hl ⊢
  unfold comF
  have p1 := preC (h := H0) r [47, 47] (by omega)
  have p2 := preC (h := H0) r [47, 42] (by omega)
  cases h1 : [47, 47].isPrefixOf r with
  | true =>
    rw [h1] at p1
    have e41 := indexByte41 gd0 r 10
    have e41 : CL tabC 41 [sv r, .int .u8 10] H0 = .ok (.int .i64 (if (cutL 10 r).2.2 = true then (((cutL 10 r).1.length : Nat) : Int) else -1)) H0 := e41
    have hcl := (cutL_len 10 r).1
    simp only [if_true]
    cases hb : (cutL 10 r).2.2 with
    | true =>
      rw [hb] at e41
      simp only [if_true] at e41
      have hpos : (0 : Int) ≤ ((cutL 10 r).1.length : Nat) := by omega
      have w1 : wr .i64 (((i : Nat) : Int) + (((cutL 10 r).1.length : Nat) : Int)) = ((i + (cutL 10 r).1.length : Nat) : Int) := by rw [wr_i64 (by omega) (by omega)]; omega
      simp only [t25_0, W, spanK_u, decide_eq_true_eq, Bool.not_eq_true', decide_eq_false_iff_not, Bool.false_eq_true, Bool.not_true, Bool.not_false, decide_true, decide_false, not_true_eq_false, not_false_eq_true, and_true, true_and, and_false, false_and, ne_eq, Nat.zero_add, Nat.add_zero, cond_true, cond_false, ↓reduceIte, reduceCtorEq, Nat.reduceAdd, Int.reduceEq, Int.reduceNe, Int.reduceLT, Int.reduceLE, Int.reduceAdd, Int.reduceSub, Int.reduceMul, Int.reduceNeg, Nat.reduceMul, List.getElem?_cons_zero, List.getElem?_cons_succ, esl, s2f2f, p1, e41, hpos, w1, comI]
    | false =>
      rw [hb] at e41
      simp only [Bool.false_eq_true, if_false] at e41
      obtain ⟨q, _, _⟩ := cutL_false 10 r hb
      have hpos : ¬ (0 : Int) ≤ -1 := by omega
      have e : ((s.length : Nat) : Int) = ((i + (cutL 10 r).1.length : Nat) : Int) := by rw [q]; omega
      simp only [t25_0, W, spanK_u, decide_eq_true_eq, Bool.not_eq_true', decide_eq_false_iff_not, Bool.false_eq_true, Bool.not_true, Bool.not_false, decide_true, decide_false, not_true_eq_false, not_false_eq_true, and_true, true_and, and_false, false_and, ne_eq, Nat.zero_add, Nat.add_zero, cond_true, cond_false, ↓reduceIte, reduceCtorEq, Nat.reduceAdd, Int.reduceEq, Int.reduceNe, Int.reduceLT, Int.reduceLE, Int.reduceAdd, Int.reduceSub, Int.reduceMul, Int.reduceNeg, Nat.reduceMul, List.getElem?_cons_zero, List.getElem?_cons_succ, esl, s2f2f, p1, e41, hpos, comI, e]
  | false =>
    rw [h1] at p1
    simp only [Bool.false_eq_true, if_false]
    cases h2 : [47, 42].isPrefixOf r with
    | true =>
      rw [h2] at p2
      have hp := pre_len h2
      have esl2 : slcStr (sv r) (some (.int .i64 2)) none = some (sv (r.drop 2)) := by rw [slcStr_from _ _ (by omega) (by omega)]; rfl
      have e42 := index42 gd0 (r.drop 2) [42, 47] (by rw [List.length_drop]; omega)
      have hle := index_le (r.drop 2) [42, 47]
      rw [List.length_drop] at hle
      simp only [if_true]
      by_cases hpos : 0 ≤ Lib.index (r.drop 2) [42, 47]
      · obtain ⟨k, hk⟩ := Int.eq_ofNat_of_zero_le hpos
        rw [hk] at e42 hle hpos ⊢
        have w1 : wr .i64 (((i : Nat) : Int) + ((k : Nat) : Int)) = ((i + k : Nat) : Int) := by rw [wr_i64 (by omega) (by omega)]; omega
        have w2 : wr .i64 (((i + k : Nat) : Int) + 4) = ((i + (k + 4) : Nat) : Int) := by rw [wr_i64 (by omega) (by omega)]; omega
        rw [if_pos hpos]
        simp only [t25_0, W, spanK_u, decide_eq_true_eq, Bool.not_eq_true', decide_eq_false_iff_not, Bool.false_eq_true, Bool.not_true, Bool.not_false, decide_true, decide_false, not_true_eq_false, not_false_eq_true, and_true, true_and, and_false, false_and, ne_eq, Nat.zero_add, Nat.add_zero, cond_true, cond_false, ↓reduceIte, reduceCtorEq, Nat.reduceAdd, Int.reduceEq, Int.reduceNe, Int.reduceLT, Int.reduceLE, Int.reduceAdd, Int.reduceSub, Int.reduceMul, Int.reduceNeg, Nat.reduceMul, List.getElem?_cons_zero, List.getElem?_cons_succ, esl, s2f2f, s2f2a, s2a2f, p1, p2, esl2, e42, hpos, w1, w2, comI, Int.toNat_natCast]
      · rw [if_neg hpos]
        simp only [t25_0, W, spanK_u, decide_eq_true_eq, Bool.not_eq_true', decide_eq_false_iff_not, Bool.false_eq_true, Bool.not_true, Bool.not_false, decide_true, decide_false, not_true_eq_false, not_false_eq_true, and_true, true_and, and_false, false_and, ne_eq, Nat.zero_add, Nat.add_zero, cond_true, cond_false, ↓reduceIte, reduceCtorEq, Nat.reduceAdd, Int.reduceEq, Int.reduceNe, Int.reduceLT, Int.reduceLE, Int.reduceAdd, Int.reduceSub, Int.reduceMul, Int.reduceNeg, Nat.reduceMul, List.getElem?_cons_zero, List.getElem?_cons_succ, esl, s2f2f, s2f2a, s2a2f, p1, p2, esl2, e42, hpos, comI]
    | false =>
      rw [h2] at p2
      simp only [Bool.false_eq_true, if_false]
      simp only [t25_0, W, spanK_u, decide_eq_true_eq, Bool.not_eq_true', decide_eq_false_iff_not, Bool.false_eq_true, Bool.not_true, Bool.not_false, decide_true, decide_false, not_true_eq_false, not_false_eq_true, and_true, true_and, and_false, false_and, ne_eq, Nat.zero_add, Nat.add_zero, cond_true, cond_false, ↓reduceIte, reduceCtorEq, Nat.reduceAdd, Int.reduceEq, Int.reduceNe, Int.reduceLT, Int.reduceLE, Int.reduceAdd, Int.reduceSub, Int.reduceMul, Int.reduceNeg, Nat.reduceMul, List.getElem?_cons_zero, List.getElem?_cons_succ, esl, s2f2f, s2f2a, p1, p2, comI]
noncomputable def tabD : Tab := tabC.add 25 (pureF (fn2 dS dI comV))
theorem goodD : GoodT Tryd.prog EP tabD := goodC.also envK mixed noNum goodC tComment

/-! ### the tokens of a source -/
inductive LexR where
  | ok (l : List Tok)
  | er (at_ : Nat) (e : Int)
def LexR.cons (t : Tok) : LexR → LexR
  | .ok l => .ok (t :: l)
  | .er a e => .er a e
def isDefine (t : Tok) : Bool := decide (t.kind = 4) && decide (t.text = [100, 101, 102, 105, 110, 101])
def lexS : Nat → Nat → Bool → Bs → Nat → LexR
  | 0, at_, _, _, _ => .er at_ 0
  | f + 1, at_, define, [], cnt => .ok [⟨6, [], at_⟩]
  | f + 1, at_, define, c :: l, cnt =>
    match comF (c :: l) with
    | some none => .er at_ 20
    | some (some n) => lexS f (at_ + n) define ((c :: l).drop n) cnt
    | none =>
      if c = 10 ∧ define = true then (if cnt = 16384 then .er at_ 2 else (lexS f (at_ + 1) false l (cnt + 1)).cons ⟨5, [], at_⟩)
      else if kindF c = 1 then lexS f (at_ + 1) define l cnt
      else if (tokF c l at_).2.2 ≠ 0 then .er at_ (tokF c l at_).2.2
      else if cnt = 16384 then .er at_ 2
      else (lexS f (tokF c l at_).2.1 (define || isDefine (tokF c l at_).1) ((c :: l).drop ((tokF c l at_).2.1 - at_)) (cnt + 1)).cons (tokF c l at_).1
def lexF (s : Bs) : LexR := if 65536 < s.length then .er 0 4 else lexS (s.length + 1) 0 false s 0

/-! ### lexer.Lex -/
def cellsT (l : List Tok) : List IV := (l.map tokC).flatten
theorem cellsT_len : ∀ l : List Tok, (cellsT l).length = 3 * l.length
  | [] => rfl
  | t :: l => by
    have := cellsT_len l
    simp only [cellsT] at this
    simp only [cellsT, List.map_cons, List.flatten_cons, List.length_append, this, List.length_cons, tokC, List.length_nil]; omega
/-- one reason -/
def DiagR (h : H) (v : IV) (a e : Int) : Prop := ∃ b, v = .slice b 0 1 2 ∧ Cs h b false true [.int .i64 a, .int .i64 e]
theorem one_ky {h : H} (g : Gd h) {es : Nat} {z c : List IV} (hz : z.length = es) (hc : c.length = es) (hs : allScalar c = true) (hes : es ≠ 0) : ∃ h', bslK false es z 1 [(0, .agg c)] h = some (.slice h.next 0 1 es, h') ∧ Ky h h' ∧ Cs h' h.next false true c := by
  have e := bslK_all (w := false) (es := es) (z := z) (vs := [.agg c]) hz (by intro v hv; rw [List.mem_singleton] at hv; subst hv; exact hc) (by simp [cellsOf, IV.cells, hs]) h
  have hco : cellsOf [IV.agg c] = c := by simp [cellsOf, IV.cells]
  rw [hco, g.pol, Bool.not_false, Bool.and_self, Bool.not_true] at e
  exact ⟨_, e, (Ky.refl g).push _, Cs.push (h := h) (rw := false) (fz := true) c⟩
theorem refused {h : H} (g : Gd h) (a e : Int) : ∃ d h', CL tabD 24 [.int .i64 a, .int .i64 e] h = .ok d h' ∧ Ky h h' ∧ DiagR h' d a e := by
  obtain ⟨h', e1, k, c⟩ := one_ky g (es := 2) (z := [(.int .i64 0), (.int .i64 0)]) (c := [.int .i64 a, .int .i64 e]) rfl rfl rfl (by omega)
  refine ⟨_, h', c24 goodD.step rfl rfl g ?_ (by simp), k, h.next, rfl, c⟩
  have eb : bldK [(.int .i64 0), (.int .i64 0)] [(0, 1), (1, 1)] [(0, .int .i64 a), (1, .int .i64 e)] = some (.agg [.int .i64 a, .int .i64 e]) := rfl
  simp only [t24_0, eb, W, spanK_u, decide_eq_true_eq, Bool.not_eq_true', decide_eq_false_iff_not, Bool.false_eq_true, Bool.not_true, Bool.not_false, decide_true, decide_false, not_true_eq_false, not_false_eq_true, and_true, true_and, and_false, false_and, ne_eq, Nat.zero_add, Nat.add_zero, cond_true, cond_false, ↓reduceIte, reduceCtorEq, Nat.reduceAdd, Int.reduceEq, Int.reduceNe, Int.reduceLT, Int.reduceLE, Int.reduceAdd, Int.reduceSub, Int.reduceMul, Int.reduceNeg, Nat.reduceMul, List.getElem?_cons_zero, List.getElem?_cons_succ, e1]
def LexO (h₀ : H) (c : CRes) (toks : List Tok) : LexR → Prop
  | .ok l => ∃ out h', c = .ok (.tup [out, .nilSlice]) h' ∧ Ky h₀ h' ∧ GLk h₀ h' 3 (cellsT (toks ++ l)) out
  | .er a e => ∃ d h', c = .ok (.tup [.nilSlice, d]) h' ∧ Ky h₀ h' ∧ DiagR h' d a e
theorem LexO.cons {h₀ : H} {c : CRes} {toks : List Tok} {t : Tok} {r : LexR} (h : LexO h₀ c (toks ++ [t]) r) : LexO h₀ c toks (r.cons t) := by
  cases r with
  | ok l =>
    obtain ⟨out, h', e, g, gl⟩ := h
    exact ⟨out, h', e, g, by rw [List.append_assoc] at gl; exact gl⟩
  | er a e => exact h
theorem comD {h : H} (s : Bs) (i : Nat) (hs : s.length ≤ 1073741823) (hi : i ≤ s.length) : CL tabD 25 [sv s, .int .i64 (i : Nat)] h = .ok (comI i (comF (s.drop i))) h :=
  call2 (A := dS) (B := dI) (a := s) (b := (i : Int)) rfl (by unfold comV; rw [if_pos ⟨hs, by omega, by omega⟩]; rfl) h
theorem kindD {h : H} (c : UInt8) : CL tabD 26 [.int .u8 (c.toNat : Nat)] h = .ok (.int .i64 (kindF c : Nat)) h := call1 (A := dU) (a := c) rfl rfl h
theorem tokD {h : H} (s : Bs) (i : Nat) (hs : s.length ≤ 1073741823) {c : UInt8} {l : Bs} (hd : s.drop i = c :: l) : CL tabD 27 [sv s, .int .i64 (i : Nat)] h = .ok (tokI (tokF c l i)) h :=
  call2 (A := dS) (B := dI) (a := s) (b := (i : Int)) rfl (by
    unfold tokV
    rw [if_pos ⟨hs, by omega⟩, Int.toNat_natCast, hd]) h
/-- a token takes at least one byte, and no more than there are -/
theorem tokF_end (c : UInt8) (l : Bs) (at_ : Nat) (h : (tokF c l at_).2.2 = 0) : at_ < (tokF c l at_).2.1 ∧ (tokF c l at_).2.1 ≤ at_ + (l.length + 1) := by
  unfold tokF at h ⊢
  by_cases p2 : kindF c = 2
  · rw [if_pos p2] at h ⊢
    unfold nameF at h ⊢
    have hr : 1 ≤ runN isWord (c :: l) := by
      unfold runN
      rw [List.takeWhile_cons, if_pos (by unfold isWord; rw [p2]; rfl)]; simp
    have hl := runN_le isWord (c :: l)
    rw [List.length_cons] at hl
    split at h
    · cases h
    · rename_i h64
      rw [if_neg h64]
      simp only; omega
  rw [if_neg p2] at h ⊢
  by_cases p4 : kindF c = 4
  · rw [if_pos p4] at h ⊢
    cases l with
    | nil => cases h
    | cons d l =>
      by_cases pd : kindF d = 2
      · simp only [pd, if_true] at h ⊢
        unfold nameF at h ⊢
        have hl := runN_le isWord (d :: l)
        rw [List.length_cons] at hl
        split at h
        · cases h
        · rename_i h64
          rw [if_neg h64]
          simp only [List.length_cons]; omega
      · simp only [pd, if_false] at h
        cases h
  rw [if_neg p4] at h ⊢
  by_cases p3 : kindF c = 3
  · rw [if_pos p3] at h ⊢
    have hr : 1 ≤ runN isNum (c :: l) := by
      unfold runN
      rw [List.takeWhile_cons, if_pos (by unfold isNum isWord; rw [p3]; rfl)]; simp
    have hl := runN_le isNum (c :: l)
    rw [List.length_cons] at hl
    simp only; omega
  rw [if_neg p3] at h ⊢
  by_cases p5 : kindF c = 5
  · rw [if_pos p5] at h ⊢
    cases l with
    | nil => simp
    | cons d l =>
      simp only [List.length_cons]
      split <;> simp only <;> omega
  · rw [if_neg p5] at h
    cases h
theorem comF_len {r : Bs} {n : Nat} (h : comF r = some (some n)) : 2 ≤ n ∧ n ≤ r.length := by
  unfold comF at h
  split at h
  · rename_i hp
    injection h with h; injection h with h; subst h
    refine ⟨?_, (cutL_len 10 r).1⟩
    rw [List.isPrefixOf_iff_prefix] at hp
    obtain ⟨t, rfl⟩ := hp
    have h1 : ¬ (47 : UInt8) = 10 := by decide
    simp only [List.cons_append, List.nil_append, cutL, h1, if_false, List.length_cons]; omega
  · split at h
    · rename_i hp
      have h2 := pre_len hp
      split at h
      · rename_i hpos
        injection h with h; injection h with h; subst h
        have hle : Lib.index (r.drop 2) [42, 47] + 2 ≤ (r.drop 2).length := by
          have key : ∀ a : Bs, 0 ≤ Lib.index a [42, 47] → Lib.index a [42, 47] + 2 ≤ a.length := by
            intro a
            induction a with
            | nil => intro h; unfold Lib.index at h; simp at h
            | cons x l ih =>
              intro h
              unfold Lib.index at h ⊢
              by_cases hp : [42, 47].isPrefixOf (x :: l) = true
              · have := pre_len hp
                rw [if_pos hp]; simp only [List.length_cons] at this ⊢; omega
              · rw [if_neg hp] at h ⊢
                by_cases hm : (Lib.index l [42, 47] == -1) = true
                · rw [if_pos hm] at h; omega
                · rw [if_neg hm] at h ⊢
                  have hne : Lib.index l [42, 47] ≠ -1 := by simpa using hm
                  have hge := Lib.index_ge l [42, 47]
                  have := ih (by omega)
                  rw [List.length_cons]; omega
          exact key _ hpos
        rw [List.length_drop] at hle
        omega
      · cases h
    · cases h
theorem def_str : IV.str ⟨6, 111524889126244⟩ = sv [100, 101, 102, 105, 110, 101] := rfl

end Go.Proofs.YtfegkjmghbdogaaDoor

namespace Go.Proofs.YtfegkjmghbdogaaDoor
open Go I
set_option maxRecDepth 100000
set_option linter.unusedVariables false
set_option linter.unusedSimpArgs false

theorem LexO.ne {h₀ : H} {c : CRes} {toks : List Tok} {r : LexR} (h : LexO h₀ c toks r) : c ≠ .fail := by
  cases r with
  | ok l => obtain ⟨out, h', e, _⟩ := h; rw [e]; simp
  | er a e => obtain ⟨d, h', e, _⟩ := h; rw [e]; simp
theorem LexO.via {h₀ : H} {c c' : CRes} {toks : List Tok} {r : LexR} (h : LexO h₀ c' toks r) (e : c' ≠ .fail → c = c') : LexO h₀ c toks r := by
  rw [e h.ne]; exact h
theorem GL_len {h : H} {toks : List Tok} {out : IV} (gl : GL h 3 (cellsT toks) out) : lenS out = some (.int .i64 (toks.length : Nat)) := by
  rcases gl with ⟨h1, rfl⟩ | ⟨b, n, rfl, h1, h2⟩
  · have := cellsT_len toks
    rw [h1] at this
    have : toks.length = 0 := by simp at this; omega
    rw [this]; rfl
  · rw [cellsT_len] at h2
    have : n = toks.length := by omega
    subst this; rfl
/-- a token behind the others -/
theorem app_tok {h₀ h : H} (x : Ky h₀ h) {toks : List Tok} {out : IV} (gl : GLk h₀ h 3 (cellsT toks) out) (t : Tok) (hn : toks.length ≤ 16384) : ∃ h1 out' h', bslK false 3 z0 1 [(0, .agg (tokC t))] h = some (.slice h.next 0 1 3, h1) ∧ appK 3 32 h1 out (.slice h.next 0 1 3) = some (out', h') ∧ Ky h₀ h' ∧ GLk h₀ h' 3 (cellsT (toks ++ [t])) out' := by
  obtain ⟨h1, e1, k1, c1⟩ := one_ky x.gd (es := 3) (z := z0) (c := tokC t) rfl rfl rfl (by omega)
  have hsrc : sourceI h1 3 (.slice h.next 0 1 3) = some (tokC t, 1) := by
    have := Ci.source (off := 0) (n := 1) (es := 3) ⟨true, c1⟩ (by show 0 + 1 * 3 ≤ 3; omega) (by omega)
    rw [List.drop_zero] at this
    exact this
  obtain ⟨out', h', e2, x', gl'⟩ := (x.trans k1).app (bytes := 32) (gl.ky x.gd.wf k1) hsrc rfl rfl (by omega) (by rw [cellsT_len]; omega) (by omega)
  refine ⟨h1, out', h', e1, e2, x', ?_⟩
  have : cellsT (toks ++ [t]) = cellsT toks ++ tokC t := by simp [cellsT]
  rw [this]; exact gl'
theorem push_tok {h₀ h : H} (x : Ky h₀ h) {s : Bs} {toks : List Tok} {out : IV} (gl : GLk h₀ h 3 (cellsT toks) out) (hn : toks.length ≤ 16384) {t : Tok} {p : Nat} (c : Cs h p true false (tokC t)) {q : Bool} {i e : Nat} {r : LexR}
    (next : toks.length < 16384 → ∀ out' h', Ky h₀ h' → GLk h₀ h' 3 (cellsT (toks ++ [t])) out' → LexO h₀ (J11 tabD 1 [sv s, out', .bool q, .int .i64 (e : Nat)] h') (toks ++ [t]) r) :
    LexO h₀ (J11 tabD 2 [sv s, out, .bool q, .int .i64 (i : Nat), .ptr p 0, .int .i64 (e : Nat)] h) toks (if toks.length = 16384 then .er i 2 else r.cons t) := by
  have hl := GL_len gl.gl
  by_cases hf : toks.length = 16384
  · rw [if_pos hf]
    obtain ⟨d, h', e1, k, dr⟩ := refused x.gd (i : Nat) 2
    refine ⟨d, h', e11_2 ?_ (by simp), x.trans k, dr⟩
    have hf' : (((toks.length : Nat) : Int) = 16384) = True := eq_true (by omega)
    simp only [t11_2, hl, W, spanK_u, decide_eq_true_eq, Bool.not_eq_true', decide_eq_false_iff_not, Bool.false_eq_true, Bool.not_true, Bool.not_false, decide_true, decide_false, not_true_eq_false, not_false_eq_true, and_true, true_and, and_false, false_and, ne_eq, Nat.zero_add, Nat.add_zero, cond_true, cond_false, ↓reduceIte, reduceCtorEq, Nat.reduceAdd, Int.reduceEq, Int.reduceNe, Int.reduceLT, Int.reduceLE, Int.reduceAdd, Int.reduceSub, Int.reduceMul, Int.reduceNeg, Nat.reduceMul, List.getElem?_cons_zero, List.getElem?_cons_succ, hf', e1]
  · rw [if_neg hf]
    obtain ⟨h1, out', h', e1, e2, g', gl'⟩ := app_tok x gl t hn
    have hf' : (((toks.length : Nat) : Int) = 16384) = False := eq_false (by omega)
    refine (next (by omega) out' h' g' gl').cons.via fun hr => e11_2 ?_ hr
    simp only [t11_2, hl, W, spanK_u, decide_eq_true_eq, Bool.not_eq_true', decide_eq_false_iff_not, Bool.false_eq_true, Bool.not_true, Bool.not_false, decide_true, decide_false, not_true_eq_false, not_false_eq_true, and_true, true_and, and_false, false_and, ne_eq, Nat.zero_add, Nat.add_zero, cond_true, cond_false, ↓reduceIte, reduceCtorEq, Nat.reduceAdd, Int.reduceEq, Int.reduceNe, Int.reduceLT, Int.reduceLE, Int.reduceAdd, Int.reduceSub, Int.reduceMul, Int.reduceNeg, Nat.reduceMul, List.getElem?_cons_zero, List.getElem?_cons_succ, hf', c.ldAll (n := 3) rfl, e1, e2]
theorem put_tok {h h' : H} {b : Nat} (k : Ky h h') (hb : h.next ≤ b) {cs : List IV} (c : Cs h' b true false cs) (h3 : cs.length = 3) (t : Tok) : ∃ h'', stA 3 h' (.ptr b 0) (.agg (tokC t)) = some h'' ∧ Ky h h'' ∧ Cs h'' b true false (tokC t) := by
  obtain ⟨o, e, c', _⟩ := c.st (n := 3) (off := 0) (v := .agg (tokC t)) rfl rfl (by omega)
  have hp : placeL cs 0 (IV.agg (tokC t)).cells = tokC t := by
    show placeL cs 0 (tokC t) = tokC t
    match cs, h3 with
    | [_, _, _], _ => rfl
  rw [hp] at c'
  obtain ⟨tt, q, _⟩ := c
  exact ⟨_, e, k.put hb q (fun fz size cs hh => by cases hh), c'⟩
theorem lex_loop {h₀ : H} (s : Bs) (hs : s.length ≤ 65536) : ∀ (f i : Nat) (q : Bool) (toks : List Tok) (h : H) (out : IV), s.length - i < f → i ≤ s.length → Ky h₀ h → GLk h₀ h 3 (cellsT toks) out → toks.length ≤ 16384 →
    LexO h₀ (J11 tabD 1 [sv s, out, .bool q, .int .i64 (i : Nat)] h) toks (lexS f i q (s.drop i) toks.length) := by
  intro f
  induction f with
  | zero => intro i q toks h out hf; omega
  | succ f ih =>
    intro i q toks h out hf hi x gl hn
    have g := x.gd
    by_cases hil : s.length ≤ i
    · -- the end
      have hi' : i = s.length := by omega
      subst hi'
      rw [List.drop_of_length_le (Nat.le_refl _)]
      obtain ⟨h1, out', h', e1, e2, g', gl'⟩ := app_tok x gl ⟨6, [], s.length⟩ hn
      have hlt : ¬ ((s.length : Nat) : Int) < (s.length : Nat) := by omega
      have eb : bldK z0 p1 [(0, .int .i64 6), (2, .int .i64 (s.length : Nat))] = some (.agg (tokC ⟨6, [], s.length⟩)) := rfl
      refine ⟨out', h', e11_1 ?_ (by simp), g', gl'⟩
      simp only [t11_1, W, spanK_u, decide_eq_true_eq, Bool.not_eq_true', decide_eq_false_iff_not, Bool.false_eq_true, Bool.not_true, Bool.not_false, decide_true, decide_false, not_true_eq_false, not_false_eq_true, and_true, true_and, and_false, false_and, ne_eq, Nat.zero_add, Nat.add_zero, cond_true, cond_false, ↓reduceIte, reduceCtorEq, Nat.reduceAdd, Int.reduceEq, Int.reduceNe, Int.reduceLT, Int.reduceLE, Int.reduceAdd, Int.reduceSub, Int.reduceMul, Int.reduceNeg, Nat.reduceMul, List.getElem?_cons_zero, List.getElem?_cons_succ, hlt, eb, e1, e2]
    · have hil' : i < s.length := by omega
      have hlt : ((i : Nat) : Int) < (s.length : Nat) := by omega
      have hd := List.drop_eq_getElem_cons hil'
      have eix := ixStr_nat s i hil'
      have ec := comD (h := h) s i (by omega) (by omega)
      generalize s[i] = c at hd eix
      rw [hd] at ec ⊢
      have hll : (c :: s.drop (i + 1)).length = s.length - i := by rw [← hd, List.length_drop]
      simp only [lexS]
      cases hcm : comF (c :: s.drop (i + 1)) with
      | some o =>
        rw [hcm] at ec
        cases o with
        | none =>
          -- a comment that does not end
          obtain ⟨d, h', e1, k, dr⟩ := refused g (i : Nat) 20
          refine ⟨d, h', e11_1 ?_ (by simp), x.trans k, dr⟩
          simp only [comI] at ec
          simp only [t11_1, W, spanK_u, decide_eq_true_eq, Bool.not_eq_true', decide_eq_false_iff_not, Bool.false_eq_true, Bool.not_true, Bool.not_false, decide_true, decide_false, not_true_eq_false, not_false_eq_true, and_true, true_and, and_false, false_and, ne_eq, Nat.zero_add, Nat.add_zero, cond_true, cond_false, ↓reduceIte, reduceCtorEq, Nat.reduceAdd, Int.reduceEq, Int.reduceNe, Int.reduceLT, Int.reduceLE, Int.reduceAdd, Int.reduceSub, Int.reduceMul, Int.reduceNeg, Nat.reduceMul, List.getElem?_cons_zero, List.getElem?_cons_succ, hlt, ec, e1]
        | some n =>
          obtain ⟨n1, n2⟩ := comF_len hcm
          rw [hll] at n2
          have hdd : (c :: s.drop (i + 1)).drop n = s.drop (i + n) := by rw [← hd, List.drop_drop]
          simp only [hdd]
          refine (ih (i + n) q toks h out (by omega) (by omega) x gl hn).via fun hr => e11_1 ?_ hr
          have h0 : ¬ ((i + n : Nat) : Int) < 0 := by omega
          simp only [comI] at ec
          simp only [t11_1, W, spanK_u, decide_eq_true_eq, Bool.not_eq_true', decide_eq_false_iff_not, Bool.false_eq_true, Bool.not_true, Bool.not_false, decide_true, decide_false, not_true_eq_false, not_false_eq_true, and_true, true_and, and_false, false_and, ne_eq, Nat.zero_add, Nat.add_zero, cond_true, cond_false, ↓reduceIte, reduceCtorEq, Nat.reduceAdd, Int.reduceEq, Int.reduceNe, Int.reduceLT, Int.reduceLE, Int.reduceAdd, Int.reduceSub, Int.reduceMul, Int.reduceNeg, Nat.reduceMul, List.getElem?_cons_zero, List.getElem?_cons_succ, hlt, ec, h0]
      | none =>
        rw [hcm] at ec
        simp only [comI] at ec
        -- the line's token stands ready
        have w1 := wr_succ (show i < 9223372036854775807 by omega)
        have eb : bldK z0 p1 [(0, .int .i64 5), (2, .int .i64 (i : Nat))] = some (.agg (tokC ⟨5, [], i⟩)) := rfl
        obtain ⟨h1, e1, k1, c1, _, _⟩ := (Ky.refl g).newI (cs := z0) rfl
        obtain ⟨h2, e2, k2, c2⟩ := put_tok k1 (Nat.le_refl _) c1 rfl ⟨5, [], i⟩
        have u10 : (((c.toNat : Nat) : Int) = 10) = (c = 10) := u8_eq c 10 (by decide)
        have kd := kindD (h := h2) c
        have q1 := kind_int c 1
        simp only [Int.cast_ofNat_Int] at q1
        by_cases hl : c = 10 ∧ q = true
        · obtain ⟨hc, hq⟩ := hl
          rw [if_pos ⟨hc, hq⟩]
          have pk := push_tok (s := s) (i := i) (e := i + 1) (q := false) (r := lexS f (i + 1) false (s.drop (i + 1)) (toks.length + 1)) (x.trans k2) (gl.ky g.wf k2) hn c2 (fun hlt' out' h' g' gl' => by
            have := ih (i + 1) false (toks ++ [⟨5, [], i⟩]) h' out' (by omega) (by omega) g' gl' (by rw [List.length_append, List.length_singleton]; omega)
            rw [List.length_append, List.length_singleton] at this
            exact this)
          refine pk.via fun hr => e11_1 ?_ hr
          simp only [t11_1, W, spanK_u, decide_eq_true_eq, Bool.not_eq_true', decide_eq_false_iff_not, Bool.false_eq_true, Bool.not_true, Bool.not_false, decide_true, decide_false, not_true_eq_false, not_false_eq_true, and_true, true_and, and_false, false_and, ne_eq, Nat.zero_add, Nat.add_zero, cond_true, cond_false, ↓reduceIte, reduceCtorEq, Nat.reduceAdd, Int.reduceEq, Int.reduceNe, Int.reduceLT, Int.reduceLE, Int.reduceAdd, Int.reduceSub, Int.reduceMul, Int.reduceNeg, Nat.reduceMul, List.getElem?_cons_zero, List.getElem?_cons_succ, hlt, ec, eb, w1, e1, e2, eix, u10, eq_true hc, hq]
        · rw [if_neg hl]
          have sel : (c = 10 ∧ q = false) ∨ ¬ c = 10 := by
            by_cases hc : c = 10
            · refine .inl ⟨hc, ?_⟩
              cases q with
              | true => exact absurd ⟨hc, rfl⟩ hl
              | false => rfl
            · exact .inr hc
          by_cases p1 : kindF c = 1
          · rw [if_pos p1]
            refine (ih (i + 1) q toks h2 out (by omega) (by omega) (x.trans k2) (gl.ky g.wf k2) hn).via fun hr => e11_1 ?_ hr
            rcases sel with ⟨hc, hq⟩ | hc
            · simp only [t11_1, W, spanK_u, decide_eq_true_eq, Bool.not_eq_true', decide_eq_false_iff_not, Bool.false_eq_true, Bool.not_true, Bool.not_false, decide_true, decide_false, not_true_eq_false, not_false_eq_true, and_true, true_and, and_false, false_and, ne_eq, Nat.zero_add, Nat.add_zero, cond_true, cond_false, ↓reduceIte, reduceCtorEq, Nat.reduceAdd, Int.reduceEq, Int.reduceNe, Int.reduceLT, Int.reduceLE, Int.reduceAdd, Int.reduceSub, Int.reduceMul, Int.reduceNeg, Nat.reduceMul, List.getElem?_cons_zero, List.getElem?_cons_succ, hlt, ec, eb, w1, e1, e2, eix, u10, eq_true hc, hq, kd, q1, eq_true p1]
            · simp only [t11_1, W, spanK_u, decide_eq_true_eq, Bool.not_eq_true', decide_eq_false_iff_not, Bool.false_eq_true, Bool.not_true, Bool.not_false, decide_true, decide_false, not_true_eq_false, not_false_eq_true, and_true, true_and, and_false, false_and, ne_eq, Nat.zero_add, Nat.add_zero, cond_true, cond_false, ↓reduceIte, reduceCtorEq, Nat.reduceAdd, Int.reduceEq, Int.reduceNe, Int.reduceLT, Int.reduceLE, Int.reduceAdd, Int.reduceSub, Int.reduceMul, Int.reduceNeg, Nat.reduceMul, List.getElem?_cons_zero, List.getElem?_cons_succ, hlt, ec, eb, w1, e1, e2, eix, u10, eq_false hc, kd, q1, eq_true p1]
          · rw [if_neg p1]
            have et := tokD (h := h2) s i (by omega) hd
            have hend := tokF_end c (s.drop (i + 1)) i
            generalize tokF c (s.drop (i + 1)) i = tf at et hend ⊢
            obtain ⟨t, e, err⟩ := tf
            obtain ⟨h3, e3, k3, c3⟩ := put_tok k2 (Nat.le_refl _) c2 rfl t
            simp only [tokI] at et
            simp only at hend ⊢
            by_cases he : err = 0
            · obtain ⟨e5, e6⟩ := hend he
              rw [if_neg (by simp [he])]
              have hdd : (c :: s.drop (i + 1)).drop (e - i) = s.drop e := by rw [← hd, List.drop_drop, show i + (e - i) = e by omega]
              rw [List.length_cons] at hll
              rw [hdd]
              have pk := push_tok (s := s) (i := i) (e := e) (q := q || isDefine t) (r := lexS f e (q || isDefine t) (s.drop e) (toks.length + 1)) (x.trans k3) (gl.ky g.wf k3) hn c3 (fun hlt' out' h' g' gl' => by
                have := ih e (q || isDefine t) (toks ++ [t]) h' out' (by omega) (by omega) g' gl' (by rw [List.length_append, List.length_singleton]; omega)
                rw [List.length_append, List.length_singleton] at this
                exact this)
              refine pk.via fun hr => e11_1 ?_ hr
              have l0 : I.ld0 h3 (.ptr h.next 0) = some (.int .i64 t.kind) := by rw [c3.ld0]; rfl
              have l1 : I.ld0 h3 (.ptr h.next 1) = some (sv t.text) := by rw [c3.ld0]; rfl
              have he' := eq_true he
              cases q with
              | true =>
                rcases sel with ⟨hc, hq⟩ | hc
                · cases hq
                · simp only [t11_1, W, spanK_u, decide_eq_true_eq, Bool.not_eq_true', decide_eq_false_iff_not, Bool.false_eq_true, Bool.not_true, Bool.not_false, decide_true, decide_false, not_true_eq_false, not_false_eq_true, and_true, true_and, and_false, false_and, ne_eq, Nat.zero_add, Nat.add_zero, cond_true, cond_false, ↓reduceIte, reduceCtorEq, Nat.reduceAdd, Int.reduceEq, Int.reduceNe, Int.reduceLT, Int.reduceLE, Int.reduceAdd, Int.reduceSub, Int.reduceMul, Int.reduceNeg, Nat.reduceMul, List.getElem?_cons_zero, List.getElem?_cons_succ, hlt, ec, eb, w1, e1, e2, eix, u10, eq_false hc, kd, q1, eq_false p1, et, e3, he', Bool.true_or]
              | false =>
                by_cases h4 : t.kind = 4
                · have hdf : isDefine t = decide (t.text = [100, 101, 102, 105, 110, 101]) := by unfold isDefine; rw [decide_eq_true h4, Bool.true_and]
                  rcases sel with ⟨hc, hq⟩ | hc
                  · simp only [t11_1, W, spanK_u, decide_eq_true_eq, Bool.not_eq_true', decide_eq_false_iff_not, Bool.false_eq_true, Bool.not_true, Bool.not_false, decide_true, decide_false, not_true_eq_false, not_false_eq_true, and_true, true_and, and_false, false_and, ne_eq, Nat.zero_add, Nat.add_zero, cond_true, cond_false, ↓reduceIte, reduceCtorEq, Nat.reduceAdd, Int.reduceEq, Int.reduceNe, Int.reduceLT, Int.reduceLE, Int.reduceAdd, Int.reduceSub, Int.reduceMul, Int.reduceNeg, Nat.reduceMul, List.getElem?_cons_zero, List.getElem?_cons_succ, hlt, ec, eb, w1, e1, e2, eix, u10, eq_true hc, kd, q1, eq_false p1, et, e3, he', l0, eq_true h4, l1, def_str, Bool.false_or, hdf]
                  · simp only [t11_1, W, spanK_u, decide_eq_true_eq, Bool.not_eq_true', decide_eq_false_iff_not, Bool.false_eq_true, Bool.not_true, Bool.not_false, decide_true, decide_false, not_true_eq_false, not_false_eq_true, and_true, true_and, and_false, false_and, ne_eq, Nat.zero_add, Nat.add_zero, cond_true, cond_false, ↓reduceIte, reduceCtorEq, Nat.reduceAdd, Int.reduceEq, Int.reduceNe, Int.reduceLT, Int.reduceLE, Int.reduceAdd, Int.reduceSub, Int.reduceMul, Int.reduceNeg, Nat.reduceMul, List.getElem?_cons_zero, List.getElem?_cons_succ, hlt, ec, eb, w1, e1, e2, eix, u10, eq_false hc, kd, q1, eq_false p1, et, e3, he', l0, eq_true h4, l1, def_str, Bool.false_or, hdf]
                · have hi4 : isDefine t = false := by unfold isDefine; rw [decide_eq_false h4]; rfl
                  rcases sel with ⟨hc, hq⟩ | hc
                  · simp only [t11_1, W, spanK_u, decide_eq_true_eq, Bool.not_eq_true', decide_eq_false_iff_not, Bool.false_eq_true, Bool.not_true, Bool.not_false, decide_true, decide_false, not_true_eq_false, not_false_eq_true, and_true, true_and, and_false, false_and, ne_eq, Nat.zero_add, Nat.add_zero, cond_true, cond_false, ↓reduceIte, reduceCtorEq, Nat.reduceAdd, Int.reduceEq, Int.reduceNe, Int.reduceLT, Int.reduceLE, Int.reduceAdd, Int.reduceSub, Int.reduceMul, Int.reduceNeg, Nat.reduceMul, List.getElem?_cons_zero, List.getElem?_cons_succ, hlt, ec, eb, w1, e1, e2, eix, u10, eq_true hc, kd, q1, eq_false p1, et, e3, he', l0, eq_false h4, Bool.false_or, hi4]
                  · simp only [t11_1, W, spanK_u, decide_eq_true_eq, Bool.not_eq_true', decide_eq_false_iff_not, Bool.false_eq_true, Bool.not_true, Bool.not_false, decide_true, decide_false, not_true_eq_false, not_false_eq_true, and_true, true_and, and_false, false_and, ne_eq, Nat.zero_add, Nat.add_zero, cond_true, cond_false, ↓reduceIte, reduceCtorEq, Nat.reduceAdd, Int.reduceEq, Int.reduceNe, Int.reduceLT, Int.reduceLE, Int.reduceAdd, Int.reduceSub, Int.reduceMul, Int.reduceNeg, Nat.reduceMul, List.getElem?_cons_zero, List.getElem?_cons_succ, hlt, ec, eb, w1, e1, e2, eix, u10, eq_false hc, kd, q1, eq_false p1, et, e3, he', l0, eq_false h4, Bool.false_or, hi4]
            · rw [if_pos he]
              obtain ⟨d, h', e4, k, dr⟩ := refused k3.gd (i : Nat) err
              have he' := eq_false he
              refine ⟨d, h', e11_1 ?_ (by simp), (x.trans k3).trans k, dr⟩
              rcases sel with ⟨hc, hq⟩ | hc
              · simp only [t11_1, W, spanK_u, decide_eq_true_eq, Bool.not_eq_true', decide_eq_false_iff_not, Bool.false_eq_true, Bool.not_true, Bool.not_false, decide_true, decide_false, not_true_eq_false, not_false_eq_true, and_true, true_and, and_false, false_and, ne_eq, Nat.zero_add, Nat.add_zero, cond_true, cond_false, ↓reduceIte, reduceCtorEq, Nat.reduceAdd, Int.reduceEq, Int.reduceNe, Int.reduceLT, Int.reduceLE, Int.reduceAdd, Int.reduceSub, Int.reduceMul, Int.reduceNeg, Nat.reduceMul, List.getElem?_cons_zero, List.getElem?_cons_succ, hlt, ec, eb, w1, e1, e2, eix, u10, eq_true hc, hq, kd, q1, eq_false p1, et, e3, he', e4]
              · simp only [t11_1, W, spanK_u, decide_eq_true_eq, Bool.not_eq_true', decide_eq_false_iff_not, Bool.false_eq_true, Bool.not_true, Bool.not_false, decide_true, decide_false, not_true_eq_false, not_false_eq_true, and_true, true_and, and_false, false_and, ne_eq, Nat.zero_add, Nat.add_zero, cond_true, cond_false, ↓reduceIte, reduceCtorEq, Nat.reduceAdd, Int.reduceEq, Int.reduceNe, Int.reduceLT, Int.reduceLE, Int.reduceAdd, Int.reduceSub, Int.reduceMul, Int.reduceNeg, Nat.reduceMul, List.getElem?_cons_zero, List.getElem?_cons_succ, hlt, ec, eb, w1, e1, e2, eix, u10, eq_false hc, kd, q1, eq_false p1, et, e3, he', e4]
/-- the tokens of a source -/
theorem lex (s : Bs) (hs : s.length ≤ 9223372036854775807) {h : H} (g : Gd h) : LexO h (CL tabD 11 [sv s] h) [] (lexF s) := by
  unfold lexF
  by_cases hl : 65536 < s.length
  · rw [if_pos hl]
    obtain ⟨d, h', e1, k, dr⟩ := refused g 0 4
    refine ⟨d, h', c11 goodD.step rfl rfl g ?_ (by simp), k, dr⟩
    have hl' : (65536 : Int) < (s.length : Nat) := by omega
    simp only [t11_0, W, spanK_u, decide_eq_true_eq, Bool.not_eq_true', decide_eq_false_iff_not, Bool.false_eq_true, Bool.not_true, Bool.not_false, decide_true, decide_false, not_true_eq_false, not_false_eq_true, and_true, true_and, and_false, false_and, ne_eq, Nat.zero_add, Nat.add_zero, cond_true, cond_false, ↓reduceIte, reduceCtorEq, Nat.reduceAdd, Int.reduceEq, Int.reduceNe, Int.reduceLT, Int.reduceLE, Int.reduceAdd, Int.reduceSub, Int.reduceMul, Int.reduceNeg, Nat.reduceMul, List.getElem?_cons_zero, List.getElem?_cons_succ, hl', e1]
  · rw [if_neg hl]
    have hl' : ¬ (65536 : Int) < (s.length : Nat) := by omega
    have := lex_loop (h₀ := h) s (by omega) (s.length + 1) 0 false [] h .nilSlice (by omega) (by omega) (.refl g) (.inl ⟨rfl, rfl⟩) (by simp)
    rw [List.drop_zero] at this
    refine this.via fun hr => c11 goodD.step rfl rfl g ?_ hr
    simp only [t11_0, W, spanK_u, decide_eq_true_eq, Bool.not_eq_true', decide_eq_false_iff_not, Bool.false_eq_true, Bool.not_true, Bool.not_false, decide_true, decide_false, not_true_eq_false, not_false_eq_true, and_true, true_and, and_false, false_and, ne_eq, Nat.zero_add, Nat.add_zero, cond_true, cond_false, ↓reduceIte, reduceCtorEq, Nat.reduceAdd, Int.reduceEq, Int.reduceNe, Int.reduceLT, Int.reduceLE, Int.reduceAdd, Int.reduceSub, Int.reduceMul, Int.reduceNeg, Nat.reduceMul, List.getElem?_cons_zero, List.getElem?_cons_succ, hl']
    rfl

end Go.Proofs.YtfegkjmghbdogaaDoor

namespace Go.Proofs.YtfegkjmghbdogaaDoor
open Go I
set_option maxRecDepth 100000
set_option linter.unusedVariables false
set_option linter.unusedSimpArgs false

/-- what stands in the source where a token is -/
def txT (t : Tok) : Bs := if t.kind = 5 then [10] else if t.kind = 4 then 96 :: t.text else t.text
theorem kind_96 : ∀ n : Fin 256, kindN n.val = 4 → n.val = 96 := by decide +kernel
theorem kind4 {c : UInt8} (h : kindF c = 4) : c = 96 := by
  have := kind_96 ⟨c.toNat, c.toNat_lt⟩ h
  exact UInt8.toNat_inj.1 this
theorem tokF_ok (c : UInt8) (l : Bs) (at_ : Nat) (h : (tokF c l at_).2.2 = 0) : (tokF c l at_).1.at_ = at_ ∧ txT (tokF c l at_).1 = (c :: l).take ((tokF c l at_).2.1 - at_) := by
  unfold tokF at h ⊢
  have hk (k : Int) (hk5 : k ≠ 5) (hk4 : k ≠ 4) (x : Bs) (a : Nat) : txT ⟨k, x, a⟩ = x := by unfold txT; simp only [hk5, hk4, if_false]
  by_cases p2 : kindF c = 2
  · rw [if_pos p2] at h ⊢
    unfold nameF at h ⊢
    split at h
    · cases h
    · rename_i h64
      rw [if_neg h64]
      refine ⟨rfl, ?_⟩
      rw [hk 1 (by decide) (by decide)]
      congr 1; simp only; omega
  rw [if_neg p2] at h ⊢
  by_cases p4 : kindF c = 4
  · rw [if_pos p4] at h ⊢
    cases l with
    | nil => cases h
    | cons d l =>
      by_cases pd : kindF d = 2
      · simp only [pd, if_true] at h ⊢
        unfold nameF at h ⊢
        split at h
        · cases h
        · rename_i h64
          rw [if_neg h64]
          refine ⟨rfl, ?_⟩
          simp only
          rw [show at_ + 1 + runN isWord (d :: l) - at_ = runN isWord (d :: l) + 1 by omega, List.take_succ_cons, kind4 p4]
          rfl
      · simp only [pd, if_false] at h
        cases h
  rw [if_neg p4] at h ⊢
  by_cases p3 : kindF c = 3
  · rw [if_pos p3] at h ⊢
    refine ⟨rfl, ?_⟩
    rw [hk 2 (by decide) (by decide)]
    congr 1; simp only; omega
  rw [if_neg p3] at h ⊢
  by_cases p5 : kindF c = 5
  · rw [if_pos p5] at h ⊢
    cases l with
    | nil =>
      refine ⟨rfl, ?_⟩
      rw [hk 3 (by decide) (by decide)]
      simp
    | cons d l =>
      simp only
      split
      · refine ⟨rfl, ?_⟩
        rw [hk 3 (by decide) (by decide)]
        simp only
        rw [show at_ + 2 - at_ = 2 by omega]; rfl
      · refine ⟨rfl, ?_⟩
        rw [hk 3 (by decide) (by decide)]
        simp only
        rw [show at_ + 1 - at_ = 1 by omega]; rfl
  · rw [if_neg p5] at h
    cases h
/-- tokens stand one behind the other, and are what stands there; the last one is the end -/
def Places (s : Bs) : Nat → List Tok → Prop
  | _, [] => False
  | e, t :: l => (l = [] ∧ t = ⟨6, [], s.length⟩) ∨ (l ≠ [] ∧ e ≤ t.at_ ∧ txT t ≠ [] ∧ t.at_ + (txT t).length ≤ s.length ∧ (s.drop t.at_).take (txT t).length = txT t ∧ Places s (t.at_ + (txT t).length) l)
theorem Places.mono {s : Bs} {e e' : Nat} (h : e' ≤ e) : ∀ {l : List Tok}, Places s e l → Places s e' l
  | [], hp => hp
  | t :: l, hp => by
    rcases hp with hp | ⟨h1, h2, h3⟩
    · exact .inl hp
    · exact .inr ⟨h1, by omega, h3⟩
theorem Places.ne {s : Bs} {e : Nat} {l : List Tok} (h : Places s e l) : l ≠ [] := by rintro rfl; exact h
def LexP (s : Bs) (e : Nat) : LexR → Prop
  | .ok l => Places s e l
  | .er a c => (a < s.length ∨ a = 0) ∧ c ≠ 0
theorem LexP.mono {s : Bs} {e e' : Nat} (h : e' ≤ e) {r : LexR} (hp : LexP s e r) : LexP s e' r := by
  cases r with
  | ok l => exact Places.mono h hp
  | er a c => exact hp
theorem LexP.cons {s : Bs} {e : Nat} {t : Tok} {r : LexR} (h1 : e ≤ t.at_) (h2 : txT t ≠ []) (h3 : t.at_ + (txT t).length ≤ s.length) (h4 : (s.drop t.at_).take (txT t).length = txT t) (hp : LexP s (t.at_ + (txT t).length) r) : LexP s e (r.cons t) := by
  cases r with
  | ok l => exact .inr ⟨Places.ne hp, h1, h2, h3, h4, hp⟩
  | er a c => exact hp
theorem lexS_places (s : Bs) : ∀ (f i : Nat) (q : Bool) (cnt : Nat), s.length - i < f → i ≤ s.length → LexP s i (lexS f i q (s.drop i) cnt) := by
  intro f
  induction f with
  | zero => intro i q cnt hf; omega
  | succ f ih =>
    intro i q cnt hf hi
    by_cases hil : s.length ≤ i
    · have hi' : i = s.length := by omega
      subst hi'
      rw [List.drop_of_length_le (Nat.le_refl _)]
      exact .inl ⟨rfl, rfl⟩
    · have hil' : i < s.length := by omega
      have hd := List.drop_eq_getElem_cons hil'
      generalize s[i] = c at hd
      have hll : (c :: s.drop (i + 1)).length = s.length - i := by rw [← hd, List.length_drop]
      rw [hd]
      simp only [lexS]
      cases hcm : comF (c :: s.drop (i + 1)) with
      | some o =>
        cases o with
        | none => exact ⟨.inl hil', by decide⟩
        | some n =>
          obtain ⟨n1, n2⟩ := comF_len hcm
          rw [hll] at n2
          have hdd : (c :: s.drop (i + 1)).drop n = s.drop (i + n) := by rw [← hd, List.drop_drop]
          simp only [hdd]
          exact (ih (i + n) q cnt (by omega) (by omega)).mono (by omega)
      | none =>
        simp only
        by_cases hl : c = 10 ∧ q = true
        · rw [if_pos hl]
          split
          · exact ⟨.inl hil', by decide⟩
          · have hx : txT ⟨5, [], i⟩ = [10] := rfl
            refine LexP.cons (Nat.le_refl _) (by rw [hx]; simp) (by rw [hx]; show i + 1 ≤ s.length; omega) ?_ (ih (i + 1) false (cnt + 1) (by omega) (by omega))
            rw [hx]
            show (s.drop i).take 1 = [10]
            rw [hd, hl.1]; rfl
        · rw [if_neg hl]
          by_cases p1 : kindF c = 1
          · rw [if_pos p1]
            exact (ih (i + 1) q cnt (by omega) (by omega)).mono (by omega)
          · rw [if_neg p1]
            have hend := tokF_end c (s.drop (i + 1)) i
            have hok := tokF_ok c (s.drop (i + 1)) i
            generalize tokF c (s.drop (i + 1)) i = tf at hend hok ⊢
            obtain ⟨t, e, err⟩ := tf
            simp only at hend hok ⊢
            by_cases he : err = 0
            · obtain ⟨e5, e6⟩ := hend he
              obtain ⟨o1, o2⟩ := hok he
              rw [if_neg (by simp [he])]
              split
              · exact ⟨.inl hil', by decide⟩
              · rw [List.length_cons] at hll
                have hdd : (c :: s.drop (i + 1)).drop (e - i) = s.drop e := by rw [← hd, List.drop_drop, show i + (e - i) = e by omega]
                rw [hdd]
                have hlen : (txT t).length = e - i := by rw [o2, List.length_take, List.length_cons]; omega
                refine LexP.cons (by omega) (by intro h0; rw [h0] at hlen; simp at hlen; omega) (by omega) ?_ ?_
                · rw [o1, hlen, hd, ← o2]
                · rw [o1, hlen, show i + (e - i) = e by omega]
                  exact ih e _ (cnt + 1) (by omega) (by omega)
            · rw [if_pos he]
              exact ⟨.inl hil', he⟩
theorem lexF_places (s : Bs) : LexP s 0 (lexF s) := by
  unfold lexF
  split
  · exact ⟨.inr rfl, by decide⟩
  · have := lexS_places s (s.length + 1) 0 false 0 (by omega) (by omega)
    rw [List.drop_zero] at this
    exact this

end Go.Proofs.YtfegkjmghbdogaaDoor

namespace Go.Proofs.YtfegkjmghbdogaaDoor
open Go I
set_option maxRecDepth 100000
set_option linter.unusedVariables false
set_option linter.unusedSimpArgs false

abbrev tyT : Nat := 34
theorem tok_int {h : H} (d : Nat) (n : Int) : ieq Tryd.prog h (d + 1) 3 (.int .i64 n) (.int .i64 n) = some true := by
  simp only [ieq, Tryd.underlying3, if_true, decide_true]
theorem tok_str {h : H} (d : Nat) (l : Bs) : ieq Tryd.prog h (d + 1) 9 (sv l) (sv l) = some true := by
  simp only [ieq, sv, Tryd.underlying9, Str.eq_self]
/-- a token is held against itself -/
theorem binK_tok {h : H} (t : Tok) : binK Tryd.prog h .neq tyT false false (.agg (tokC t)) (.agg (tokC t)) = some (.bool false) := by
  have hg : Tryd.prog.eqGuardType Tryd.prog.depth tyT = false := by kernel_rfl
  have hs : Tryd.prog.stoodInHeld tyT = false := by kernel_rfl
  have a3 : isAggT Tryd.prog 3 = some false := by kernel_rfl
  have a9 : isAggT Tryd.prog 9 = some false := by kernel_rfl
  have key : ieq Tryd.prog h 10000 tyT (.agg (tokC t)) (.agg (tokC t)) = some true := by
    show ieq Tryd.prog h (9998 + 1 + 1) tyT (.agg (tokC t)) (.agg (tokC t)) = some true
    unfold ieq
    rw [show Tryd.prog.underlying tyT = _ from Tryd.underlying34]
    simp only [hs, Bool.false_eq_true, if_false, ieqL, partI, a3, a9, tokC, List.getElem?_cons_zero, List.getElem?_cons_succ, tok_int, tok_str]
    simp
  simp only [binK, guardEqB, hg, key, Bool.not_false, if_true, Bool.not_true]
theorem cellsT_at : ∀ (l : List Tok) (i : Nat) (t : Tok), l[i]? = some t → ((cellsT l).drop (i * 3)).take 3 = tokC t ∧ i * 3 + 3 ≤ (cellsT l).length
  | [], i, t, h => by simp at h
  | x :: l, 0, t, h => by
    simp only [List.getElem?_cons_zero, Option.some.injEq] at h
    subst h
    refine ⟨?_, by rw [cellsT_len]; simp; omega⟩
    simp [cellsT, tokC]
  | x :: l, i + 1, t, h => by
    rw [List.getElem?_cons_succ] at h
    obtain ⟨h1, h2⟩ := cellsT_at l i t h
    refine ⟨?_, by rw [cellsT_len] at h2 ⊢; rw [List.length_cons]; omega⟩
    have e : (cellsT (x :: l)).drop ((i + 1) * 3) = (cellsT l).drop (i * 3) := by
      have : cellsT (x :: l) = tokC x ++ cellsT l := rfl
      rw [this, show (i + 1) * 3 = (tokC x).length + i * 3 by simp [tokC]; omega, List.drop_append]
      simp [List.drop_of_length_le]
    rw [e, h1]
/-- a token of a list that was made -/
theorem tok_at {h : H} {l : List Tok} {v : IV} (gl : GL h 3 (cellsT l) v) {i : Nat} {t : Tok} (ht : l[i]? = some t) : ∃ b, v = .slice b 0 l.length 3 ∧ ixS 3 v (.int .i64 (i : Nat)) = some (.ptr b (i * 3)) ∧ ldA 3 h (.ptr b (i * 3)) = some (.agg (tokC t)) := by
  obtain ⟨h1, h2⟩ := cellsT_at l i t ht
  rcases gl with ⟨h3, rfl⟩ | ⟨b, n, rfl, c, h3⟩
  · rw [h3] at h2; simp at h2
  · have hn : n = l.length := by rw [cellsT_len] at h3; omega
    subst hn
    have hi : i < l.length := (List.getElem?_eq_some_iff.1 ht).1
    refine ⟨b, rfl, ixS_at hi, ?_⟩
    rw [c.ldA 3 _ h2, h1]
def Small (cnt : Nat) : LexR → Prop
  | .ok l => cnt + l.length ≤ 16385
  | .er _ _ => True
theorem Small.cons {t : Tok} {r : LexR} {cnt : Nat} (h : Small (cnt + 1) r) : Small cnt (r.cons t) := by
  cases r with
  | ok l =>
    have h : cnt + 1 + l.length ≤ 16385 := h
    show cnt + (t :: l).length ≤ 16385
    rw [List.length_cons]; omega
  | er a e => trivial
theorem lexS_big : ∀ (f i : Nat) (q : Bool) (r : Bs) (cnt : Nat), cnt ≤ 16384 → Small cnt (lexS f i q r cnt) := by
  intro f
  induction f with
  | zero => intro i q r cnt _; trivial
  | succ f ih =>
    intro i q r cnt hc
    cases r with
    | nil => show cnt + 1 ≤ 16385; omega
    | cons c l =>
      simp only [lexS]
      cases comF (c :: l) with
      | some o =>
        cases o with
        | none => trivial
        | some n => exact ih _ _ _ _ hc
      | none =>
        simp only
        split
        · split
          · trivial
          · exact (ih _ _ _ _ (by omega)).cons
        · split
          · exact ih _ _ _ _ hc
          · split
            · trivial
            · split
              · trivial
              · exact (ih _ _ _ _ (by omega)).cons
theorem lexF_big (s : Bs) : match lexF s with
    | .ok l => s.length ≤ 65536 ∧ l.length ≤ 16385
    | .er _ _ => True := by
  unfold lexF
  by_cases h : 65536 < s.length
  · rw [if_pos h]; trivial
  · rw [if_neg h]
    have := lexS_big (s.length + 1) 0 false s 0 (by omega)
    cases hr : lexS (s.length + 1) 0 false s 0 with
    | ok l =>
      rw [hr] at this
      have h2 : 0 + l.length ≤ 16385 := this
      show s.length ≤ 65536 ∧ l.length ≤ 16385
      omega
    | er a e => trivial
theorem awakeD (h : H) : CL tabD 10 [] h = .ok (.bool true) h := call0 rfl h
theorem Places.last {s : Bs} : ∀ {l : List Tok} {e : Nat}, Places s e l → l[l.length - 1]? = some ⟨6, [], s.length⟩
  | [], e, h => h.elim
  | t :: l, e, h => by
    rcases h with ⟨rfl, rfl⟩ | ⟨hn, _, _, _, _, h5⟩
    · rfl
    · have := Places.last h5
      obtain ⟨x, m, rfl⟩ := List.exists_cons_of_ne_nil hn
      simpa using this
theorem soundD : ∀ w₀ S, EP w₀ S → CallS Tryd.prog w₀ S (CL tabD) := goodD.sound envK mixed noNum
end Go.Proofs.YtfegkjmghbdogaaDoor

namespace Go.Proofs.YtfegkjmghbdogaaDoor
open Go I
set_option maxRecDepth 100000
set_option linter.unusedVariables false
set_option linter.unusedSimpArgs false

/-! ### the same, from another place on -/
def shiftT (k : Nat) (t : Tok) : Tok := ⟨t.kind, t.text, t.at_ + k⟩
def LexR.shift (k : Nat) : LexR → LexR
  | .ok l => .ok (l.map (shiftT k))
  | .er a e => .er (a + k) e
theorem LexR.shift_cons (k : Nat) (t : Tok) (r : LexR) : (r.cons t).shift k = (r.shift k).cons (shiftT k t) := by cases r <;> rfl
theorem tokF_shift (c : UInt8) (l : Bs) (a k : Nat) : (tokF c l (a + k)).2.2 = (tokF c l a).2.2 ∧ ((tokF c l a).2.2 = 0 → (tokF c l (a + k)).1 = shiftT k (tokF c l a).1 ∧ (tokF c l (a + k)).2.1 = (tokF c l a).2.1 + k) := by
  have name : ∀ (kd : Int) (sk : Nat) (m : Bs), (nameF kd sk m (a + k)).2.2 = (nameF kd sk m a).2.2 ∧ ((nameF kd sk m a).2.2 = 0 → (nameF kd sk m (a + k)).1 = shiftT k (nameF kd sk m a).1 ∧ (nameF kd sk m (a + k)).2.1 = (nameF kd sk m a).2.1 + k) := by
    intro kd sk m
    unfold nameF
    by_cases h : 64 < runN isWord m
    · simp only [h, if_true]
      exact ⟨trivial, fun h => by cases h⟩
    · simp only [h, if_false]
      refine ⟨trivial, fun _ => ⟨rfl, ?_⟩⟩
      omega
  unfold tokF
  by_cases p2 : kindF c = 2
  · simp only [p2, if_true]; exact name 1 0 (c :: l)
  simp only [p2, if_false]
  by_cases p4 : kindF c = 4
  · simp only [p4, if_true]
    cases l with
    | nil => exact ⟨rfl, fun h => by cases h⟩
    | cons d l =>
      by_cases pd : kindF d = 2
      · simp only [pd, if_true]; exact name 4 1 (d :: l)
      · simp only [pd, if_false]; exact ⟨trivial, fun h => by cases h⟩
  simp only [p4, if_false]
  by_cases p3 : kindF c = 3
  · simp only [p3, if_true]
    refine ⟨trivial, fun _ => ⟨rfl, ?_⟩⟩
    omega
  simp only [p3, if_false]
  by_cases p5 : kindF c = 5
  · simp only [p5, if_true]
    cases l with
    | nil =>
      refine ⟨rfl, fun _ => ⟨rfl, ?_⟩⟩
      show a + k + 1 = a + 1 + k
      omega
    | cons d l =>
      by_cases ht : twoF c d = true
      · simp only [ht, if_true]
        refine ⟨trivial, fun _ => ⟨rfl, ?_⟩⟩; omega
      · have ht' : twoF c d = false := by simpa using ht
        simp only [ht', Bool.false_eq_true, if_false]
        refine ⟨trivial, fun _ => ⟨rfl, ?_⟩⟩; omega
  · simp only [p5, if_false]
    exact ⟨trivial, fun h => by cases h⟩
theorem lexS_shift (k : Nat) : ∀ (f i : Nat) (q : Bool) (r : Bs) (cnt : Nat), lexS f (i + k) q r cnt = (lexS f i q r cnt).shift k := by
  intro f
  induction f with
  | zero => intro i q r cnt; rfl
  | succ f ih =>
    intro i q r cnt
    cases r with
    | nil => rfl
    | cons c l =>
      simp only [lexS]
      cases comF (c :: l) with
      | some o =>
        cases o with
        | none => rfl
        | some n =>
          simp only
          rw [show i + k + n = i + n + k by omega]; exact ih _ _ _ _
      | none =>
        simp only
        by_cases hl : c = 10 ∧ q = true
        · simp only [hl, and_self, if_true]
          by_cases hc : cnt = 16384
          · simp only [hc, if_true]; rfl
          · simp only [hc, if_false]
            rw [show i + k + 1 = i + 1 + k by omega, ih, LexR.shift_cons]; rfl
        · simp only [hl, if_false]
          by_cases p1 : kindF c = 1
          · simp only [p1, if_true]
            rw [show i + k + 1 = i + 1 + k by omega]; exact ih _ _ _ _
          · simp only [p1, if_false]
            obtain ⟨t1, t2⟩ := tokF_shift c l i k
            rw [t1]
            by_cases he : (tokF c l i).2.2 = 0
            · obtain ⟨t3, t4⟩ := t2 he
              have hend := (tokF_end c l i he).1
              simp only [ne_eq, he, not_true_eq_false, if_false]
              by_cases hc : cnt = 16384
              · simp only [hc, if_true]; rfl
              · simp only [hc, if_false]
                rw [t3, t4, ih, LexR.shift_cons]
                have hd : isDefine (shiftT k (tokF c l i).1) = isDefine (tokF c l i).1 := rfl
                rw [hd, show (tokF c l i).2.1 + k - (i + k) = (tokF c l i).2.1 - i by omega]
            · simp only [ne_eq, he, not_false_eq_true, if_true]; rfl
/-! ### with other fuel -/
theorem lexS_fuel : ∀ (f g i : Nat) (q : Bool) (r : Bs) (cnt : Nat), r.length < f → r.length < g → lexS f i q r cnt = lexS g i q r cnt := by
  intro f
  induction f with
  | zero => intro g i q r cnt h; omega
  | succ f ih =>
    intro g i q r cnt hf hg
    obtain ⟨g, rfl⟩ : ∃ g', g = g' + 1 := ⟨g - 1, by omega⟩
    cases r with
    | nil => rfl
    | cons c l =>
      simp only [List.length_cons] at hf hg
      simp only [lexS]
      cases hcm : comF (c :: l) with
      | some o =>
        cases o with
        | none => rfl
        | some n =>
          obtain ⟨n1, n2⟩ := comF_len hcm
          simp only [List.length_cons] at n2
          exact ih g _ _ _ _ (by rw [List.length_drop, List.length_cons]; omega) (by rw [List.length_drop, List.length_cons]; omega)
      | none =>
        simp only
        rw [ih g (i + 1) false l (cnt + 1) (by omega) (by omega), ih g (i + 1) q l cnt (by omega) (by omega)]
        by_cases he : (tokF c l i).2.2 = 0
        · have hend := tokF_end c l i he
          rw [ih g (tokF c l i).2.1 (q || isDefine (tokF c l i).1) _ (cnt + 1) (by rw [List.length_drop, List.length_cons]; omega) (by rw [List.length_drop, List.length_cons]; omega)]
        · simp only [ne_eq, he, not_false_eq_true, if_true]
/-! ### with fewer tokens ahead -/
theorem LexR.cons_ok {t : Tok} {r : LexR} {l : List Tok} (h : r.cons t = .ok l) : ∃ m, r = .ok m ∧ l = t :: m := by
  cases r with
  | ok m => injection h with h; exact ⟨m, rfl, h.symm⟩
  | er a e => cases h
theorem lexS_ne : ∀ {f i : Nat} {q : Bool} {r : Bs} {cnt : Nat} {l : List Tok}, lexS f i q r cnt = .ok l → l ≠ [] := by
  intro f
  induction f with
  | zero => intro i q r cnt l h; cases h
  | succ f ih =>
    intro i q r cnt l h
    cases r with
    | nil => injection h with h; subst h; simp
    | cons c m =>
      simp only [lexS] at h
      cases hcm : comF (c :: m) with
      | some o =>
        rw [hcm] at h
        cases o with
        | none => cases h
        | some n => exact ih h
      | none =>
        rw [hcm] at h
        simp only at h
        split at h
        · split at h
          · cases h
          · obtain ⟨l', e1, rfl⟩ := LexR.cons_ok h; simp
        · split at h
          · exact ih h
          · split at h
            · cases h
            · split at h
              · cases h
              · obtain ⟨l', e1, rfl⟩ := LexR.cons_ok h; simp
theorem lexS_count : ∀ (f i : Nat) (q : Bool) (r : Bs) (cnt cnt' : Nat) (l : List Tok), lexS f i q r cnt = .ok l → cnt' + l.length ≤ 16385 → lexS f i q r cnt' = .ok l := by
  intro f
  induction f with
  | zero => intro i q r cnt cnt' l h; cases h
  | succ f ih =>
    intro i q r cnt cnt' l h hl
    cases r with
    | nil => exact h
    | cons c m =>
      simp only [lexS] at h ⊢
      cases hcm : comF (c :: m) with
      | some o =>
        rw [hcm] at h
        cases o with
        | none => cases h
        | some n => exact ih _ _ _ _ _ _ h hl
      | none =>
        rw [hcm] at h
        simp only at h ⊢
        split at h
        · rename_i h1
          rw [if_pos h1]
          split at h
          · cases h
          · obtain ⟨l', e1, rfl⟩ := LexR.cons_ok h
            have hne : l' ≠ [] := lexS_ne e1
            have : 1 ≤ l'.length := List.length_pos_iff.2 hne
            rw [List.length_cons] at hl
            rw [if_neg (by omega), ih _ _ _ _ (cnt' + 1) _ e1 (by omega)]
            rfl
        · rename_i h1
          rw [if_neg h1]
          split at h
          · rename_i h2
            rw [if_pos h2]
            exact ih _ _ _ _ _ _ h hl
          · rename_i h2
            rw [if_neg h2]
            split at h
            · cases h
            · rename_i h3
              rw [if_neg h3]
              split at h
              · cases h
              · obtain ⟨l', e1, rfl⟩ := LexR.cons_ok h
                have hne : l' ≠ [] := lexS_ne e1
                have : 1 ≤ l'.length := List.length_pos_iff.2 hne
                rw [List.length_cons] at hl
                rw [if_neg (by omega), ih _ _ _ _ (cnt' + 1) _ e1 (by omega)]
                rfl

end Go.Proofs.YtfegkjmghbdogaaDoor

namespace Go.Proofs.YtfegkjmghbdogaaDoor
open Go I
set_option maxRecDepth 100000
set_option linter.unusedVariables false
set_option linter.unusedSimpArgs false

theorem two10 (c : UInt8) : twoF c 10 = false := by
  have key : ∀ n : Fin 256, twoF (UInt8.ofNat n.val) 10 = false := by decide +kernel
  have := key ⟨c.toNat, c.toNat_lt⟩
  simp only [UInt8.ofNat_toNat] at this
  exact this
theorem run_app {p : UInt8 → Bool} (hp : p 10 = false) (t : Bs) : ∀ y : Bs, runN p (y ++ 10 :: t) = runN p y ∧ runN p y ≤ y.length
  | [] => by simp [runN, hp]
  | c :: y => by
    obtain ⟨h1, h2⟩ := run_app hp t y
    unfold runN at h1 h2 ⊢
    by_cases h : p c = true
    · simp only [List.cons_append, List.takeWhile_cons, h, if_true, List.length_cons]
      omega
    · have h' : p c = false := by simpa using h
      simp only [List.cons_append, List.takeWhile_cons, h', Bool.false_eq_true, if_false, List.length_nil, List.length_cons]
      exact ⟨trivial, by omega⟩
theorem take_app {n : Nat} {y z : Bs} (h : n ≤ y.length) : (y ++ z).take n = y.take n := by rw [List.take_append_of_le_length h]
theorem word10 : isWord 10 = false := by decide
theorem num10 : isNum 10 = false := by decide
/-- a token ahead of a newline is the same whatever follows -/
theorem tokF_app (c : UInt8) (y t : Bs) (i : Nat) : tokF c (y ++ 10 :: t) i = tokF c (y ++ [10]) i ∧ ((tokF c (y ++ [10]) i).2.2 = 0 → (tokF c (y ++ [10]) i).2.1 ≤ i + (y.length + 1)) := by
  have name : ∀ (kd : Int) (sk : Nat) (z : Bs), nameF kd sk (z ++ 10 :: t) i = nameF kd sk (z ++ [10]) i ∧ ((nameF kd sk (z ++ [10]) i).2.2 = 0 → (nameF kd sk (z ++ [10]) i).2.1 ≤ i + sk + z.length) := by
    intro kd sk z
    obtain ⟨h1, h2⟩ := run_app word10 t z
    obtain ⟨h3, _⟩ := run_app word10 [] z
    unfold nameF
    rw [h1, h3, take_app h2, take_app h2]
    refine ⟨rfl, fun h => ?_⟩
    by_cases hr : 64 < runN isWord z
    · simp only [hr, if_true] at h; exact absurd h (by decide)
    · simp only [hr, if_false]; omega
  unfold tokF
  by_cases p2 : kindF c = 2
  · simp only [p2, if_true]
    have := name 1 0 (c :: y)
    simp only [List.cons_append, List.length_cons, Nat.add_zero] at this
    exact this
  simp only [p2, if_false]
  by_cases p4 : kindF c = 4
  · simp only [p4, if_true]
    cases y with
    | nil =>
      have : ¬ kindF 10 = 2 := by decide
      simp only [List.nil_append, this, if_false]
      exact ⟨trivial, fun h => by cases h⟩
    | cons d y =>
      by_cases pd : kindF d = 2
      · simp only [List.cons_append, pd, if_true]
        have := name 4 1 (d :: y)
        simp only [List.cons_append, List.length_cons] at this ⊢
        exact ⟨this.1, fun h => by have := this.2 h; omega⟩
      · simp only [List.cons_append, pd, if_false]
        exact ⟨trivial, fun h => by cases h⟩
  simp only [p4, if_false]
  by_cases p3 : kindF c = 3
  · simp only [p3, if_true]
    obtain ⟨h1, h2⟩ := run_app num10 t (c :: y)
    obtain ⟨h3, _⟩ := run_app num10 [] (c :: y)
    simp only [List.cons_append] at h1 h3
    rw [h1, h3]
    have e1 : (c :: (y ++ 10 :: t)).take (runN isNum (c :: y)) = (c :: y).take (runN isNum (c :: y)) := take_app (y := c :: y) h2
    have e2 : (c :: (y ++ [10])).take (runN isNum (c :: y)) = (c :: y).take (runN isNum (c :: y)) := take_app (y := c :: y) h2
    rw [e1, e2]
    rw [List.length_cons] at h2
    exact ⟨rfl, fun _ => by show i + runN isNum (c :: y) ≤ _; omega⟩
  simp only [p3, if_false]
  by_cases p5 : kindF c = 5
  · simp only [p5, if_true]
    cases y with
    | nil =>
      simp only [List.nil_append, two10, Bool.false_eq_true, if_false]
      exact ⟨trivial, fun _ => by simp⟩
    | cons d y =>
      simp only [List.cons_append]
      refine ⟨trivial, fun _ => ?_⟩
      split <;> simp only [List.length_cons] <;> omega
  · simp only [p5, if_false]
    exact ⟨trivial, fun h => by cases h⟩
/-! ### comments ahead of a newline -/
theorem cut_app (t : Bs) : ∀ x : Bs, (cutL 10 (x ++ 10 :: t)).1 = (cutL 10 (x ++ [10])).1 ∧ (cutL 10 (x ++ [10])).1.length ≤ x.length
  | [] => by simp [cutL]
  | c :: x => by
    obtain ⟨h1, h2⟩ := cut_app t x
    simp only [List.cons_append, cutL]
    by_cases h : c = 10
    · simp [h]
    · simp only [h, if_false, h1, List.length_cons]
      exact ⟨trivial, by omega⟩
theorem pre_app (a b : UInt8) (t : Bs) : ∀ x : Bs, x ≠ [] → [a, b].isPrefixOf (x ++ 10 :: t) = [a, b].isPrefixOf (x ++ [10])
  | [], h => absurd rfl h
  | [c], _ => rfl
  | c :: d :: x, _ => by simp [List.isPrefixOf]
theorem index_app (t : Bs) : ∀ a : Bs, 0 ≤ Lib.index a [42, 47] → Lib.index (a ++ t) [42, 47] = Lib.index a [42, 47]
  | [], h => by unfold Lib.index at h; simp at h
  | x :: l, h => by
    rw [List.cons_append]
    unfold Lib.index at h ⊢
    by_cases hp : [42, 47].isPrefixOf (x :: l) = true
    · have hp' : [42, 47].isPrefixOf (x :: (l ++ t)) = true := by
        rw [List.isPrefixOf_iff_prefix] at hp ⊢
        exact hp.trans ⟨t, by simp⟩
      rw [if_pos hp, if_pos hp']
    · rw [if_neg hp] at h ⊢
      by_cases hm : (Lib.index l [42, 47] == -1) = true
      · rw [if_pos hm] at h; omega
      · rw [if_neg hm] at h ⊢
        have hge := Lib.index_ge l [42, 47]
        have hne : Lib.index l [42, 47] ≠ -1 := by simpa using hm
        have ih := index_app t l (by omega)
        have hl : l ≠ [] := by
          rintro rfl
          unfold Lib.index at hne; simp at hne
        have hp' : ¬ [42, 47].isPrefixOf (x :: (l ++ t)) = true := by
          obtain ⟨d, m, rfl⟩ := List.exists_cons_of_ne_nil hl
          simpa [List.isPrefixOf] using hp
        rw [if_neg hp', ih, if_neg hm]
theorem index_nl : ∀ y : Bs, 0 ≤ Lib.index (y ++ [10]) [42, 47] → Lib.index (y ++ [10]) [42, 47] + 2 ≤ y.length
  | [], h => by
    have : Lib.index ([] ++ [10]) [42, 47] = -1 := by decide
    omega
  | c :: y, h => by
    rw [List.cons_append] at h ⊢
    unfold Lib.index at h ⊢
    by_cases hp : [42, 47].isPrefixOf (c :: (y ++ [10])) = true
    · rw [if_pos hp]
      cases y with
      | nil => simp [List.isPrefixOf] at hp
      | cons d y => simp only [List.length_cons]; omega
    · rw [if_neg hp] at h ⊢
      by_cases hm : (Lib.index (y ++ [10]) [42, 47] == -1) = true
      · rw [if_pos hm] at h; omega
      · rw [if_neg hm] at h ⊢
        have hge := Lib.index_ge (y ++ [10]) [42, 47]
        have hne : Lib.index (y ++ [10]) [42, 47] ≠ -1 := by simpa using hm
        have := index_nl y (by omega)
        rw [List.length_cons]; omega
theorem comF_none (x t : Bs) (hx : x ≠ []) (h : comF (x ++ [10]) = none) : comF (x ++ 10 :: t) = none := by
  unfold comF at h ⊢
  rw [pre_app 47 47 t x hx, pre_app 47 42 t x hx]
  by_cases h1 : [47, 47].isPrefixOf (x ++ [10]) = true
  · rw [if_pos h1] at h; cases h
  · rw [if_neg h1] at h ⊢
    by_cases h2 : [47, 42].isPrefixOf (x ++ [10]) = true
    · rw [if_pos h2] at h
      split at h <;> cases h
    · rw [if_neg h2]
theorem comF_some (x t : Bs) (hx : x ≠ []) {n : Nat} (h : comF (x ++ [10]) = some (some n)) : comF (x ++ 10 :: t) = some (some n) ∧ n ≤ x.length := by
  unfold comF at h ⊢
  rw [pre_app 47 47 t x hx, pre_app 47 42 t x hx]
  by_cases h1 : [47, 47].isPrefixOf (x ++ [10]) = true
  · rw [if_pos h1] at h ⊢
    injection h with h; injection h with h
    obtain ⟨c1, c2⟩ := cut_app t x
    rw [c1]
    exact ⟨by rw [h], by omega⟩
  · rw [if_neg h1] at h ⊢
    by_cases h2 : [47, 42].isPrefixOf (x ++ [10]) = true
    · rw [if_pos h2] at h ⊢
      have hxl : 2 ≤ x.length := by
        cases x with
        | nil => exact absurd rfl hx
        | cons c x =>
          cases x with
          | nil => simp [List.isPrefixOf] at h2
          | cons d x => simp
      have e1 : (x ++ [10]).drop 2 = x.drop 2 ++ [10] := List.drop_append_of_le_length hxl
      have e2 : (x ++ 10 :: t).drop 2 = (x.drop 2 ++ [10]) ++ t := by rw [List.drop_append_of_le_length hxl]; simp
      rw [e1] at h
      rw [e2]
      split at h
      · rename_i hpos
        injection h with h; injection h with h
        have i1 := index_app t _ hpos
        have i2 := index_nl (x.drop 2) hpos
        rw [List.length_drop] at i2
        rw [i1, if_pos hpos]
        exact ⟨by rw [h], by omega⟩
      · cases h
    · rw [if_neg h2] at h; cases h
/-! ### one behind the other -/
def pre (l : List Tok) (r : LexR) : LexR := l.foldr LexR.cons r
theorem lexS_join : ∀ (f : Nat) (x : Bs) (i : Nat) (q : Bool) (cnt : Nat) (a : List Tok) (t : Bs) (g : Nat), lexS f i q (x ++ [10]) cnt = .ok a → (x ++ 10 :: t).length < g →
    lexS g i q (x ++ 10 :: t) cnt = pre a.dropLast (lexS g (i + (x.length + 1)) false t (cnt + (a.length - 1))) := by
  intro f
  induction f with
  | zero => intro x i q cnt a t g h; cases h
  | succ f ih =>
    intro x i q cnt a t g h hg
    obtain ⟨g, rfl⟩ : ∃ g', g = g' + 1 := ⟨g - 1, by omega⟩
    have hlen : (x ++ 10 :: t).length = x.length + (t.length + 1) := by simp
    rw [hlen] at hg
    -- less fuel is enough for the rest
    have fuel : ∀ (j : Nat) (c : Nat), lexS g j false t c = lexS (g + 1) j false t c := fun j c => lexS_fuel _ _ _ _ _ _ (by omega) (by omega)
    have step : ∀ (y : Bs) (j : Nat) (q' : Bool) (c : Nat) (b : List Tok), lexS f j q' (y ++ [10]) c = .ok b → y.length < x.length → j + y.length = i + x.length → lexS g j q' (y ++ 10 :: t) c = pre b.dropLast (lexS (g + 1) (i + (x.length + 1)) false t (c + (b.length - 1))) := by
      intro y j q' c b hb hy hj
      rw [ih y j q' c b t g hb (by simp; omega), fuel, show j + (y.length + 1) = i + (x.length + 1) by omega]
    have glue : ∀ {b : List Tok} {tk : Tok} {c : Nat}, b ≠ [] → (pre b.dropLast (lexS (g + 1) (i + (x.length + 1)) false t (c + 1 + (b.length - 1)))).cons tk = pre (tk :: b).dropLast (lexS (g + 1) (i + (x.length + 1)) false t (c + ((tk :: b).length - 1))) := by
      intro b tk c hb
      have : 1 ≤ b.length := List.length_pos_iff.2 hb
      rw [List.dropLast_cons_of_ne_nil hb, List.length_cons, show c + 1 + (b.length - 1) = c + (b.length + 1 - 1) by omega]
      rfl
    cases x with
    | nil =>
      have hc : comF [10] = none := by decide
      have hc' : comF (10 :: t) = none := by
        unfold comF
        simp [List.isPrefixOf]
      simp only [List.nil_append, lexS, hc] at h
      simp only [List.nil_append, List.length_nil, lexS, hc']
      have k10 : kindF 10 = 1 := by decide
      cases q with
      | true =>
        simp only [and_self, if_true] at h ⊢
        split at h
        · cases h
        · rename_i hcn
          rw [if_neg hcn]
          cases f with
          | zero => cases h
          | succ f =>
            simp only [lexS, LexR.cons] at h
            injection h with h
            subst h
            simp only [List.dropLast, List.length_cons, List.length_nil]
            rw [fuel]
            rfl
      | false =>
        simp only [Bool.false_eq_true, and_false, if_false, k10, if_true] at h ⊢
        cases f with
        | zero => cases h
        | succ f =>
          simp only [lexS] at h
          injection h with h
          subst h
          simp only [List.dropLast, List.length_singleton]
          rw [fuel]
          rfl
    | cons c x =>
      simp only [List.length_cons] at step glue hg
      rw [List.cons_append] at h
      rw [List.cons_append]
      simp only [lexS] at h
      simp only [lexS, List.length_cons]
      have hx : c :: x ≠ [] := List.cons_ne_nil _ _
      cases hcm : comF (c :: (x ++ [10])) with
      | some o =>
        rw [hcm] at h
        cases o with
        | none => cases h
        | some n =>
          obtain ⟨c1, c2⟩ := comF_some (c :: x) t hx hcm
          obtain ⟨n1, _⟩ := comF_len hcm
          rw [List.cons_append] at c1
          rw [c1]
          simp only at h ⊢
          rw [List.length_cons] at c2
          have d1 : (c :: (x ++ [10])).drop n = (c :: x).drop n ++ [10] := List.drop_append_of_le_length (l₁ := c :: x) (by rw [List.length_cons]; omega)
          have d2 : (c :: (x ++ 10 :: t)).drop n = (c :: x).drop n ++ 10 :: t := List.drop_append_of_le_length (l₁ := c :: x) (by rw [List.length_cons]; omega)
          rw [d1] at h
          rw [d2]
          exact step _ _ _ _ _ h (by rw [List.length_drop, List.length_cons]; omega) (by rw [List.length_drop, List.length_cons]; omega)
      | none =>
        rw [hcm] at h
        have c1 := comF_none (c :: x) t hx hcm
        rw [List.cons_append] at c1
        rw [c1]
        simp only at h ⊢
        split at h
        · rename_i h1
          rw [if_pos h1]
          split at h
          · cases h
          · rename_i h2
            obtain ⟨b, e1, rfl⟩ := LexR.cons_ok h
            rw [if_neg h2, step x (i + 1) false (cnt + 1) b e1 (by omega) (by omega)]
            exact glue (lexS_ne e1)
        · rename_i h1
          rw [if_neg h1]
          split at h
          · rename_i h2
            rw [if_pos h2]
            exact step x (i + 1) q cnt a h (by omega) (by omega)
          · rename_i h2
            rw [if_neg h2]
            obtain ⟨t1, t2⟩ := tokF_app c x t i
            rw [t1]
            split at h
            · cases h
            · rename_i h3
              rw [if_neg h3]
              split at h
              · cases h
              · rename_i h4
                rw [if_neg h4]
                obtain ⟨b, e1, rfl⟩ := LexR.cons_ok h
                have h3' : (tokF c (x ++ [10]) i).2.2 = 0 := by
                  rcases Classical.em ((tokF c (x ++ [10]) i).2.2 = 0) with h | h
                  · exact h
                  · exact absurd h h3
                have t3 := t2 h3'
                have t4 := (tokF_end c (x ++ [10]) i h3').1
                have d1 : (c :: (x ++ [10])).drop ((tokF c (x ++ [10]) i).2.1 - i) = (c :: x).drop ((tokF c (x ++ [10]) i).2.1 - i) ++ [10] := List.drop_append_of_le_length (l₁ := c :: x) (by rw [List.length_cons]; omega)
                have d2 : (c :: (x ++ 10 :: t)).drop ((tokF c (x ++ [10]) i).2.1 - i) = (c :: x).drop ((tokF c (x ++ [10]) i).2.1 - i) ++ 10 :: t := List.drop_append_of_le_length (l₁ := c :: x) (by rw [List.length_cons]; omega)
                rw [d1] at e1
                rw [d2, step _ _ _ _ _ e1 (by rw [List.length_drop, List.length_cons]; omega) (by rw [List.length_drop, List.length_cons]; omega)]
                exact glue (lexS_ne e1)
theorem pre_ok : ∀ (l m : List Tok), pre l (.ok m) = .ok (l ++ m)
  | [], m => rfl
  | t :: l, m => by
    show (pre l (.ok m)).cons t = _
    rw [pre_ok l m]; rfl
/-- the tokens of both -/
theorem lexF_join (s t : Bs) (hs : s.length ≤ 16384) (ht : t.length ≤ 16384) {a b : List Tok} (ha : lexF (s ++ [10]) = .ok a) (hb : lexF t = .ok b) (hab : a.length + b.length ≤ 16384) :
    lexF (s ++ [10] ++ t) = .ok (a.dropLast ++ b.map (shiftT (s.length + 1))) := by
  unfold lexF at ha hb ⊢
  rw [if_neg (by simp; omega)] at ha
  rw [if_neg (by omega)] at hb
  rw [if_neg (by simp; omega)]
  have e : s ++ [10] ++ t = s ++ 10 :: t := by simp
  rw [e]
  have hane := lexS_ne ha
  have h1 : 1 ≤ a.length := List.length_pos_iff.2 hane
  rw [lexS_join _ s 0 false 0 a t _ ha (by omega)]
  have hb2 := lexS_count _ _ _ _ _ (0 + (a.length - 1)) _ hb (by omega)
  have hb3 := lexS_shift (s.length + 1) (t.length + 1) 0 false t (0 + (a.length - 1))
  rw [hb2] at hb3
  rw [lexS_fuel _ (t.length + 1) _ _ _ _ (by simp; omega) (by omega), hb3]
  exact pre_ok _ _

end Go.Proofs.YtfegkjmghbdogaaDoor

namespace Go.Proofs.YtfegkjmghbdogaaDoor
open Go I
set_option maxRecDepth 100000
set_option linter.unusedVariables false
set_option linter.unusedSimpArgs false

theorem Places.at_ {s : Bs} : ∀ {l : List Tok} {e i : Nat} {t : Tok}, Places s e l → l[i]? = some t → t.at_ ≤ s.length
  | [], e, i, t, h, _ => h.elim
  | x :: l, e, 0, t, h, hi => by
    injection hi with hi; subst hi
    rcases h with ⟨_, rfl⟩ | ⟨_, _, _, h3, _⟩
    · exact Nat.le_refl _
    · omega
  | x :: l, e, i + 1, t, h, hi => by
    rw [List.getElem?_cons_succ] at hi
    rcases h with ⟨rfl, _⟩ | ⟨_, _, _, _, _, h5⟩
    · simp at hi
    · exact Places.at_ h5 hi
/-- what lexer.Lex gives, as it is used -/
theorem lexO {s : Bs} (hs : s.length ≤ 1099511627776) {h : H} (g : Gd h) : ∃ out d h', CL tabD 11 [sv s] h = .ok (.tup [out, d]) h' ∧ Ky h h' ∧
    ((∃ l, lexF s = .ok l ∧ d = .nilSlice ∧ GL h' 3 (cellsT l) out) ∨ ((∃ a e, lexF s = .er a e) ∧ out = .nilSlice ∧ lenS d = some (.int .i64 1))) := by
  have := lex s (by omega) g
  cases hr : lexF s with
  | ok l =>
    rw [hr] at this
    obtain ⟨out, h', e, k, gl⟩ := this
    exact ⟨out, _, h', e, k, .inl ⟨l, rfl, rfl, gl.gl⟩⟩
  | er a e =>
    rw [hr] at this
    obtain ⟨d, h', e1, k, b, rfl, _⟩ := this
    exact ⟨_, _, h', e1, k, .inr ⟨⟨a, e, rfl⟩, rfl, rfl⟩⟩
theorem jw1 {n : Nat} (h1 : 1 ≤ n) (h : n ≤ 16384) : wr .i64 (((n : Nat) : Int) - 1) = ((n - 1 : Nat) : Int) := by rw [wr_i64 (by omega) (by omega)]; omega
theorem jw3 {i n : Nat} (h1 : i ≤ 16384) (h : n ≤ 16384) : wr .i64 (((i : Nat) : Int) - ((n : Nat) : Int)) = ((i : Nat) : Int) - ((n : Nat) : Int) := wr_i64 (by omega) (by omega)
theorem jw4 {i n : Nat} (h1 : i ≤ 16384) (h : n ≤ 16384) (h2 : ¬ i < n - 1) (h3 : 1 ≤ n) : wr .i64 (((i : Nat) : Int) - ((n : Nat) : Int) + 1) = ((i - (n - 1) : Nat) : Int) := by rw [wr_i64 (by omega) (by omega)]; omega
theorem jw5 {i n : Nat} (h1 : i ≤ 32768) (h : n ≤ 32768) : wr .i64 (((i : Nat) : Int) + ((n : Nat) : Int)) = ((i + n : Nat) : Int) := by rw [wr_i64 (by omega) (by omega)]; omega
theorem jw6 {i n : Nat} (h1 : i ≤ 16384) (h : n ≤ 16384) : wr .i64 (((i + n : Nat) : Int) + 1) = ((i + (n + 1) : Nat) : Int) := by rw [wr_i64 (by omega) (by omega)]; omega
theorem joins_loop (s : Bs) (n : Nat) (hs : s.length ≤ 16384) (a b c : List Tok) (ha : 1 ≤ a.length) (hab : a.length + b.length ≤ 16384) (hc : c = a.dropLast ++ b.map (shiftT (s.length + 1))) (hn : n ≤ 16384) (hb : ∀ (i : Nat) (t : Tok), b[i]? = some t → t.at_ ≤ n) :
    ∀ (k i : Nat) (h : H) (va vb vc : IV), i + k = c.length → Gd h → GL h 3 (cellsT a) va → GL h 3 (cellsT b) vb → GL h 3 (cellsT c) vc →
    ∃ h', J5 tabD 1 [sv s, va, vb, vc, .int .i64 (i : Nat)] h = .ok (.bool true) h' := by
  have hcl : c.length = a.length - 1 + b.length := by rw [hc]; simp
  intro k
  induction k with
  | zero =>
    intro i h va vb vc hi g ga gb gc
    have hlc := GL_len gc
    have hlt : ¬ ((i : Nat) : Int) < (c.length : Nat) := by omega
    refine ⟨h, e5_1 ?_ (by simp)⟩
    simp only [t5_1, hlc, W, spanK_u, decide_eq_true_eq, Bool.not_eq_true', decide_eq_false_iff_not, Bool.false_eq_true, Bool.not_true, Bool.not_false, decide_true, decide_false, not_true_eq_false, not_false_eq_true, and_true, true_and, and_false, false_and, ne_eq, Nat.zero_add, Nat.add_zero, cond_true, cond_false, ↓reduceIte, reduceCtorEq, Nat.reduceAdd, Int.reduceEq, Int.reduceNe, Int.reduceLT, Int.reduceLE, Int.reduceAdd, Int.reduceSub, Int.reduceMul, Int.reduceNeg, Nat.reduceMul, List.getElem?_cons_zero, List.getElem?_cons_succ, hlt, awakeD]
  | succ k ih =>
    intro i h va vb vc hi g ga gb gc
    have hlc := GL_len gc
    have hlt : ((i : Nat) : Int) < (c.length : Nat) := by omega
    have hil : i < c.length := by omega
    obtain ⟨t, ht⟩ : ∃ t, c[i]? = some t := ⟨c[i], List.getElem?_eq_getElem hil⟩
    obtain ⟨h6, e6, k6, c6, -, -⟩ := (Ky.refl g).newI (cs := z0) rfl
    obtain ⟨h7, e7, k7, c7⟩ := put_tok k6 (Nat.le_refl _) c6 rfl ⟨0, [], 0⟩
    have eb : bldK z0 p1 [] = some (.agg (tokC ⟨0, [], 0⟩)) := rfl
    have w1 := wr_succ (show i < 9223372036854775807 by omega)
    -- the rest of a turn
    have two : ∀ h8, Ky h h8 → Cs h8 h.next true false (tokC t) → ∃ h', J5 tabD 2 [sv s, va, vb, vc, .int .i64 (i : Nat), .ptr h.next 0] h8 = .ok (.bool true) h' := by
      intro h8 k8 c8
      obtain ⟨h', r⟩ := ih (i + 1) h8 va vb vc (by omega) k8.gd (ga.ky g.wf k8) (gb.ky g.wf k8) (gc.ky g.wf k8)
      refine ⟨h', e5_2 ?_ (by simp)⟩
      obtain ⟨bc, _, q1, q2⟩ := tok_at (gc.ky g.wf k8) ht
      have l3 : ldA 3 h8 (.ptr h.next 0) = some (.agg (tokC t)) := c8.ldAll rfl
      have ek := binK_tok (h := h8) t
      simp only [t5_2, q1, q2, l3, ek, W, spanK_u, decide_eq_true_eq, Bool.not_eq_true', decide_eq_false_iff_not, Bool.false_eq_true, Bool.not_true, Bool.not_false, decide_true, decide_false, not_true_eq_false, not_false_eq_true, and_true, true_and, and_false, false_and, ne_eq, Nat.zero_add, Nat.add_zero, cond_true, cond_false, ↓reduceIte, reduceCtorEq, Nat.reduceAdd, Int.reduceEq, Int.reduceNe, Int.reduceLT, Int.reduceLE, Int.reduceAdd, Int.reduceSub, Int.reduceMul, Int.reduceNeg, Nat.reduceMul, List.getElem?_cons_zero, List.getElem?_cons_succ, w1]
      exact r
    have hla := GL_len ga
    have ws := jw1 ha (show a.length ≤ 16384 by omega)
    by_cases hia : i < a.length - 1
    · have hta : a[i]? = some t := by
        rw [hc, List.getElem?_append_left (by rw [List.length_dropLast]; exact hia)] at ht
        rw [← ht, List.getElem?_dropLast, if_pos hia]
      obtain ⟨ba, _, q1, q2⟩ := tok_at (ga.ky g.wf k7) hta
      obtain ⟨h8, e8, k8, c8⟩ := put_tok k7 (Nat.le_refl _) c7 rfl t
      obtain ⟨h', r⟩ := two h8 k8 c8
      refine ⟨h', e5_1 ?_ (by simp)⟩
      have hlt2 : ((i : Nat) : Int) < ((a.length - 1 : Nat) : Int) := by omega
      simp only [t5_1, hlc, W, spanK_u, decide_eq_true_eq, Bool.not_eq_true', decide_eq_false_iff_not, Bool.false_eq_true, Bool.not_true, Bool.not_false, decide_true, decide_false, not_true_eq_false, not_false_eq_true, and_true, true_and, and_false, false_and, ne_eq, Nat.zero_add, Nat.add_zero, cond_true, cond_false, ↓reduceIte, reduceCtorEq, Nat.reduceAdd, Int.reduceEq, Int.reduceNe, Int.reduceLT, Int.reduceLE, Int.reduceAdd, Int.reduceSub, Int.reduceMul, Int.reduceNeg, Nat.reduceMul, List.getElem?_cons_zero, List.getElem?_cons_succ, hlt, eb, e6, e7, hla, ws, hlt2, q1, q2, e8]
      exact r
    · obtain ⟨u, hu, hut⟩ : ∃ u, b[i - (a.length - 1)]? = some u ∧ t = shiftT (s.length + 1) u := by
        rw [hc, List.getElem?_append_right (by rw [List.length_dropLast]; omega), List.length_dropLast, List.getElem?_map] at ht
        cases hu : b[i - (a.length - 1)]? with
        | none => rw [hu] at ht; cases ht
        | some u =>
          rw [hu] at ht
          injection ht with ht
          exact ⟨u, rfl, ht.symm⟩
      have hua := hb _ _ hu
      obtain ⟨bb, _, q1, q2⟩ := tok_at (gb.ky g.wf k7) hu
      obtain ⟨h8, e8, k8, c8⟩ := put_tok k7 (Nat.le_refl _) c7 rfl u
      have l2 : I.ld0 h8 (.ptr h.next 2) = some (.int .i64 (u.at_ : Nat)) := by rw [c8.ld0]; rfl
      have c8' := c8
      obtain ⟨o, e9, c9, ho⟩ := c8'.st (n := 1) (off := 2) (v := .int .i64 ((u.at_ + (s.length + 1) : Nat) : Int)) rfl rfl (by simp [tokC])
      have k9 : Ky h (h8.put h.next o) := by
        obtain ⟨tt, q, _⟩ := c8
        exact k8.put (Nat.le_refl _) q (fun fz size cs hh => by cases hh)
      have hp : placeL (tokC u) 2 (IV.int .i64 ((u.at_ + (s.length + 1) : Nat) : Int)).cells = tokC t := by rw [hut]; rfl
      rw [hp] at c9
      obtain ⟨h', r⟩ := two _ k9 c9
      refine ⟨h', e5_1 ?_ (by simp)⟩
      have hlt2 : ¬ ((i : Nat) : Int) < ((a.length - 1 : Nat) : Int) := by omega
      have la : a.length ≤ 16384 := by omega
      have li : i ≤ 16384 := by omega
      have lu : u.at_ ≤ 16384 := Nat.le_trans hua hn
      have w3 := jw3 li la
      have w4 := jw4 li la hia ha
      have w5 := jw5 (show u.at_ ≤ 32768 by omega) (show s.length ≤ 32768 by omega)
      have w6 := jw6 lu hs
      simp only [t5_1, hlc, W, spanK_u, decide_eq_true_eq, Bool.not_eq_true', decide_eq_false_iff_not, Bool.false_eq_true, Bool.not_true, Bool.not_false, decide_true, decide_false, not_true_eq_false, not_false_eq_true, and_true, true_and, and_false, false_and, ne_eq, Nat.zero_add, Nat.add_zero, cond_true, cond_false, ↓reduceIte, reduceCtorEq, Nat.reduceAdd, Int.reduceEq, Int.reduceNe, Int.reduceLT, Int.reduceLE, Int.reduceAdd, Int.reduceSub, Int.reduceMul, Int.reduceNeg, Nat.reduceMul, List.getElem?_cons_zero, List.getElem?_cons_succ, hlt, eb, e6, e7, hla, ws, hlt2, w3, w4, q1, q2, e8, l2, w5, w6, e9]
      exact r
theorem lexerJoins (s t : Bs) (hs : s.length ≤ 9223372036854775807) (ht : t.length ≤ 9223372036854775807) : ∃ h', CL tabD 5 [sv s, sv t] H0 = .ok (.bool true) h' := by
  by_cases h1 : (16384 : Int) < (s.length : Nat)
  · refine ⟨H0, c5 goodD.step rfl rfl gd0 ?_ (by simp)⟩
    simp only [t5_0, W, spanK_u, decide_eq_true_eq, Bool.not_eq_true', decide_eq_false_iff_not, Bool.false_eq_true, Bool.not_true, Bool.not_false, decide_true, decide_false, not_true_eq_false, not_false_eq_true, and_true, true_and, and_false, false_and, ne_eq, Nat.zero_add, Nat.add_zero, cond_true, cond_false, ↓reduceIte, reduceCtorEq, Nat.reduceAdd, Int.reduceEq, Int.reduceNe, Int.reduceLT, Int.reduceLE, Int.reduceAdd, Int.reduceSub, Int.reduceMul, Int.reduceNeg, Nat.reduceMul, List.getElem?_cons_zero, List.getElem?_cons_succ, h1, awakeD]
  by_cases h2 : (16384 : Int) < (t.length : Nat)
  · refine ⟨H0, c5 goodD.step rfl rfl gd0 ?_ (by simp)⟩
    simp only [t5_0, W, spanK_u, decide_eq_true_eq, Bool.not_eq_true', decide_eq_false_iff_not, Bool.false_eq_true, Bool.not_true, Bool.not_false, decide_true, decide_false, not_true_eq_false, not_false_eq_true, and_true, true_and, and_false, false_and, ne_eq, Nat.zero_add, Nat.add_zero, cond_true, cond_false, ↓reduceIte, reduceCtorEq, Nat.reduceAdd, Int.reduceEq, Int.reduceNe, Int.reduceLT, Int.reduceLE, Int.reduceAdd, Int.reduceSub, Int.reduceMul, Int.reduceNeg, Nat.reduceMul, List.getElem?_cons_zero, List.getElem?_cons_succ, h1, h2, awakeD]
  have hs' : s.length ≤ 16384 := by omega
  have ht' : t.length ≤ 16384 := by omega
  have hl1 : (s ++ [10]).length = s.length + 1 := by simp
  have hl2 : (s ++ [10] ++ t).length = s.length + 1 + t.length := by rw [List.length_append, hl1]
  have c10 : IV.str ⟨1, 10⟩ = sv [10] := rfl
  have add1 : binS .add (sv s) (sv [10]) = some (sv (s ++ [10])) := binS_add _ _ (by simp; omega)
  have add2 : binS .add (sv (s ++ [10])) (sv t) = some (sv (s ++ [10] ++ t)) := binS_add _ _ (by rw [hl1]; omega)
  obtain ⟨oa, da, h3, e3, k3, ca⟩ := lexO (s := s ++ [10]) (by rw [hl1]; omega) gd0
  obtain ⟨ob, db, h4, e4, k4, cb⟩ := lexO (s := t) (by omega) k3.gd
  obtain ⟨oc, dc, h5, e5, k5, cc⟩ := lexO (s := s ++ [10] ++ t) (by rw [hl2]; omega) k4.gd
  have nl : lenS .nilSlice = some (.int .i64 0) := rfl
  have z01 : ¬ (0 : Int) < 0 := by decide
  have z1 : (0 : Int) < 1 := by decide
  rcases ca with ⟨a, fa, rfl, ga⟩ | ⟨_, rfl, la⟩
  rotate_left
  · refine ⟨h5, c5 goodD.step rfl rfl gd0 ?_ (by simp)⟩
    simp only [t5_0, W, spanK_u, decide_eq_true_eq, Bool.not_eq_true', decide_eq_false_iff_not, Bool.false_eq_true, Bool.not_true, Bool.not_false, decide_true, decide_false, not_true_eq_false, not_false_eq_true, and_true, true_and, and_false, false_and, ne_eq, Nat.zero_add, Nat.add_zero, cond_true, cond_false, ↓reduceIte, reduceCtorEq, Nat.reduceAdd, Int.reduceEq, Int.reduceNe, Int.reduceLT, Int.reduceLE, Int.reduceAdd, Int.reduceSub, Int.reduceMul, Int.reduceNeg, Nat.reduceMul, List.getElem?_cons_zero, List.getElem?_cons_succ, h1, h2, c10, add1, add2, e3, e4, e5, la, z1, awakeD]
  rcases cb with ⟨b, fb, rfl, gb⟩ | ⟨_, rfl, lb⟩
  rotate_left
  · refine ⟨h5, c5 goodD.step rfl rfl gd0 ?_ (by simp)⟩
    simp only [t5_0, W, spanK_u, decide_eq_true_eq, Bool.not_eq_true', decide_eq_false_iff_not, Bool.false_eq_true, Bool.not_true, Bool.not_false, decide_true, decide_false, not_true_eq_false, not_false_eq_true, and_true, true_and, and_false, false_and, ne_eq, Nat.zero_add, Nat.add_zero, cond_true, cond_false, ↓reduceIte, reduceCtorEq, Nat.reduceAdd, Int.reduceEq, Int.reduceNe, Int.reduceLT, Int.reduceLE, Int.reduceAdd, Int.reduceSub, Int.reduceMul, Int.reduceNeg, Nat.reduceMul, List.getElem?_cons_zero, List.getElem?_cons_succ, h1, h2, c10, add1, add2, e3, e4, e5, nl, z01, lb, z1, awakeD]
  have ga := (ga.ky k3.gd.wf k4).ky k4.gd.wf k5
  have gb := gb.ky k4.gd.wf k5
  have hla := GL_len ga
  have hlb := GL_len gb
  have bga := lexF_big (s ++ [10])
  rw [fa] at bga
  have bgb := lexF_big t
  rw [fb] at bgb
  obtain ⟨_, ba⟩ := bga
  obtain ⟨_, bb⟩ := bgb
  have wab : wr .i64 (((a.length : Nat) : Int) + ((b.length : Nat) : Int)) = ((a.length + b.length : Nat) : Int) := by rw [wr_i64 (by omega) (by omega)]; omega
  by_cases h3' : (16384 : Int) < ((a.length + b.length : Nat) : Int)
  · refine ⟨h5, c5 goodD.step rfl rfl gd0 ?_ (by simp)⟩
    simp only [t5_0, W, spanK_u, decide_eq_true_eq, Bool.not_eq_true', decide_eq_false_iff_not, Bool.false_eq_true, Bool.not_true, Bool.not_false, decide_true, decide_false, not_true_eq_false, not_false_eq_true, and_true, true_and, and_false, false_and, ne_eq, Nat.zero_add, Nat.add_zero, cond_true, cond_false, ↓reduceIte, reduceCtorEq, Nat.reduceAdd, Int.reduceEq, Int.reduceNe, Int.reduceLT, Int.reduceLE, Int.reduceAdd, Int.reduceSub, Int.reduceMul, Int.reduceNeg, Nat.reduceMul, List.getElem?_cons_zero, List.getElem?_cons_succ, h1, h2, c10, add1, add2, e3, e4, e5, nl, z01, hla, hlb, wab, h3', awakeD]
  have hab : a.length + b.length ≤ 16384 := by omega
  have fc := lexF_join s t hs' ht' fa fb hab
  have pa := lexF_places (s ++ [10])
  rw [fa] at pa
  have pb := lexF_places t
  rw [fb] at pb
  have na : 1 ≤ a.length := List.length_pos_iff.2 (Places.ne pa)
  have nb : 1 ≤ b.length := List.length_pos_iff.2 (Places.ne pb)
  rcases cc with ⟨c, fc', rfl, gc⟩ | ⟨⟨_, _, fc'⟩, _⟩
  rotate_left
  · rw [fc] at fc'; cases fc'
  rw [fc] at fc'
  injection fc' with hc
  have hlc := GL_len gc
  have hcl : c.length = a.length - 1 + b.length := by rw [← hc]; simp
  obtain ⟨h', r⟩ := joins_loop s t.length hs' a b c na hab hc.symm ht' (fun i u hu => Places.at_ pb hu) c.length 0 h5 oa ob oc (by omega) k5.gd ga gb gc
  refine ⟨h', c5 goodD.step rfl rfl gd0 ?_ (by simp)⟩
  have za : ((a.length : Nat) : Int) ≠ 0 := by omega
  have zb : ((b.length : Nat) : Int) ≠ 0 := by omega
  have wc : wr .i64 (((a.length + b.length : Nat) : Int) - 1) = ((c.length : Nat) : Int) := by rw [wr_i64 (by omega) (by omega)]; omega
  simp only [t5_0, W, spanK_u, decide_eq_true_eq, Bool.not_eq_true', decide_eq_false_iff_not, Bool.false_eq_true, Bool.not_true, Bool.not_false, decide_true, decide_false, not_true_eq_false, not_false_eq_true, and_true, true_and, and_false, false_and, ne_eq, Nat.zero_add, Nat.add_zero, cond_true, cond_false, ↓reduceIte, reduceCtorEq, Nat.reduceAdd, Int.reduceEq, Int.reduceNe, Int.reduceLT, Int.reduceLE, Int.reduceAdd, Int.reduceSub, Int.reduceMul, Int.reduceNeg, Nat.reduceMul, List.getElem?_cons_zero, List.getElem?_cons_succ, h1, h2, c10, add1, add2, e3, e4, e5, nl, z01, hla, hlb, hlc, wab, h3', eq_false za, eq_false zb, wc]
  exact r

end Go.Proofs.YtfegkjmghbdogaaDoor
