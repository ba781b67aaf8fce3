import Derived.Test.YtdccdfmbakbikaaGreatDoorM5
import Derived.Test.YtdccdfmbakbikaaGreatDoorRows
import Derived.Lib.LaidU8
import Derived.LaidLaws
import Derived.MakeChecks
set_option maxRecDepth 100000
set_option linter.unusedVariables false
set_option linter.unusedSimpArgs false
namespace Go.Proofs.YtdccdfmbakbikaaGreatDoor
open Go I
theorem wr_succ {k : Nat} (h : k < 9223372036854775807) : wr .i64 (((k : Nat) : Int) + 1) = ((k + 1 : Nat) : Int) := by rw [wr_i64 (by omega) (by omega)]; omega
theorem isV_nat (c : UInt8) : (isV c = true) = (c.toNat = 48 ∨ c.toNat = 49 ∨ c.toNat = 120 ∨ c.toNat = 122) := by
  have key : ∀ n : Fin 256, (isV (UInt8.ofNat n.val) = true) = (n.val = 48 ∨ n.val = 49 ∨ n.val = 120 ∨ n.val = 122) := by
    intro n
    apply propext
    revert n
    decide +kernel
  have := key ⟨c.toNat, c.toNat_lt⟩
  simp only [UInt8.ofNat_toNat] at this
  exact this
theorem may_loop {T : Tab} (s : Bs) (hs : s.length ≤ 9223372036854775807) : ∀ (k i : Nat), i + k = s.length → J42 T 1 [sv s, .int .i64 (i : Nat)] H0 = .ok (.bool ((s.drop i).all isV && (decide (1 ≤ s.length) && decide (s.length ≤ 256)))) H0 := by
  intro k
  induction k with
  | zero =>
    intro i hi
    refine e42_1 ?_ (by simp)
    have h0 : ¬ ((i : Nat) : Int) < (s.length : Nat) := by omega
    rw [List.drop_of_length_le (by omega)]
    by_cases h1 : (1 : Int) ≤ (s.length : Nat)
    · by_cases h2 : ((s.length : Nat) : Int) ≤ 256
      · have h1' : 1 ≤ s.length := by omega
        have h2' : s.length ≤ 256 := by omega
        simp only [t42_1, W, spanK_u, decide_eq_true_eq, Bool.not_eq_true', decide_eq_false_iff_not, Bool.false_eq_true, Bool.not_true, Bool.not_false, decide_true, decide_false, not_true_eq_false, not_false_eq_true, and_true, true_and, and_false, false_and, ne_eq, Nat.zero_add, Nat.add_zero, cond_true, cond_false, ↓reduceIte, reduceCtorEq, Nat.reduceAdd, Int.reduceEq, Int.reduceNe, Int.reduceLT, Int.reduceLE, Int.reduceAdd, Int.reduceSub, Int.reduceMul, Int.reduceNeg, Nat.reduceMul, List.getElem?_cons_zero, List.getElem?_cons_succ, h0, h1, h2, h1', h2', List.all_nil, Bool.and_self]
      · have h1' : 1 ≤ s.length := by omega
        have h2' : ¬ s.length ≤ 256 := by omega
        simp only [t42_1, W, spanK_u, decide_eq_true_eq, Bool.not_eq_true', decide_eq_false_iff_not, Bool.false_eq_true, Bool.not_true, Bool.not_false, decide_true, decide_false, not_true_eq_false, not_false_eq_true, and_true, true_and, and_false, false_and, ne_eq, Nat.zero_add, Nat.add_zero, cond_true, cond_false, ↓reduceIte, reduceCtorEq, Nat.reduceAdd, Int.reduceEq, Int.reduceNe, Int.reduceLT, Int.reduceLE, Int.reduceAdd, Int.reduceSub, Int.reduceMul, Int.reduceNeg, Nat.reduceMul, List.getElem?_cons_zero, List.getElem?_cons_succ, h0, h1, h2, h1', h2', List.all_nil, Bool.and_false]
    · have h1' : ¬ 1 ≤ s.length := by omega
      simp only [t42_1, W, spanK_u, decide_eq_true_eq, Bool.not_eq_true', decide_eq_false_iff_not, Bool.false_eq_true, Bool.not_true, Bool.not_false, decide_true, decide_false, not_true_eq_false, not_false_eq_true, and_true, true_and, and_false, false_and, ne_eq, Nat.zero_add, Nat.add_zero, cond_true, cond_false, ↓reduceIte, reduceCtorEq, Nat.reduceAdd, Int.reduceEq, Int.reduceNe, Int.reduceLT, Int.reduceLE, Int.reduceAdd, Int.reduceSub, Int.reduceMul, Int.reduceNeg, Nat.reduceMul, List.getElem?_cons_zero, List.getElem?_cons_succ, h0, h1, h1', List.all_nil, Bool.false_and, Bool.and_false]
  | succ k ih =>
    intro i hi
    have hil : i < s.length := by omega
    have h0 : ((i : Nat) : Int) < (s.length : Nat) := by omega
    refine e42_1 ?_ (by simp)
    have eix := ixStr_nat s i hil
    have w1 := wr_succ (show i < 9223372036854775807 by omega)
    have ih' := ih (i + 1) (by omega)
    rw [List.drop_eq_getElem_cons hil, List.all_cons]
    have hv := isV_nat s[i]
    generalize s[i] = c at *
    by_cases h : isV c = true
    · rw [h]
      simp only [Bool.true_and]
      rw [hv] at h
      rcases h with hv | hv | hv | hv
      · simp only [t42_1, W, spanK_u, decide_eq_true_eq, Bool.not_eq_true', decide_eq_false_iff_not, Bool.false_eq_true, Bool.not_true, Bool.not_false, decide_true, decide_false, not_true_eq_false, not_false_eq_true, and_true, true_and, and_false, false_and, ne_eq, Nat.zero_add, Nat.add_zero, cond_true, cond_false, ↓reduceIte, reduceCtorEq, Nat.reduceAdd, Int.reduceEq, Int.reduceNe, Int.reduceLT, Int.reduceLE, Int.reduceAdd, Int.reduceSub, Int.reduceMul, Int.reduceNeg, Nat.reduceMul, List.getElem?_cons_zero, List.getElem?_cons_succ, h0, eix, eq_true (show ((c.toNat : Nat) : Int) = 48 by omega), eq_false (show ¬ ((c.toNat : Nat) : Int) = 49 by omega), eq_false (show ¬ ((c.toNat : Nat) : Int) = 120 by omega), eq_false (show ¬ ((c.toNat : Nat) : Int) = 122 by omega), w1]
        exact ih'
      · simp only [t42_1, W, spanK_u, decide_eq_true_eq, Bool.not_eq_true', decide_eq_false_iff_not, Bool.false_eq_true, Bool.not_true, Bool.not_false, decide_true, decide_false, not_true_eq_false, not_false_eq_true, and_true, true_and, and_false, false_and, ne_eq, Nat.zero_add, Nat.add_zero, cond_true, cond_false, ↓reduceIte, reduceCtorEq, Nat.reduceAdd, Int.reduceEq, Int.reduceNe, Int.reduceLT, Int.reduceLE, Int.reduceAdd, Int.reduceSub, Int.reduceMul, Int.reduceNeg, Nat.reduceMul, List.getElem?_cons_zero, List.getElem?_cons_succ, h0, eix, eq_false (show ¬ ((c.toNat : Nat) : Int) = 48 by omega), eq_true (show ((c.toNat : Nat) : Int) = 49 by omega), eq_false (show ¬ ((c.toNat : Nat) : Int) = 120 by omega), eq_false (show ¬ ((c.toNat : Nat) : Int) = 122 by omega), w1]
        exact ih'
      · simp only [t42_1, W, spanK_u, decide_eq_true_eq, Bool.not_eq_true', decide_eq_false_iff_not, Bool.false_eq_true, Bool.not_true, Bool.not_false, decide_true, decide_false, not_true_eq_false, not_false_eq_true, and_true, true_and, and_false, false_and, ne_eq, Nat.zero_add, Nat.add_zero, cond_true, cond_false, ↓reduceIte, reduceCtorEq, Nat.reduceAdd, Int.reduceEq, Int.reduceNe, Int.reduceLT, Int.reduceLE, Int.reduceAdd, Int.reduceSub, Int.reduceMul, Int.reduceNeg, Nat.reduceMul, List.getElem?_cons_zero, List.getElem?_cons_succ, h0, eix, eq_false (show ¬ ((c.toNat : Nat) : Int) = 48 by omega), eq_false (show ¬ ((c.toNat : Nat) : Int) = 49 by omega), eq_true (show ((c.toNat : Nat) : Int) = 120 by omega), eq_false (show ¬ ((c.toNat : Nat) : Int) = 122 by omega), w1]
        exact ih'
      · simp only [t42_1, W, spanK_u, decide_eq_true_eq, Bool.not_eq_true', decide_eq_false_iff_not, Bool.false_eq_true, Bool.not_true, Bool.not_false, decide_true, decide_false, not_true_eq_false, not_false_eq_true, and_true, true_and, and_false, false_and, ne_eq, Nat.zero_add, Nat.add_zero, cond_true, cond_false, ↓reduceIte, reduceCtorEq, Nat.reduceAdd, Int.reduceEq, Int.reduceNe, Int.reduceLT, Int.reduceLE, Int.reduceAdd, Int.reduceSub, Int.reduceMul, Int.reduceNeg, Nat.reduceMul, List.getElem?_cons_zero, List.getElem?_cons_succ, h0, eix, eq_false (show ¬ ((c.toNat : Nat) : Int) = 48 by omega), eq_false (show ¬ ((c.toNat : Nat) : Int) = 49 by omega), eq_false (show ¬ ((c.toNat : Nat) : Int) = 120 by omega), eq_true (show ((c.toNat : Nat) : Int) = 122 by omega), w1]
        exact ih'
    · have hf : isV c = false := by simpa using h
      rw [hf]
      simp only [Bool.false_and]
      rw [hv] at h
      simp only [t42_1, W, spanK_u, decide_eq_true_eq, Bool.not_eq_true', decide_eq_false_iff_not, Bool.false_eq_true, Bool.not_true, Bool.not_false, decide_true, decide_false, not_true_eq_false, not_false_eq_true, and_true, true_and, and_false, false_and, ne_eq, Nat.zero_add, Nat.add_zero, cond_true, cond_false, ↓reduceIte, reduceCtorEq, Nat.reduceAdd, Int.reduceEq, Int.reduceNe, Int.reduceLT, Int.reduceLE, Int.reduceAdd, Int.reduceSub, Int.reduceMul, Int.reduceNeg, Nat.reduceMul, List.getElem?_cons_zero, List.getElem?_cons_succ, h0, eix, eq_false (show ¬ ((c.toNat : Nat) : Int) = 48 by omega), eq_false (show ¬ ((c.toNat : Nat) : Int) = 49 by omega), eq_false (show ¬ ((c.toNat : Nat) : Int) = 120 by omega), eq_false (show ¬ ((c.toNat : Nat) : Int) = 122 by omega)]
theorem may {T : Tab} (hT : OvStep T) (ho : T.ov 42 = none) (hp : T.pol 42 = true) (s : Bs) (hs : s.length ≤ 9223372036854775807) : CL T 42 [sv s] H0 = .ok (.bool (s.all isV && (decide (1 ≤ s.length) && decide (s.length ≤ 256)))) H0 := by
  refine c42 hT ho hp gd0 ?_ (by simp)
  have := may_loop (T := T) s hs s.length 0 (by omega)
  rw [List.drop_zero] at this
  simp only [t42_0]
  exact this
theorem named_loop {T : Tab} (s : Bs) (hs : s.length ≤ 9223372036854775807) {h : H} : ∀ (k i : Nat), i + k = s.length → J41 T 1 [sv s, .int .i64 (i : Nat)] h = .ok (.bool ((s.drop i).all okC && decide (s.length ≤ 256))) h := by
  intro k
  induction k with
  | zero =>
    intro i hi
    rw [List.drop_of_length_le (by omega)]
    have h0 : ¬ ((i : Nat) : Int) < (s.length : Nat) := by omega
    refine e41_1 ?_ (by simp)
    by_cases h1 : s.length ≤ 256
    · have h1' : ((s.length : Nat) : Int) ≤ 256 := by omega
      simp only [t41_1, W, spanK_u, decide_eq_true_eq, Bool.not_eq_true', decide_eq_false_iff_not, Bool.false_eq_true, Bool.not_true, Bool.not_false, decide_true, decide_false, not_true_eq_false, not_false_eq_true, and_true, true_and, and_false, false_and, ne_eq, Nat.zero_add, Nat.add_zero, cond_true, cond_false, ↓reduceIte, reduceCtorEq, Nat.reduceAdd, Int.reduceEq, Int.reduceNe, Int.reduceLT, Int.reduceLE, Int.reduceAdd, Int.reduceSub, Int.reduceMul, Int.reduceNeg, Nat.reduceMul, List.getElem?_cons_zero, List.getElem?_cons_succ, h0, h1, h1', List.all_nil, Bool.true_and, decide_true]
    · have h1' : ¬ ((s.length : Nat) : Int) ≤ 256 := by omega
      simp only [t41_1, W, spanK_u, decide_eq_true_eq, Bool.not_eq_true', decide_eq_false_iff_not, Bool.false_eq_true, Bool.not_true, Bool.not_false, decide_true, decide_false, not_true_eq_false, not_false_eq_true, and_true, true_and, and_false, false_and, ne_eq, Nat.zero_add, Nat.add_zero, cond_true, cond_false, ↓reduceIte, reduceCtorEq, Nat.reduceAdd, Int.reduceEq, Int.reduceNe, Int.reduceLT, Int.reduceLE, Int.reduceAdd, Int.reduceSub, Int.reduceMul, Int.reduceNeg, Nat.reduceMul, List.getElem?_cons_zero, List.getElem?_cons_succ, h0, h1, h1', List.all_nil, Bool.true_and, decide_false]
  | succ k ih =>
    intro i hi
    have hil : i < s.length := by omega
    have hd := List.drop_eq_getElem_cons hil
    have ex := ixStr_nat s i hil
    have hlt := (s[i]).toNat_lt
    generalize s[i] = c at hd ex hlt
    have ih' := ih (i + 1) (by omega)
    have h0 : ((i : Nat) : Int) < (s.length : Nat) := by omega
    have w1 := wr_succ (show i < 9223372036854775807 by omega)
    rw [hd, List.all_cons]
    refine e41_1 ?_ (by simp)
    by_cases h1 : c.toNat < 33
    · have h1' : ((c.toNat : Nat) : Int) < 33 := by omega
      have hok : okC c = false := by
        have : ¬ 33 ≤ c.toNat := by omega
        simp [okC, this]
      simp only [t41_1, W, spanK_u, decide_eq_true_eq, Bool.not_eq_true', decide_eq_false_iff_not, Bool.false_eq_true, Bool.not_true, Bool.not_false, decide_true, decide_false, not_true_eq_false, not_false_eq_true, and_true, true_and, and_false, false_and, ne_eq, Nat.zero_add, Nat.add_zero, cond_true, cond_false, ↓reduceIte, reduceCtorEq, Nat.reduceAdd, Int.reduceEq, Int.reduceNe, Int.reduceLT, Int.reduceLE, Int.reduceAdd, Int.reduceSub, Int.reduceMul, Int.reduceNeg, Nat.reduceMul, List.getElem?_cons_zero, List.getElem?_cons_succ, h0, ex, h1', hok, Bool.false_and]
    · have h1' : ¬ ((c.toNat : Nat) : Int) < 33 := by omega
      by_cases h2 : 126 < c.toNat
      · have h2' : (126 : Int) < ((c.toNat : Nat) : Int) := by omega
        have hok : okC c = false := by
          have : ¬ c.toNat ≤ 126 := by omega
          simp [okC, this]
        simp only [t41_1, W, spanK_u, decide_eq_true_eq, Bool.not_eq_true', decide_eq_false_iff_not, Bool.false_eq_true, Bool.not_true, Bool.not_false, decide_true, decide_false, not_true_eq_false, not_false_eq_true, and_true, true_and, and_false, false_and, ne_eq, Nat.zero_add, Nat.add_zero, cond_true, cond_false, ↓reduceIte, reduceCtorEq, Nat.reduceAdd, Int.reduceEq, Int.reduceNe, Int.reduceLT, Int.reduceLE, Int.reduceAdd, Int.reduceSub, Int.reduceMul, Int.reduceNeg, Nat.reduceMul, List.getElem?_cons_zero, List.getElem?_cons_succ, h0, ex, h1', h2', hok, Bool.false_and]
      · have h2' : ¬ (126 : Int) < ((c.toNat : Nat) : Int) := by omega
        have hok : okC c = true := by
          have a1 : 33 ≤ c.toNat := by omega
          have a2 : c.toNat ≤ 126 := by omega
          simp [okC, a1, a2]
        simp only [t41_1, W, spanK_u, decide_eq_true_eq, Bool.not_eq_true', decide_eq_false_iff_not, Bool.false_eq_true, Bool.not_true, Bool.not_false, decide_true, decide_false, not_true_eq_false, not_false_eq_true, and_true, true_and, and_false, false_and, ne_eq, Nat.zero_add, Nat.add_zero, cond_true, cond_false, ↓reduceIte, reduceCtorEq, Nat.reduceAdd, Int.reduceEq, Int.reduceNe, Int.reduceLT, Int.reduceLE, Int.reduceAdd, Int.reduceSub, Int.reduceMul, Int.reduceNeg, Nat.reduceMul, List.getElem?_cons_zero, List.getElem?_cons_succ, h0, ex, h1', h2', hok, Bool.true_and, w1]
        exact ih'
def namedV (s : Bs) : Option IV := if s.length ≤ 9223372036854775807 then some (.bool (s.all okC && decide (s.length ≤ 256))) else none
theorem tNamed : PureT Tryz.prog (CL tab0) 41 (fn1 dS namedV) := pure1 Tryz.func41 rfl fun s v e => by
  unfold namedV at e
  split at e
  · rename_i hs
    injection e with e; subst e
    refine ⟨rfl, H0, c41 good0.step rfl rfl gd0 ?_ (by simp)⟩
    have := named_loop (T := tab0) s hs (h := H0) s.length 0 (by omega)
    rw [List.drop_zero] at this
    simp only [t41_0]
    exact this
  · cases e
def mayV (s : Bs) : Option IV := if s.length ≤ 9223372036854775807 then some (.bool (checkM s)) else none
theorem may_check (s : Bs) : (s.all isV && (decide (1 ≤ s.length) && decide (s.length ≤ 256))) = checkM s := by
  unfold checkM
  rw [Bool.and_comm]
theorem tMay1 : PureT Tryz.prog (CL tab0) 42 (fn1 dS mayV) := pure1 Tryz.func42 rfl fun s v e => by
  unfold mayV at e
  split at e
  · rename_i hs
    injection e with e; subst e
    exact ⟨rfl, H0, by rw [← may_check]; exact may good0.step rfl rfl s hs⟩
  · cases e
def aheadWV (a b : Chg) : Option IV := some (.bool (decide (a.time < b.time) || (decide (a.time = b.time) && decide (a.net < b.net))))
theorem tAheadW : PureT Tryz.prog (CL tab0) 43 (fn2 dC dC aheadWV) := pure2 Tryz.func43 rfl fun a b v e => by
  injection e with e; subst e
  obtain ⟨h1, e1, k1, c1, _, _⟩ := (Ky.refl gd0).newI (cs := chgC a) rfl
  obtain ⟨h2, e2, k2, c2, _, _⟩ := (Ky.refl k1.gd).newI (cs := chgC b) rfl
  have c1' := c1.ky k1.gd.wf k2
  have q0 : I.ld0 h2 (.ptr H0.next 0) = some (.int .i64 a.time) := by rw [c1'.ld0]; rfl
  have q1 : I.ld0 h2 (.ptr H0.next 1) = some (.int .i64 a.net) := by rw [c1'.ld0]; rfl
  have r0 : I.ld0 h2 (.ptr h1.next 0) = some (.int .i64 b.time) := by rw [c2.ld0]; rfl
  have r1 : I.ld0 h2 (.ptr h1.next 1) = some (.int .i64 b.net) := by rw [c2.ld0]; rfl
  refine ⟨rfl, h2, c43 good0.step rfl rfl gd0 ?_ (by simp)⟩
  show t43_0 (CL tab0) (J43 tab0) (.agg (chgC a)) (.agg (chgC b)) H0 = _
  by_cases h1' : a.time < b.time
  · simp only [t43_0, IV.cells, e1, e2, W, spanK_u, decide_eq_true_eq, Bool.not_eq_true', decide_eq_false_iff_not, Bool.false_eq_true, Bool.not_true, Bool.not_false, decide_true, decide_false, not_true_eq_false, not_false_eq_true, and_true, true_and, and_false, false_and, ne_eq, Nat.zero_add, Nat.add_zero, cond_true, cond_false, ↓reduceIte, reduceCtorEq, Nat.reduceAdd, Int.reduceEq, Int.reduceNe, Int.reduceLT, Int.reduceLE, Int.reduceAdd, Int.reduceSub, Int.reduceMul, Int.reduceNeg, Nat.reduceMul, List.getElem?_cons_zero, List.getElem?_cons_succ, q0, q1, r0, r1, h1', decide_true, Bool.true_or]
  · by_cases h2' : a.time = b.time
    · by_cases h3' : a.net < b.net
      · simp only [t43_0, IV.cells, e1, e2, W, spanK_u, decide_eq_true_eq, Bool.not_eq_true', decide_eq_false_iff_not, Bool.false_eq_true, Bool.not_true, Bool.not_false, decide_true, decide_false, not_true_eq_false, not_false_eq_true, and_true, true_and, and_false, false_and, ne_eq, Nat.zero_add, Nat.add_zero, cond_true, cond_false, ↓reduceIte, reduceCtorEq, Nat.reduceAdd, Int.reduceEq, Int.reduceNe, Int.reduceLT, Int.reduceLE, Int.reduceAdd, Int.reduceSub, Int.reduceMul, Int.reduceNeg, Nat.reduceMul, List.getElem?_cons_zero, List.getElem?_cons_succ, q0, q1, r0, r1, h1', eq_true h2', h3', decide_true, decide_false, Bool.false_or, Bool.true_and]
      · simp only [t43_0, IV.cells, e1, e2, W, spanK_u, decide_eq_true_eq, Bool.not_eq_true', decide_eq_false_iff_not, Bool.false_eq_true, Bool.not_true, Bool.not_false, decide_true, decide_false, not_true_eq_false, not_false_eq_true, and_true, true_and, and_false, false_and, ne_eq, Nat.zero_add, Nat.add_zero, cond_true, cond_false, ↓reduceIte, reduceCtorEq, Nat.reduceAdd, Int.reduceEq, Int.reduceNe, Int.reduceLT, Int.reduceLE, Int.reduceAdd, Int.reduceSub, Int.reduceMul, Int.reduceNeg, Nat.reduceMul, List.getElem?_cons_zero, List.getElem?_cons_succ, q0, q1, r0, r1, h1', eq_true h2', h3', decide_true, decide_false, Bool.false_or, Bool.true_and]
    · simp only [t43_0, IV.cells, e1, e2, W, spanK_u, decide_eq_true_eq, Bool.not_eq_true', decide_eq_false_iff_not, Bool.false_eq_true, Bool.not_true, Bool.not_false, decide_true, decide_false, not_true_eq_false, not_false_eq_true, and_true, true_and, and_false, false_and, ne_eq, Nat.zero_add, Nat.add_zero, cond_true, cond_false, ↓reduceIte, reduceCtorEq, Nat.reduceAdd, Int.reduceEq, Int.reduceNe, Int.reduceLT, Int.reduceLE, Int.reduceAdd, Int.reduceSub, Int.reduceMul, Int.reduceNeg, Nat.reduceMul, List.getElem?_cons_zero, List.getElem?_cons_succ, q0, q1, r0, r1, h1', eq_false h2', decide_false, Bool.false_or, Bool.false_and]
theorem rcode_step {T : Tab} {h : H} (g : Gd h) (n : Nat) (hn : n < 9223372036854775808) {l : Bs} {s : IV} (gl : GL h 1 (bys l) s) (hl : l.length ≤ 1000) :
    ∃ s' h', Gd h' ∧ GL h' 1 (bys (l ++ [chr (n % 94)])) s' ∧ ∀ r, r ≠ .fail → J44 T 1 [.int .i64 (((n / 94 : Nat) : Int) - 1), s'] h' = r → J44 T 1 [.int .i64 (n : Nat), s] h = r := by
  obtain ⟨h1, e1, k1, c1⟩ := lit_bys g [chr (n % 94)]
  obtain ⟨s', h2, e2, x2, gl2⟩ := appB_row k1.gd (e := 5) (gl.ky g.wf k1) c1 (List.cons_ne_nil _ _) (by simp; omega)
  refine ⟨s', h2, x2.gd, gl2, fun r hr e => e44_1 ?_ hr⟩
  have hge : (0 : Int) ≤ ((n : Nat) : Int) := by omega
  have hm : n % 94 < 94 := Nat.mod_lt _ (by decide)
  have e1' : bslK true 1 [.int .u8 0] 1 [(0, .int .u8 ((chr (n % 94)).toNat : Nat))] h = some (.slice h.next 0 1 1, h1) := e1
  simp only [t44_1, W, spanK_u, decide_eq_true_eq, Bool.not_eq_true', decide_eq_false_iff_not, Bool.false_eq_true, Bool.not_true, Bool.not_false, decide_true, decide_false, not_true_eq_false, not_false_eq_true, and_true, true_and, and_false, false_and, ne_eq, Nat.zero_add, Nat.add_zero, cond_true, cond_false, ↓reduceIte, reduceCtorEq, Nat.reduceAdd, Int.reduceEq, Int.reduceNe, Int.reduceLT, Int.reduceLE, Int.reduceAdd, Int.reduceSub, Int.reduceMul, Int.reduceNeg, Nat.reduceMul, List.getElem?_cons_zero, List.getElem?_cons_succ, hge, rem94 n hn, wr33 _ hm, cv33 _ hm, e1', quo94 n hn, quo_sub n hn]
  have e2' : appB 5 1 1 h1 s (.slice h.next 0 1 1) = some (s', h2) := e2
  simp only [e2', obind2]
  exact e
theorem rcode_end {T : Tab} {h : H} {l : Bs} {s : IV} (gl : GL h 1 (bys l) s) : J44 T 1 [.int .i64 (-1), s] h = .ok (sv l) h := by
  refine e44_1 ?_ (by simp)
  have hge : ¬ (0 : Int) ≤ -1 := by omega
  simp only [t44_1, W, spanK_u, decide_eq_true_eq, Bool.not_eq_true', decide_eq_false_iff_not, Bool.false_eq_true, Bool.not_true, Bool.not_false, decide_true, decide_false, not_true_eq_false, not_false_eq_true, and_true, true_and, and_false, false_and, ne_eq, Nat.zero_add, Nat.add_zero, cond_true, cond_false, ↓reduceIte, reduceCtorEq, Nat.reduceAdd, Int.reduceEq, Int.reduceNe, Int.reduceLT, Int.reduceLE, Int.reduceAdd, Int.reduceSub, Int.reduceMul, Int.reduceNeg, Nat.reduceMul, List.getElem?_cons_zero, List.getElem?_cons_succ, hge, gl.text]
theorem rcode_end' {T : Tab} {h : H} {n : Nat} (hn : n = 0) {l : Bs} {s : IV} (gl : GL h 1 (bys l) s) : J44 T 1 [.int .i64 (((n : Nat) : Int) - 1), s] h = .ok (sv l) h := by
  subst hn
  exact rcode_end gl
theorem code14 (n : Nat) (hn : n < 8836) : ∃ h', CL tab0 44 [.int .i64 (n : Nat)] H0 = .ok (sv (codeF n)) h' := by
  obtain ⟨s1, h1, g1, gl1, r1⟩ := rcode_step (T := tab0) gd0 n (by omega) (l := []) (s := .nilSlice) (.inl ⟨rfl, rfl⟩) (by simp)
  rw [List.nil_append] at gl1
  unfold codeF
  by_cases h94 : n < 94
  · rw [if_pos h94]
    rw [Nat.mod_eq_of_lt h94] at gl1
    refine ⟨h1, c44 good0.step rfl rfl gd0 ?_ (by simp)⟩
    simp only [t44_0]
    exact r1 _ (by simp) (rcode_end' (by omega) gl1)
  · rw [if_neg h94]
    obtain ⟨s2, h2, g2, gl2, r2⟩ := rcode_step (T := tab0) g1 (n / 94 - 1) (by omega) gl1 (by simp)
    refine ⟨h2, c44 good0.step rfl rfl gd0 ?_ (by simp)⟩
    simp only [t44_0]
    refine r1 _ (by simp) ?_
    rw [show ((n / 94 : Nat) : Int) - 1 = ((n / 94 - 1 : Nat) : Int) by omega]
    have hm : (n / 94 - 1) % 94 = n / 94 - 1 := Nat.mod_eq_of_lt (by omega)
    rw [hm] at gl2
    exact r2 _ (by simp) (rcode_end' (by omega) gl2)
theorem tRCode : PureT Tryz.prog (CL tab0) 44 (fn1 dI codeV) := pure1 Tryz.func44 rfl fun n v e => by
  unfold codeV at e
  split at e
  · rename_i hc
    injection e with e; subst e
    obtain ⟨k, rfl⟩ := Int.eq_ofNat_of_zero_le hc.1
    exact ⟨rfl, code14 k (by omega)⟩
  · cases e
noncomputable def tabA : Tab := ((((tab2.add 38 (pureF (fn2 dC dC aheadV))).add 41 (pureF (fn1 dS namedV))).add 42 (pureF (fn1 dS mayV))).add 43 (pureF (fn2 dC dC aheadWV))).add 44 (pureF (fn1 dI codeV))
theorem goodA : GoodT Tryz.prog EP tabA := good0.also envK mixed noNum (good0.also envK mixed noNum (good0.also envK mixed noNum (good0.also envK mixed noNum (good0.also envK mixed noNum good2 tAhead) tNamed) tMay1) tAheadW) tRCode
theorem hNA : ∀ f, tabB f = false → tabA.ov f = none := by
  intro f h
  simp only [tabB, List.any_cons, List.any_nil, Bool.or_false, Bool.or_eq_false_iff] at h
  simp only [tabA, tab2, tab1, tab0, Tab.add, Tab.none, h, cond_false]
theorem awake_run : (CN tabA 12 8 [] H0).val = some (.bool true) := by kernel_rfl
theorem awakeA : ∃ h', CL tabA 8 [] H0 = .ok (.bool true) h' := CN_val hNA awake_run
theorem tAwake : PureT Tryz.prog (CL tabA) 8 (fn0 (.bool true)) := pure0 Tryz.func8 rfl rfl awakeA
noncomputable def tab3 : Tab := tabA.add 8 (pureF (fn0 (.bool true)))
theorem good3 : GoodT Tryz.prog EP tab3 := goodA.also envK mixed noNum goodA tAwake
theorem ahead3 {h : H} (a b : Chg) : CL tab3 38 [.agg (chgC a), .agg (chgC b)] h = .ok (.int .i64 (aheadI a b)) h := call2 (A := dC) (B := dC) (a := a) (b := b) rfl rfl h
theorem cont3 {h : H} (l : Bs) : CL tab3 35 [sv l, .func 34 []] h = .ok (.bool (!(l.all okC))) h := call2 (A := dS) (B := dF) (a := l) (b := 34) rfl (by unfold contV; rw [if_pos rfl]) h
theorem check3 {h : H} (l : Bs) : CL tab3 36 [sv l] h = .ok (.int .i64 (if checkM l = true then 0 else 10)) h := call1 (A := dS) (a := l) rfl rfl h
theorem code3 {h : H} (n : Nat) (hn : n < 8836) : CL tab3 16 [.int .i64 (n : Nat)] h = .ok (sv (codeF n)) h := call1 (A := dI) (a := (n : Int)) rfl (by unfold codeV; rw [if_pos ⟨by omega, by omega⟩]; rfl) h
theorem itoa3 {h : H} (n : Int) (h1 : -9223372036854775808 ≤ n) (h2 : n ≤ 9223372036854775807) : CL tab3 15 [.int .i64 n] h = .ok (sv (itoaF n)) h := call1 (A := dI) (a := n) rfl (by unfold itoaV; rw [if_pos ⟨h1, h2⟩]) h
theorem ahead_lt (a b : Chg) : decide (0 ≤ aheadI a b) = !(decide (a.time < b.time) || (decide (a.time = b.time) && decide (a.net < b.net))) := by
  unfold aheadI cmpF
  by_cases h1 : a.time < b.time
  · simp [h1]
  · by_cases h2 : b.time < a.time
    · have : a.time ≠ b.time := by omega
      simp [h1, h2, this]
    · have : a.time = b.time := by omega
      by_cases h3 : a.net < b.net
      · simp [this, h3]
      · by_cases h4 : b.net < a.net
        · simp [this, h3, h4]
        · simp [this, h3, h4]
noncomputable abbrev tab4 : Tab := tab3
theorem good4 : GoodT Tryz.prog EP tab4 := good3
def netF (n : Bs) (w : Int) (f : Bs) : Bool := decide (n.length ≤ 256) && n.all okC && checkM f && decide ((f.length : Int) = w)
def netsF : List Bs → List Int → List Bs → Bool
  | [], [], [] => true
  | n :: ns, w :: ws, f :: fs => netF n w f && netsF ns ws fs
  | _, _, _ => false
theorem netsF_len : ∀ {a : List Bs} {b : List Int} {c : List Bs}, netsF a b c = true → b.length = a.length ∧ c.length = a.length
  | [], [], [], _ => ⟨rfl, rfl⟩
  | n :: ns, w :: ws, f :: fs, h => by
    simp only [netsF, Bool.and_eq_true] at h
    obtain ⟨h1, h2⟩ := netsF_len h.2
    simp [h1, h2]
  | [], _ :: _, _, h => by simp [netsF] at h
  | [], [], _ :: _, h => by simp [netsF] at h
  | _ :: _, [], _, h => by simp [netsF] at h
  | _ :: _, _ :: _, [], h => by simp [netsF] at h
structure WB (h : H) (b : Nat) (n wd f l : IV) (w : Wv) : Prop where
  cs : Cs h b true false [n, wd, f, l]
  wr : WR h n wd f l w
theorem WB.ky {h h' : H} {b : Nat} {n wd f l : IV} {w : Wv} (x : WB h b n wd f l w) (g : WF h) (y : Ky h h') : WB h' b n wd f l w := ⟨x.cs.ky g y, x.wr.ky g y⟩
theorem WB.l0 {h : H} {b : Nat} {n wd f l : IV} {w : Wv} (x : WB h b n wd f l w) : I.ld0 h (.ptr b 0) = some n := by rw [x.cs.ld0]; rfl
theorem WB.l1 {h : H} {b : Nat} {n wd f l : IV} {w : Wv} (x : WB h b n wd f l w) : I.ld0 h (.ptr b 1) = some wd := by rw [x.cs.ld0]; rfl
theorem WB.l2 {h : H} {b : Nat} {n wd f l : IV} {w : Wv} (x : WB h b n wd f l w) : I.ld0 h (.ptr b 2) = some f := by rw [x.cs.ld0]; rfl
theorem WB.l3 {h : H} {b : Nat} {n wd f l : IV} {w : Wv} (x : WB h b n wd f l w) : I.ld0 h (.ptr b 3) = some l := by rw [x.cs.ld0]; rfl
theorem net_step {h : H} (g : Gd h) {b : Nat} {n wd f l : IV} {w : Wv} (x : WB h b n wd f l w) {i N : Nat} (hi : i < N) {nm fs : Bs} {wi : Int} (e1 : w.names[i]? = some nm) (e2 : w.wides[i]? = some wi) (e3 : w.first[i]? = some fs) {r : CRes} (hr : r ≠ .fail)
    (e : J13 tab3 2 [.ptr b 0, .int .i64 (N : Nat), .int .i64 (N : Nat), .int .i64 (i : Nat), .bool (!(netF nm wi fs))] h = r) : J13 tab3 1 [.ptr b 0, .int .i64 (N : Nat), .int .i64 (N : Nat), .int .i64 (i : Nat)] h = r := by
  obtain ⟨p1, q1, r1⟩ := LR.str x.wr.names e1
  obtain ⟨p2, q2, r2⟩ := LW.int x.wr.wides e2
  obtain ⟨p3, q3, r3⟩ := LR.str x.wr.first e3
  have hlt : ((i : Nat) : Int) < (N : Nat) := by omega
  have l0 := x.l0
  have l1 := x.l1
  have l2 := x.l2
  refine e13_1 ?_ hr
  by_cases h1 : (256 : Int) < (nm.length : Nat)
  · have hn : netF nm wi fs = false := by
      have : ¬ nm.length ≤ 256 := by omega
      simp [netF, this]
    rw [hn] at e
    simp only [t13_1, W, spanK_u, decide_eq_true_eq, Bool.not_eq_true', decide_eq_false_iff_not, Bool.false_eq_true, Bool.not_true, Bool.not_false, decide_true, decide_false, not_true_eq_false, not_false_eq_true, and_true, true_and, and_false, false_and, ne_eq, Nat.zero_add, Nat.add_zero, cond_true, cond_false, ↓reduceIte, reduceCtorEq, Nat.reduceAdd, Int.reduceEq, Int.reduceNe, Int.reduceLT, Int.reduceLE, Int.reduceAdd, Int.reduceSub, Int.reduceMul, Int.reduceNeg, Nat.reduceMul, List.getElem?_cons_zero, List.getElem?_cons_succ, hlt, l0, q1, r1, h1, guardK]
    exact e
  · have h1' : nm.length ≤ 256 := by omega
    have ec := cont3 (h := h) nm
    cases h2 : nm.all okC with
    | false =>
      rw [h2] at ec
      have hn : netF nm wi fs = false := by simp [netF, h2]
      rw [hn] at e
      simp only [t13_1, W, spanK_u, decide_eq_true_eq, Bool.not_eq_true', decide_eq_false_iff_not, Bool.false_eq_true, Bool.not_true, Bool.not_false, decide_true, decide_false, not_true_eq_false, not_false_eq_true, and_true, true_and, and_false, false_and, ne_eq, Nat.zero_add, Nat.add_zero, cond_true, cond_false, ↓reduceIte, reduceCtorEq, Nat.reduceAdd, Int.reduceEq, Int.reduceNe, Int.reduceLT, Int.reduceLE, Int.reduceAdd, Int.reduceSub, Int.reduceMul, Int.reduceNeg, Nat.reduceMul, List.getElem?_cons_zero, List.getElem?_cons_succ, hlt, l0, q1, r1, h1, guardK, ec, Bool.not_false]
      exact e
    | true =>
      rw [h2] at ec
      have ek := check3 (h := h) fs
      cases h3 : checkM fs with
      | false =>
        rw [h3] at ek
        have hn : netF nm wi fs = false := by simp [netF, h3]
        rw [hn] at e
        have h10 : ¬ (10 : Int) = 0 := by decide
        simp only [t13_1, W, spanK_u, decide_eq_true_eq, Bool.not_eq_true', decide_eq_false_iff_not, Bool.false_eq_true, Bool.not_true, Bool.not_false, decide_true, decide_false, not_true_eq_false, not_false_eq_true, and_true, true_and, and_false, false_and, ne_eq, Nat.zero_add, Nat.add_zero, cond_true, cond_false, ↓reduceIte, reduceCtorEq, Nat.reduceAdd, Int.reduceEq, Int.reduceNe, Int.reduceLT, Int.reduceLE, Int.reduceAdd, Int.reduceSub, Int.reduceMul, Int.reduceNeg, Nat.reduceMul, List.getElem?_cons_zero, List.getElem?_cons_succ, hlt, l0, l2, q1, r1, q3, r3, h1, guardK, ec, Bool.not_true, ek, Bool.false_eq_true, if_false, h10]
        exact e
      | true =>
        rw [h3] at ek
        by_cases h4 : ((fs.length : Nat) : Int) = wi
        · have hn : netF nm wi fs = true := by simp [netF, h1', h2, h3, h4]
          rw [hn] at e
          simp only [t13_1, W, spanK_u, decide_eq_true_eq, Bool.not_eq_true', decide_eq_false_iff_not, Bool.false_eq_true, Bool.not_true, Bool.not_false, decide_true, decide_false, not_true_eq_false, not_false_eq_true, and_true, true_and, and_false, false_and, ne_eq, Nat.zero_add, Nat.add_zero, cond_true, cond_false, ↓reduceIte, reduceCtorEq, Nat.reduceAdd, Int.reduceEq, Int.reduceNe, Int.reduceLT, Int.reduceLE, Int.reduceAdd, Int.reduceSub, Int.reduceMul, Int.reduceNeg, Nat.reduceMul, List.getElem?_cons_zero, List.getElem?_cons_succ, hlt, l0, l1, l2, q1, r1, q2, r2, q3, r3, h1, guardK, ec, Bool.not_true, ek, if_true, eq_true h4]
          exact e
        · have hn : netF nm wi fs = false := by simp [netF, h4]
          rw [hn] at e
          simp only [t13_1, W, spanK_u, decide_eq_true_eq, Bool.not_eq_true', decide_eq_false_iff_not, Bool.false_eq_true, Bool.not_true, Bool.not_false, decide_true, decide_false, not_true_eq_false, not_false_eq_true, and_true, true_and, and_false, false_and, ne_eq, Nat.zero_add, Nat.add_zero, cond_true, cond_false, ↓reduceIte, reduceCtorEq, Nat.reduceAdd, Int.reduceEq, Int.reduceNe, Int.reduceLT, Int.reduceLE, Int.reduceAdd, Int.reduceSub, Int.reduceMul, Int.reduceNeg, Nat.reduceMul, List.getElem?_cons_zero, List.getElem?_cons_succ, hlt, l0, l1, l2, q1, r1, q2, r2, q3, r3, h1, guardK, ec, Bool.not_true, ek, if_true, eq_false h4]
          exact e
def aheadB (a b : Chg) : Bool := decide (a.time < b.time) || (decide (a.time = b.time) && decide (a.net < b.net))
def prevF (p : Option Chg) (c : Chg) : Bool := match p with
  | none => true
  | some p => aheadB p c
def placeF (N : Nat) (p : Option Chg) (c : Chg) : Bool := decide (0 ≤ c.net) && decide (c.net < N) && decide (0 ≤ c.time) && decide (c.time ≤ 4611686018427387903) && prevF p c
def valF (wides : List Int) (now : List Bs) (c : Chg) : Bool := checkM c.val && decide (wides[c.net.toNat]? = some (c.val.length : Int)) && !decide (now[c.net.toNat]? = some c.val)
def listF (N : Nat) (wides : List Int) : List Bs → Option Chg → List Chg → Bool
  | _, _, [] => true
  | now, p, c :: l => placeF N p c && (valF wides now c && listF N wides (now.set c.net.toNat c.val) (some c) l)
def prevAt (l : List Chg) (i : Nat) : Option Chg := if i = 0 then none else l[i - 1]?
theorem chg_step {h : H} (g : Gd h) {b : Nat} {n wd f l now : IV} {w : Wv} (x : WB h b n wd f l w) {i N : Nat} {c : Chg} (e1 : w.list[i]? = some c) (hlen : w.list.length ≤ 9223372036854775807) :
    ∃ h' c8, Ky h h' ∧ h.next ≤ c8 ∧ Cs h' c8 true false (chgC c) ∧ ∀ r, r ≠ .fail → J13 tab3 4 [.ptr b 0, .int .i64 (N : Nat), now, .ptr c8 0, l, .int .i64 (w.list.length : Nat), .int .i64 (i : Nat), .bool (!(placeF N (prevAt w.list i) c))] h' = r →
    J13 tab3 3 [.ptr b 0, .int .i64 (N : Nat), now, l, .int .i64 (w.list.length : Nat), .int .i64 (i : Nat)] h = r := by
  obtain ⟨pb, po, q1, q2, _⟩ := LR.chg x.wr.list e1
  have hil : i < w.list.length := (List.getElem?_eq_some_iff.1 e1).1
  have hlt : ((i : Nat) : Int) < (w.list.length : Nat) := by omega
  obtain ⟨h6, e6, k6, c6, -, -⟩ := (Ky.refl g).newI (cs := z2) rfl
  obtain ⟨o, e7, c7, _⟩ := c6.st (n := 3) (off := 0) (v := .agg (chgC c)) rfl rfl (by show 0 + 3 ≤ 3; omega)
  have hp : placeL z2 0 (IV.agg (chgC c)).cells = chgC c := rfl
  rw [hp] at c7
  have k7 : Ky h (h6.put h.next o) := by
    obtain ⟨tt, q, _⟩ := c6
    exact k6.put (Nat.le_refl _) q (fun fz size cs hh => by cases hh)
  generalize h6.put h.next o = h7 at e7 c7 k7
  refine ⟨h7, h.next, k7, Nat.le_refl _, c7, fun r hr e => ?_⟩
  have l0 : I.ld0 h7 (.ptr h.next 0) = some (.int .i64 c.time) := by rw [c7.ld0]; rfl
  have l1 : I.ld0 h7 (.ptr h.next 1) = some (.int .i64 c.net) := by rw [c7.ld0]; rfl
  have lA : I.ldA 3 h7 (.ptr h.next 0) = some (.agg (chgC c)) := c7.ldAll rfl
  have x7 := x.ky g.wf k7
  have l3 := x7.l3
  refine e13_3 ?_ hr
  by_cases h1 : c.net < 0
  · have hn : placeF N (prevAt w.list i) c = false := by
      have : ¬ 0 ≤ c.net := by omega
      simp [placeF, this]
    rw [hn] at e
    simp only [t13_3, W, spanK_u, decide_eq_true_eq, Bool.not_eq_true', decide_eq_false_iff_not, Bool.false_eq_true, Bool.not_true, Bool.not_false, decide_true, decide_false, not_true_eq_false, not_false_eq_true, and_true, true_and, and_false, false_and, ne_eq, Nat.zero_add, Nat.add_zero, cond_true, cond_false, ↓reduceIte, reduceCtorEq, Nat.reduceAdd, Int.reduceEq, Int.reduceNe, Int.reduceLT, Int.reduceLE, Int.reduceAdd, Int.reduceSub, Int.reduceMul, Int.reduceNeg, Nat.reduceMul, List.getElem?_cons_zero, List.getElem?_cons_succ, hlt, q1, q2, e6, e7, l0, l1, h1, guardK]
    exact e
  · have h1' : 0 ≤ c.net := by omega
    by_cases h2 : ((N : Nat) : Int) ≤ c.net
    · have hn : placeF N (prevAt w.list i) c = false := by
        have : ¬ c.net < N := by omega
        simp [placeF, this]
      rw [hn] at e
      simp only [t13_3, W, spanK_u, decide_eq_true_eq, Bool.not_eq_true', decide_eq_false_iff_not, Bool.false_eq_true, Bool.not_true, Bool.not_false, decide_true, decide_false, not_true_eq_false, not_false_eq_true, and_true, true_and, and_false, false_and, ne_eq, Nat.zero_add, Nat.add_zero, cond_true, cond_false, ↓reduceIte, reduceCtorEq, Nat.reduceAdd, Int.reduceEq, Int.reduceNe, Int.reduceLT, Int.reduceLE, Int.reduceAdd, Int.reduceSub, Int.reduceMul, Int.reduceNeg, Nat.reduceMul, List.getElem?_cons_zero, List.getElem?_cons_succ, hlt, q1, q2, e6, e7, l0, l1, h1, h2, guardK]
      exact e
    · have h2' : c.net < N := by omega
      by_cases h3 : c.time < 0
      · have hn : placeF N (prevAt w.list i) c = false := by
          have : ¬ 0 ≤ c.time := by omega
          simp [placeF, this]
        rw [hn] at e
        simp only [t13_3, W, spanK_u, decide_eq_true_eq, Bool.not_eq_true', decide_eq_false_iff_not, Bool.false_eq_true, Bool.not_true, Bool.not_false, decide_true, decide_false, not_true_eq_false, not_false_eq_true, and_true, true_and, and_false, false_and, ne_eq, Nat.zero_add, Nat.add_zero, cond_true, cond_false, ↓reduceIte, reduceCtorEq, Nat.reduceAdd, Int.reduceEq, Int.reduceNe, Int.reduceLT, Int.reduceLE, Int.reduceAdd, Int.reduceSub, Int.reduceMul, Int.reduceNeg, Nat.reduceMul, List.getElem?_cons_zero, List.getElem?_cons_succ, hlt, q1, q2, e6, e7, l0, l1, h1, h2, h3, guardK]
        exact e
      · have h3' : 0 ≤ c.time := by omega
        by_cases h4 : 4611686018427387903 < c.time
        · have hn : placeF N (prevAt w.list i) c = false := by
            have : ¬ c.time ≤ 4611686018427387903 := by omega
            simp [placeF, this]
          rw [hn] at e
          simp only [t13_3, W, spanK_u, decide_eq_true_eq, Bool.not_eq_true', decide_eq_false_iff_not, Bool.false_eq_true, Bool.not_true, Bool.not_false, decide_true, decide_false, not_true_eq_false, not_false_eq_true, and_true, true_and, and_false, false_and, ne_eq, Nat.zero_add, Nat.add_zero, cond_true, cond_false, ↓reduceIte, reduceCtorEq, Nat.reduceAdd, Int.reduceEq, Int.reduceNe, Int.reduceLT, Int.reduceLE, Int.reduceAdd, Int.reduceSub, Int.reduceMul, Int.reduceNeg, Nat.reduceMul, List.getElem?_cons_zero, List.getElem?_cons_succ, hlt, q1, q2, e6, e7, l0, l1, h1, h2, h3, h4, guardK]
          exact e
        · have h4' : c.time ≤ 4611686018427387903 := by omega
          by_cases h5 : i = 0
          · have hn : placeF N (prevAt w.list i) c = true := by simp [placeF, h1', h2', h3', h4', prevAt, h5, prevF]
            have h5' : ¬ (0 : Int) < (i : Nat) := by omega
            rw [hn] at e
            simp only [t13_3, W, spanK_u, decide_eq_true_eq, Bool.not_eq_true', decide_eq_false_iff_not, Bool.false_eq_true, Bool.not_true, Bool.not_false, decide_true, decide_false, not_true_eq_false, not_false_eq_true, and_true, true_and, and_false, false_and, ne_eq, Nat.zero_add, Nat.add_zero, cond_true, cond_false, ↓reduceIte, reduceCtorEq, Nat.reduceAdd, Int.reduceEq, Int.reduceNe, Int.reduceLT, Int.reduceLE, Int.reduceAdd, Int.reduceSub, Int.reduceMul, Int.reduceNeg, Nat.reduceMul, List.getElem?_cons_zero, List.getElem?_cons_succ, hlt, q1, q2, e6, e7, l0, l1, h1, h2, h3, h4, h5', guardK]
            exact e
          · have h5' : (0 : Int) < (i : Nat) := by omega
            obtain ⟨d, hd⟩ : ∃ d, w.list[i - 1]? = some d := ⟨w.list[i - 1]'(by omega), List.getElem?_eq_getElem (by omega)⟩
            obtain ⟨qb, qo, q3, q4, _⟩ := LR.chg x7.wr.list hd
            have ws : wr .i64 (((i : Nat) : Int) - 1) = ((i - 1 : Nat) : Int) := by rw [wr_i64 (by omega) (by omega)]; omega
            have ea := ahead3 (h := h7) d c
            have hl := ahead_lt d c
            have hn : placeF N (prevAt w.list i) c = !(decide (0 ≤ aheadI d c)) := by
              rw [hl]
              simp [placeF, h1', h2', h3', h4', prevAt, h5, hd, prevF, aheadB]
            rw [hn, Bool.not_not] at e
            by_cases h6 : 0 ≤ aheadI d c
            · rw [decide_eq_true h6] at e
              simp only [t13_3, W, spanK_u, decide_eq_true_eq, Bool.not_eq_true', decide_eq_false_iff_not, Bool.false_eq_true, Bool.not_true, Bool.not_false, decide_true, decide_false, not_true_eq_false, not_false_eq_true, and_true, true_and, and_false, false_and, ne_eq, Nat.zero_add, Nat.add_zero, cond_true, cond_false, ↓reduceIte, reduceCtorEq, Nat.reduceAdd, Int.reduceEq, Int.reduceNe, Int.reduceLT, Int.reduceLE, Int.reduceAdd, Int.reduceSub, Int.reduceMul, Int.reduceNeg, Nat.reduceMul, List.getElem?_cons_zero, List.getElem?_cons_succ, hlt, q1, q2, e6, e7, l0, l1, h1, h2, h3, h4, h5', guardK, l3, ws, q3, q4, lA, ea, h6]
              exact e
            · rw [decide_eq_false h6] at e
              simp only [t13_3, W, spanK_u, decide_eq_true_eq, Bool.not_eq_true', decide_eq_false_iff_not, Bool.false_eq_true, Bool.not_true, Bool.not_false, decide_true, decide_false, not_true_eq_false, not_false_eq_true, and_true, true_and, and_false, false_and, ne_eq, Nat.zero_add, Nat.add_zero, cond_true, cond_false, ↓reduceIte, reduceCtorEq, Nat.reduceAdd, Int.reduceEq, Int.reduceNe, Int.reduceLT, Int.reduceLE, Int.reduceAdd, Int.reduceSub, Int.reduceMul, Int.reduceNeg, Nat.reduceMul, List.getElem?_cons_zero, List.getElem?_cons_succ, hlt, q1, q2, e6, e7, l0, l1, h1, h2, h3, h4, h5', guardK, l3, ws, q3, q4, lA, ea, h6]
              exact e
def Now (hM h : H) (N : Nat) (v : IV) (now : List Bs) : Prop := now.length = N ∧ (N ≠ 0 → ∃ nb fz, v = .slice nb 0 N 1 ∧ hM.next ≤ nb ∧ Cs h nb true fz (now.map sv))
theorem val_step {hM h : H} (k : Ky hM h) (gM : Gd hM) {b : Nat} {n wd f l nowV : IV} {w : Wv} (x : WB hM b n wd f l w) {i N : Nat} (hN : w.wides.length = N) {c : Chg} {now : List Bs} (nw : Now hM h N nowV now) (c0 : 0 ≤ c.net) (cN : c.net < N) {c8 : Nat} (hc8 : hM.next ≤ c8) (cc : Cs h c8 true false (chgC c))
    (hcn : ∀ nb, nowV = .slice nb 0 N 1 → c8 ≠ nb) (hi : i < 9223372036854775807) {len : IV} :
    (valF w.wides now c = false → J13 tab3 4 [.ptr b 0, .int .i64 (N : Nat), nowV, .ptr c8 0, l, len, .int .i64 (i : Nat), .bool false] h = .ok (.int .i64 1) h) ∧
    (valF w.wides now c = true → ∃ h', Ky hM h' ∧ Now hM h' N nowV (now.set c.net.toNat c.val) ∧ ∀ r, r ≠ .fail → J13 tab3 3 [.ptr b 0, .int .i64 (N : Nat), nowV, l, len, .int .i64 ((i + 1 : Nat) : Int)] h' = r → J13 tab3 4 [.ptr b 0, .int .i64 (N : Nat), nowV, .ptr c8 0, l, len, .int .i64 (i : Nat), .bool false] h = r) := by
  have xh := x.ky gM.wf k
  obtain ⟨m, hm⟩ := Int.eq_ofNat_of_zero_le c0
  have hmN : m < N := by omega
  have hmt : c.net.toNat = m := by omega
  obtain ⟨nl, nw⟩ := nw
  obtain ⟨nb, fz, rfl, hnb, cn⟩ := nw (by omega)
  have l1 : I.ld0 h (.ptr c8 1) = some (.int .i64 (m : Nat)) := by rw [cc.ld0, ← hm]; rfl
  have l2 : I.ld0 h (.ptr c8 2) = some (sv c.val) := by rw [cc.ld0]; rfl
  have w1 := xh.l1
  obtain ⟨wi, hwi⟩ : ∃ wi, w.wides[m]? = some wi := ⟨w.wides[m]'(by omega), List.getElem?_eq_getElem (by omega)⟩
  obtain ⟨pw, qw, rw_⟩ := LW.int xh.wr.wides hwi
  obtain ⟨nv, hnv⟩ : ∃ nv, now[m]? = some nv := ⟨now[m]'(by omega), List.getElem?_eq_getElem (by omega)⟩
  have qn : ixS 1 (.slice nb 0 N 1) (.int .i64 (m : Nat)) = some (.ptr nb m) := by
    have := ixS_at (i := m) (n := N) (b := nb) (es := 1) (k := .i64) hmN
    rw [Nat.mul_one] at this; exact this
  have ln : I.ld0 h (.ptr nb m) = some (sv nv) := by rw [cn.ld0, List.getElem?_map, hnv]; rfl
  have ek := check3 (h := h) c.val
  have eV : valF w.wides now c = (checkM c.val && decide ((c.val.length : Int) = wi) && !decide (c.val = nv)) := by
    unfold valF
    rw [hmt, hwi, hnv]
    congr 1
    · congr 1
      apply decide_eq_decide.2
      simp only [Option.some.injEq]
      exact eq_comm
    · congr 1
      apply decide_eq_decide.2
      simp only [Option.some.injEq]
      exact eq_comm
  rw [eV]
  have h10 : ¬ (10 : Int) = 0 := by decide
  have five : ∀ t r, r ≠ .fail → J13 tab3 5 [.ptr b 0, .int .i64 (N : Nat), .slice nb 0 N 1, .ptr c8 0, l, len, .int .i64 (i : Nat), .bool t] h = r → (J13 tab3 5 [.ptr b 0, .int .i64 (N : Nat), .slice nb 0 N 1, .ptr c8 0, l, len, .int .i64 (i : Nat), .bool t] h = r) := fun _ _ _ e => e
  have bad5 : J13 tab3 5 [.ptr b 0, .int .i64 (N : Nat), .slice nb 0 N 1, .ptr c8 0, l, len, .int .i64 (i : Nat), .bool true] h = .ok (.int .i64 1) h :=
    e13_5 (by simp only [t13_5, W, spanK_u, decide_eq_true_eq, Bool.not_eq_true', decide_eq_false_iff_not, Bool.false_eq_true, Bool.not_true, Bool.not_false, decide_true, decide_false, not_true_eq_false, not_false_eq_true, and_true, true_and, and_false, false_and, ne_eq, Nat.zero_add, Nat.add_zero, cond_true, cond_false, ↓reduceIte, reduceCtorEq, Nat.reduceAdd, Int.reduceEq, Int.reduceNe, Int.reduceLT, Int.reduceLE, Int.reduceAdd, Int.reduceSub, Int.reduceMul, Int.reduceNeg, Nat.reduceMul, List.getElem?_cons_zero, List.getElem?_cons_succ]) (by simp)
  cases h1 : checkM c.val with
  | false =>
    rw [h1] at ek
    refine ⟨fun _ => e13_4 ?_ (by simp), fun h => by simp at h⟩
    simp only [t13_4, W, spanK_u, decide_eq_true_eq, Bool.not_eq_true', decide_eq_false_iff_not, Bool.false_eq_true, Bool.not_true, Bool.not_false, decide_true, decide_false, not_true_eq_false, not_false_eq_true, and_true, true_and, and_false, false_and, ne_eq, Nat.zero_add, Nat.add_zero, cond_true, cond_false, ↓reduceIte, reduceCtorEq, Nat.reduceAdd, Int.reduceEq, Int.reduceNe, Int.reduceLT, Int.reduceLE, Int.reduceAdd, Int.reduceSub, Int.reduceMul, Int.reduceNeg, Nat.reduceMul, List.getElem?_cons_zero, List.getElem?_cons_succ, l2, ek, h10, guardK, Bool.false_eq_true, if_false]
    exact bad5
  | true =>
    rw [h1] at ek
    by_cases h2 : ((c.val.length : Nat) : Int) = wi
    · by_cases h3 : c.val = nv
      · refine ⟨fun _ => e13_4 ?_ (by simp), fun h => by simp [h3] at h⟩
        simp only [t13_4, W, spanK_u, decide_eq_true_eq, Bool.not_eq_true', decide_eq_false_iff_not, Bool.false_eq_true, Bool.not_true, Bool.not_false, decide_true, decide_false, not_true_eq_false, not_false_eq_true, and_true, true_and, and_false, false_and, ne_eq, Nat.zero_add, Nat.add_zero, cond_true, cond_false, ↓reduceIte, reduceCtorEq, Nat.reduceAdd, Int.reduceEq, Int.reduceNe, Int.reduceLT, Int.reduceLE, Int.reduceAdd, Int.reduceSub, Int.reduceMul, Int.reduceNeg, Nat.reduceMul, List.getElem?_cons_zero, List.getElem?_cons_succ, l1, l2, ek, h10, guardK, if_true, w1, qw, rw_, eq_true h2, qn, ln, eq_true h3]
        exact bad5
      · refine ⟨fun h => by simp [h2, h3] at h, fun _ => ?_⟩
        obtain ⟨o, s1, s2, s3⟩ := cn.st (n := 1) (off := m) (v := sv c.val) rfl rfl (by rw [List.length_map]; omega)
        have hp : placeL (now.map sv) m (sv c.val).cells = (now.set m c.val).map sv := by
          show (now.map sv).set m (sv c.val) = _
          rw [List.map_set]
        rw [hp] at s2
        have k' : Ky hM (h.put nb o) := by
          obtain ⟨tt, q, _⟩ := cn
          exact k.put hnb q (fun fz size cs hh => by cases hh)
        refine ⟨h.put nb o, k', ⟨by rw [List.length_set]; exact nl, fun _ => ⟨nb, fz, rfl, hnb, by rw [hmt]; exact s2⟩⟩, fun r hr e => e13_4 ?_ hr⟩
        have w2 := wr_succ hi
        have e5 : J13 tab3 5 [.ptr b 0, .int .i64 (N : Nat), .slice nb 0 N 1, .ptr c8 0, l, len, .int .i64 (i : Nat), .bool false] h = r := by
          refine e13_5 ?_ hr
          simp only [t13_5, W, spanK_u, decide_eq_true_eq, Bool.not_eq_true', decide_eq_false_iff_not, Bool.false_eq_true, Bool.not_true, Bool.not_false, decide_true, decide_false, not_true_eq_false, not_false_eq_true, and_true, true_and, and_false, false_and, ne_eq, Nat.zero_add, Nat.add_zero, cond_true, cond_false, ↓reduceIte, reduceCtorEq, Nat.reduceAdd, Int.reduceEq, Int.reduceNe, Int.reduceLT, Int.reduceLE, Int.reduceAdd, Int.reduceSub, Int.reduceMul, Int.reduceNeg, Nat.reduceMul, List.getElem?_cons_zero, List.getElem?_cons_succ, l1, l2, qn, s1, w2]
          exact e
        simp only [t13_4, W, spanK_u, decide_eq_true_eq, Bool.not_eq_true', decide_eq_false_iff_not, Bool.false_eq_true, Bool.not_true, Bool.not_false, decide_true, decide_false, not_true_eq_false, not_false_eq_true, and_true, true_and, and_false, false_and, ne_eq, Nat.zero_add, Nat.add_zero, cond_true, cond_false, ↓reduceIte, reduceCtorEq, Nat.reduceAdd, Int.reduceEq, Int.reduceNe, Int.reduceLT, Int.reduceLE, Int.reduceAdd, Int.reduceSub, Int.reduceMul, Int.reduceNeg, Nat.reduceMul, List.getElem?_cons_zero, List.getElem?_cons_succ, l1, l2, ek, h10, guardK, if_true, w1, qw, rw_, eq_true h2, qn, ln, eq_false h3]
        exact e5
    · refine ⟨fun _ => e13_4 ?_ (by simp), fun h => by simp [h2] at h⟩
      simp only [t13_4, W, spanK_u, decide_eq_true_eq, Bool.not_eq_true', decide_eq_false_iff_not, Bool.false_eq_true, Bool.not_true, Bool.not_false, decide_true, decide_false, not_true_eq_false, not_false_eq_true, and_true, true_and, and_false, false_and, ne_eq, Nat.zero_add, Nat.add_zero, cond_true, cond_false, ↓reduceIte, reduceCtorEq, Nat.reduceAdd, Int.reduceEq, Int.reduceNe, Int.reduceLT, Int.reduceLE, Int.reduceAdd, Int.reduceSub, Int.reduceMul, Int.reduceNeg, Nat.reduceMul, List.getElem?_cons_zero, List.getElem?_cons_succ, l1, l2, ek, h10, guardK, if_true, w1, qw, rw_, eq_false h2]
      exact bad5
theorem list_loop {hM : H} (gM : Gd hM) {b : Nat} {n wd f l nowV : IV} {w : Wv} (x : WB hM b n wd f l w) {N : Nat} (hN : w.wides.length = N) (hlen : w.list.length ≤ 9223372036854775807) : ∀ (k i : Nat) (h : H) (now : List Bs), i + k = w.list.length → Ky hM h → Now hM h N nowV now →
    ∃ h', J13 tab3 3 [.ptr b 0, .int .i64 (N : Nat), nowV, l, .int .i64 (w.list.length : Nat), .int .i64 (i : Nat)] h = .ok (.int .i64 (if listF N w.wides now (prevAt w.list i) (w.list.drop i) = true then 0 else 1)) h' ∧ Ky hM h' := by
  intro k
  induction k with
  | zero =>
    intro i h now hi kk nw
    rw [List.drop_of_length_le (by omega)]
    refine ⟨h, e13_3 ?_ (by simp), kk⟩
    have hlt : ¬ ((i : Nat) : Int) < (w.list.length : Nat) := by omega
    simp only [t13_3, W, spanK_u, decide_eq_true_eq, Bool.not_eq_true', decide_eq_false_iff_not, Bool.false_eq_true, Bool.not_true, Bool.not_false, decide_true, decide_false, not_true_eq_false, not_false_eq_true, and_true, true_and, and_false, false_and, ne_eq, Nat.zero_add, Nat.add_zero, cond_true, cond_false, ↓reduceIte, reduceCtorEq, Nat.reduceAdd, Int.reduceEq, Int.reduceNe, Int.reduceLT, Int.reduceLE, Int.reduceAdd, Int.reduceSub, Int.reduceMul, Int.reduceNeg, Nat.reduceMul, List.getElem?_cons_zero, List.getElem?_cons_succ, hlt]
    rfl
  | succ k ih =>
    intro i h now hi kk nw
    have hil : i < w.list.length := by omega
    have hd := List.drop_eq_getElem_cons hil
    have hc : w.list[i]? = some w.list[i] := List.getElem?_eq_getElem hil
    generalize w.list[i] = c at hd hc
    rw [hd]
    have xh := x.ky gM.wf kk
    have bad4 : ∀ (h' : H) (c8 : Nat), J13 tab3 4 [.ptr b 0, .int .i64 (N : Nat), nowV, .ptr c8 0, l, .int .i64 (w.list.length : Nat), .int .i64 (i : Nat), .bool true] h' = .ok (.int .i64 1) h' := fun h' c8 =>
      e13_4 (by simp only [t13_4, W, spanK_u, decide_eq_true_eq, Bool.not_eq_true', decide_eq_false_iff_not, Bool.false_eq_true, Bool.not_true, Bool.not_false, decide_true, decide_false, not_true_eq_false, not_false_eq_true, and_true, true_and, and_false, false_and, ne_eq, Nat.zero_add, Nat.add_zero, cond_true, cond_false, ↓reduceIte, reduceCtorEq, Nat.reduceAdd, Int.reduceEq, Int.reduceNe, Int.reduceLT, Int.reduceLE, Int.reduceAdd, Int.reduceSub, Int.reduceMul, Int.reduceNeg, Nat.reduceMul, List.getElem?_cons_zero, List.getElem?_cons_succ]) (by simp)
    obtain ⟨h1, c8, k1, hc8, cc, step⟩ := chg_step kk.gd xh (now := nowV) (N := N) hc (by omega)
    have k2 := kk.trans k1
    have hc8' : hM.next ≤ c8 := Nat.le_trans kk.next hc8
    cases hp : placeF N (prevAt w.list i) c with
    | false =>
      have hF : listF N w.wides now (prevAt w.list i) (c :: w.list.drop (i + 1)) = false := by simp [listF, hp]
      rw [hF]
      rw [hp] at step
      exact ⟨h1, step _ (by simp) (bad4 h1 c8), k2⟩
    | true =>
      rw [hp] at step
      have hp' := hp
      simp only [placeF, Bool.and_eq_true, decide_eq_true_eq] at hp'
      obtain ⟨⟨⟨⟨c0, cN⟩, _⟩, _⟩, _⟩ := hp'
      have nw1 : Now hM h1 N nowV now := ⟨nw.1, fun hz => by
        obtain ⟨nb, fz, e1, e2, e3⟩ := nw.2 hz
        exact ⟨nb, fz, e1, e2, e3.ky kk.gd.wf k1⟩⟩
      have hne : ∀ nb, nowV = .slice nb 0 N 1 → c8 ≠ nb := fun nb hv => by
        obtain ⟨nb', fz, e1, e2, e3⟩ := nw.2 (by omega)
        rw [hv] at e1
        injection e1 with e1
        subst e1
        have := e3.lt kk.gd.wf
        omega
      obtain ⟨v1, v2⟩ := val_step k2 gM x hN nw1 c0 cN hc8' cc hne (i := i) (by omega) (len := .int .i64 (w.list.length : Nat))
      cases hv : valF w.wides now c with
      | false =>
        have hF : listF N w.wides now (prevAt w.list i) (c :: w.list.drop (i + 1)) = false := by simp [listF, hp, hv]
        rw [hF]
        exact ⟨h1, step _ (by simp) (v1 hv), k2⟩
      | true =>
        obtain ⟨h2, k3, nw2, go⟩ := v2 hv
        obtain ⟨h', e, k4⟩ := ih (i + 1) h2 _ (by omega) k3 nw2
        have hF : listF N w.wides now (prevAt w.list i) (c :: w.list.drop (i + 1)) = listF N w.wides (now.set c.net.toNat c.val) (prevAt w.list (i + 1)) (w.list.drop (i + 1)) := by
          have hpr : prevAt w.list (i + 1) = some c := by
            unfold prevAt
            rw [if_neg (by omega), Nat.add_sub_cancel]; exact hc
          rw [hpr]
          simp [listF, hp, hv]
        rw [hF]
        exact ⟨h', step _ (by split <;> simp) (go _ (by split <;> simp) e), k4⟩
def waveF (w : Wv) : Bool := decide (w.names.length ≤ 4096) && netsF w.names w.wides w.first && listF w.names.length w.wides w.first none w.list
theorem nets_loop {h : H} (g : Gd h) {b : Nat} {n wd f l : IV} {w : Wv} (x : WB h b n wd f l w) {N : Nat} (h1 : w.names.length = N) (h2 : w.wides.length = N) (h3 : w.first.length = N) (hN : N ≤ 4096) : ∀ (k i : Nat), i + k = N →
    (netsF (w.names.drop i) (w.wides.drop i) (w.first.drop i) = false → J13 tab3 1 [.ptr b 0, .int .i64 (N : Nat), .int .i64 (N : Nat), .int .i64 (i : Nat)] h = .ok (.int .i64 1) h) ∧
    (netsF (w.names.drop i) (w.wides.drop i) (w.first.drop i) = true → ∀ r, r ≠ .fail → J13 tab3 1 [.ptr b 0, .int .i64 (N : Nat), .int .i64 (N : Nat), .int .i64 (N : Nat)] h = r → J13 tab3 1 [.ptr b 0, .int .i64 (N : Nat), .int .i64 (N : Nat), .int .i64 (i : Nat)] h = r) := by
  intro k
  induction k with
  | zero =>
    intro i hi
    have hi : i = N := by omega
    subst hi
    rw [List.drop_of_length_le (by omega), List.drop_of_length_le (by omega), List.drop_of_length_le (by omega)]
    exact ⟨fun h => by simp [netsF] at h, fun _ r _ e => e⟩
  | succ k ih =>
    intro i hi
    have d1 := List.drop_eq_getElem_cons (l := w.names) (i := i) (by omega)
    have d2 := List.drop_eq_getElem_cons (l := w.wides) (i := i) (by omega)
    have d3 := List.drop_eq_getElem_cons (l := w.first) (i := i) (by omega)
    have e1 : w.names[i]? = some (w.names[i]'(by omega)) := List.getElem?_eq_getElem _
    have e2 : w.wides[i]? = some (w.wides[i]'(by omega)) := List.getElem?_eq_getElem _
    have e3 : w.first[i]? = some (w.first[i]'(by omega)) := List.getElem?_eq_getElem _
    generalize w.names[i]'(by omega) = nm at d1 e1
    generalize w.wides[i]'(by omega) = wi at d2 e2
    generalize w.first[i]'(by omega) = fs at d3 e3
    rw [d1, d2, d3]
    simp only [netsF]
    obtain ⟨i1, i2⟩ := ih (i + 1) (by omega)
    cases hn : netF nm wi fs with
    | false =>
      refine ⟨fun _ => net_step g x (by omega) e1 e2 e3 (by simp) ?_, fun h => by simp at h⟩
      rw [hn]
      exact e13_2 (by simp only [t13_2, W, spanK_u, decide_eq_true_eq, Bool.not_eq_true', decide_eq_false_iff_not, Bool.false_eq_true, Bool.not_true, Bool.not_false, decide_true, decide_false, not_true_eq_false, not_false_eq_true, and_true, true_and, and_false, false_and, ne_eq, Nat.zero_add, Nat.add_zero, cond_true, cond_false, ↓reduceIte, reduceCtorEq, Nat.reduceAdd, Int.reduceEq, Int.reduceNe, Int.reduceLT, Int.reduceLE, Int.reduceAdd, Int.reduceSub, Int.reduceMul, Int.reduceNeg, Nat.reduceMul, List.getElem?_cons_zero, List.getElem?_cons_succ, Bool.not_false]) (by simp)
    | true =>
      rw [Bool.true_and]
      have two : ∀ r, r ≠ .fail → J13 tab3 1 [.ptr b 0, .int .i64 (N : Nat), .int .i64 (N : Nat), .int .i64 ((i + 1 : Nat) : Int)] h = r → J13 tab3 1 [.ptr b 0, .int .i64 (N : Nat), .int .i64 (N : Nat), .int .i64 (i : Nat)] h = r := by
        intro r hr e
        refine net_step g x (by omega) e1 e2 e3 hr ?_
        rw [hn]
        refine e13_2 ?_ hr
        have w1 := wr_succ (show i < 9223372036854775807 by omega)
        simp only [t13_2, W, spanK_u, decide_eq_true_eq, Bool.not_eq_true', decide_eq_false_iff_not, Bool.false_eq_true, Bool.not_true, Bool.not_false, decide_true, decide_false, not_true_eq_false, not_false_eq_true, and_true, true_and, and_false, false_and, ne_eq, Nat.zero_add, Nat.add_zero, cond_true, cond_false, ↓reduceIte, reduceCtorEq, Nat.reduceAdd, Int.reduceEq, Int.reduceNe, Int.reduceLT, Int.reduceLE, Int.reduceAdd, Int.reduceSub, Int.reduceMul, Int.reduceNeg, Nat.reduceMul, List.getElem?_cons_zero, List.getElem?_cons_succ, Bool.not_true, w1]
        exact e
      exact ⟨fun h => two _ (by simp) (i1 h), fun h r hr e => two r hr (i2 h r hr e)⟩
theorem waveCheck {h : H} (g : Gd h) {n wd f l : IV} {w : Wv} (r : WR h n wd f l w) (hl : w.list.length ≤ 9223372036854775807) : ∃ h', CL tab3 13 [.agg [n, wd, f, l]] h = .ok (.int .i64 (if waveF w = true then 0 else 1)) h' ∧ Ky h h' := by
  obtain ⟨h2, e2, k2, c2, -, -⟩ := (Ky.refl g).newI (cs := [n, wd, f, l]) r.scalar
  have x : WB h2 h.next n wd f l w := ⟨c2, r.ky g.wf k2⟩
  have l0 := x.l0
  have l1 := x.l1
  have l2 := x.l2
  have l3 := x.l3
  have n0 := x.wr.names.len
  have n1 := x.wr.wides.len
  have n2 := x.wr.first.len
  have n3 := x.wr.list.len
  by_cases h1 : (4096 : Int) < (w.names.length : Nat)
  · have hF : waveF w = false := by
      have : ¬ w.names.length ≤ 4096 := by omega
      simp [waveF, this]
    refine ⟨h2, c13 good3.step rfl rfl g ?_ (by simp), k2⟩
    rw [hF]
    simp only [t13_0, IV.cells, e2, W, spanK_u, decide_eq_true_eq, Bool.not_eq_true', decide_eq_false_iff_not, Bool.false_eq_true, Bool.not_true, Bool.not_false, decide_true, decide_false, not_true_eq_false, not_false_eq_true, and_true, true_and, and_false, false_and, ne_eq, Nat.zero_add, Nat.add_zero, cond_true, cond_false, ↓reduceIte, reduceCtorEq, Nat.reduceAdd, Int.reduceEq, Int.reduceNe, Int.reduceLT, Int.reduceLE, Int.reduceAdd, Int.reduceSub, Int.reduceMul, Int.reduceNeg, Nat.reduceMul, List.getElem?_cons_zero, List.getElem?_cons_succ, l0, l1, l2, n0, h1, Int.ofNat_eq_natCast]
  have h1' : w.names.length ≤ 4096 := by omega
  by_cases h2' : ((w.wides.length : Nat) : Int) = (w.names.length : Nat)
  rotate_left
  · have hF : waveF w = false := by
      have : netsF w.names w.wides w.first = false := by
        cases hn : netsF w.names w.wides w.first with
        | false => rfl
        | true => have := netsF_len hn; omega
      simp [waveF, this]
    refine ⟨h2, c13 good3.step rfl rfl g ?_ (by simp), k2⟩
    rw [hF]
    simp only [t13_0, IV.cells, e2, W, spanK_u, decide_eq_true_eq, Bool.not_eq_true', decide_eq_false_iff_not, Bool.false_eq_true, Bool.not_true, Bool.not_false, decide_true, decide_false, not_true_eq_false, not_false_eq_true, and_true, true_and, and_false, false_and, ne_eq, Nat.zero_add, Nat.add_zero, cond_true, cond_false, ↓reduceIte, reduceCtorEq, Nat.reduceAdd, Int.reduceEq, Int.reduceNe, Int.reduceLT, Int.reduceLE, Int.reduceAdd, Int.reduceSub, Int.reduceMul, Int.reduceNeg, Nat.reduceMul, List.getElem?_cons_zero, List.getElem?_cons_succ, l0, l1, l2, n0, n1, h1, Int.ofNat_eq_natCast, eq_false h2']
    try rfl
  by_cases h3' : ((w.first.length : Nat) : Int) = (w.names.length : Nat)
  rotate_left
  · have hF : waveF w = false := by
      have : netsF w.names w.wides w.first = false := by
        cases hn : netsF w.names w.wides w.first with
        | false => rfl
        | true => have := netsF_len hn; omega
      simp [waveF, this]
    refine ⟨h2, c13 good3.step rfl rfl g ?_ (by simp), k2⟩
    rw [hF]
    simp only [t13_0, IV.cells, e2, W, spanK_u, decide_eq_true_eq, Bool.not_eq_true', decide_eq_false_iff_not, Bool.false_eq_true, Bool.not_true, Bool.not_false, decide_true, decide_false, not_true_eq_false, not_false_eq_true, and_true, true_and, and_false, false_and, ne_eq, Nat.zero_add, Nat.add_zero, cond_true, cond_false, ↓reduceIte, reduceCtorEq, Nat.reduceAdd, Int.reduceEq, Int.reduceNe, Int.reduceLT, Int.reduceLE, Int.reduceAdd, Int.reduceSub, Int.reduceMul, Int.reduceNeg, Nat.reduceMul, List.getElem?_cons_zero, List.getElem?_cons_succ, l0, l1, l2, n0, n1, n2, h1, Int.ofNat_eq_natCast, eq_true h2', eq_false h3']
    try rfl
  have start : ∀ r : CRes, r ≠ .fail → J13 tab3 1 [.ptr h.next 0, .int .i64 (w.names.length : Nat), .int .i64 (w.names.length : Nat), .int .i64 ((0 : Nat) : Int)] h2 = r → CL tab3 13 [.agg [n, wd, f, l]] h = r := by
    intro r hr e
    refine c13 good3.step rfl rfl g ?_ hr
    simp only [t13_0, IV.cells, e2, W, spanK_u, decide_eq_true_eq, Bool.not_eq_true', decide_eq_false_iff_not, Bool.false_eq_true, Bool.not_true, Bool.not_false, decide_true, decide_false, not_true_eq_false, not_false_eq_true, and_true, true_and, and_false, false_and, ne_eq, Nat.zero_add, Nat.add_zero, cond_true, cond_false, ↓reduceIte, reduceCtorEq, Nat.reduceAdd, Int.reduceEq, Int.reduceNe, Int.reduceLT, Int.reduceLE, Int.reduceAdd, Int.reduceSub, Int.reduceMul, Int.reduceNeg, Nat.reduceMul, List.getElem?_cons_zero, List.getElem?_cons_succ, l0, l1, l2, n0, n1, n2, h1, Int.ofNat_eq_natCast, eq_true h2', eq_true h3']
    exact e
  obtain ⟨i1, i2⟩ := nets_loop k2.gd x rfl (by omega) (by omega) h1' w.names.length 0 (by omega)
  simp only [List.drop_zero] at i1 i2
  cases hn : netsF w.names w.wides w.first with
  | false =>
    have hF : waveF w = false := by simp [waveF, hn]
    rw [hF]
    exact ⟨h2, start _ (by simp) (i1 hn), k2⟩
  | true =>
    have hF : waveF w = listF w.names.length w.wides w.first none w.list := by simp [waveF, hn, h1']
    rw [hF]
    obtain ⟨v', h4, ec, k4, cl⟩ := clone good3.step rfl rfl k2.gd x.wr.first (by omega)
    have nw : Now h2 h4 w.names.length v' w.first := ⟨by omega, fun hz => by
      obtain ⟨fz, e1, e2⟩ := cl (fun h0 => by rw [h0] at h3'; simp at h3'; omega)
      refine ⟨_, fz, e1.trans ?_, by omega, e2⟩
      congr 1; omega⟩
    obtain ⟨h', e, k5⟩ := list_loop k2.gd x (N := w.names.length) (by omega) hl w.list.length 0 h4 w.first (by omega) k4 nw
    rw [List.drop_zero] at e
    refine ⟨h', start _ (by split <;> simp) (i2 hn _ (by split <;> simp) ?_), k2.trans k5⟩
    refine e13_1 ?_ (by split <;> simp)
    have x4 := x.ky k2.gd.wf k4
    have m3 := x4.l3
    simp only [t13_1, W, spanK_u, decide_eq_true_eq, Bool.not_eq_true', decide_eq_false_iff_not, Bool.false_eq_true, Bool.not_true, Bool.not_false, decide_true, decide_false, not_true_eq_false, not_false_eq_true, and_true, true_and, and_false, false_and, ne_eq, Nat.zero_add, Nat.add_zero, cond_true, cond_false, ↓reduceIte, reduceCtorEq, Nat.reduceAdd, Int.reduceEq, Int.reduceNe, Int.reduceLT, Int.reduceLE, Int.reduceAdd, Int.reduceSub, Int.reduceMul, Int.reduceNeg, Nat.reduceMul, List.getElem?_cons_zero, List.getElem?_cons_succ, Int.lt_irrefl, l2, ec, m3, n3, Int.ofNat_eq_natCast]
    exact e
theorem bt3 : BT tab3 := ⟨good3.step, rfl, rfl, rfl, rfl, rfl, rfl, rfl⟩
theorem builderLen {T : Tab} (t : OvStep T) (ho : T.ov 18 = none) (hp : T.pol 18 = true) {h₀ h : H} {b : Nat} {l : Bs} (x : BL h₀ h b l) : CL T 18 [.ptr b 0] h = .ok (.int .i64 (l.length : Nat)) h := by
  obtain ⟨addr, buf, c, ha, gb⟩ := x.cell
  have l1 := c.ld0 1
  simp only [List.getElem?_cons_zero, List.getElem?_cons_succ] at l1
  have hl : lenS buf = some (.int .i64 (l.length : Nat)) := by
    rcases gb with ⟨rfl, rfl⟩ | ⟨bb, k, rfl, _, rfl, _⟩ <;> rfl
  refine c18 t ho hp x.ky.gd ?_ (by simp)
  simp only [t18_0, W, spanK_u, decide_eq_true_eq, Bool.not_eq_true', decide_eq_false_iff_not, Bool.false_eq_true, Bool.not_true, Bool.not_false, decide_true, decide_false, not_true_eq_false, not_false_eq_true, and_true, true_and, and_false, false_and, ne_eq, Nat.zero_add, Nat.add_zero, cond_true, cond_false, ↓reduceIte, reduceCtorEq, Nat.reduceAdd, Int.reduceEq, Int.reduceNe, Int.reduceLT, Int.reduceLE, Int.reduceAdd, Int.reduceSub, Int.reduceMul, Int.reduceNeg, Nat.reduceMul, List.getElem?_cons_zero, List.getElem?_cons_succ, l1, hl]
def headF : Bs := [36, 116, 105, 109, 101, 115, 99, 97, 108, 101, 32, 49, 32, 110, 115, 32, 36, 101, 110, 100, 10, 36, 115, 99, 111, 112, 101, 32, 109, 111, 100, 117, 108, 101, 32, 116, 111, 112, 32, 36, 101, 110, 100, 10]
def midF : Bs := [36, 117, 112, 115, 99, 111, 112, 101, 32, 36, 101, 110, 100, 10, 36, 101, 110, 100, 100, 101, 102, 105, 110, 105, 116, 105, 111, 110, 115, 32, 36, 101, 110, 100, 10, 36, 100, 117, 109, 112, 118, 97, 114, 115, 10]
def endF : Bs := [36, 101, 110, 100, 10]
def varW : Bs := [36, 118, 97, 114, 32, 119, 105, 114, 101, 32]
def endW : Bs := [32, 36, 101, 110, 100, 10]
theorem head_sv : IV.str ⟨44, 372417928818112564871583596543448252004672529497768332514574081386684445445215142980140321110602442961956⟩ = sv headF := by kernel_rfl
theorem mid_sv : IV.str ⟨45, 95877086440312645158151348174744568952353856492712646089714385966300053302821846437583023914514791984559396⟩ = sv midF := by kernel_rfl
theorem end_sv : IV.str ⟨5, 44634629412⟩ = sv endF := by kernel_rfl
theorem var_sv : IV.str ⟨10, 152987092854847431603748⟩ = sv varW := by kernel_rfl
theorem endw_sv : IV.str ⟨6, 11426465129504⟩ = sv endW := by kernel_rfl
def valueF (v : Bs) (net : Nat) : Bs := if v.length = 1 then v ++ codeF net ++ [10] else [98] ++ v ++ [32] ++ codeF net ++ [10]
def nameF (n : Bs) : Bs := if n = [] then [95] else n
def varF (k : Nat) (w : Int) (n : Bs) : Bs := varW ++ itoaF w ++ [32] ++ codeF k ++ [32] ++ nameF n ++ endW
def varsF : Nat → List Bs → List Int → Option Bs
  | _, [], _ => some []
  | _, _ :: _, [] => some []
  | k, n :: ns, w :: ws => if n = [95] then none else (varsF (k + 1) ns ws).map (varF k w n ++ ·)
def valsF : Nat → List Bs → Bs
  | _, [] => []
  | k, v :: vs => valueF v k ++ valsF (k + 1) vs
def timeF (p : Option Chg) (c : Chg) : Bs := if p.map (·.time) = some c.time then [] else [35] ++ itoaF c.time ++ [10]
def chgF (p : Option Chg) (c : Chg) : Bs := timeF p c ++ valueF c.val c.net.toNat
def chgsF : Option Chg → List Chg → Bs
  | _, [] => []
  | p, c :: l => chgF p c ++ chgsF (some c) l
def baseF (w : Wv) (v : Bs) : Bs := headF ++ v ++ midF ++ valsF 0 w.first ++ endF
def writeF (w : Wv) : Bs × Int :=
  if waveF w = true then (match varsF 0 w.names w.wides with
    | none => ([], 1)
    | some v => if 1048576 < (baseF w v ++ chgsF none w.list).length then ([], 4) else (baseF w v ++ chgsF none w.list, 0))
  else ([], 1)
def resI (r : Bs × Int) : IV := .tup [sv r.1, .int .i64 r.2]
theorem digU_len : ∀ (f u : Nat), (digU f u).length ≤ f
  | 0, u => Nat.le_refl 0
  | f + 1, u => by
    simp only [digU]
    split
    · simp
    · have := digU_len f (u / 10)
      simp only [List.length_append, List.length_singleton]; omega
theorem itoaF_len (n : Int) : (itoaF n).length ≤ 21 := by
  unfold itoaF
  split
  · have := digU_len 20 n.natAbs
    simp only [List.length_cons]; omega
  · have := digU_len 20 n.toNat; omega
theorem codeF_len (n : Nat) : (codeF n).length ≤ 2 := by unfold codeF; split <;> simp
theorem valueF_len (v : Bs) (n : Nat) : (valueF v n).length ≤ v.length + 5 := by
  have := codeF_len n
  unfold valueF
  split
  · simp only [List.length_append, List.length_singleton]; omega
  · simp only [List.length_append, List.length_singleton]; omega
theorem varF_len (k : Nat) (w : Int) (n : Bs) (hn : n.length ≤ 256) : (varF k w n).length ≤ 300 := by
  have := codeF_len k
  have := itoaF_len w
  have h3 : (nameF n).length ≤ 256 := by
    unfold nameF
    split
    · simp
    · exact hn
  have h4 : varW.length = 10 := rfl
  have h5 : endW.length = 6 := rfl
  unfold varF
  simp only [List.length_append, List.length_singleton]; omega
theorem value3 {h : H} (g : Gd h) (v : Bs) (net : Nat) (hv : v.length ≤ 256) (hn : net < 8836) : CL tab3 17 [sv v, .int .i64 (net : Nat)] h = .ok (sv (valueF v net)) h := by
  have ec := code3 (h := h) net hn
  have hl := codeF_len net
  have c10 : IV.str ⟨1, 10⟩ = sv [10] := rfl
  have c98 : IV.str ⟨1, 98⟩ = sv [98] := rfl
  have c32 : IV.str ⟨1, 32⟩ = sv [32] := rfl
  refine c17 good3.step rfl rfl g ?_ (by simp)
  unfold valueF
  by_cases h1 : v.length = 1
  · have h1' : ((v.length : Nat) : Int) = 1 := by omega
    have a1 : binS .add (sv v) (sv (codeF net)) = some (sv (v ++ codeF net)) := binS_add _ _ (by omega)
    have a2 : binS .add (sv (v ++ codeF net)) (sv [10]) = some (sv (v ++ codeF net ++ [10])) := binS_add _ _ (by simp only [List.length_append, List.length_singleton]; omega)
    rw [if_pos h1]
    simp only [t17_0, W, spanK_u, decide_eq_true_eq, Bool.not_eq_true', decide_eq_false_iff_not, Bool.false_eq_true, Bool.not_true, Bool.not_false, decide_true, decide_false, not_true_eq_false, not_false_eq_true, and_true, true_and, and_false, false_and, ne_eq, Nat.zero_add, Nat.add_zero, cond_true, cond_false, ↓reduceIte, reduceCtorEq, Nat.reduceAdd, Int.reduceEq, Int.reduceNe, Int.reduceLT, Int.reduceLE, Int.reduceAdd, Int.reduceSub, Int.reduceMul, Int.reduceNeg, Nat.reduceMul, List.getElem?_cons_zero, List.getElem?_cons_succ, eq_true h1', ec, c10, a1, a2]
  · have h1' : ¬ ((v.length : Nat) : Int) = 1 := by omega
    have a1 : binS .add (sv [98]) (sv v) = some (sv ([98] ++ v)) := binS_add _ _ (by simp only [List.length_singleton]; omega)
    have a2 : binS .add (sv ([98] ++ v)) (sv [32]) = some (sv ([98] ++ v ++ [32])) := binS_add _ _ (by simp only [List.length_append, List.length_singleton]; omega)
    have a3 : binS .add (sv ([98] ++ v ++ [32])) (sv (codeF net)) = some (sv ([98] ++ v ++ [32] ++ codeF net)) := binS_add _ _ (by simp only [List.length_append, List.length_singleton]; omega)
    have a4 : binS .add (sv ([98] ++ v ++ [32] ++ codeF net)) (sv [10]) = some (sv ([98] ++ v ++ [32] ++ codeF net ++ [10])) := binS_add _ _ (by simp only [List.length_append, List.length_singleton]; omega)
    rw [if_neg h1]
    simp only [t17_0, W, spanK_u, decide_eq_true_eq, Bool.not_eq_true', decide_eq_false_iff_not, Bool.false_eq_true, Bool.not_true, Bool.not_false, decide_true, decide_false, not_true_eq_false, not_false_eq_true, and_true, true_and, and_false, false_and, ne_eq, Nat.zero_add, Nat.add_zero, cond_true, cond_false, ↓reduceIte, reduceCtorEq, Nat.reduceAdd, Int.reduceEq, Int.reduceNe, Int.reduceLT, Int.reduceLE, Int.reduceAdd, Int.reduceSub, Int.reduceMul, Int.reduceNeg, Nat.reduceMul, List.getElem?_cons_zero, List.getElem?_cons_succ, eq_false h1', ec, c10, c98, c32, a1, a2, a3, a4]
theorem netsF_at : ∀ {a : List Bs} {b : List Int} {c : List Bs}, netsF a b c = true → ∀ (i : Nat), i < a.length → ∃ n w f, a[i]? = some n ∧ b[i]? = some w ∧ c[i]? = some f ∧ netF n w f = true
  | [], _, _, _, i, hi => by simp at hi
  | n :: ns, w :: ws, f :: fs, h, i, hi => by
    simp only [netsF, Bool.and_eq_true] at h
    cases i with
    | zero => exact ⟨n, w, f, rfl, rfl, rfl, h.1⟩
    | succ i =>
      obtain ⟨n', w', f', e1, e2, e3, e4⟩ := netsF_at h.2 i (by simpa using hi)
      exact ⟨n', w', f', by simpa using e1, by simpa using e2, by simpa using e3, e4⟩
  | _ :: _, [], _, h, _, _ => by simp [netsF] at h
  | _ :: _, _ :: _, [], h, _, _ => by simp [netsF] at h
theorem netF_le {n : Bs} {w : Int} {f : Bs} (h : netF n w f = true) : n.length ≤ 256 ∧ f.length ≤ 256 ∧ w = f.length := by
  simp only [netF, checkM, Bool.and_eq_true, decide_eq_true_eq] at h
  obtain ⟨⟨⟨h1, _⟩, ⟨_, h2⟩, _⟩, h3⟩ := h
  exact ⟨h1, h2, h3.symm⟩
theorem var_step {hM h : H} (gM : Gd hM) {b bb : Nat} {n wd f l : IV} {w : Wv} (x : WB hM b n wd f l w) {acc : Bs} (y : BL hM h bb acc) (hr : acc.length ≤ 2000000) {i N : Nat} (hi : i < N) (hN : N ≤ 4096) {nm fs : Bs} {wi : Int} (e1 : w.names[i]? = some nm) (e2 : w.wides[i]? = some wi) (hn : netF nm wi fs = true) :
    (nm = [95] → J6 tab3 1 [.ptr b 0, .ptr bb 0, n, .int .i64 (N : Nat), .int .i64 (i : Nat)] h = .ok (resI ([], 1)) h) ∧
    (nm ≠ [95] → ∃ h', BL hM h' bb (acc ++ varF i wi nm) ∧ ∀ r, r ≠ .fail → J6 tab3 1 [.ptr b 0, .ptr bb 0, n, .int .i64 (N : Nat), .int .i64 ((i + 1 : Nat) : Int)] h' = r → J6 tab3 1 [.ptr b 0, .ptr bb 0, n, .int .i64 (N : Nat), .int .i64 (i : Nat)] h = r) := by
  have xh := x.ky gM.wf y.ky
  obtain ⟨p1, q1, r1⟩ := LR.str xh.wr.names e1
  obtain ⟨p2, q2, r2⟩ := LW.int xh.wr.wides e2
  obtain ⟨n1, n2, n3⟩ := netF_le hn
  have hlt : ((i : Nat) : Int) < (N : Nat) := by omega
  have l1 := xh.l1
  have c95 : IV.str ⟨1, 95⟩ = sv [95] := rfl
  have c32 : IV.str ⟨1, 32⟩ = sv [32] := rfl
  have s0 : IV.str ⟨0, 0⟩ = sv [] := rfl
  refine ⟨fun h95 => ?_, fun h95 => ?_⟩
  · subst h95
    refine e6_1 ?_ (by simp [resI])
    simp only [t6_1, W, spanK_u, decide_eq_true_eq, Bool.not_eq_true', decide_eq_false_iff_not, Bool.false_eq_true, Bool.not_true, Bool.not_false, decide_true, decide_false, not_true_eq_false, not_false_eq_true, and_true, true_and, and_false, false_and, ne_eq, Nat.zero_add, Nat.add_zero, cond_true, cond_false, ↓reduceIte, reduceCtorEq, Nat.reduceAdd, Int.reduceEq, Int.reduceNe, Int.reduceLT, Int.reduceLE, Int.reduceAdd, Int.reduceSub, Int.reduceMul, Int.reduceNeg, Nat.reduceMul, List.getElem?_cons_zero, List.getElem?_cons_succ, hlt, q1, r1, c95, s0]
    rfl
  · have ei := itoa3 (h := h) wi (by omega) (by omega)
    have ec := code3 (h := h) i (by omega)
    have k1 := itoaF_len wi
    have k2 := codeF_len i
    have k3 : (nameF nm).length ≤ 256 := by
      unfold nameF
      split
      · simp
      · exact n1
    have k4 : varW.length = 10 := rfl
    have k5 : endW.length = 6 := rfl
    have a1 : binS .add (sv varW) (sv (itoaF wi)) = some (sv (varW ++ itoaF wi)) := binS_add _ _ (by omega)
    have a2 : binS .add (sv (varW ++ itoaF wi)) (sv [32]) = some (sv (varW ++ itoaF wi ++ [32])) := binS_add _ _ (by simp only [List.length_append, List.length_singleton]; omega)
    have a3 : binS .add (sv (varW ++ itoaF wi ++ [32])) (sv (codeF i)) = some (sv (varW ++ itoaF wi ++ [32] ++ codeF i)) := binS_add _ _ (by simp only [List.length_append, List.length_singleton]; omega)
    have a4 : binS .add (sv (varW ++ itoaF wi ++ [32] ++ codeF i)) (sv [32]) = some (sv (varW ++ itoaF wi ++ [32] ++ codeF i ++ [32])) := binS_add _ _ (by simp only [List.length_append, List.length_singleton]; omega)
    have a5 : binS .add (sv (varW ++ itoaF wi ++ [32] ++ codeF i ++ [32])) (sv (nameF nm)) = some (sv (varW ++ itoaF wi ++ [32] ++ codeF i ++ [32] ++ nameF nm)) := binS_add _ _ (by simp only [List.length_append, List.length_singleton]; omega)
    have a6 : binS .add (sv (varW ++ itoaF wi ++ [32] ++ codeF i ++ [32] ++ nameF nm)) (sv endW) = some (sv (varF i wi nm)) := binS_add _ _ (by simp only [List.length_append, List.length_singleton]; omega)
    have k6 := varF_len i wi nm n1
    obtain ⟨h', ew, y', _⟩ := writeString bt3 y (varF i wi nm) (by omega)
    have w1 := wr_succ (show i < 9223372036854775807 by omega)
    refine ⟨h', y', fun r hr e => e6_1 ?_ hr⟩
    have two : J6 tab3 2 [.ptr b 0, .ptr bb 0, .int .i64 (i : Nat), sv (nameF nm), n, .int .i64 (N : Nat), .int .i64 (i : Nat)] h = r := by
      refine e6_2 ?_ hr
      simp only [t6_2, W, spanK_u, decide_eq_true_eq, Bool.not_eq_true', decide_eq_false_iff_not, Bool.false_eq_true, Bool.not_true, Bool.not_false, decide_true, decide_false, not_true_eq_false, not_false_eq_true, and_true, true_and, and_false, false_and, ne_eq, Nat.zero_add, Nat.add_zero, cond_true, cond_false, ↓reduceIte, reduceCtorEq, Nat.reduceAdd, Int.reduceEq, Int.reduceNe, Int.reduceLT, Int.reduceLE, Int.reduceAdd, Int.reduceSub, Int.reduceMul, Int.reduceNeg, Nat.reduceMul, List.getElem?_cons_zero, List.getElem?_cons_succ, l1, q2, r2, ei, var_sv, a1, c32, a2, ec, a3, a4, a5, endw_sv, a6, ew, w1]
      exact e
    by_cases h0 : nm = []
    · subst h0
      have hnm : nameF [] = [95] := rfl
      rw [hnm] at two
      simp only [t6_1, W, spanK_u, decide_eq_true_eq, Bool.not_eq_true', decide_eq_false_iff_not, Bool.false_eq_true, Bool.not_true, Bool.not_false, decide_true, decide_false, not_true_eq_false, not_false_eq_true, and_true, true_and, and_false, false_and, ne_eq, Nat.zero_add, Nat.add_zero, cond_true, cond_false, ↓reduceIte, reduceCtorEq, Nat.reduceAdd, Int.reduceEq, Int.reduceNe, Int.reduceLT, Int.reduceLE, Int.reduceAdd, Int.reduceSub, Int.reduceMul, Int.reduceNeg, Nat.reduceMul, List.getElem?_cons_zero, List.getElem?_cons_succ, hlt, q1, r1, c95, s0, h95]
      exact two
    · have hnm : nameF nm = nm := by unfold nameF; rw [if_neg h0]
      rw [hnm] at two
      simp only [t6_1, W, spanK_u, decide_eq_true_eq, Bool.not_eq_true', decide_eq_false_iff_not, Bool.false_eq_true, Bool.not_true, Bool.not_false, decide_true, decide_false, not_true_eq_false, not_false_eq_true, and_true, true_and, and_false, false_and, ne_eq, Nat.zero_add, Nat.add_zero, cond_true, cond_false, ↓reduceIte, reduceCtorEq, Nat.reduceAdd, Int.reduceEq, Int.reduceNe, Int.reduceLT, Int.reduceLE, Int.reduceAdd, Int.reduceSub, Int.reduceMul, Int.reduceNeg, Nat.reduceMul, List.getElem?_cons_zero, List.getElem?_cons_succ, hlt, q1, r1, c95, s0, h95, h0]
      exact two
theorem vars_loop {hM : H} (gM : Gd hM) {b bb : Nat} {n wd f l : IV} {w : Wv} (x : WB hM b n wd f l w) {N : Nat} (hN : N ≤ 4096) (e1 : w.names.length = N) (hn : netsF w.names w.wides w.first = true) : ∀ (k i : Nat) (h : H) (acc : Bs), i + k = N → BL hM h bb acc → acc.length ≤ 44 + i * 300 →
    (varsF i (w.names.drop i) (w.wides.drop i) = none → ∃ h', J6 tab3 1 [.ptr b 0, .ptr bb 0, n, .int .i64 (N : Nat), .int .i64 (i : Nat)] h = .ok (resI ([], 1)) h' ∧ Ky hM h') ∧
    (∀ v, varsF i (w.names.drop i) (w.wides.drop i) = some v → ∃ h', BL hM h' bb (acc ++ v) ∧ (acc ++ v).length ≤ 44 + N * 300 ∧ ∀ r, r ≠ .fail → J6 tab3 1 [.ptr b 0, .ptr bb 0, n, .int .i64 (N : Nat), .int .i64 (N : Nat)] h' = r → J6 tab3 1 [.ptr b 0, .ptr bb 0, n, .int .i64 (N : Nat), .int .i64 (i : Nat)] h = r) := by
  intro k
  induction k with
  | zero =>
    intro i h acc hi y hl
    have hi : i = N := by omega
    subst hi
    rw [List.drop_of_length_le (by omega)]
    refine ⟨fun h => by simp [varsF] at h, fun v hv => ?_⟩
    simp only [varsF, Option.some.injEq] at hv
    subst hv
    exact ⟨h, by rw [List.append_nil]; exact y, by rw [List.append_nil]; omega, fun r _ e => e⟩
  | succ k ih =>
    intro i h acc hi y hl
    obtain ⟨nm, wi, fs, q1, q2, q3, q4⟩ := netsF_at hn i (by omega)
    have d1 : w.names.drop i = nm :: w.names.drop (i + 1) := by
      have := List.drop_eq_getElem_cons (l := w.names) (i := i) (by omega)
      rw [this]
      congr 1
      have := (List.getElem?_eq_some_iff.1 q1).2
      exact this
    have hw : i < w.wides.length := (List.getElem?_eq_some_iff.1 q2).1
    have d2 : w.wides.drop i = wi :: w.wides.drop (i + 1) := by
      have := List.drop_eq_getElem_cons (l := w.wides) (i := i) hw
      rw [this]
      congr 1
      have := (List.getElem?_eq_some_iff.1 q2).2
      exact this
    rw [d1, d2]
    simp only [varsF]
    obtain ⟨s1, s2⟩ := var_step gM x y (by omega) (i := i) (N := N) (by omega) hN q1 q2 q4
    by_cases h95 : nm = [95]
    · rw [if_pos h95]
      exact ⟨fun _ => ⟨h, s1 h95, y.ky⟩, fun v hv => by cases hv⟩
    · rw [if_neg h95]
      obtain ⟨h1, y1, go⟩ := s2 h95
      have hvl := varF_len i wi nm (netF_le q4).1
      obtain ⟨i1, i2⟩ := ih (i + 1) h1 _ (by omega) y1 (by rw [List.length_append]; omega)
      refine ⟨fun hv => ?_, fun v hv => ?_⟩
      · rw [Option.map_eq_none_iff] at hv
        obtain ⟨h', e, k'⟩ := i1 hv
        exact ⟨h', go _ (by simp [resI]) e, k'⟩
      · obtain ⟨v', hv', rfl⟩ := Option.map_eq_some_iff.1 hv
        obtain ⟨h', y', hl', go'⟩ := i2 v' hv'
        rw [List.append_assoc] at y' hl'
        exact ⟨h', y', hl', fun r hr e => go r hr (go' r hr e)⟩
structure ChgOk (N : Nat) (c : Chg) : Prop where
  n0 : 0 ≤ c.net
  n1 : c.net < N
  t0 : 0 ≤ c.time
  t1 : c.time ≤ 4611686018427387903
  v : checkM c.val = true
theorem ChgOk.len {N : Nat} {c : Chg} (x : ChgOk N c) : c.val.length ≤ 256 := by
  have := x.v
  simp only [checkM, Bool.and_eq_true, decide_eq_true_eq] at this
  exact this.1.2
theorem listF_at {N : Nat} {wides : List Int} : ∀ {l : List Chg} {now : List Bs} {p : Option Chg}, listF N wides now p l = true → ∀ c ∈ l, ChgOk N c
  | [], _, _, _, c, hc => by simp at hc
  | d :: l, now, p, h, c, hc => by
    simp only [listF, valF, placeF, Bool.and_eq_true, decide_eq_true_eq] at h
    obtain ⟨⟨⟨⟨⟨h1, h2⟩, h3⟩, h4⟩, h5⟩, ⟨⟨h6, h7⟩, h8⟩, h9⟩ := h
    rcases List.mem_cons.1 hc with rfl | hc
    · exact ⟨h1, h2, h3, h4, h6⟩
    · exact listF_at h9 c hc
theorem vals_loop {hM : H} (gM : Gd hM) {b bb : Nat} {n wd f l : IV} {w : Wv} (x : WB hM b n wd f l w) {N : Nat} (hN : N ≤ 4096) (e1 : w.first.length = N) (hf : ∀ (i : Nat) (v : Bs), w.first[i]? = some v → v.length ≤ 256) : ∀ (k i : Nat) (h : H) (acc : Bs), i + k = N → BL hM h bb acc → acc.length ≤ 1300000 + i * 270 →
    ∃ h', BL hM h' bb (acc ++ valsF i (w.first.drop i)) ∧ (acc ++ valsF i (w.first.drop i)).length ≤ 1300000 + N * 270 ∧ ∀ r, r ≠ .fail → J6 tab3 3 [.ptr b 0, .ptr bb 0, f, .int .i64 (N : Nat), .int .i64 (N : Nat)] h' = r → J6 tab3 3 [.ptr b 0, .ptr bb 0, f, .int .i64 (N : Nat), .int .i64 (i : Nat)] h = r := by
  intro k
  induction k with
  | zero =>
    intro i h acc hi y hl
    have hi : i = N := by omega
    subst hi
    rw [List.drop_of_length_le (by omega)]
    exact ⟨h, by rw [valsF, List.append_nil]; exact y, by rw [valsF, List.append_nil]; exact hl, fun r _ e => e⟩
  | succ k ih =>
    intro i h acc hi y hl
    have xh := x.ky gM.wf y.ky
    obtain ⟨v, q1⟩ : ∃ v, w.first[i]? = some v := ⟨w.first[i]'(by omega), List.getElem?_eq_getElem (by omega)⟩
    have d1 : w.first.drop i = v :: w.first.drop (i + 1) := by
      have := List.drop_eq_getElem_cons (l := w.first) (i := i) (by omega)
      rw [this]
      congr 1
      exact (List.getElem?_eq_some_iff.1 q1).2
    have hv := hf i v q1
    obtain ⟨p, e2, e3⟩ := LR.str xh.wr.first q1
    have ev := value3 y.ky.gd v i hv (by omega)
    have hvl := valueF_len v i
    obtain ⟨h1, ew, y1, _⟩ := writeString bt3 y (valueF v i) (by omega)
    have w1 := wr_succ (show i < 9223372036854775807 by omega)
    have hlt : ((i : Nat) : Int) < (N : Nat) := by omega
    obtain ⟨h', y', hl', go⟩ := ih (i + 1) h1 _ (by omega) y1 (by rw [List.length_append]; omega)
    rw [d1]
    simp only [valsF]
    rw [List.append_assoc] at y' hl'
    refine ⟨h', y', hl', fun r hr e => e6_3 ?_ hr⟩
    simp only [t6_3, W, spanK_u, decide_eq_true_eq, Bool.not_eq_true', decide_eq_false_iff_not, Bool.false_eq_true, Bool.not_true, Bool.not_false, decide_true, decide_false, not_true_eq_false, not_false_eq_true, and_true, true_and, and_false, false_and, ne_eq, Nat.zero_add, Nat.add_zero, cond_true, cond_false, ↓reduceIte, reduceCtorEq, Nat.reduceAdd, Int.reduceEq, Int.reduceNe, Int.reduceLT, Int.reduceLE, Int.reduceAdd, Int.reduceSub, Int.reduceMul, Int.reduceNeg, Nat.reduceMul, List.getElem?_cons_zero, List.getElem?_cons_succ, hlt, e2, e3, ev, ew, w1]
    exact go r hr e
theorem chg_loop {hM : H} (gM : Gd hM) {b bb : Nat} {n wd f l : IV} {w : Wv} (x : WB hM b n wd f l w) {N : Nat} (hN : N ≤ 4096) (hok : ∀ c ∈ w.list, ChgOk N c) (hlen : w.list.length ≤ 9223372036854775807) : ∀ (k i : Nat) (h : H) (acc : Bs), i + k = w.list.length → BL hM h bb acc → acc.length ≤ 3000000 →
    ∃ h', J6 tab3 4 [.ptr b 0, .ptr bb 0, l, .int .i64 (w.list.length : Nat), .int .i64 (i : Nat)] h = .ok (resI (if 1048576 < (acc ++ chgsF (prevAt w.list i) (w.list.drop i)).length then ([], 4) else (acc ++ chgsF (prevAt w.list i) (w.list.drop i), 0))) h' ∧ Ky hM h' := by
  intro k
  induction k with
  | zero =>
    intro i h acc hi y hl
    have hlt : ¬ ((i : Nat) : Int) < (w.list.length : Nat) := by omega
    rw [List.drop_of_length_le (by omega)]
    simp only [chgsF, List.append_nil]
    have el := builderLen good3.step rfl rfl y
    have s0 : IV.str ⟨0, 0⟩ = sv [] := rfl
    by_cases hb : 1048576 < acc.length
    · have hb' : (1048576 : Int) < (acc.length : Nat) := by omega
      rw [if_pos hb]
      refine ⟨h, e6_4 ?_ (by simp [resI]), y.ky⟩
      simp only [t6_4, W, spanK_u, decide_eq_true_eq, Bool.not_eq_true', decide_eq_false_iff_not, Bool.false_eq_true, Bool.not_true, Bool.not_false, decide_true, decide_false, not_true_eq_false, not_false_eq_true, and_true, true_and, and_false, false_and, ne_eq, Nat.zero_add, Nat.add_zero, cond_true, cond_false, ↓reduceIte, reduceCtorEq, Nat.reduceAdd, Int.reduceEq, Int.reduceNe, Int.reduceLT, Int.reduceLE, Int.reduceAdd, Int.reduceSub, Int.reduceMul, Int.reduceNeg, Nat.reduceMul, List.getElem?_cons_zero, List.getElem?_cons_succ, hlt, el, hb', s0]
      rfl
    · have hb' : ¬ (1048576 : Int) < (acc.length : Nat) := by omega
      obtain ⟨h', es, k'⟩ := builderString bt3 y (by omega)
      rw [if_neg hb]
      refine ⟨h', e6_4 ?_ (by simp [resI]), k'⟩
      simp only [t6_4, W, spanK_u, decide_eq_true_eq, Bool.not_eq_true', decide_eq_false_iff_not, Bool.false_eq_true, Bool.not_true, Bool.not_false, decide_true, decide_false, not_true_eq_false, not_false_eq_true, and_true, true_and, and_false, false_and, ne_eq, Nat.zero_add, Nat.add_zero, cond_true, cond_false, ↓reduceIte, reduceCtorEq, Nat.reduceAdd, Int.reduceEq, Int.reduceNe, Int.reduceLT, Int.reduceLE, Int.reduceAdd, Int.reduceSub, Int.reduceMul, Int.reduceNeg, Nat.reduceMul, List.getElem?_cons_zero, List.getElem?_cons_succ, hlt, el, hb', es]
      rfl
  | succ k ih =>
    intro i h acc hi y hl
    have hil : i < w.list.length := by omega
    have xh := x.ky gM.wf y.ky
    obtain ⟨c, hc⟩ : ∃ c, w.list[i]? = some c := ⟨w.list[i], List.getElem?_eq_getElem hil⟩
    have d1 : w.list.drop i = c :: w.list.drop (i + 1) := by
      have := List.drop_eq_getElem_cons hil
      rw [this]
      congr 1
      exact (List.getElem?_eq_some_iff.1 hc).2
    have ok := hok c (List.mem_of_getElem? hc)
    obtain ⟨m, hm⟩ := Int.eq_ofNat_of_zero_le ok.n0
    have hmN : m < N := by have := ok.n1; omega
    have hmt : c.net.toNat = m := by omega
    have hpr : prevAt w.list (i + 1) = some c := by
      unfold prevAt
      rw [if_neg (by omega), Nat.add_sub_cancel]; exact hc
    rw [d1]
    simp only [chgsF]
    obtain ⟨pb, po, q1, q2, _⟩ := LR.chg xh.wr.list hc
    have hlt : ((i : Nat) : Int) < (w.list.length : Nat) := by omega
    obtain ⟨h6, e6, k6, c6, -, -⟩ := (Ky.refl y.ky.gd).newI (cs := z2) rfl
    obtain ⟨o, e7, c7, _⟩ := c6.st (n := 3) (off := 0) (v := .agg (chgC c)) rfl rfl (by show 0 + 3 ≤ 3; omega)
    have hp : placeL z2 0 (IV.agg (chgC c)).cells = chgC c := rfl
    rw [hp] at c7
    have k7 : Ky h (h6.put h.next o) := by
      obtain ⟨tt, q, _⟩ := c6
      exact k6.put (Nat.le_refl _) q (fun fz size cs hh => by cases hh)
    generalize h6.put h.next o = h7 at e7 c7 k7
    have y7 := y.mono k7
    have x7 := xh.ky y.ky.gd.wf k7
    have l0 : I.ld0 h7 (.ptr h.next 0) = some (.int .i64 c.time) := by rw [c7.ld0]; rfl
    have t1 := ok.t0
    have t2 := ok.t1
    have vl := ok.len
    have five : ∀ (h8 : H) (a8 : Bs), BL hM h8 bb a8 → Cs h8 h.next true false (chgC c) → a8.length ≤ 3000100 → (∀ z : Bs, a8 ++ (valueF c.val m ++ z) = acc ++ (chgF (prevAt w.list i) c ++ z)) →
        ∃ h', J6 tab3 5 [.ptr b 0, .ptr bb 0, .ptr h.next 0, l, .int .i64 (w.list.length : Nat), .int .i64 (i : Nat)] h8 = .ok (resI (if 1048576 < (acc ++ (chgF (prevAt w.list i) c ++ chgsF (some c) (w.list.drop (i + 1)))).length then ([], 4) else (acc ++ (chgF (prevAt w.list i) c ++ chgsF (some c) (w.list.drop (i + 1))), 0))) h' ∧ Ky hM h' := by
      intro h8 a8 y8 c8 ha hz
      have l1 : I.ld0 h8 (.ptr h.next 1) = some (.int .i64 (m : Nat)) := by rw [c8.ld0, ← hm]; rfl
      have l2 : I.ld0 h8 (.ptr h.next 2) = some (sv c.val) := by rw [c8.ld0]; rfl
      have ev := value3 y8.ky.gd c.val m vl (by omega)
      have hvl := valueF_len c.val m
      obtain ⟨h9, ew, y9, _⟩ := writeString bt3 y8 (valueF c.val m) (by omega)
      have el := builderLen good3.step rfl rfl y9
      have s0 : IV.str ⟨0, 0⟩ = sv [] := rfl
      have w1 := wr_succ (show i < 9223372036854775807 by omega)
      rw [← hz]
      by_cases hb : 1048576 < (a8 ++ valueF c.val m).length
      · have hb' : (1048576 : Int) < ((a8 ++ valueF c.val m).length : Nat) := by omega
        rw [if_pos (by rw [← List.append_assoc, List.length_append]; omega)]
        refine ⟨h9, e6_5 ?_ (by simp [resI]), y9.ky⟩
        simp only [t6_5, W, spanK_u, decide_eq_true_eq, Bool.not_eq_true', decide_eq_false_iff_not, Bool.false_eq_true, Bool.not_true, Bool.not_false, decide_true, decide_false, not_true_eq_false, not_false_eq_true, and_true, true_and, and_false, false_and, ne_eq, Nat.zero_add, Nat.add_zero, cond_true, cond_false, ↓reduceIte, reduceCtorEq, Nat.reduceAdd, Int.reduceEq, Int.reduceNe, Int.reduceLT, Int.reduceLE, Int.reduceAdd, Int.reduceSub, Int.reduceMul, Int.reduceNeg, Nat.reduceMul, List.getElem?_cons_zero, List.getElem?_cons_succ, l1, l2, ev, ew, el, hb', s0]
        rfl
      · have hb' : ¬ (1048576 : Int) < ((a8 ++ valueF c.val m).length : Nat) := by omega
        obtain ⟨h', e, k'⟩ := ih (i + 1) h9 _ (by omega) y9 (by omega)
        rw [hpr, List.append_assoc] at e
        refine ⟨h', e6_5 ?_ (by simp [resI]), k'⟩
        simp only [t6_5, W, spanK_u, decide_eq_true_eq, Bool.not_eq_true', decide_eq_false_iff_not, Bool.false_eq_true, Bool.not_true, Bool.not_false, decide_true, decide_false, not_true_eq_false, not_false_eq_true, and_true, true_and, and_false, false_and, ne_eq, Nat.zero_add, Nat.add_zero, cond_true, cond_false, ↓reduceIte, reduceCtorEq, Nat.reduceAdd, Int.reduceEq, Int.reduceNe, Int.reduceLT, Int.reduceLE, Int.reduceAdd, Int.reduceSub, Int.reduceMul, Int.reduceNeg, Nat.reduceMul, List.getElem?_cons_zero, List.getElem?_cons_succ, l1, l2, ev, ew, el, hb', w1]
        exact e
    have six : ∀ t : Bool, (t = false ↔ (prevAt w.list i).map (·.time) = some c.time) →
        ∃ h', J6 tab3 6 [.ptr b 0, .ptr bb 0, .ptr h.next 0, l, .int .i64 (w.list.length : Nat), .int .i64 (i : Nat), .bool t] h7 = .ok (resI (if 1048576 < (acc ++ (chgF (prevAt w.list i) c ++ chgsF (some c) (w.list.drop (i + 1)))).length then ([], 4) else (acc ++ (chgF (prevAt w.list i) c ++ chgsF (some c) (w.list.drop (i + 1))), 0))) h' ∧ Ky hM h' := by
      intro t ht
      cases t with
      | false =>
        have hT : timeF (prevAt w.list i) c = [] := by unfold timeF; rw [if_pos (ht.1 rfl)]
        obtain ⟨h', e, k'⟩ := five h7 acc y7 c7 (by omega) (fun z => by simp only [chgF, hT, hmt, List.nil_append])
        refine ⟨h', e6_6 ?_ (by simp [resI]), k'⟩
        simp only [t6_6, W, spanK_u, decide_eq_true_eq, Bool.not_eq_true', decide_eq_false_iff_not, Bool.false_eq_true, Bool.not_true, Bool.not_false, decide_true, decide_false, not_true_eq_false, not_false_eq_true, and_true, true_and, and_false, false_and, ne_eq, Nat.zero_add, Nat.add_zero, cond_true, cond_false, ↓reduceIte, reduceCtorEq, Nat.reduceAdd, Int.reduceEq, Int.reduceNe, Int.reduceLT, Int.reduceLE, Int.reduceAdd, Int.reduceSub, Int.reduceMul, Int.reduceNeg, Nat.reduceMul, List.getElem?_cons_zero, List.getElem?_cons_succ]
        exact e
      | true =>
        have hT : timeF (prevAt w.list i) c = [35] ++ itoaF c.time ++ [10] := by
          unfold timeF
          rw [if_neg (fun hh => by have := ht.2 hh; cases this)]
        have ei := itoa3 (h := h7) c.time (by omega) (by omega)
        have il := itoaF_len c.time
        have c35 : IV.str ⟨1, 35⟩ = sv [35] := rfl
        have c10 : IV.str ⟨1, 10⟩ = sv [10] := rfl
        have a1 : binS .add (sv [35]) (sv (itoaF c.time)) = some (sv ([35] ++ itoaF c.time)) := binS_add _ _ (by simp only [List.length_singleton]; omega)
        have a2 : binS .add (sv ([35] ++ itoaF c.time)) (sv [10]) = some (sv ([35] ++ itoaF c.time ++ [10])) := binS_add _ _ (by simp only [List.length_append, List.length_singleton]; omega)
        have tl : ([35] ++ itoaF c.time ++ [10]).length ≤ 23 := by simp only [List.length_append, List.length_singleton]; omega
        obtain ⟨h8, ew, y8, kp⟩ := writeString bt3 y7 ([35] ++ itoaF c.time ++ [10]) (by omega)
        have hne : h.next ≠ bb := by have := y.lt; omega
        obtain ⟨h', e, k'⟩ := five h8 _ y8 (kp _ _ _ hne c7) (by rw [List.length_append]; omega) (fun z => by simp only [chgF, hT, hmt, List.append_assoc])
        refine ⟨h', e6_6 ?_ (by simp [resI]), k'⟩
        simp only [t6_6, W, spanK_u, decide_eq_true_eq, Bool.not_eq_true', decide_eq_false_iff_not, Bool.false_eq_true, Bool.not_true, Bool.not_false, decide_true, decide_false, not_true_eq_false, not_false_eq_true, and_true, true_and, and_false, false_and, ne_eq, Nat.zero_add, Nat.add_zero, cond_true, cond_false, ↓reduceIte, reduceCtorEq, Nat.reduceAdd, Int.reduceEq, Int.reduceNe, Int.reduceLT, Int.reduceLE, Int.reduceAdd, Int.reduceSub, Int.reduceMul, Int.reduceNeg, Nat.reduceMul, List.getElem?_cons_zero, List.getElem?_cons_succ, l0, ei, c35, a1, c10, a2, ew]
        exact e
    by_cases h0 : i = 0
    · obtain ⟨h', e, k'⟩ := six true ⟨fun h => (by cases h), fun hh => by unfold prevAt at hh; rw [if_pos h0] at hh; cases hh⟩
      refine ⟨h', e6_4 ?_ (by simp [resI]), k'⟩
      have h0' : ((i : Nat) : Int) = 0 := by omega
      simp only [t6_4, W, spanK_u, decide_eq_true_eq, Bool.not_eq_true', decide_eq_false_iff_not, Bool.false_eq_true, Bool.not_true, Bool.not_false, decide_true, decide_false, not_true_eq_false, not_false_eq_true, and_true, true_and, and_false, false_and, ne_eq, Nat.zero_add, Nat.add_zero, cond_true, cond_false, ↓reduceIte, reduceCtorEq, Nat.reduceAdd, Int.reduceEq, Int.reduceNe, Int.reduceLT, Int.reduceLE, Int.reduceAdd, Int.reduceSub, Int.reduceMul, Int.reduceNeg, Nat.reduceMul, List.getElem?_cons_zero, List.getElem?_cons_succ, hlt, q1, q2, e6, e7, eq_true h0', guardK]
      exact e
    · obtain ⟨d, hd⟩ : ∃ d, w.list[i - 1]? = some d := ⟨w.list[i - 1]'(by omega), List.getElem?_eq_getElem (by omega)⟩
      obtain ⟨qb, qo, q3, _, q4⟩ := LR.chg x7.wr.list hd
      have hpv : (prevAt w.list i).map (·.time) = some d.time := by unfold prevAt; rw [if_neg h0, hd]; rfl
      have ws : wr .i64 (((i : Nat) : Int) - 1) = ((i - 1 : Nat) : Int) := by rw [wr_i64 (by omega) (by omega)]; omega
      have h0' : ¬ ((i : Nat) : Int) = 0 := by omega
      have l3 := x7.l3
      by_cases hd2 : d.time = c.time
      · obtain ⟨h', e, k'⟩ := six false ⟨fun _ => by rw [hpv, hd2], fun _ => rfl⟩
        refine ⟨h', e6_4 ?_ (by simp [resI]), k'⟩
        simp only [t6_4, W, spanK_u, decide_eq_true_eq, Bool.not_eq_true', decide_eq_false_iff_not, Bool.false_eq_true, Bool.not_true, Bool.not_false, decide_true, decide_false, not_true_eq_false, not_false_eq_true, and_true, true_and, and_false, false_and, ne_eq, Nat.zero_add, Nat.add_zero, cond_true, cond_false, ↓reduceIte, reduceCtorEq, Nat.reduceAdd, Int.reduceEq, Int.reduceNe, Int.reduceLT, Int.reduceLE, Int.reduceAdd, Int.reduceSub, Int.reduceMul, Int.reduceNeg, Nat.reduceMul, List.getElem?_cons_zero, List.getElem?_cons_succ, hlt, q1, q2, e6, e7, eq_false h0', guardK, l3, ws, q3, Nat.add_zero, q4, l0, eq_true hd2]
        exact e
      · obtain ⟨h', e, k'⟩ := six true ⟨fun h => (by cases h), fun hh => by rw [hpv] at hh; injection hh with hh; exact absurd hh hd2⟩
        refine ⟨h', e6_4 ?_ (by simp [resI]), k'⟩
        simp only [t6_4, W, spanK_u, decide_eq_true_eq, Bool.not_eq_true', decide_eq_false_iff_not, Bool.false_eq_true, Bool.not_true, Bool.not_false, decide_true, decide_false, not_true_eq_false, not_false_eq_true, and_true, true_and, and_false, false_and, ne_eq, Nat.zero_add, Nat.add_zero, cond_true, cond_false, ↓reduceIte, reduceCtorEq, Nat.reduceAdd, Int.reduceEq, Int.reduceNe, Int.reduceLT, Int.reduceLE, Int.reduceAdd, Int.reduceSub, Int.reduceMul, Int.reduceNeg, Nat.reduceMul, List.getElem?_cons_zero, List.getElem?_cons_succ, hlt, q1, q2, e6, e7, eq_false h0', guardK, l3, ws, q3, Nat.add_zero, q4, l0, eq_false hd2]
        exact e
theorem netsF_first {a : List Bs} {b : List Int} {c : List Bs} (h : netsF a b c = true) (i : Nat) (v : Bs) (hv : c[i]? = some v) : v.length ≤ 256 := by
  obtain ⟨l1, l2⟩ := netsF_len h
  have hi : i < c.length := (List.getElem?_eq_some_iff.1 hv).1
  obtain ⟨n, w, f, e1, e2, e3, e4⟩ := netsF_at h i (by omega)
  rw [hv] at e3
  injection e3 with e3
  subst e3
  exact (netF_le e4).2.1
theorem write {h : H} (g : Gd h) {n wd f l : IV} {w : Wv} (r : WR h n wd f l w) (hl : w.list.length ≤ 9223372036854775807) : ∃ h', CL tab3 6 [.agg [n, wd, f, l]] h = .ok (resI (writeF w)) h' ∧ Ky h h' := by
  obtain ⟨h2, e2, k2, c2, -, -⟩ := (Ky.refl g).newI (cs := [n, wd, f, l]) r.scalar
  have lA : I.ldA 4 h2 (.ptr h.next 0) = some (.agg [n, wd, f, l]) := c2.ldAll rfl
  obtain ⟨h5, ec, k5⟩ := waveCheck k2.gd (r.ky g.wf k2) hl
  have k25 := k2.trans k5
  have s0 : IV.str ⟨0, 0⟩ = sv [] := rfl
  unfold writeF
  cases hF : waveF w with
  | false =>
    rw [hF] at ec
    refine ⟨h5, c6 good3.step rfl rfl g ?_ (by simp [resI]), k25⟩
    have h10 : ¬ (1 : Int) = 0 := by decide
    simp only [t6_0, IV.cells, e2, W, spanK_u, decide_eq_true_eq, Bool.not_eq_true', decide_eq_false_iff_not, Bool.false_eq_true, Bool.not_true, Bool.not_false, decide_true, decide_false, not_true_eq_false, not_false_eq_true, and_true, true_and, and_false, false_and, ne_eq, Nat.zero_add, Nat.add_zero, cond_true, cond_false, ↓reduceIte, reduceCtorEq, Nat.reduceAdd, Int.reduceEq, Int.reduceNe, Int.reduceLT, Int.reduceLE, Int.reduceAdd, Int.reduceSub, Int.reduceMul, Int.reduceNeg, Nat.reduceMul, List.getElem?_cons_zero, List.getElem?_cons_succ, lA, ec, Bool.false_eq_true, if_false, h10, s0]
    rfl
  | true =>
    rw [hF] at ec
    have hF' := hF
    simp only [waveF, Bool.and_eq_true, decide_eq_true_eq] at hF'
    obtain ⟨⟨hN, hn⟩, hls⟩ := hF'
    obtain ⟨le1, le2⟩ := netsF_len hn
    have x : WB h5 h.next n wd f l w := ⟨c2.ky k2.gd.wf k5, r.ky g.wf k25⟩
    obtain ⟨h8, eb, y0⟩ := newB_bl k5.gd
    obtain ⟨h10, ew, y1, _⟩ := writeString bt3 y0 headF (by decide)
    rw [List.nil_append] at y1
    have x10 := x.ky k5.gd.wf y1.ky
    have l0 := x10.l0
    have n0 := x10.wr.names.len
    have start : ∀ r : CRes, r ≠ .fail → J6 tab3 1 [.ptr h.next 0, .ptr h5.next 0, n, .int .i64 (w.names.length : Nat), .int .i64 ((0 : Nat) : Int)] h10 = r → CL tab3 6 [.agg [n, wd, f, l]] h = r := by
      intro r hr e
      refine c6 good3.step rfl rfl g ?_ hr
      have eb' : newB h5 [.nilPtr, .nilSlice] tyB = some (.ptr h5.next 0, h8) := eb
      simp only [t6_0, IV.cells, e2, W, spanK_u, decide_eq_true_eq, Bool.not_eq_true', decide_eq_false_iff_not, Bool.false_eq_true, Bool.not_true, Bool.not_false, decide_true, decide_false, not_true_eq_false, not_false_eq_true, and_true, true_and, and_false, false_and, ne_eq, Nat.zero_add, Nat.add_zero, cond_true, cond_false, ↓reduceIte, reduceCtorEq, Nat.reduceAdd, Int.reduceEq, Int.reduceNe, Int.reduceLT, Int.reduceLE, Int.reduceAdd, Int.reduceSub, Int.reduceMul, Int.reduceNeg, Nat.reduceMul, List.getElem?_cons_zero, List.getElem?_cons_succ, lA, ec, if_true, eb', head_sv, ew, l0, n0, Int.ofNat_eq_natCast]
      exact e
    obtain ⟨v1, v2⟩ := vars_loop k5.gd x hN rfl hn w.names.length 0 h10 headF (by omega) y1 (by decide)
    simp only [List.drop_zero] at v1 v2
    rw [if_pos rfl]
    cases hv : varsF 0 w.names w.wides with
    | none =>
      obtain ⟨h', e, k'⟩ := v1 hv
      exact ⟨h', start _ (by simp [resI]) e, k25.trans k'⟩
    | some v =>
      obtain ⟨h20, y20, b20, go⟩ := v2 v hv
      obtain ⟨h21, em, y21, _⟩ := writeString bt3 y20 midF (by have : midF.length = 45 := rfl; omega)
      have x21 := x.ky k5.gd.wf y21.ky
      have ml : midF.length = 45 := rfl
      have el : endF.length = 5 := rfl
      have b21 : (headF ++ v ++ midF).length ≤ 1300000 := by rw [List.length_append]; omega
      obtain ⟨h30, y30, b30, go2⟩ := vals_loop k5.gd x hN (le2.trans rfl) (fun i v hv => netsF_first hn i v hv) w.names.length 0 h21 _ (by omega) y21 (by omega)
      rw [List.drop_zero] at y30 b30
      obtain ⟨h31, ee, y31, _⟩ := writeString bt3 y30 endF (by omega)
      have x31 := x.ky k5.gd.wf y31.ky
      have hb : headF ++ v ++ midF ++ valsF 0 w.first ++ endF = baseF w v := rfl
      rw [hb] at y31
      have bb : (baseF w v).length ≤ 3000000 := by rw [← hb, List.length_append]; omega
      obtain ⟨h', e, k'⟩ := chg_loop k5.gd x hN (listF_at hls) hl w.list.length 0 h31 (baseF w v) (by omega) y31 bb
      rw [List.drop_zero, show prevAt w.list 0 = none from rfl] at e
      refine ⟨h', start _ (by simp [resI]) (go _ (by simp [resI]) ?_), k25.trans k'⟩
      refine e6_1 ?_ (by simp [resI])
      have l2 := x21.l2
      have n2 := x21.wr.first.len
      rw [le2] at n2
      simp only [t6_1, W, spanK_u, decide_eq_true_eq, Bool.not_eq_true', decide_eq_false_iff_not, Bool.false_eq_true, Bool.not_true, Bool.not_false, decide_true, decide_false, not_true_eq_false, not_false_eq_true, and_true, true_and, and_false, false_and, ne_eq, Nat.zero_add, Nat.add_zero, cond_true, cond_false, ↓reduceIte, reduceCtorEq, Nat.reduceAdd, Int.reduceEq, Int.reduceNe, Int.reduceLT, Int.reduceLE, Int.reduceAdd, Int.reduceSub, Int.reduceMul, Int.reduceNeg, Nat.reduceMul, List.getElem?_cons_zero, List.getElem?_cons_succ, Int.lt_irrefl, mid_sv, em, l2, n2, Int.ofNat_eq_natCast]
      refine go2 _ (by simp [resI]) ?_
      refine e6_3 ?_ (by simp [resI])
      have l3 := x31.l3
      have n3 := x31.wr.list.len
      simp only [t6_3, W, spanK_u, decide_eq_true_eq, Bool.not_eq_true', decide_eq_false_iff_not, Bool.false_eq_true, Bool.not_true, Bool.not_false, decide_true, decide_false, not_true_eq_false, not_false_eq_true, and_true, true_and, and_false, false_and, ne_eq, Nat.zero_add, Nat.add_zero, cond_true, cond_false, ↓reduceIte, reduceCtorEq, Nat.reduceAdd, Int.reduceEq, Int.reduceNe, Int.reduceLT, Int.reduceLE, Int.reduceAdd, Int.reduceSub, Int.reduceMul, Int.reduceNeg, Nat.reduceMul, List.getElem?_cons_zero, List.getElem?_cons_succ, Int.lt_irrefl, end_sv, ee, l3, n3, Int.ofNat_eq_natCast]
      exact e
structure Kw (h₀ h : H) : Prop where
  wf : WF h
  pol : h.pol = h₀.pol
  next : h₀.next ≤ h.next
  low : ∀ b, b < h₀.next → h.get b = h₀.get b
  ty : ∀ b, b < h₀.next → h.tys.get b = h₀.tys.get b
theorem Kw.refl {h : H} (w : WF h) : Kw h h := ⟨w, rfl, Nat.le_refl _, fun _ _ => rfl, fun _ _ => rfl⟩
theorem Kw.trans {a b c : H} (x : Kw a b) (y : Kw b c) : Kw a c :=
  ⟨y.wf, y.pol.trans x.pol, Nat.le_trans x.next y.next, fun k hk => (y.low k (Nat.lt_of_lt_of_le hk x.next)).trans (x.low k hk), fun k hk => (y.ty k (Nat.lt_of_lt_of_le hk x.next)).trans (x.ty k hk)⟩
theorem Kw.push {h₀ h : H} (x : Kw h₀ h) (o : I.Obj) : Kw h₀ (h.push o) :=
  ⟨(Step.push h o x.wf).1, x.pol, Nat.le_succ_of_le x.next, fun b hb => by rw [H.get_push, if_neg (by have := x.next; omega)]; exact x.low b hb, x.ty⟩
theorem Kw.newI {h₀ h : H} (x : Kw h₀ h) {cs : List IV} (hs : allScalar cs = true) : ∃ h', I.newI h cs = some (.ptr h.next 0, h') ∧ Kw h₀ h' ∧ Cs h' h.next true false cs ∧ Kw h h' :=
  ⟨_, by rw [newI_eq]; rw [if_pos hs], x.push _, .push cs, (Kw.refl x.wf).push _⟩
theorem Kw.put {h₀ h : H} (x : Kw h₀ h) {b : Nat} {q o : I.Obj} (hb : h₀.next ≤ b) (hq : h.get b = some q) (ho : ∀ fz size cs, q = .cells false fz size cs → ∃ fz', o = .cells false fz' size cs) : Kw h₀ (h.put b o) :=
  ⟨(Step.put hq ho x.wf).1, x.pol, x.next, fun k hk => by rw [H.get_put, if_neg (by omega)]; exact x.low k hk, x.ty⟩
theorem Cs.kw {h h' : H} {b : Nat} {rw fz : Bool} {cs : List IV} (c : Cs h b rw fz cs) (w : WF h) (x : Kw h h') : Cs h' b rw fz cs := c.of_get (x.low b (c.lt w))
theorem LR.kw {α : Type} {h h' : H} {es : Nat} {R : α → List IV → Prop} {l : List α} {v : IV} (r : LR h es R l v) (w : WF h) (x : Kw h h') : LR h' es R l v := by
  rcases r with r | ⟨b, off, cs, h1, ⟨fz, c⟩, h3, h4⟩
  · exact .inl r
  · exact .inr ⟨b, off, cs, h1, ⟨fz, Cs.kw c w x⟩, h3, h4⟩
theorem LW.kw {h h' : H} {l : List Int} {v : IV} (r : LW h l v) (w : WF h) (x : Kw h h') : LW h' l v := by
  rcases r with r | ⟨b, fz, h1, c⟩
  · exact .inl (LR.kw r w x)
  · exact .inr ⟨b, fz, h1, Cs.kw c w x⟩
theorem WB.kw {h h' : H} {b : Nat} {n wd f l : IV} {w : Wv} (x : WB h b n wd f l w) (g : WF h) (y : Kw h h') : WB h' b n wd f l w := ⟨Cs.kw x.cs g y, ⟨LR.kw x.wr.names g y, LW.kw x.wr.wides g y, LR.kw x.wr.first g y, LR.kw x.wr.list g y⟩⟩
theorem named4 {h : H} (s : Bs) (hs : s.length ≤ 9223372036854775807) : CL tab4 41 [sv s] h = .ok (.bool (s.all okC && decide (s.length ≤ 256))) h := call1 (A := dS) (a := s) rfl (by unfold namedV; rw [if_pos hs]) h
theorem may4 {h : H} (s : Bs) (hs : s.length ≤ 9223372036854775807) : CL tab4 42 [sv s] h = .ok (.bool (checkM s)) h := call1 (A := dS) (a := s) rfl (by unfold mayV; rw [if_pos hs]) h
theorem aheadW4 {h : H} (a b : Chg) : CL tab4 43 [.agg (chgC a), .agg (chgC b)] h = .ok (.bool (aheadB a b)) h := call2 (A := dC) (B := dC) (a := a) (b := b) rfl rfl h
theorem mnet_step {h : H} {b : Nat} {n wd f l : IV} {w : Wv} (x : WB h b n wd f l w) {i N : Nat} (hi : i < N) {nm fs : Bs} {wi : Int} (e1 : w.names[i]? = some nm) (e2 : w.wides[i]? = some wi) (e3 : w.first[i]? = some fs) (bn : nm.length ≤ 9223372036854775807) (bf : fs.length ≤ 9223372036854775807) {r : CRes} (hr : r ≠ .fail)
    (e : J20 tab4 2 [.ptr b 0, .int .i64 (N : Nat), .int .i64 (i : Nat), .bool (!(netF nm wi fs))] h = r) : J20 tab4 1 [.ptr b 0, .int .i64 (N : Nat), .int .i64 (i : Nat)] h = r := by
  obtain ⟨p1, q1, r1⟩ := LR.str x.wr.names e1
  obtain ⟨p2, q2, r2⟩ := LW.int x.wr.wides e2
  obtain ⟨p3, q3, r3⟩ := LR.str x.wr.first e3
  have hlt : ((i : Nat) : Int) < (N : Nat) := by omega
  have l0 := x.l0
  have l1 := x.l1
  have l2 := x.l2
  have en := named4 (h := h) nm bn
  have ek := may4 (h := h) fs bf
  refine e20_1 ?_ hr
  cases h2 : (nm.all okC && decide (nm.length ≤ 256)) with
  | false =>
    rw [h2] at en
    have hn : netF nm wi fs = false := by
      unfold netF
      rw [Bool.and_comm (decide (nm.length ≤ 256)), h2]; rfl
    rw [hn] at e
    simp only [t20_1, W, spanK_u, decide_eq_true_eq, Bool.not_eq_true', decide_eq_false_iff_not, Bool.false_eq_true, Bool.not_true, Bool.not_false, decide_true, decide_false, not_true_eq_false, not_false_eq_true, and_true, true_and, and_false, false_and, ne_eq, Nat.zero_add, Nat.add_zero, cond_true, cond_false, ↓reduceIte, reduceCtorEq, Nat.reduceAdd, Int.reduceEq, Int.reduceNe, Int.reduceLT, Int.reduceLE, Int.reduceAdd, Int.reduceSub, Int.reduceMul, Int.reduceNeg, Nat.reduceMul, List.getElem?_cons_zero, List.getElem?_cons_succ, hlt, l0, q1, r1, en, Bool.not_false, guardK]
    exact e
  | true =>
    rw [h2] at en
    have hN : netF nm wi fs = (checkM fs && decide ((fs.length : Int) = wi)) := by
      unfold netF
      rw [Bool.and_comm (decide (nm.length ≤ 256)), h2, Bool.true_and]
    cases h3 : checkM fs with
    | false =>
      rw [h3] at ek
      have hn : netF nm wi fs = false := by rw [hN, h3]; rfl
      rw [hn] at e
      simp only [t20_1, W, spanK_u, decide_eq_true_eq, Bool.not_eq_true', decide_eq_false_iff_not, Bool.false_eq_true, Bool.not_true, Bool.not_false, decide_true, decide_false, not_true_eq_false, not_false_eq_true, and_true, true_and, and_false, false_and, ne_eq, Nat.zero_add, Nat.add_zero, cond_true, cond_false, ↓reduceIte, reduceCtorEq, Nat.reduceAdd, Int.reduceEq, Int.reduceNe, Int.reduceLT, Int.reduceLE, Int.reduceAdd, Int.reduceSub, Int.reduceMul, Int.reduceNeg, Nat.reduceMul, List.getElem?_cons_zero, List.getElem?_cons_succ, hlt, l0, l2, q1, r1, q3, r3, en, ek, Bool.not_true, Bool.not_false, guardK]
      exact e
    | true =>
      rw [h3] at ek
      by_cases h4 : ((fs.length : Nat) : Int) = wi
      · have hn : netF nm wi fs = true := by rw [hN, h3, decide_eq_true h4]; rfl
        rw [hn] at e
        simp only [t20_1, W, spanK_u, decide_eq_true_eq, Bool.not_eq_true', decide_eq_false_iff_not, Bool.false_eq_true, Bool.not_true, Bool.not_false, decide_true, decide_false, not_true_eq_false, not_false_eq_true, and_true, true_and, and_false, false_and, ne_eq, Nat.zero_add, Nat.add_zero, cond_true, cond_false, ↓reduceIte, reduceCtorEq, Nat.reduceAdd, Int.reduceEq, Int.reduceNe, Int.reduceLT, Int.reduceLE, Int.reduceAdd, Int.reduceSub, Int.reduceMul, Int.reduceNeg, Nat.reduceMul, List.getElem?_cons_zero, List.getElem?_cons_succ, hlt, l0, l1, l2, q1, r1, q2, r2, q3, r3, en, ek, Bool.not_true, Bool.not_false, guardK, eq_true h4]
        exact e
      · have hn : netF nm wi fs = false := by rw [hN, h3, decide_eq_false h4]; rfl
        rw [hn] at e
        simp only [t20_1, W, spanK_u, decide_eq_true_eq, Bool.not_eq_true', decide_eq_false_iff_not, Bool.false_eq_true, Bool.not_true, Bool.not_false, decide_true, decide_false, not_true_eq_false, not_false_eq_true, and_true, true_and, and_false, false_and, ne_eq, Nat.zero_add, Nat.add_zero, cond_true, cond_false, ↓reduceIte, reduceCtorEq, Nat.reduceAdd, Int.reduceEq, Int.reduceNe, Int.reduceLT, Int.reduceLE, Int.reduceAdd, Int.reduceSub, Int.reduceMul, Int.reduceNeg, Nat.reduceMul, List.getElem?_cons_zero, List.getElem?_cons_succ, hlt, l0, l1, l2, q1, r1, q2, r2, q3, r3, en, ek, Bool.not_true, Bool.not_false, guardK, eq_false h4]
        exact e
theorem mchg_step {h : H} (g : WF h) {b : Nat} {n wd f l now : IV} {w : Wv} (x : WB h b n wd f l w) {i N : Nat} {c : Chg} (e1 : w.list[i]? = some c) (hlen : w.list.length ≤ 9223372036854775807) :
    ∃ h' c8, Kw h h' ∧ h.next ≤ c8 ∧ Cs h' c8 true false (chgC c) ∧ ∀ r, r ≠ .fail → J20 tab4 4 [.ptr b 0, .int .i64 (N : Nat), now, .int .i64 (i : Nat), .ptr c8 0, .bool (!(placeF N (prevAt w.list i) c))] h' = r →
    J20 tab4 3 [.ptr b 0, .int .i64 (N : Nat), now, .int .i64 (i : Nat)] h = r := by
  obtain ⟨pb, po, q1, q2, _⟩ := LR.chg x.wr.list e1
  have hil : i < w.list.length := (List.getElem?_eq_some_iff.1 e1).1
  have hlt : ((i : Nat) : Int) < (w.list.length : Nat) := by omega
  obtain ⟨h6, e6, k6, c6, -⟩ := (Kw.refl g).newI (cs := z2) rfl
  obtain ⟨o, e7, c7, _⟩ := c6.st (n := 3) (off := 0) (v := .agg (chgC c)) rfl rfl (by show 0 + 3 ≤ 3; omega)
  have hp : placeL z2 0 (IV.agg (chgC c)).cells = chgC c := rfl
  rw [hp] at c7
  have k7 : Kw h (h6.put h.next o) := by
    obtain ⟨tt, q, _⟩ := c6
    exact k6.put (Nat.le_refl _) q (fun fz size cs hh => by cases hh)
  generalize h6.put h.next o = h7 at e7 c7 k7
  refine ⟨h7, h.next, k7, Nat.le_refl _, c7, fun r hr e => ?_⟩
  have l0 : I.ld0 h7 (.ptr h.next 0) = some (.int .i64 c.time) := by rw [c7.ld0]; rfl
  have l1 : I.ld0 h7 (.ptr h.next 1) = some (.int .i64 c.net) := by rw [c7.ld0]; rfl
  have lA : I.ldA 3 h7 (.ptr h.next 0) = some (.agg (chgC c)) := c7.ldAll rfl
  have x7 := x.kw g k7
  have l3 := x7.l3
  have m3 := x.l3
  have n3 := x.wr.list.len
  refine e20_3 ?_ hr
  by_cases h1 : c.net < 0
  · have hn : placeF N (prevAt w.list i) c = false := by
      have : ¬ 0 ≤ c.net := by omega
      simp [placeF, this]
    rw [hn] at e
    simp only [t20_3, W, spanK_u, decide_eq_true_eq, Bool.not_eq_true', decide_eq_false_iff_not, Bool.false_eq_true, Bool.not_true, Bool.not_false, decide_true, decide_false, not_true_eq_false, not_false_eq_true, and_true, true_and, and_false, false_and, ne_eq, Nat.zero_add, Nat.add_zero, cond_true, cond_false, ↓reduceIte, reduceCtorEq, Nat.reduceAdd, Int.reduceEq, Int.reduceNe, Int.reduceLT, Int.reduceLE, Int.reduceAdd, Int.reduceSub, Int.reduceMul, Int.reduceNeg, Nat.reduceMul, List.getElem?_cons_zero, List.getElem?_cons_succ, m3, n3, Int.ofNat_eq_natCast, hlt, q1, q2, e6, e7, l0, l1, h1, guardK]
    exact e
  · have h1' : 0 ≤ c.net := by omega
    by_cases h2 : ((N : Nat) : Int) ≤ c.net
    · have hn : placeF N (prevAt w.list i) c = false := by
        have : ¬ c.net < N := by omega
        simp [placeF, this]
      rw [hn] at e
      simp only [t20_3, W, spanK_u, decide_eq_true_eq, Bool.not_eq_true', decide_eq_false_iff_not, Bool.false_eq_true, Bool.not_true, Bool.not_false, decide_true, decide_false, not_true_eq_false, not_false_eq_true, and_true, true_and, and_false, false_and, ne_eq, Nat.zero_add, Nat.add_zero, cond_true, cond_false, ↓reduceIte, reduceCtorEq, Nat.reduceAdd, Int.reduceEq, Int.reduceNe, Int.reduceLT, Int.reduceLE, Int.reduceAdd, Int.reduceSub, Int.reduceMul, Int.reduceNeg, Nat.reduceMul, List.getElem?_cons_zero, List.getElem?_cons_succ, m3, n3, Int.ofNat_eq_natCast, hlt, q1, q2, e6, e7, l0, l1, h1, h2, guardK]
      exact e
    · have h2' : c.net < N := by omega
      by_cases h3 : c.time < 0
      · have hn : placeF N (prevAt w.list i) c = false := by
          have : ¬ 0 ≤ c.time := by omega
          simp [placeF, this]
        rw [hn] at e
        simp only [t20_3, W, spanK_u, decide_eq_true_eq, Bool.not_eq_true', decide_eq_false_iff_not, Bool.false_eq_true, Bool.not_true, Bool.not_false, decide_true, decide_false, not_true_eq_false, not_false_eq_true, and_true, true_and, and_false, false_and, ne_eq, Nat.zero_add, Nat.add_zero, cond_true, cond_false, ↓reduceIte, reduceCtorEq, Nat.reduceAdd, Int.reduceEq, Int.reduceNe, Int.reduceLT, Int.reduceLE, Int.reduceAdd, Int.reduceSub, Int.reduceMul, Int.reduceNeg, Nat.reduceMul, List.getElem?_cons_zero, List.getElem?_cons_succ, m3, n3, Int.ofNat_eq_natCast, hlt, q1, q2, e6, e7, l0, l1, h1, h2, h3, guardK]
        exact e
      · have h3' : 0 ≤ c.time := by omega
        by_cases h4 : 4611686018427387903 < c.time
        · have hn : placeF N (prevAt w.list i) c = false := by
            have : ¬ c.time ≤ 4611686018427387903 := by omega
            simp [placeF, this]
          rw [hn] at e
          simp only [t20_3, W, spanK_u, decide_eq_true_eq, Bool.not_eq_true', decide_eq_false_iff_not, Bool.false_eq_true, Bool.not_true, Bool.not_false, decide_true, decide_false, not_true_eq_false, not_false_eq_true, and_true, true_and, and_false, false_and, ne_eq, Nat.zero_add, Nat.add_zero, cond_true, cond_false, ↓reduceIte, reduceCtorEq, Nat.reduceAdd, Int.reduceEq, Int.reduceNe, Int.reduceLT, Int.reduceLE, Int.reduceAdd, Int.reduceSub, Int.reduceMul, Int.reduceNeg, Nat.reduceMul, List.getElem?_cons_zero, List.getElem?_cons_succ, m3, n3, Int.ofNat_eq_natCast, hlt, q1, q2, e6, e7, l0, l1, h1, h2, h3, h4, guardK]
          exact e
        · have h4' : c.time ≤ 4611686018427387903 := by omega
          by_cases h5 : i = 0
          · have hn : placeF N (prevAt w.list i) c = true := by simp [placeF, h1', h2', h3', h4', prevAt, h5, prevF]
            have h5' : ¬ (0 : Int) < (i : Nat) := by omega
            rw [hn] at e
            simp only [t20_3, W, spanK_u, decide_eq_true_eq, Bool.not_eq_true', decide_eq_false_iff_not, Bool.false_eq_true, Bool.not_true, Bool.not_false, decide_true, decide_false, not_true_eq_false, not_false_eq_true, and_true, true_and, and_false, false_and, ne_eq, Nat.zero_add, Nat.add_zero, cond_true, cond_false, ↓reduceIte, reduceCtorEq, Nat.reduceAdd, Int.reduceEq, Int.reduceNe, Int.reduceLT, Int.reduceLE, Int.reduceAdd, Int.reduceSub, Int.reduceMul, Int.reduceNeg, Nat.reduceMul, List.getElem?_cons_zero, List.getElem?_cons_succ, m3, n3, Int.ofNat_eq_natCast, hlt, q1, q2, e6, e7, l0, l1, h1, h2, h3, h4, h5', guardK]
            exact e
          · have h5' : (0 : Int) < (i : Nat) := by omega
            obtain ⟨d, hd⟩ : ∃ d, w.list[i - 1]? = some d := ⟨w.list[i - 1]'(by omega), List.getElem?_eq_getElem (by omega)⟩
            obtain ⟨qb, qo, q3, q4, _⟩ := LR.chg x7.wr.list hd
            have ws : wr .i64 (((i : Nat) : Int) - 1) = ((i - 1 : Nat) : Int) := by rw [wr_i64 (by omega) (by omega)]; omega
            have ea := aheadW4 (h := h7) d c
            have hn : placeF N (prevAt w.list i) c = aheadB d c := by
              simp [placeF, h1', h2', h3', h4', prevAt, h5, hd, prevF]
            rw [hn] at e
            cases h6 : aheadB d c with
            | true =>
              rw [h6] at e ea
              simp only [t20_3, W, spanK_u, decide_eq_true_eq, Bool.not_eq_true', decide_eq_false_iff_not, Bool.false_eq_true, Bool.not_true, Bool.not_false, decide_true, decide_false, not_true_eq_false, not_false_eq_true, and_true, true_and, and_false, false_and, ne_eq, Nat.zero_add, Nat.add_zero, cond_true, cond_false, ↓reduceIte, reduceCtorEq, Nat.reduceAdd, Int.reduceEq, Int.reduceNe, Int.reduceLT, Int.reduceLE, Int.reduceAdd, Int.reduceSub, Int.reduceMul, Int.reduceNeg, Nat.reduceMul, List.getElem?_cons_zero, List.getElem?_cons_succ, m3, n3, Int.ofNat_eq_natCast, hlt, q1, q2, e6, e7, l0, l1, h1, h2, h3, h4, h5', guardK, l3, ws, q3, q4, lA, ea, Bool.not_true]
              exact e
            | false =>
              rw [h6] at e ea
              simp only [t20_3, W, spanK_u, decide_eq_true_eq, Bool.not_eq_true', decide_eq_false_iff_not, Bool.false_eq_true, Bool.not_true, Bool.not_false, decide_true, decide_false, not_true_eq_false, not_false_eq_true, and_true, true_and, and_false, false_and, ne_eq, Nat.zero_add, Nat.add_zero, cond_true, cond_false, ↓reduceIte, reduceCtorEq, Nat.reduceAdd, Int.reduceEq, Int.reduceNe, Int.reduceLT, Int.reduceLE, Int.reduceAdd, Int.reduceSub, Int.reduceMul, Int.reduceNeg, Nat.reduceMul, List.getElem?_cons_zero, List.getElem?_cons_succ, m3, n3, Int.ofNat_eq_natCast, hlt, q1, q2, e6, e7, l0, l1, h1, h2, h3, h4, h5', guardK, l3, ws, q3, q4, lA, ea, Bool.not_false]
              exact e
theorem mval_step {hM h : H} (k : Kw hM h) (gM : WF hM) {b : Nat} {n wd f l nowV : IV} {w : Wv} (x : WB hM b n wd f l w) {i N : Nat} (hN : w.wides.length = N) {c : Chg} {now : List Bs} (nw : Now hM h N nowV now) (c0 : 0 ≤ c.net) (cN : c.net < N) {c8 : Nat} (hc8 : hM.next ≤ c8) (cc : Cs h c8 true false (chgC c))
    (hcn : ∀ nb, nowV = .slice nb 0 N 1 → c8 ≠ nb) (hi : i < 9223372036854775807) (bv : c.val.length ≤ 9223372036854775807) :
    (valF w.wides now c = false → J20 tab4 4 [.ptr b 0, .int .i64 (N : Nat), nowV, .int .i64 (i : Nat), .ptr c8 0, .bool false] h = .ok (.bool false) h) ∧
    (valF w.wides now c = true → ∃ h', Kw hM h' ∧ Now hM h' N nowV (now.set c.net.toNat c.val) ∧ ∀ r, r ≠ .fail → J20 tab4 3 [.ptr b 0, .int .i64 (N : Nat), nowV, .int .i64 ((i + 1 : Nat) : Int)] h' = r → J20 tab4 4 [.ptr b 0, .int .i64 (N : Nat), nowV, .int .i64 (i : Nat), .ptr c8 0, .bool false] h = r) := by
  have xh := x.kw gM k
  obtain ⟨m, hm⟩ := Int.eq_ofNat_of_zero_le c0
  have hmN : m < N := by omega
  have hmt : c.net.toNat = m := by omega
  obtain ⟨nl, nw⟩ := nw
  obtain ⟨nb, fz, rfl, hnb, cn⟩ := nw (by omega)
  have l1 : I.ld0 h (.ptr c8 1) = some (.int .i64 (m : Nat)) := by rw [cc.ld0, ← hm]; rfl
  have l2 : I.ld0 h (.ptr c8 2) = some (sv c.val) := by rw [cc.ld0]; rfl
  have w1 := xh.l1
  obtain ⟨wi, hwi⟩ : ∃ wi, w.wides[m]? = some wi := ⟨w.wides[m]'(by omega), List.getElem?_eq_getElem (by omega)⟩
  obtain ⟨pw, qw, rw_⟩ := LW.int xh.wr.wides hwi
  obtain ⟨nv, hnv⟩ : ∃ nv, now[m]? = some nv := ⟨now[m]'(by omega), List.getElem?_eq_getElem (by omega)⟩
  have qn : ixS 1 (.slice nb 0 N 1) (.int .i64 (m : Nat)) = some (.ptr nb m) := by
    have := ixS_at (i := m) (n := N) (b := nb) (es := 1) (k := .i64) hmN
    rw [Nat.mul_one] at this; exact this
  have ln : I.ld0 h (.ptr nb m) = some (sv nv) := by rw [cn.ld0, List.getElem?_map, hnv]; rfl
  have ek := may4 (h := h) c.val bv
  have eV : valF w.wides now c = (checkM c.val && decide ((c.val.length : Int) = wi) && !decide (c.val = nv)) := by
    unfold valF
    rw [hmt, hwi, hnv]
    congr 1
    · congr 1
      apply decide_eq_decide.2
      simp only [Option.some.injEq]
      exact eq_comm
    · congr 1
      apply decide_eq_decide.2
      simp only [Option.some.injEq]
      exact eq_comm
  rw [eV]
  have five : ∀ t r, r ≠ .fail → J20 tab4 5 [.ptr b 0, .int .i64 (N : Nat), .slice nb 0 N 1, .int .i64 (i : Nat), .ptr c8 0, .bool t] h = r → (J20 tab4 5 [.ptr b 0, .int .i64 (N : Nat), .slice nb 0 N 1, .int .i64 (i : Nat), .ptr c8 0, .bool t] h = r) := fun _ _ _ e => e
  have bad5 : J20 tab4 5 [.ptr b 0, .int .i64 (N : Nat), .slice nb 0 N 1, .int .i64 (i : Nat), .ptr c8 0, .bool true] h = .ok (.bool false) h :=
    e20_5 (by simp only [t20_5, W, spanK_u, decide_eq_true_eq, Bool.not_eq_true', decide_eq_false_iff_not, Bool.false_eq_true, Bool.not_true, Bool.not_false, decide_true, decide_false, not_true_eq_false, not_false_eq_true, and_true, true_and, and_false, false_and, ne_eq, Nat.zero_add, Nat.add_zero, cond_true, cond_false, ↓reduceIte, reduceCtorEq, Nat.reduceAdd, Int.reduceEq, Int.reduceNe, Int.reduceLT, Int.reduceLE, Int.reduceAdd, Int.reduceSub, Int.reduceMul, Int.reduceNeg, Nat.reduceMul, List.getElem?_cons_zero, List.getElem?_cons_succ]) (by simp)
  cases h1 : checkM c.val with
  | false =>
    rw [h1] at ek
    refine ⟨fun _ => e20_4 ?_ (by simp), fun h => by simp at h⟩
    simp only [t20_4, W, spanK_u, decide_eq_true_eq, Bool.not_eq_true', decide_eq_false_iff_not, Bool.false_eq_true, Bool.not_true, Bool.not_false, decide_true, decide_false, not_true_eq_false, not_false_eq_true, and_true, true_and, and_false, false_and, ne_eq, Nat.zero_add, Nat.add_zero, cond_true, cond_false, ↓reduceIte, reduceCtorEq, Nat.reduceAdd, Int.reduceEq, Int.reduceNe, Int.reduceLT, Int.reduceLE, Int.reduceAdd, Int.reduceSub, Int.reduceMul, Int.reduceNeg, Nat.reduceMul, List.getElem?_cons_zero, List.getElem?_cons_succ, l2, ek, Bool.not_false, guardK]
    exact bad5
  | true =>
    rw [h1] at ek
    by_cases h2 : ((c.val.length : Nat) : Int) = wi
    · by_cases h3 : c.val = nv
      · refine ⟨fun _ => e20_4 ?_ (by simp), fun h => by simp [h3] at h⟩
        simp only [t20_4, W, spanK_u, decide_eq_true_eq, Bool.not_eq_true', decide_eq_false_iff_not, Bool.false_eq_true, Bool.not_true, Bool.not_false, decide_true, decide_false, not_true_eq_false, not_false_eq_true, and_true, true_and, and_false, false_and, ne_eq, Nat.zero_add, Nat.add_zero, cond_true, cond_false, ↓reduceIte, reduceCtorEq, Nat.reduceAdd, Int.reduceEq, Int.reduceNe, Int.reduceLT, Int.reduceLE, Int.reduceAdd, Int.reduceSub, Int.reduceMul, Int.reduceNeg, Nat.reduceMul, List.getElem?_cons_zero, List.getElem?_cons_succ, l1, l2, ek, Bool.not_true, guardK, w1, qw, rw_, eq_true h2, qn, ln, eq_true h3]
        exact bad5
      · refine ⟨fun h => by simp [h2, h3] at h, fun _ => ?_⟩
        obtain ⟨o, s1, s2, s3⟩ := cn.st (n := 1) (off := m) (v := sv c.val) rfl rfl (by rw [List.length_map]; omega)
        have hp : placeL (now.map sv) m (sv c.val).cells = (now.set m c.val).map sv := by
          show (now.map sv).set m (sv c.val) = _
          rw [List.map_set]
        rw [hp] at s2
        have k' : Kw hM (h.put nb o) := by
          obtain ⟨tt, q, _⟩ := cn
          exact k.put hnb q (fun fz size cs hh => by cases hh)
        refine ⟨h.put nb o, k', ⟨by rw [List.length_set]; exact nl, fun _ => ⟨nb, fz, rfl, hnb, by rw [hmt]; exact s2⟩⟩, fun r hr e => e20_4 ?_ hr⟩
        have w2 := wr_succ hi
        have e5 : J20 tab4 5 [.ptr b 0, .int .i64 (N : Nat), .slice nb 0 N 1, .int .i64 (i : Nat), .ptr c8 0, .bool false] h = r := by
          refine e20_5 ?_ hr
          simp only [t20_5, W, spanK_u, decide_eq_true_eq, Bool.not_eq_true', decide_eq_false_iff_not, Bool.false_eq_true, Bool.not_true, Bool.not_false, decide_true, decide_false, not_true_eq_false, not_false_eq_true, and_true, true_and, and_false, false_and, ne_eq, Nat.zero_add, Nat.add_zero, cond_true, cond_false, ↓reduceIte, reduceCtorEq, Nat.reduceAdd, Int.reduceEq, Int.reduceNe, Int.reduceLT, Int.reduceLE, Int.reduceAdd, Int.reduceSub, Int.reduceMul, Int.reduceNeg, Nat.reduceMul, List.getElem?_cons_zero, List.getElem?_cons_succ, l1, l2, qn, s1, w2]
          exact e
        simp only [t20_4, W, spanK_u, decide_eq_true_eq, Bool.not_eq_true', decide_eq_false_iff_not, Bool.false_eq_true, Bool.not_true, Bool.not_false, decide_true, decide_false, not_true_eq_false, not_false_eq_true, and_true, true_and, and_false, false_and, ne_eq, Nat.zero_add, Nat.add_zero, cond_true, cond_false, ↓reduceIte, reduceCtorEq, Nat.reduceAdd, Int.reduceEq, Int.reduceNe, Int.reduceLT, Int.reduceLE, Int.reduceAdd, Int.reduceSub, Int.reduceMul, Int.reduceNeg, Nat.reduceMul, List.getElem?_cons_zero, List.getElem?_cons_succ, l1, l2, ek, Bool.not_true, guardK, w1, qw, rw_, eq_true h2, qn, ln, eq_false h3]
        exact e5
    · refine ⟨fun _ => e20_4 ?_ (by simp), fun h => by simp [h2] at h⟩
      simp only [t20_4, W, spanK_u, decide_eq_true_eq, Bool.not_eq_true', decide_eq_false_iff_not, Bool.false_eq_true, Bool.not_true, Bool.not_false, decide_true, decide_false, not_true_eq_false, not_false_eq_true, and_true, true_and, and_false, false_and, ne_eq, Nat.zero_add, Nat.add_zero, cond_true, cond_false, ↓reduceIte, reduceCtorEq, Nat.reduceAdd, Int.reduceEq, Int.reduceNe, Int.reduceLT, Int.reduceLE, Int.reduceAdd, Int.reduceSub, Int.reduceMul, Int.reduceNeg, Nat.reduceMul, List.getElem?_cons_zero, List.getElem?_cons_succ, l1, l2, ek, Bool.not_true, guardK, w1, qw, rw_, eq_false h2]
      exact bad5
theorem mlist_loop {hM : H} (gM : WF hM) {b : Nat} {n wd f l nowV : IV} {w : Wv} (x : WB hM b n wd f l w) {N : Nat} (hN : w.wides.length = N) (hlen : w.list.length ≤ 9223372036854775807) (hbv : ∀ c ∈ w.list, c.val.length ≤ 9223372036854775807) : ∀ (k i : Nat) (h : H) (now : List Bs), i + k = w.list.length → Kw hM h → Now hM h N nowV now →
    ∃ h', J20 tab4 3 [.ptr b 0, .int .i64 (N : Nat), nowV, .int .i64 (i : Nat)] h = .ok (.bool (listF N w.wides now (prevAt w.list i) (w.list.drop i))) h' ∧ Kw hM h' := by
  intro k
  induction k with
  | zero =>
    intro i h now hi kk nw
    rw [List.drop_of_length_le (by omega)]
    refine ⟨h, e20_3 ?_ (by simp), kk⟩
    have hlt : ¬ ((i : Nat) : Int) < (w.list.length : Nat) := by omega
    have m3 := (x.kw gM kk).l3
    have n3 := (x.kw gM kk).wr.list.len
    simp only [t20_3, W, spanK_u, decide_eq_true_eq, Bool.not_eq_true', decide_eq_false_iff_not, Bool.false_eq_true, Bool.not_true, Bool.not_false, decide_true, decide_false, not_true_eq_false, not_false_eq_true, and_true, true_and, and_false, false_and, ne_eq, Nat.zero_add, Nat.add_zero, cond_true, cond_false, ↓reduceIte, reduceCtorEq, Nat.reduceAdd, Int.reduceEq, Int.reduceNe, Int.reduceLT, Int.reduceLE, Int.reduceAdd, Int.reduceSub, Int.reduceMul, Int.reduceNeg, Nat.reduceMul, List.getElem?_cons_zero, List.getElem?_cons_succ, m3, n3, Int.ofNat_eq_natCast, hlt]
    rfl
  | succ k ih =>
    intro i h now hi kk nw
    have hil : i < w.list.length := by omega
    have hd := List.drop_eq_getElem_cons hil
    have hc : w.list[i]? = some w.list[i] := List.getElem?_eq_getElem hil
    generalize w.list[i] = c at hd hc
    rw [hd]
    have xh := x.kw gM kk
    have bad4 : ∀ (h' : H) (c8 : Nat), J20 tab4 4 [.ptr b 0, .int .i64 (N : Nat), nowV, .int .i64 (i : Nat), .ptr c8 0, .bool true] h' = .ok (.bool false) h' := fun h' c8 =>
      e20_4 (by simp only [t20_4, W, spanK_u, decide_eq_true_eq, Bool.not_eq_true', decide_eq_false_iff_not, Bool.false_eq_true, Bool.not_true, Bool.not_false, decide_true, decide_false, not_true_eq_false, not_false_eq_true, and_true, true_and, and_false, false_and, ne_eq, Nat.zero_add, Nat.add_zero, cond_true, cond_false, ↓reduceIte, reduceCtorEq, Nat.reduceAdd, Int.reduceEq, Int.reduceNe, Int.reduceLT, Int.reduceLE, Int.reduceAdd, Int.reduceSub, Int.reduceMul, Int.reduceNeg, Nat.reduceMul, List.getElem?_cons_zero, List.getElem?_cons_succ]) (by simp)
    obtain ⟨h1, c8, k1, hc8, cc, step⟩ := mchg_step kk.wf xh (now := nowV) (N := N) hc (by omega)
    have k2 := kk.trans k1
    have hc8' : hM.next ≤ c8 := Nat.le_trans kk.next hc8
    cases hp : placeF N (prevAt w.list i) c with
    | false =>
      have hF : listF N w.wides now (prevAt w.list i) (c :: w.list.drop (i + 1)) = false := by simp [listF, hp]
      rw [hF]
      rw [hp] at step
      exact ⟨h1, step _ (by simp) (bad4 h1 c8), k2⟩
    | true =>
      rw [hp] at step
      have hp' := hp
      simp only [placeF, Bool.and_eq_true, decide_eq_true_eq] at hp'
      obtain ⟨⟨⟨⟨c0, cN⟩, _⟩, _⟩, _⟩ := hp'
      have nw1 : Now hM h1 N nowV now := ⟨nw.1, fun hz => by
        obtain ⟨nb, fz, e1, e2, e3⟩ := nw.2 hz
        exact ⟨nb, fz, e1, e2, Cs.kw e3 kk.wf k1⟩⟩
      have hne : ∀ nb, nowV = .slice nb 0 N 1 → c8 ≠ nb := fun nb hv => by
        obtain ⟨nb', fz, e1, e2, e3⟩ := nw.2 (by omega)
        rw [hv] at e1
        injection e1 with e1
        subst e1
        have := e3.lt kk.wf
        omega
      obtain ⟨v1, v2⟩ := mval_step k2 gM x hN nw1 c0 cN hc8' cc hne (i := i) (by omega) (hbv c (List.mem_of_getElem? hc))
      cases hv : valF w.wides now c with
      | false =>
        have hF : listF N w.wides now (prevAt w.list i) (c :: w.list.drop (i + 1)) = false := by simp [listF, hp, hv]
        rw [hF]
        exact ⟨h1, step _ (by simp) (v1 hv), k2⟩
      | true =>
        obtain ⟨h2, k3, nw2, go⟩ := v2 hv
        obtain ⟨h', e, k4⟩ := ih (i + 1) h2 _ (by omega) k3 nw2
        have hF : listF N w.wides now (prevAt w.list i) (c :: w.list.drop (i + 1)) = listF N w.wides (now.set c.net.toNat c.val) (prevAt w.list (i + 1)) (w.list.drop (i + 1)) := by
          have hpr : prevAt w.list (i + 1) = some c := by
            unfold prevAt
            rw [if_neg (by omega), Nat.add_sub_cancel]; exact hc
          rw [hpr]
          simp [listF, hp, hv]
        rw [hF]
        exact ⟨h', step _ (by simp) (go _ (by simp) e), k4⟩
theorem mnets_loop {h : H} {b : Nat} {n wd f l : IV} {w : Wv} (x : WB h b n wd f l w) {N : Nat} (h1 : w.names.length = N) (h2 : w.wides.length = N) (h3 : w.first.length = N) (hN : N ≤ 4096) (bn : ∀ s ∈ w.names, s.length ≤ 9223372036854775807) (bf : ∀ s ∈ w.first, s.length ≤ 9223372036854775807) : ∀ (k i : Nat), i + k = N →
    (netsF (w.names.drop i) (w.wides.drop i) (w.first.drop i) = false → J20 tab4 1 [.ptr b 0, .int .i64 (N : Nat), .int .i64 (i : Nat)] h = .ok (.bool false) h) ∧
    (netsF (w.names.drop i) (w.wides.drop i) (w.first.drop i) = true → ∀ r, r ≠ .fail → J20 tab4 1 [.ptr b 0, .int .i64 (N : Nat), .int .i64 (N : Nat)] h = r → J20 tab4 1 [.ptr b 0, .int .i64 (N : Nat), .int .i64 (i : Nat)] h = r) := by
  intro k
  induction k with
  | zero =>
    intro i hi
    have hi : i = N := by omega
    subst hi
    rw [List.drop_of_length_le (by omega), List.drop_of_length_le (by omega), List.drop_of_length_le (by omega)]
    exact ⟨fun h => by simp [netsF] at h, fun _ r _ e => e⟩
  | succ k ih =>
    intro i hi
    have d1 := List.drop_eq_getElem_cons (l := w.names) (i := i) (by omega)
    have d2 := List.drop_eq_getElem_cons (l := w.wides) (i := i) (by omega)
    have d3 := List.drop_eq_getElem_cons (l := w.first) (i := i) (by omega)
    have e1 : w.names[i]? = some (w.names[i]'(by omega)) := List.getElem?_eq_getElem _
    have e2 : w.wides[i]? = some (w.wides[i]'(by omega)) := List.getElem?_eq_getElem _
    have e3 : w.first[i]? = some (w.first[i]'(by omega)) := List.getElem?_eq_getElem _
    generalize w.names[i]'(by omega) = nm at d1 e1
    generalize w.wides[i]'(by omega) = wi at d2 e2
    generalize w.first[i]'(by omega) = fs at d3 e3
    rw [d1, d2, d3]
    simp only [netsF]
    obtain ⟨i1, i2⟩ := ih (i + 1) (by omega)
    cases hn : netF nm wi fs with
    | false =>
      refine ⟨fun _ => mnet_step x (by omega) e1 e2 e3 (bn _ (List.mem_of_getElem? e1)) (bf _ (List.mem_of_getElem? e3)) (by simp) ?_, fun h => by simp at h⟩
      rw [hn]
      exact e20_2 (by simp only [t20_2, W, spanK_u, decide_eq_true_eq, Bool.not_eq_true', decide_eq_false_iff_not, Bool.false_eq_true, Bool.not_true, Bool.not_false, decide_true, decide_false, not_true_eq_false, not_false_eq_true, and_true, true_and, and_false, false_and, ne_eq, Nat.zero_add, Nat.add_zero, cond_true, cond_false, ↓reduceIte, reduceCtorEq, Nat.reduceAdd, Int.reduceEq, Int.reduceNe, Int.reduceLT, Int.reduceLE, Int.reduceAdd, Int.reduceSub, Int.reduceMul, Int.reduceNeg, Nat.reduceMul, List.getElem?_cons_zero, List.getElem?_cons_succ, Bool.not_false]) (by simp)
    | true =>
      rw [Bool.true_and]
      have two : ∀ r, r ≠ .fail → J20 tab4 1 [.ptr b 0, .int .i64 (N : Nat), .int .i64 ((i + 1 : Nat) : Int)] h = r → J20 tab4 1 [.ptr b 0, .int .i64 (N : Nat), .int .i64 (i : Nat)] h = r := by
        intro r hr e
        refine mnet_step x (by omega) e1 e2 e3 (bn _ (List.mem_of_getElem? e1)) (bf _ (List.mem_of_getElem? e3)) hr ?_
        rw [hn]
        refine e20_2 ?_ hr
        have w1 := wr_succ (show i < 9223372036854775807 by omega)
        simp only [t20_2, W, spanK_u, decide_eq_true_eq, Bool.not_eq_true', decide_eq_false_iff_not, Bool.false_eq_true, Bool.not_true, Bool.not_false, decide_true, decide_false, not_true_eq_false, not_false_eq_true, and_true, true_and, and_false, false_and, ne_eq, Nat.zero_add, Nat.add_zero, cond_true, cond_false, ↓reduceIte, reduceCtorEq, Nat.reduceAdd, Int.reduceEq, Int.reduceNe, Int.reduceLT, Int.reduceLE, Int.reduceAdd, Int.reduceSub, Int.reduceMul, Int.reduceNeg, Nat.reduceMul, List.getElem?_cons_zero, List.getElem?_cons_succ, Bool.not_true, w1]
        exact e
      exact ⟨fun h => two _ (by simp) (i1 h), fun h r hr e => two r hr (i2 h r hr e)⟩
structure WS (w : Wv) : Prop where
  names : ∀ s ∈ w.names, s.length ≤ 9223372036854775807
  first : ∀ s ∈ w.first, s.length ≤ 9223372036854775807
  vals : ∀ c ∈ w.list, c.val.length ≤ 9223372036854775807
theorem wavesMay {h : H} (g : Gd h) {n wd f l : IV} {w : Wv} (r0 : WR h n wd f l w) (hl : w.list.length ≤ 9223372036854775807) (ok : WS w) : ∃ h', CL tab4 20 [.agg [n, wd, f, l]] h = .ok (.bool (waveF w)) h' ∧ Ky h h' := by
  have r : WR (h.setPol false) n wd f l w := ⟨r0.names, r0.wides, r0.first, r0.list⟩
  have wf0 : WF (h.setPol false) := g.wf
  have fin : ∀ (v : Bool) (hf : H), t20_0 (CL tab4) (J20 tab4) (.agg [n, wd, f, l]) (h.setPol false) = .ok (.bool v) hf → Kw (h.setPol false) hf → ∃ h', CL tab4 20 [.agg [n, wd, f, l]] h = .ok (.bool v) h' ∧ Ky h h' := by
    intro v hf e k
    have e2 := c20 good4.step rfl rfl g e (by simp)
    rw [CRes.setPol] at e2
    exact ⟨_, e2, (call_ok good4.step e2 g).1, k.next, fun b hb => k.low b hb, fun b hb => k.ty b hb⟩
  obtain ⟨h2, e2, k2, c2, -⟩ := (Kw.refl wf0).newI (cs := [n, wd, f, l]) r.scalar
  have x : WB h2 (h.setPol false).next n wd f l w := ⟨c2, ⟨LR.kw r.names wf0 k2, LW.kw r.wides wf0 k2, LR.kw r.first wf0 k2, LR.kw r.list wf0 k2⟩⟩
  have l0 := x.l0
  have l1 := x.l1
  have l2 := x.l2
  have n0 := x.wr.names.len
  have n1 := x.wr.wides.len
  have n2 := x.wr.first.len
  by_cases h1 : (4096 : Int) < (w.names.length : Nat)
  · have hF : waveF w = false := by
      have : ¬ w.names.length ≤ 4096 := by omega
      simp [waveF, this]
    rw [hF]
    refine fin _ h2 ?_ k2
    simp only [t20_0, IV.cells, e2, W, spanK_u, decide_eq_true_eq, Bool.not_eq_true', decide_eq_false_iff_not, Bool.false_eq_true, Bool.not_true, Bool.not_false, decide_true, decide_false, not_true_eq_false, not_false_eq_true, and_true, true_and, and_false, false_and, ne_eq, Nat.zero_add, Nat.add_zero, cond_true, cond_false, ↓reduceIte, reduceCtorEq, Nat.reduceAdd, Int.reduceEq, Int.reduceNe, Int.reduceLT, Int.reduceLE, Int.reduceAdd, Int.reduceSub, Int.reduceMul, Int.reduceNeg, Nat.reduceMul, List.getElem?_cons_zero, List.getElem?_cons_succ, l0, l1, l2, n0, h1, Int.ofNat_eq_natCast]
  have h1' : w.names.length ≤ 4096 := by omega
  by_cases h2' : ((w.wides.length : Nat) : Int) = (w.names.length : Nat)
  rotate_left
  · have hF : waveF w = false := by
      have : netsF w.names w.wides w.first = false := by
        cases hn : netsF w.names w.wides w.first with
        | false => rfl
        | true => have := netsF_len hn; omega
      simp [waveF, this]
    rw [hF]
    refine fin _ h2 ?_ k2
    simp only [t20_0, IV.cells, e2, W, spanK_u, decide_eq_true_eq, Bool.not_eq_true', decide_eq_false_iff_not, Bool.false_eq_true, Bool.not_true, Bool.not_false, decide_true, decide_false, not_true_eq_false, not_false_eq_true, and_true, true_and, and_false, false_and, ne_eq, Nat.zero_add, Nat.add_zero, cond_true, cond_false, ↓reduceIte, reduceCtorEq, Nat.reduceAdd, Int.reduceEq, Int.reduceNe, Int.reduceLT, Int.reduceLE, Int.reduceAdd, Int.reduceSub, Int.reduceMul, Int.reduceNeg, Nat.reduceMul, List.getElem?_cons_zero, List.getElem?_cons_succ, l0, l1, l2, n0, n1, h1, Int.ofNat_eq_natCast, eq_false h2']
  by_cases h3' : ((w.first.length : Nat) : Int) = (w.names.length : Nat)
  rotate_left
  · have hF : waveF w = false := by
      have : netsF w.names w.wides w.first = false := by
        cases hn : netsF w.names w.wides w.first with
        | false => rfl
        | true => have := netsF_len hn; omega
      simp [waveF, this]
    rw [hF]
    refine fin _ h2 ?_ k2
    simp only [t20_0, IV.cells, e2, W, spanK_u, decide_eq_true_eq, Bool.not_eq_true', decide_eq_false_iff_not, Bool.false_eq_true, Bool.not_true, Bool.not_false, decide_true, decide_false, not_true_eq_false, not_false_eq_true, and_true, true_and, and_false, false_and, ne_eq, Nat.zero_add, Nat.add_zero, cond_true, cond_false, ↓reduceIte, reduceCtorEq, Nat.reduceAdd, Int.reduceEq, Int.reduceNe, Int.reduceLT, Int.reduceLE, Int.reduceAdd, Int.reduceSub, Int.reduceMul, Int.reduceNeg, Nat.reduceMul, List.getElem?_cons_zero, List.getElem?_cons_succ, l0, l1, l2, n0, n1, n2, h1, Int.ofNat_eq_natCast, eq_true h2', eq_false h3']
  have start : ∀ r : CRes, J20 tab4 1 [.ptr (h.setPol false).next 0, .int .i64 (w.names.length : Nat), .int .i64 ((0 : Nat) : Int)] h2 = r → t20_0 (CL tab4) (J20 tab4) (.agg [n, wd, f, l]) (h.setPol false) = r := by
    intro r e
    simp only [t20_0, IV.cells, e2, W, spanK_u, decide_eq_true_eq, Bool.not_eq_true', decide_eq_false_iff_not, Bool.false_eq_true, Bool.not_true, Bool.not_false, decide_true, decide_false, not_true_eq_false, not_false_eq_true, and_true, true_and, and_false, false_and, ne_eq, Nat.zero_add, Nat.add_zero, cond_true, cond_false, ↓reduceIte, reduceCtorEq, Nat.reduceAdd, Int.reduceEq, Int.reduceNe, Int.reduceLT, Int.reduceLE, Int.reduceAdd, Int.reduceSub, Int.reduceMul, Int.reduceNeg, Nat.reduceMul, List.getElem?_cons_zero, List.getElem?_cons_succ, l0, l1, l2, n0, n1, n2, h1, Int.ofNat_eq_natCast, eq_true h2', eq_true h3']
    exact e
  obtain ⟨i1, i2⟩ := mnets_loop x rfl (by omega) (by omega) h1' ok.names ok.first w.names.length 0 (by omega)
  simp only [List.drop_zero] at i1 i2
  cases hn : netsF w.names w.wides w.first with
  | false =>
    have hF : waveF w = false := by simp [waveF, hn]
    rw [hF]
    exact fin _ h2 (start _ (i1 hn)) k2
  | true =>
    have hF : waveF w = listF w.names.length w.wides w.first none w.list := by simp [waveF, hn, h1']
    rw [hF]
    have hpol : h2.pol = false := k2.pol
    obtain ⟨v', h4, ea, k4, nw⟩ : ∃ v' h4, appK 1 16 h2 .nilSlice f = some (v', h4) ∧ Kw h2 h4 ∧ Now h2 h4 w.names.length v' w.first := by
      obtain ⟨cs, es, ch, hcl⟩ := x.wr.first.source
      have hX := Ch.texts ch
      subst hX
      by_cases hz : w.first.length = 0
      · refine ⟨.nilSlice, h2, ?_, Kw.refl k2.wf, by omega, fun hh => by omega⟩
        simp only [appK, es, allScalar_sv, Bool.true_eq_false, if_false, hz, if_true]
      · refine ⟨.slice h2.next 0 w.first.length 1, h2.push (.cells true false (w.first.map sv).length (T.arr (w.first.map sv))), ?_, (Kw.refl k2.wf).push _, by omega, fun _ => ⟨h2.next, false, by congr 1; omega, Nat.le_refl _, Cs.push (h := h2) (rw := true) (fz := false) (w.first.map sv)⟩⟩
        simp only [appK, es, allScalar_sv, Bool.true_eq_false, if_false, if_neg hz, hpol, Bool.not_false]
        rw [if_pos (by omega)]
    obtain ⟨h', e, k5⟩ := mlist_loop k2.wf x (N := w.names.length) (by omega) hl ok.vals w.list.length 0 h4 w.first (by omega) k4 nw
    rw [List.drop_zero] at e
    refine fin _ h' (start _ (i2 hn _ (by simp) ?_)) (k2.trans k5)
    refine e20_1 ?_ (by simp)
    simp only [t20_1, W, spanK_u, decide_eq_true_eq, Bool.not_eq_true', decide_eq_false_iff_not, Bool.false_eq_true, Bool.not_true, Bool.not_false, decide_true, decide_false, not_true_eq_false, not_false_eq_true, and_true, true_and, and_false, false_and, ne_eq, Nat.zero_add, Nat.add_zero, cond_true, cond_false, ↓reduceIte, reduceCtorEq, Nat.reduceAdd, Int.reduceEq, Int.reduceNe, Int.reduceLT, Int.reduceLE, Int.reduceAdd, Int.reduceSub, Int.reduceMul, Int.reduceNeg, Nat.reduceMul, List.getElem?_cons_zero, List.getElem?_cons_succ, Int.lt_irrefl, l2, ea]
    exact e
structure TB (h₀ h : H) (s : IV) (l : Bs) : Prop where
  ky : Ky h₀ h
  gb : GB tyU h₀ h l s
def Keep (h h' : H) : Prop := ∀ q fz cs, Cs h q true fz cs → Cs h' q true fz cs
theorem Keep.trans {a b c : H} (x : Keep a b) (y : Keep b c) : Keep a c := fun q fz cs h => y q fz cs (x q fz cs h)
theorem Keep.ky {h h' : H} (w : WF h) (x : Ky h h') : Keep h h' := fun q fz cs c => c.ky w x
theorem TB.start {h : H} (g : Gd h) : TB h h .nilSlice [] := ⟨.refl g, .inl ⟨rfl, rfl⟩⟩
theorem TB.mono {h₀ h h' : H} {s : IV} {l : Bs} (x : TB h₀ h s l) (y : Ky h h') : TB h₀ h' s l := ⟨x.ky.trans y, x.gb.ky x.ky.gd.wf y⟩
theorem TB.app {h₀ h : H} {s : IV} {l : Bs} (x : TB h₀ h s l) (m : Bs) (hr : l.length + m.length ≤ 1099511627776) : ∃ s' h', appB tyU 1 1 h s (sv m) = some (s', h') ∧ TB h₀ h' s' (l ++ m) ∧ Keep h h' := by
  obtain ⟨s', h', e, k, gb, same⟩ := x.gb.app x.ky hr
  refine ⟨s', h', e, ⟨k, gb⟩, fun q fz cs c => ?_⟩
  have hne : ∀ k, s ≠ .slice q 0 k 1 := by
    rintro k rfl
    rcases x.gb with ⟨_, hh⟩ | ⟨bb, n, hh, ⟨t2, q2, q3⟩, _⟩
    · cases hh
    · injection hh with hh _ _ _
      subst hh
      obtain ⟨t3, q4, _⟩ := c
      rw [q2] at q4; cases q4
  exact c.of_get (same q (c.lt x.ky.gd.wf) hne).1
theorem appB_src {e : Nat} {h : H} {s x y : IV} (hs : sourceI h 1 x = sourceI h 1 y) : appB e 1 1 h s x = appB e 1 1 h s y := by
  unfold appB appK
  rw [hs]
theorem TB.byte {h₀ h : H} {s : IV} {l : Bs} (x : TB h₀ h s l) (c : UInt8) (hr : l.length + 1 ≤ 1099511627776) : ∃ hx s' h', bslK true 1 [.int .u8 0] 1 [(0, .int .u8 (c.toNat : Nat))] h = some (.slice h.next 0 1 1, hx) ∧ appB tyU 1 1 hx s (.slice h.next 0 1 1) = some (s', h') ∧ TB h₀ h' s' (l ++ [c]) ∧ Keep h h' := by
  obtain ⟨hx, e1, k1, c1⟩ := lit_bys x.ky.gd [c]
  obtain ⟨s', h', e, t, kp⟩ := (x.mono k1).app [c] hr
  have hsrc : sourceI hx 1 (.slice h.next 0 1 1) = some (bys [c], 1) := by
    obtain ⟨t, h1, h2⟩ := c1
    have h11 : ¬ (1 : Nat) = 0 := by decide
    simp only [sourceI, if_neg h11, h1]
    rw [if_pos ⟨trivial, by rw [bys_len]; exact Nat.le_refl _⟩, getList_of h2 _ _ (by rw [bys_len]; exact Nat.le_refl _)]
    rfl
  refine ⟨hx, s', h', e1, ?_, t, (Keep.ky x.ky.gd.wf k1).trans kp⟩
  rw [appB_src (y := sv [c]) (hsrc.trans (sourceI_sv [c]).symm)]
  exact e
theorem TB.text {h₀ h : H} {s : IV} {l : Bs} (x : TB h₀ h s l) : cvS h s = some (sv l) := by
  rcases x.gb with ⟨rfl, rfl⟩ | ⟨b, k, rfl, c, hk, _, _, _⟩
  · rfl
  · exact GL.text (.inr ⟨b, k, rfl, c, by rw [bys_len, Nat.mul_one]; exact hk⟩)
noncomputable abbrev tab5 : Tab := tab3
theorem good5 : GoodT Tryz.prog EP tab5 := good3
theorem rcode5 {h : H} (n : Nat) (hn : n < 8836) : CL tab5 44 [.int .i64 (n : Nat)] h = .ok (sv (codeF n)) h := call1 (A := dI) (a := (n : Int)) rfl (by unfold codeV; rw [if_pos ⟨by omega, by omega⟩]; rfl) h
theorem itoa5 {h : H} (n : Int) (h1 : -9223372036854775808 ≤ n) (h2 : n ≤ 9223372036854775807) : CL tab5 15 [.int .i64 n] h = .ok (sv (itoaF n)) h := call1 (A := dI) (a := n) rfl (by unfold itoaV; rw [if_pos ⟨h1, h2⟩]) h
theorem awake5 (h : H) : CL tab5 8 [] h = .ok (.bool true) h := call0 rfl h
theorem rvalue5 {h : H} (g : Gd h) (v : Bs) (net : Nat) (hv : v.length ≤ 256) (hn : net < 8836) : CL tab5 45 [sv v, .int .i64 (net : Nat)] h = .ok (sv (valueF v net)) h := by
  have ec := rcode5 (h := h) net hn
  have hl := codeF_len net
  have c10 : IV.str ⟨1, 10⟩ = sv [10] := rfl
  have c98 : IV.str ⟨1, 98⟩ = sv [98] := rfl
  have c32 : IV.str ⟨1, 32⟩ = sv [32] := rfl
  refine c45 good5.step rfl rfl g ?_ (by simp)
  unfold valueF
  by_cases h1 : v.length = 1
  · have h1' : ((v.length : Nat) : Int) = 1 := by omega
    have a1 : binS .add (sv v) (sv (codeF net)) = some (sv (v ++ codeF net)) := binS_add _ _ (by omega)
    have a2 : binS .add (sv (v ++ codeF net)) (sv [10]) = some (sv (v ++ codeF net ++ [10])) := binS_add _ _ (by simp only [List.length_append, List.length_singleton]; omega)
    rw [if_pos h1]
    simp only [t45_0, W, spanK_u, decide_eq_true_eq, Bool.not_eq_true', decide_eq_false_iff_not, Bool.false_eq_true, Bool.not_true, Bool.not_false, decide_true, decide_false, not_true_eq_false, not_false_eq_true, and_true, true_and, and_false, false_and, ne_eq, Nat.zero_add, Nat.add_zero, cond_true, cond_false, ↓reduceIte, reduceCtorEq, Nat.reduceAdd, Int.reduceEq, Int.reduceNe, Int.reduceLT, Int.reduceLE, Int.reduceAdd, Int.reduceSub, Int.reduceMul, Int.reduceNeg, Nat.reduceMul, List.getElem?_cons_zero, List.getElem?_cons_succ, eq_true h1', ec, c10, a1, a2]
  · have h1' : ¬ ((v.length : Nat) : Int) = 1 := by omega
    have a1 : binS .add (sv [98]) (sv v) = some (sv ([98] ++ v)) := binS_add _ _ (by simp only [List.length_singleton]; omega)
    have a2 : binS .add (sv ([98] ++ v)) (sv [32]) = some (sv ([98] ++ v ++ [32])) := binS_add _ _ (by simp only [List.length_append, List.length_singleton]; omega)
    have a3 : binS .add (sv ([98] ++ v ++ [32])) (sv (codeF net)) = some (sv ([98] ++ v ++ [32] ++ codeF net)) := binS_add _ _ (by simp only [List.length_append, List.length_singleton]; omega)
    have a4 : binS .add (sv ([98] ++ v ++ [32] ++ codeF net)) (sv [10]) = some (sv ([98] ++ v ++ [32] ++ codeF net ++ [10])) := binS_add _ _ (by simp only [List.length_append, List.length_singleton]; omega)
    rw [if_neg h1]
    simp only [t45_0, W, spanK_u, decide_eq_true_eq, Bool.not_eq_true', decide_eq_false_iff_not, Bool.false_eq_true, Bool.not_true, Bool.not_false, decide_true, decide_false, not_true_eq_false, not_false_eq_true, and_true, true_and, and_false, false_and, ne_eq, Nat.zero_add, Nat.add_zero, cond_true, cond_false, ↓reduceIte, reduceCtorEq, Nat.reduceAdd, Int.reduceEq, Int.reduceNe, Int.reduceLT, Int.reduceLE, Int.reduceAdd, Int.reduceSub, Int.reduceMul, Int.reduceNeg, Nat.reduceMul, List.getElem?_cons_zero, List.getElem?_cons_succ, eq_false h1', ec, c10, c98, c32, a1, a2, a3, a4]
theorem c32u : IV.int .u8 32 = IV.int .u8 (((32 : UInt8).toNat : Nat) : Int) := rfl
theorem tvar_step {hM h : H} (gM : Gd hM) {b : Nat} {n wd f l s : IV} {w : Wv} (x : WB hM b n wd f l w) {acc : Bs} (y : TB hM h s acc) (hr : acc.length ≤ 2000000) {i : Nat} {nm fs : Bs} {wi : Int} (e1 : w.names[i]? = some nm) (e2 : w.wides[i]? = some wi) (hN : w.names.length ≤ 4096) (hn : netF nm wi fs = true) :
    (nm = [95] → J21 tab5 1 [.ptr b 0, s, .int .i64 (i : Nat)] h = .ok (.tup [sv [], .bool false]) h) ∧
    (nm ≠ [95] → ∃ s' h', TB hM h' s' (acc ++ varF i wi nm) ∧ ∀ r, r ≠ .fail → J21 tab5 1 [.ptr b 0, s', .int .i64 ((i + 1 : Nat) : Int)] h' = r → J21 tab5 1 [.ptr b 0, s, .int .i64 (i : Nat)] h = r) := by
  have xh := x.ky gM.wf y.ky
  obtain ⟨p1, q1, r1⟩ := LR.str xh.wr.names e1
  have hi1 : i < w.names.length := (List.getElem?_eq_some_iff.1 e1).1
  have hi2 : i < w.wides.length := (List.getElem?_eq_some_iff.1 e2).1
  have hlt1 : ((i : Nat) : Int) < (w.names.length : Nat) := by omega
  have hlt2 : ((i : Nat) : Int) < (w.wides.length : Nat) := by omega
  obtain ⟨n1, n2, n3⟩ := netF_le hn
  have l0 := xh.l0
  have l1 := xh.l1
  have m0 := xh.wr.names.len
  have m1 := xh.wr.wides.len
  have c95 : IV.str ⟨1, 95⟩ = sv [95] := rfl
  have s0 : IV.str ⟨0, 0⟩ = sv [] := rfl
  refine ⟨fun h95 => ?_, fun h95 => ?_⟩
  · subst h95
    refine e21_1 ?_ (by simp)
    simp only [t21_1, W, spanK_u, decide_eq_true_eq, Bool.not_eq_true', decide_eq_false_iff_not, Bool.false_eq_true, Bool.not_true, Bool.not_false, decide_true, decide_false, not_true_eq_false, not_false_eq_true, and_true, true_and, and_false, false_and, ne_eq, Nat.zero_add, Nat.add_zero, cond_true, cond_false, ↓reduceIte, reduceCtorEq, Nat.reduceAdd, Int.reduceEq, Int.reduceNe, Int.reduceLT, Int.reduceLE, Int.reduceAdd, Int.reduceSub, Int.reduceMul, Int.reduceNeg, Nat.reduceMul, List.getElem?_cons_zero, List.getElem?_cons_succ, l0, l1, m0, m1, Int.ofNat_eq_natCast, hlt1, hlt2, q1, r1, c95, s0]
  · have k1 := itoaF_len wi
    have k2 := codeF_len i
    have k3 : (nameF nm).length ≤ 256 := by
      unfold nameF
      split
      · simp
      · exact n1
    have k4 : varW.length = 10 := rfl
    have k5 : endW.length = 6 := rfl
    obtain ⟨sA, hA, a1, yA, _⟩ := y.app varW (by omega)
    have xA := x.ky gM.wf yA.ky
    obtain ⟨p2, q2, r2⟩ := LW.int xA.wr.wides e2
    have lA := xA.l1
    have ei := itoa5 (h := hA) wi (by omega) (by omega)
    obtain ⟨sB, hB, a2, yB, _⟩ := yA.app (itoaF wi) (by simp only [List.length_append]; omega)
    obtain ⟨hx, sC, hC, b3, a3, yC, _⟩ := yB.byte 32 (by simp only [List.length_append]; omega)
    have ec := rcode5 (h := hC) i (by omega)
    obtain ⟨sD, hD, a4, yD, _⟩ := yC.app (codeF i) (by simp only [List.length_append, List.length_singleton]; omega)
    obtain ⟨hy, sE, hE, b5, a5, yE, _⟩ := yD.byte 32 (by simp only [List.length_append, List.length_singleton]; omega)
    obtain ⟨sF, hF, a6, yF, _⟩ := yE.app (nameF nm) (by simp only [List.length_append, List.length_singleton]; omega)
    obtain ⟨sG, hG, a7, yG, _⟩ := yF.app endW (by simp only [List.length_append, List.length_singleton]; omega)
    have w1 := wr_succ (show i < 9223372036854775807 by omega)
    have hv : acc ++ varW ++ itoaF wi ++ [32] ++ codeF i ++ [32] ++ nameF nm ++ endW = acc ++ varF i wi nm := by
      unfold varF
      simp only [List.append_assoc]
    rw [hv] at yG
    refine ⟨sG, hG, yG, fun r hr e => ?_⟩
    have two : J21 tab5 2 [.ptr b 0, s, .int .i64 (i : Nat), sv (nameF nm)] h = r := by
      refine e21_2 ?_ hr
      simp only [t21_2, W, spanK_u, decide_eq_true_eq, Bool.not_eq_true', decide_eq_false_iff_not, Bool.false_eq_true, Bool.not_true, Bool.not_false, decide_true, decide_false, not_true_eq_false, not_false_eq_true, and_true, true_and, and_false, false_and, ne_eq, Nat.zero_add, Nat.add_zero, cond_true, cond_false, ↓reduceIte, reduceCtorEq, Nat.reduceAdd, Int.reduceEq, Int.reduceNe, Int.reduceLT, Int.reduceLE, Int.reduceAdd, Int.reduceSub, Int.reduceMul, Int.reduceNeg, Nat.reduceMul, List.getElem?_cons_zero, List.getElem?_cons_succ, var_sv, a1, lA, q2, r2, ei, a2, c32u, b3, a3, ec, a4, b5, a5, a6, endw_sv, a7, w1]
      exact e
    refine e21_1 ?_ hr
    by_cases h0 : nm = []
    · subst h0
      have hnm : nameF [] = [95] := rfl
      rw [hnm] at two
      simp only [t21_1, W, spanK_u, decide_eq_true_eq, Bool.not_eq_true', decide_eq_false_iff_not, Bool.false_eq_true, Bool.not_true, Bool.not_false, decide_true, decide_false, not_true_eq_false, not_false_eq_true, and_true, true_and, and_false, false_and, ne_eq, Nat.zero_add, Nat.add_zero, cond_true, cond_false, ↓reduceIte, reduceCtorEq, Nat.reduceAdd, Int.reduceEq, Int.reduceNe, Int.reduceLT, Int.reduceLE, Int.reduceAdd, Int.reduceSub, Int.reduceMul, Int.reduceNeg, Nat.reduceMul, List.getElem?_cons_zero, List.getElem?_cons_succ, l0, l1, m0, m1, Int.ofNat_eq_natCast, hlt1, hlt2, q1, r1, c95, s0, h95]
      exact two
    · have hnm : nameF nm = nm := by unfold nameF; rw [if_neg h0]
      rw [hnm] at two
      simp only [t21_1, W, spanK_u, decide_eq_true_eq, Bool.not_eq_true', decide_eq_false_iff_not, Bool.false_eq_true, Bool.not_true, Bool.not_false, decide_true, decide_false, not_true_eq_false, not_false_eq_true, and_true, true_and, and_false, false_and, ne_eq, Nat.zero_add, Nat.add_zero, cond_true, cond_false, ↓reduceIte, reduceCtorEq, Nat.reduceAdd, Int.reduceEq, Int.reduceNe, Int.reduceLT, Int.reduceLE, Int.reduceAdd, Int.reduceSub, Int.reduceMul, Int.reduceNeg, Nat.reduceMul, List.getElem?_cons_zero, List.getElem?_cons_succ, l0, l1, m0, m1, Int.ofNat_eq_natCast, hlt1, hlt2, q1, r1, c95, s0, h95, h0]
      exact two
theorem tvars_loop {hM : H} (gM : Gd hM) {b : Nat} {n wd f l : IV} {w : Wv} (x : WB hM b n wd f l w) {N : Nat} (hN : N ≤ 4096) (e1 : w.names.length = N) (hn : netsF w.names w.wides w.first = true) : ∀ (k i : Nat) (h : H) (s : IV) (acc : Bs), i + k = N → TB hM h s acc → acc.length ≤ 44 + i * 300 →
    (varsF i (w.names.drop i) (w.wides.drop i) = none → ∃ h', J21 tab5 1 [.ptr b 0, s, .int .i64 (i : Nat)] h = .ok (.tup [sv [], .bool false]) h' ∧ Ky hM h') ∧
    (∀ v, varsF i (w.names.drop i) (w.wides.drop i) = some v → ∃ s' h', TB hM h' s' (acc ++ v) ∧ (acc ++ v).length ≤ 44 + N * 300 ∧ ∀ r, r ≠ .fail → J21 tab5 1 [.ptr b 0, s', .int .i64 (N : Nat)] h' = r → J21 tab5 1 [.ptr b 0, s, .int .i64 (i : Nat)] h = r) := by
  intro k
  induction k with
  | zero =>
    intro i h s acc hi y hl
    have hi : i = N := by omega
    subst hi
    rw [List.drop_of_length_le (by omega)]
    refine ⟨fun h => by simp [varsF] at h, fun v hv => ?_⟩
    simp only [varsF, Option.some.injEq] at hv
    subst hv
    exact ⟨s, h, by rw [List.append_nil]; exact y, by rw [List.append_nil]; omega, fun r _ e => e⟩
  | succ k ih =>
    intro i h s acc hi y hl
    obtain ⟨nm, wi, fs, q1, q2, q3, q4⟩ := netsF_at hn i (by omega)
    have d1 : w.names.drop i = nm :: w.names.drop (i + 1) := by
      have := List.drop_eq_getElem_cons (l := w.names) (i := i) (by omega)
      rw [this]
      congr 1
      have := (List.getElem?_eq_some_iff.1 q1).2
      exact this
    have hw : i < w.wides.length := (List.getElem?_eq_some_iff.1 q2).1
    have d2 : w.wides.drop i = wi :: w.wides.drop (i + 1) := by
      have := List.drop_eq_getElem_cons (l := w.wides) (i := i) hw
      rw [this]
      congr 1
      have := (List.getElem?_eq_some_iff.1 q2).2
      exact this
    rw [d1, d2]
    simp only [varsF]
    obtain ⟨s1, s2⟩ := tvar_step gM x y (by omega) (i := i) q1 q2 (by omega) q4
    by_cases h95 : nm = [95]
    · rw [if_pos h95]
      exact ⟨fun _ => ⟨h, s1 h95, y.ky⟩, fun v hv => by cases hv⟩
    · rw [if_neg h95]
      obtain ⟨s1', h1, y1, go⟩ := s2 h95
      have hvl := varF_len i wi nm (netF_le q4).1
      obtain ⟨i1, i2⟩ := ih (i + 1) h1 s1' _ (by omega) y1 (by rw [List.length_append]; omega)
      refine ⟨fun hv => ?_, fun v hv => ?_⟩
      · rw [Option.map_eq_none_iff] at hv
        obtain ⟨h', e, k'⟩ := i1 hv
        exact ⟨h', go _ (by simp) e, k'⟩
      · obtain ⟨v', hv', rfl⟩ := Option.map_eq_some_iff.1 hv
        obtain ⟨s'', h', y', hl', go'⟩ := i2 v' hv'
        rw [List.append_assoc] at y' hl'
        exact ⟨s'', h', y', hl', fun r hr e => go r hr (go' r hr e)⟩
theorem tvals_loop {hM : H} (gM : Gd hM) {b : Nat} {n wd f l : IV} {w : Wv} (x : WB hM b n wd f l w) {N : Nat} (hN : N ≤ 4096) (e1 : w.first.length = N) (hf : ∀ (i : Nat) (v : Bs), w.first[i]? = some v → v.length ≤ 256) : ∀ (k i : Nat) (h : H) (s : IV) (acc : Bs), i + k = N → TB hM h s acc → acc.length ≤ 1300000 + i * 270 →
    ∃ s' h', TB hM h' s' (acc ++ valsF i (w.first.drop i)) ∧ (acc ++ valsF i (w.first.drop i)).length ≤ 1300000 + N * 270 ∧ ∀ r, r ≠ .fail → J21 tab5 3 [.ptr b 0, s', .int .i64 (N : Nat)] h' = r → J21 tab5 3 [.ptr b 0, s, .int .i64 (i : Nat)] h = r := by
  intro k
  induction k with
  | zero =>
    intro i h s acc hi y hl
    have hi : i = N := by omega
    subst hi
    rw [List.drop_of_length_le (by omega)]
    exact ⟨s, h, by rw [valsF, List.append_nil]; exact y, by rw [valsF, List.append_nil]; exact hl, fun r _ e => e⟩
  | succ k ih =>
    intro i h s acc hi y hl
    have xh := x.ky gM.wf y.ky
    obtain ⟨v, q1⟩ : ∃ v, w.first[i]? = some v := ⟨w.first[i]'(by omega), List.getElem?_eq_getElem (by omega)⟩
    have d1 : w.first.drop i = v :: w.first.drop (i + 1) := by
      have := List.drop_eq_getElem_cons (l := w.first) (i := i) (by omega)
      rw [this]
      congr 1
      exact (List.getElem?_eq_some_iff.1 q1).2
    have hv := hf i v q1
    obtain ⟨p, e2, e3⟩ := LR.str xh.wr.first q1
    have ev := rvalue5 y.ky.gd v i hv (by omega)
    have hvl := valueF_len v i
    obtain ⟨s1, h1, ew, y1, _⟩ := y.app (valueF v i) (by omega)
    have w1 := wr_succ (show i < 9223372036854775807 by omega)
    have hlt : ((i : Nat) : Int) < (N : Nat) := by omega
    obtain ⟨s', h', y', hl', go⟩ := ih (i + 1) h1 s1 _ (by omega) y1 (by rw [List.length_append]; omega)
    rw [d1]
    simp only [valsF]
    rw [List.append_assoc] at y' hl'
    refine ⟨s', h', y', hl', fun r hr e => e21_3 ?_ hr⟩
    simp only [t21_3, W, spanK_u, decide_eq_true_eq, Bool.not_eq_true', decide_eq_false_iff_not, Bool.false_eq_true, Bool.not_true, Bool.not_false, decide_true, decide_false, not_true_eq_false, not_false_eq_true, and_true, true_and, and_false, false_and, ne_eq, Nat.zero_add, Nat.add_zero, cond_true, cond_false, ↓reduceIte, reduceCtorEq, Nat.reduceAdd, Int.reduceEq, Int.reduceNe, Int.reduceLT, Int.reduceLE, Int.reduceAdd, Int.reduceSub, Int.reduceMul, Int.reduceNeg, Nat.reduceMul, List.getElem?_cons_zero, List.getElem?_cons_succ, xh.l2, xh.wr.first.len, e1, Int.ofNat_eq_natCast, hlt, e2, e3, ev, ew, w1]
    exact go r hr e
theorem tl_arith {a v : Bs} {i k : Nat} (h1 : a.length ≤ 3000030 + i * 300) (h2 : v.length ≤ k + 5) (h3 : k ≤ 256) : (a ++ v).length ≤ 3000000 + (i + 1) * 300 := by rw [List.length_append]; omega
theorem tchg_loop {hM : H} (gM : Gd hM) {b : Nat} {n wd f l : IV} {w : Wv} (x : WB hM b n wd f l w) {N : Nat} (hN : N ≤ 4096) (hok : ∀ c ∈ w.list, ChgOk N c) (hlen : w.list.length ≤ 2097152) : ∀ (k i : Nat) (h : H) (s : IV) (acc : Bs), i + k = w.list.length → TB hM h s acc → acc.length ≤ 3000000 + i * 300 →
    ∃ h', J21 tab5 4 [.ptr b 0, s, .int .i64 (i : Nat)] h = .ok (.tup [sv (acc ++ chgsF (prevAt w.list i) (w.list.drop i)), .bool true]) h' ∧ Ky hM h' := by
  intro k
  induction k with
  | zero =>
    intro i h s acc hi y hl
    have hlt : ¬ ((i : Nat) : Int) < (w.list.length : Nat) := by omega
    rw [List.drop_of_length_le (by omega)]
    simp only [chgsF, List.append_nil]
    have xh := x.ky gM.wf y.ky
    refine ⟨h, e21_4 ?_ (by simp), y.ky⟩
    simp only [t21_4, W, spanK_u, decide_eq_true_eq, Bool.not_eq_true', decide_eq_false_iff_not, Bool.false_eq_true, Bool.not_true, Bool.not_false, decide_true, decide_false, not_true_eq_false, not_false_eq_true, and_true, true_and, and_false, false_and, ne_eq, Nat.zero_add, Nat.add_zero, cond_true, cond_false, ↓reduceIte, reduceCtorEq, Nat.reduceAdd, Int.reduceEq, Int.reduceNe, Int.reduceLT, Int.reduceLE, Int.reduceAdd, Int.reduceSub, Int.reduceMul, Int.reduceNeg, Nat.reduceMul, List.getElem?_cons_zero, List.getElem?_cons_succ, xh.l3, xh.wr.list.len, Int.ofNat_eq_natCast, hlt, y.text]
  | succ k ih =>
    intro i h s acc hi y hl
    have hil : i < w.list.length := by omega
    have xh := x.ky gM.wf y.ky
    obtain ⟨c, hc⟩ : ∃ c, w.list[i]? = some c := ⟨w.list[i], List.getElem?_eq_getElem hil⟩
    have d1 : w.list.drop i = c :: w.list.drop (i + 1) := by
      have := List.drop_eq_getElem_cons hil
      rw [this]
      congr 1
      exact (List.getElem?_eq_some_iff.1 hc).2
    have ok := hok c (List.mem_of_getElem? hc)
    obtain ⟨m, hm⟩ := Int.eq_ofNat_of_zero_le ok.n0
    have hmN : m < N := by have := ok.n1; omega
    have hmt : c.net.toNat = m := by omega
    have hpr : prevAt w.list (i + 1) = some c := by
      unfold prevAt
      rw [if_neg (by omega), Nat.add_sub_cancel]; exact hc
    rw [d1]
    simp only [chgsF]
    obtain ⟨pb, po, q1, q2, _⟩ := LR.chg xh.wr.list hc
    have hlt : ((i : Nat) : Int) < (w.list.length : Nat) := by omega
    obtain ⟨h6, e6, k6, c6, -, -⟩ := (Ky.refl y.ky.gd).newI (cs := z2) rfl
    obtain ⟨o, e7, c7, _⟩ := c6.st (n := 3) (off := 0) (v := .agg (chgC c)) rfl rfl (by show 0 + 3 ≤ 3; omega)
    have hp : placeL z2 0 (IV.agg (chgC c)).cells = chgC c := rfl
    rw [hp] at c7
    have k7 : Ky h (h6.put h.next o) := by
      obtain ⟨tt, q, _⟩ := c6
      exact k6.put (Nat.le_refl _) q (fun fz size cs hh => by cases hh)
    generalize h6.put h.next o = h7 at e7 c7 k7
    have y7 := y.mono k7
    have x7 := xh.ky y.ky.gd.wf k7
    have l0 : I.ld0 h7 (.ptr h.next 0) = some (.int .i64 c.time) := by rw [c7.ld0]; rfl
    have t1 := ok.t0
    have t2 := ok.t1
    have vl := ok.len
    have m3 := xh.l3
    have n3 := xh.wr.list.len
    have five : ∀ (h8 : H) (s8 : IV) (a8 : Bs), TB hM h8 s8 a8 → Cs h8 h.next true false (chgC c) → a8.length ≤ 3000030 + i * 300 → (∀ z : Bs, a8 ++ (valueF c.val m ++ z) = acc ++ (chgF (prevAt w.list i) c ++ z)) →
        ∃ h', J21 tab5 5 [.ptr b 0, s8, .int .i64 (i : Nat), .ptr h.next 0] h8 = .ok (.tup [sv (acc ++ (chgF (prevAt w.list i) c ++ chgsF (some c) (w.list.drop (i + 1)))), .bool true]) h' ∧ Ky hM h' := by
      intro h8 s8 a8 y8 c8 ha hz
      have l1 : I.ld0 h8 (.ptr h.next 1) = some (.int .i64 (m : Nat)) := by rw [c8.ld0, ← hm]; rfl
      have l2 : I.ld0 h8 (.ptr h.next 2) = some (sv c.val) := by rw [c8.ld0]; rfl
      have ev := rvalue5 y8.ky.gd c.val m vl (by omega)
      have hvl := valueF_len c.val m
      obtain ⟨s9, h9, ew, y9, _⟩ := y8.app (valueF c.val m) (by omega)
      have w1 := wr_succ (show i < 9223372036854775807 by omega)
      rw [← hz]
      obtain ⟨h', e, k'⟩ := ih (i + 1) h9 s9 _ (by omega) y9 (tl_arith ha hvl vl)
      rw [hpr, List.append_assoc] at e
      refine ⟨h', e21_5 ?_ (by simp), k'⟩
      simp only [t21_5, W, spanK_u, decide_eq_true_eq, Bool.not_eq_true', decide_eq_false_iff_not, Bool.false_eq_true, Bool.not_true, Bool.not_false, decide_true, decide_false, not_true_eq_false, not_false_eq_true, and_true, true_and, and_false, false_and, ne_eq, Nat.zero_add, Nat.add_zero, cond_true, cond_false, ↓reduceIte, reduceCtorEq, Nat.reduceAdd, Int.reduceEq, Int.reduceNe, Int.reduceLT, Int.reduceLE, Int.reduceAdd, Int.reduceSub, Int.reduceMul, Int.reduceNeg, Nat.reduceMul, List.getElem?_cons_zero, List.getElem?_cons_succ, l1, l2, ev, ew, w1]
      exact e
    have six : ∀ t : Bool, (t = false ↔ (prevAt w.list i).map (·.time) = some c.time) →
        ∃ h', J21 tab5 6 [.ptr b 0, s, .int .i64 (i : Nat), .ptr h.next 0, .bool t] h7 = .ok (.tup [sv (acc ++ (chgF (prevAt w.list i) c ++ chgsF (some c) (w.list.drop (i + 1)))), .bool true]) h' ∧ Ky hM h' := by
      intro t ht
      cases t with
      | false =>
        have hT : timeF (prevAt w.list i) c = [] := by unfold timeF; rw [if_pos (ht.1 rfl)]
        obtain ⟨h', e, k'⟩ := five h7 s acc y7 c7 (by omega) (fun z => by simp only [chgF, hT, hmt, List.nil_append])
        refine ⟨h', e21_6 ?_ (by simp), k'⟩
        simp only [t21_6, W, spanK_u, decide_eq_true_eq, Bool.not_eq_true', decide_eq_false_iff_not, Bool.false_eq_true, Bool.not_true, Bool.not_false, decide_true, decide_false, not_true_eq_false, not_false_eq_true, and_true, true_and, and_false, false_and, ne_eq, Nat.zero_add, Nat.add_zero, cond_true, cond_false, ↓reduceIte, reduceCtorEq, Nat.reduceAdd, Int.reduceEq, Int.reduceNe, Int.reduceLT, Int.reduceLE, Int.reduceAdd, Int.reduceSub, Int.reduceMul, Int.reduceNeg, Nat.reduceMul, List.getElem?_cons_zero, List.getElem?_cons_succ]
        exact e
      | true =>
        have hT : timeF (prevAt w.list i) c = [35] ++ itoaF c.time ++ [10] := by
          unfold timeF
          rw [if_neg (fun hh => by have := ht.2 hh; cases this)]
        have il := itoaF_len c.time
        obtain ⟨hx, sA, hA, b1, a1, yA, kA⟩ := y7.byte 35 (by omega)
        have cA := kA _ _ _ c7
        have lA : I.ld0 hA (.ptr h.next 0) = some (.int .i64 c.time) := by rw [cA.ld0]; rfl
        have ei := itoa5 (h := hA) c.time (by omega) (by omega)
        obtain ⟨sB, hB, a2, yB, kB⟩ := yA.app (itoaF c.time) (by simp only [List.length_append, List.length_singleton]; omega)
        obtain ⟨hy, sC, hC, b3, a3, yC, kC⟩ := yB.byte 10 (by simp only [List.length_append, List.length_singleton]; omega)
        have cC := kC _ _ _ (kB _ _ _ cA)
        have c35 : IV.int .u8 35 = IV.int .u8 (((35 : UInt8).toNat : Nat) : Int) := rfl
        have c10 : IV.int .u8 10 = IV.int .u8 (((10 : UInt8).toNat : Nat) : Int) := rfl
        obtain ⟨h', e, k'⟩ := five hC sC _ yC cC (by simp only [List.length_append, List.length_singleton]; omega) (fun z => by simp only [chgF, hT, hmt, List.append_assoc])
        refine ⟨h', e21_6 ?_ (by simp), k'⟩
        simp only [t21_6, W, spanK_u, decide_eq_true_eq, Bool.not_eq_true', decide_eq_false_iff_not, Bool.false_eq_true, Bool.not_true, Bool.not_false, decide_true, decide_false, not_true_eq_false, not_false_eq_true, and_true, true_and, and_false, false_and, ne_eq, Nat.zero_add, Nat.add_zero, cond_true, cond_false, ↓reduceIte, reduceCtorEq, Nat.reduceAdd, Int.reduceEq, Int.reduceNe, Int.reduceLT, Int.reduceLE, Int.reduceAdd, Int.reduceSub, Int.reduceMul, Int.reduceNeg, Nat.reduceMul, List.getElem?_cons_zero, List.getElem?_cons_succ, c35, b1, a1, lA, ei, a2, c10, b3, a3]
        exact e
    by_cases h0 : i = 0
    · obtain ⟨h', e, k'⟩ := six true ⟨fun h => (by cases h), fun hh => by unfold prevAt at hh; rw [if_pos h0] at hh; cases hh⟩
      refine ⟨h', e21_4 ?_ (by simp), k'⟩
      have h0' : ((i : Nat) : Int) = 0 := by omega
      simp only [t21_4, W, spanK_u, decide_eq_true_eq, Bool.not_eq_true', decide_eq_false_iff_not, Bool.false_eq_true, Bool.not_true, Bool.not_false, decide_true, decide_false, not_true_eq_false, not_false_eq_true, and_true, true_and, and_false, false_and, ne_eq, Nat.zero_add, Nat.add_zero, cond_true, cond_false, ↓reduceIte, reduceCtorEq, Nat.reduceAdd, Int.reduceEq, Int.reduceNe, Int.reduceLT, Int.reduceLE, Int.reduceAdd, Int.reduceSub, Int.reduceMul, Int.reduceNeg, Nat.reduceMul, List.getElem?_cons_zero, List.getElem?_cons_succ, m3, n3, Int.ofNat_eq_natCast, hlt, q1, q2, e6, e7, eq_true h0', guardK]
      exact e
    · obtain ⟨d, hd⟩ : ∃ d, w.list[i - 1]? = some d := ⟨w.list[i - 1]'(by omega), List.getElem?_eq_getElem (by omega)⟩
      obtain ⟨qb, qo, q3, _, q4⟩ := LR.chg x7.wr.list hd
      have hpv : (prevAt w.list i).map (·.time) = some d.time := by unfold prevAt; rw [if_neg h0, hd]; rfl
      have ws : wr .i64 (((i : Nat) : Int) - 1) = ((i - 1 : Nat) : Int) := by rw [wr_i64 (by omega) (by omega)]; omega
      have h0' : ¬ ((i : Nat) : Int) = 0 := by omega
      have l3 := x7.l3
      by_cases hd2 : d.time = c.time
      · obtain ⟨h', e, k'⟩ := six false ⟨fun _ => by rw [hpv, hd2], fun _ => rfl⟩
        refine ⟨h', e21_4 ?_ (by simp), k'⟩
        simp only [t21_4, W, spanK_u, decide_eq_true_eq, Bool.not_eq_true', decide_eq_false_iff_not, Bool.false_eq_true, Bool.not_true, Bool.not_false, decide_true, decide_false, not_true_eq_false, not_false_eq_true, and_true, true_and, and_false, false_and, ne_eq, Nat.zero_add, Nat.add_zero, cond_true, cond_false, ↓reduceIte, reduceCtorEq, Nat.reduceAdd, Int.reduceEq, Int.reduceNe, Int.reduceLT, Int.reduceLE, Int.reduceAdd, Int.reduceSub, Int.reduceMul, Int.reduceNeg, Nat.reduceMul, List.getElem?_cons_zero, List.getElem?_cons_succ, m3, n3, Int.ofNat_eq_natCast, hlt, q1, q2, e6, e7, eq_false h0', guardK, l3, ws, q3, Nat.add_zero, q4, l0, eq_true hd2]
        exact e
      · obtain ⟨h', e, k'⟩ := six true ⟨fun h => (by cases h), fun hh => by rw [hpv] at hh; injection hh with hh; exact absurd hh hd2⟩
        refine ⟨h', e21_4 ?_ (by simp), k'⟩
        simp only [t21_4, W, spanK_u, decide_eq_true_eq, Bool.not_eq_true', decide_eq_false_iff_not, Bool.false_eq_true, Bool.not_true, Bool.not_false, decide_true, decide_false, not_true_eq_false, not_false_eq_true, and_true, true_and, and_false, false_and, ne_eq, Nat.zero_add, Nat.add_zero, cond_true, cond_false, ↓reduceIte, reduceCtorEq, Nat.reduceAdd, Int.reduceEq, Int.reduceNe, Int.reduceLT, Int.reduceLE, Int.reduceAdd, Int.reduceSub, Int.reduceMul, Int.reduceNeg, Nat.reduceMul, List.getElem?_cons_zero, List.getElem?_cons_succ, m3, n3, Int.ofNat_eq_natCast, hlt, q1, q2, e6, e7, eq_false h0', guardK, l3, ws, q3, Nat.add_zero, q4, l0, eq_false hd2]
        exact e
def textI : Option Bs → IV
  | none => .tup [sv [], .bool false]
  | some t => .tup [sv t, .bool true]
def textF (w : Wv) : Option Bs := (varsF 0 w.names w.wides).map fun v => baseF w v ++ chgsF none w.list
theorem text {h : H} (g : Gd h) {n wd f l : IV} {w : Wv} (r : WR h n wd f l w) (hF : waveF w = true) (hl : w.list.length ≤ 2097152) : ∃ h', CL tab5 21 [.agg [n, wd, f, l]] h = .ok (textI (textF w)) h' ∧ Ky h h' := by
  obtain ⟨h2, e2, k2, c2, -, -⟩ := (Ky.refl g).newI (cs := [n, wd, f, l]) r.scalar
  have x : WB h2 h.next n wd f l w := ⟨c2, r.ky g.wf k2⟩
  simp only [waveF, Bool.and_eq_true, decide_eq_true_eq] at hF
  obtain ⟨⟨hN, hn⟩, hls⟩ := hF
  obtain ⟨le1, le2⟩ := netsF_len hn
  obtain ⟨sA, hA, a1, yA, _⟩ := (TB.start k2.gd).app headF (by decide)
  rw [List.nil_append] at yA
  have start : ∀ r : CRes, r ≠ .fail → J21 tab5 1 [.ptr h.next 0, sA, .int .i64 ((0 : Nat) : Int)] hA = r → CL tab5 21 [.agg [n, wd, f, l]] h = r := by
    intro r hr e
    refine c21 good5.step rfl rfl g ?_ hr
    simp only [t21_0, IV.cells, e2, W, spanK_u, decide_eq_true_eq, Bool.not_eq_true', decide_eq_false_iff_not, Bool.false_eq_true, Bool.not_true, Bool.not_false, decide_true, decide_false, not_true_eq_false, not_false_eq_true, and_true, true_and, and_false, false_and, ne_eq, Nat.zero_add, Nat.add_zero, cond_true, cond_false, ↓reduceIte, reduceCtorEq, Nat.reduceAdd, Int.reduceEq, Int.reduceNe, Int.reduceLT, Int.reduceLE, Int.reduceAdd, Int.reduceSub, Int.reduceMul, Int.reduceNeg, Nat.reduceMul, List.getElem?_cons_zero, List.getElem?_cons_succ, head_sv, a1]
    exact e
  obtain ⟨v1, v2⟩ := tvars_loop k2.gd x hN rfl hn w.names.length 0 hA sA headF (by omega) yA (by decide)
  simp only [List.drop_zero] at v1 v2
  unfold textF
  cases hv : varsF 0 w.names w.wides with
  | none =>
    obtain ⟨h', e, k'⟩ := v1 hv
    exact ⟨h', start _ (by simp) e, k2.trans k'⟩
  | some v =>
    obtain ⟨sB, hB, yB, bB, go⟩ := v2 v hv
    have ml : midF.length = 45 := rfl
    have el : endF.length = 5 := rfl
    obtain ⟨sC, hC, a2, yC, _⟩ := yB.app midF (by omega)
    have bC : (headF ++ v ++ midF).length ≤ 1300000 := by rw [List.length_append]; omega
    obtain ⟨sD, hD, yD, bD, go2⟩ := tvals_loop k2.gd x hN le2 (fun i v hv => netsF_first hn i v hv) w.names.length 0 hC sC _ (by omega) yC (by omega)
    rw [List.drop_zero] at yD bD
    obtain ⟨sE, hE, a3, yE, _⟩ := yD.app endF (by omega)
    have hb : headF ++ v ++ midF ++ valsF 0 w.first ++ endF = baseF w v := rfl
    rw [hb] at yE
    have bb : (baseF w v).length ≤ 3000000 := by rw [← hb, List.length_append]; omega
    obtain ⟨h', e, k'⟩ := tchg_loop k2.gd x hN (listF_at hls) hl w.list.length 0 hE sE (baseF w v) (by omega) yE (by omega)
    rw [List.drop_zero, show prevAt w.list 0 = none from rfl] at e
    have xB := x.ky k2.gd.wf yB.ky
    have xD := x.ky k2.gd.wf yD.ky
    refine ⟨h', start _ (by simp [textI]) (go _ (by simp [textI]) ?_), k2.trans k'⟩
    refine e21_1 ?_ (by simp [textI])
    simp only [t21_1, W, spanK_u, decide_eq_true_eq, Bool.not_eq_true', decide_eq_false_iff_not, Bool.false_eq_true, Bool.not_true, Bool.not_false, decide_true, decide_false, not_true_eq_false, not_false_eq_true, and_true, true_and, and_false, false_and, ne_eq, Nat.zero_add, Nat.add_zero, cond_true, cond_false, ↓reduceIte, reduceCtorEq, Nat.reduceAdd, Int.reduceEq, Int.reduceNe, Int.reduceLT, Int.reduceLE, Int.reduceAdd, Int.reduceSub, Int.reduceMul, Int.reduceNeg, Nat.reduceMul, List.getElem?_cons_zero, List.getElem?_cons_succ, xB.l0, xB.wr.names.len, Int.ofNat_eq_natCast, Int.lt_irrefl, mid_sv, a2]
    refine go2 _ (by simp [textI]) ?_
    refine e21_3 ?_ (by simp [textI])
    simp only [t21_3, W, spanK_u, decide_eq_true_eq, Bool.not_eq_true', decide_eq_false_iff_not, Bool.false_eq_true, Bool.not_true, Bool.not_false, decide_true, decide_false, not_true_eq_false, not_false_eq_true, and_true, true_and, and_false, false_and, ne_eq, Nat.zero_add, Nat.add_zero, cond_true, cond_false, ↓reduceIte, reduceCtorEq, Nat.reduceAdd, Int.reduceEq, Int.reduceNe, Int.reduceLT, Int.reduceLE, Int.reduceAdd, Int.reduceSub, Int.reduceMul, Int.reduceNeg, Nat.reduceMul, List.getElem?_cons_zero, List.getElem?_cons_succ, xD.l2, xD.wr.first.len, le2, Int.ofNat_eq_natCast, Int.lt_irrefl, end_sv, a3]
    exact e
theorem rwrite {h : H} (g : Gd h) {n wd f l : IV} {w : Wv} (r : WR h n wd f l w) (ok : WS w) (hl : w.list.length ≤ 2097152) : ∃ h', CL tab5 7 [.agg [n, wd, f, l]] h = .ok (resI (writeF w)) h' ∧ Ky h h' := by
  obtain ⟨h2, e2, k2, c2, -, -⟩ := (Ky.refl g).newI (cs := [n, wd, f, l]) r.scalar
  have lA : I.ldA 4 h2 (.ptr h.next 0) = some (.agg [n, wd, f, l]) := c2.ldAll rfl
  have r2 := r.ky g.wf k2
  obtain ⟨h5, em, k5⟩ := wavesMay k2.gd r2 (by omega) ok
  have k25 := k2.trans k5
  have s0 : IV.str ⟨0, 0⟩ = sv [] := rfl
  unfold writeF
  cases hF : waveF w with
  | false =>
    rw [hF] at em
    refine ⟨h5, c7 good5.step rfl rfl g ?_ (by simp [resI]), k25⟩
    simp only [t7_0, IV.cells, e2, W, spanK_u, decide_eq_true_eq, Bool.not_eq_true', decide_eq_false_iff_not, Bool.false_eq_true, Bool.not_true, Bool.not_false, decide_true, decide_false, not_true_eq_false, not_false_eq_true, and_true, true_and, and_false, false_and, ne_eq, Nat.zero_add, Nat.add_zero, cond_true, cond_false, ↓reduceIte, reduceCtorEq, Nat.reduceAdd, Int.reduceEq, Int.reduceNe, Int.reduceLT, Int.reduceLE, Int.reduceAdd, Int.reduceSub, Int.reduceMul, Int.reduceNeg, Nat.reduceMul, List.getElem?_cons_zero, List.getElem?_cons_succ, lA, em, Bool.not_false, s0]
    rfl
  | true =>
    rw [hF] at em
    have c5 := c2.ky k2.gd.wf k5
    have lB : I.ldA 4 h5 (.ptr h.next 0) = some (.agg [n, wd, f, l]) := c5.ldAll rfl
    obtain ⟨h9, et, k9⟩ := text k5.gd (r2.ky k2.gd.wf k5) hF hl
    rw [if_pos rfl]
    unfold textF at et
    cases hv : varsF 0 w.names w.wides with
    | none =>
      rw [hv] at et
      simp only [Option.map_none, textI] at et
      refine ⟨h9, c7 good5.step rfl rfl g ?_ (by simp [resI]), k25.trans k9⟩
      simp only [t7_0, IV.cells, e2, W, spanK_u, decide_eq_true_eq, Bool.not_eq_true', decide_eq_false_iff_not, Bool.false_eq_true, Bool.not_true, Bool.not_false, decide_true, decide_false, not_true_eq_false, not_false_eq_true, and_true, true_and, and_false, false_and, ne_eq, Nat.zero_add, Nat.add_zero, cond_true, cond_false, ↓reduceIte, reduceCtorEq, Nat.reduceAdd, Int.reduceEq, Int.reduceNe, Int.reduceLT, Int.reduceLE, Int.reduceAdd, Int.reduceSub, Int.reduceMul, Int.reduceNeg, Nat.reduceMul, List.getElem?_cons_zero, List.getElem?_cons_succ, lA, em, Bool.not_true, Bool.not_false, lB, et, s0]
      rfl
    | some v =>
      rw [hv] at et
      simp only [Option.map_some, textI] at et
      by_cases hb : 1048576 < (baseF w v ++ chgsF none w.list).length
      · have hb' : (1048576 : Int) < ((baseF w v ++ chgsF none w.list).length : Nat) := by omega
        refine ⟨h9, c7 good5.step rfl rfl g ?_ (by simp only [if_pos hb]; simp [resI]), k25.trans k9⟩
        simp only [if_pos hb]
        simp only [t7_0, IV.cells, e2, W, spanK_u, decide_eq_true_eq, Bool.not_eq_true', decide_eq_false_iff_not, Bool.false_eq_true, Bool.not_true, Bool.not_false, decide_true, decide_false, not_true_eq_false, not_false_eq_true, and_true, true_and, and_false, false_and, ne_eq, Nat.zero_add, Nat.add_zero, cond_true, cond_false, ↓reduceIte, reduceCtorEq, Nat.reduceAdd, Int.reduceEq, Int.reduceNe, Int.reduceLT, Int.reduceLE, Int.reduceAdd, Int.reduceSub, Int.reduceMul, Int.reduceNeg, Nat.reduceMul, List.getElem?_cons_zero, List.getElem?_cons_succ, lA, em, Bool.not_true, lB, et, hb', s0]
        rfl
      · have hb' : ¬ (1048576 : Int) < ((baseF w v ++ chgsF none w.list).length : Nat) := by omega
        refine ⟨h9, c7 good5.step rfl rfl g ?_ (by simp only [if_neg hb]; simp [resI]), k25.trans k9⟩
        simp only [if_neg hb]
        simp only [t7_0, IV.cells, e2, W, spanK_u, decide_eq_true_eq, Bool.not_eq_true', decide_eq_false_iff_not, Bool.false_eq_true, Bool.not_true, Bool.not_false, decide_true, decide_false, not_true_eq_false, not_false_eq_true, and_true, true_and, and_false, false_and, ne_eq, Nat.zero_add, Nat.add_zero, cond_true, cond_false, ↓reduceIte, reduceCtorEq, Nat.reduceAdd, Int.reduceEq, Int.reduceNe, Int.reduceLT, Int.reduceLE, Int.reduceAdd, Int.reduceSub, Int.reduceMul, Int.reduceNeg, Nat.reduceMul, List.getElem?_cons_zero, List.getElem?_cons_succ, lA, em, Bool.not_true, lB, et, hb']
        rfl
theorem sound5 : ∀ w₀ S, EP w₀ S → CallS Tryz.prog w₀ S (CL tab5) := good5.sound envK mixed noNum
theorem lit_ky {es : Nat} {z : List IV} {vs : List IV} {h : H} (g : Gd h) (hz : z.length = es) (hv : ∀ v ∈ vs, v.cells.length = es) (hs : allScalar (cellsOf vs) = true) :
    ∃ h', bslK false es z vs.length (partsFrom vs 0) h = some (.slice h.next 0 vs.length es, h') ∧ Ky h h' ∧ Cs h' h.next false true (cellsOf vs) ∧ h'.next = h.next + 1 := by
  refine ⟨_, bslK_all hz hv hs h, (Ky.refl g).push _, ?_, rfl⟩
  rw [g.pol]; exact Cs.push _
theorem litW_ky {es : Nat} {z : List IV} {vs : List IV} {h : H} (g : Gd h) (hz : z.length = es) (hv : ∀ v ∈ vs, v.cells.length = es) (hs : allScalar (cellsOf vs) = true) :
    ∃ h', bslK true es z vs.length (partsFrom vs 0) h = some (.slice h.next 0 vs.length es, h') ∧ Ky h h' ∧ Cs h' h.next true false (cellsOf vs) ∧ h'.next = h.next + 1 := by
  refine ⟨_, bslK_all hz hv hs h, (Ky.refl g).push _, ?_, rfl⟩
  rw [g.pol]; exact Cs.push _
theorem I.Cs.ne {h : H} {q b : Nat} {rw fz fz' : Bool} {cs cs' : List IV} (c : Cs h q rw fz cs) (d : Cs h b (!rw) fz' cs') : q ≠ b := by
  rintro rfl
  obtain ⟨t, q1, _⟩ := c
  obtain ⟨t', q2, _⟩ := d
  rw [q1] at q2
  injection q2 with q2
  injection q2 with q2
  cases rw <;> cases q2
theorem I.GLk.of_put {h₀ h : H} {b : Nat} {o : I.Obj} {es : Nat} {cs ds : List IV} {fz : Bool} {s : IV} (gl : GLk h₀ h es cs s) (d : Cs h b true fz ds) : GLk h₀ (h.put b o) es cs s := by
  rcases gl with h1 | ⟨b', k, h1, c, h3, h4⟩
  · exact .inl h1
  · exact .inr ⟨b', k, h1, c.of_put (c.ne d), h3, h4⟩
theorem I.LR.of_put {α : Type} {R : α → List IV → Prop} {h : H} {b : Nat} {o : I.Obj} {es : Nat} {l : List α} {v : IV} (r : LR h es R l v) {fz : Bool} {ds : List IV} (d : Cs h b true fz ds) : LR (h.put b o) es R l v := by
  rcases r with r | ⟨b', off, cs, h1, ⟨fz', c⟩, h3, h4⟩
  · exact .inl r
  · exact .inr ⟨b', off, cs, h1, ⟨fz', c.of_put (c.ne d)⟩, h3, h4⟩
theorem I.Ky.st {h₀ h : H} (x : Ky h₀ h) {b : Nat} {fz : Bool} {cs : List IV} (c : Cs h b true fz cs) (hb : h₀.next ≤ b) {n off : Nat} {v : IV} (hv : v.cells.length = n) (hs : allScalar v.cells = true) (hle : off + n ≤ cs.length) :
    ∃ o, stA n h (.ptr b off) v = some (h.put b o) ∧ Ky h₀ (h.put b o) ∧ Cs (h.put b o) b true fz (placeL cs off v.cells) := by
  obtain ⟨o, e, c', _⟩ := c.st hv hs hle
  obtain ⟨t, q, _⟩ := c
  exact ⟨o, e, x.put hb q (fun _ _ _ hh => by cases hh), c'⟩
theorem appK_keep {h h' : H} (w : WF h) {es bytes : Nat} {cs : List IV} {s y s' : IV} (gl : GL h es cs s) (e : appK es bytes h s y = some (s', h')) {b : Nat} {fz : Bool} {ds : List IV} (d : Cs h b true fz ds) : Cs h' b true fz ds := by
  refine d.of_get ?_
  unfold appK at e
  split at e
  · split at e
    · cases e
    · rcases gl with ⟨q1, rfl⟩ | ⟨b', k, rfl, c, q3⟩
      · simp only at e
        split at e
        · injection e with e; injection e with _ e; subst e; rfl
        · split at e
          · injection e with e; injection e with _ e; subst e
            rw [H.get_push, if_neg (by have := d.lt w; omega)]
          · cases e
      · have hne := I.Cs.ne c d
        obtain ⟨t, q5, q6⟩ := c
        simp only [q5, ne_eq, not_true_eq_false, if_false] at e
        split at e
        · injection e with e; injection e with _ e; subst e; rfl
        · split at e
          · injection e with e; injection e with _ e; subst e
            rw [H.get_push, if_neg (by show ¬ b = h.next; have := d.lt w; omega), H.get_put, if_neg (Ne.symm hne)]
          · cases e
  · cases e
theorem readLong {h : H} (g : Gd h) (s : Bs) (hs : 1048576 < s.length) : ∃ h', CL tab3 9 [sv s] h = .ok (.tup [.agg z0, .int .i64 4]) h' ∧ Ky h h' := by
  obtain ⟨h2, s2, k2, d2, -, n2⟩ := (Ky.refl g).newI (cs := z0) rfl
  obtain ⟨h4, s4, k4, d4, k24, n4⟩ := k2.newI (cs := [.int .i64 0]) rfl
  have d2' := d2.ky k2.gd.wf k24
  obtain ⟨o1, s8, k8, d8⟩ := k4.st d2' (Nat.le_refl _) (n := 4) (off := 0) (v := .agg z0) rfl rfl (by show 0 + 4 ≤ 4; omega)
  have hne : h2.next ≠ h.next := by omega
  have d4' := d4.of_put (o := o1) hne
  generalize h4.put h.next o1 = h8 at s8 k8 d8 d4'
  obtain ⟨o2, s9, k9, d9⟩ := k8.st d4' (by omega) (n := 1) (off := 0) (v := .int .i64 4) rfl rfl (by show 0 + 1 ≤ 1; omega)
  have d8' := d8.of_put (o := o2) (Ne.symm hne)
  generalize h8.put h2.next o2 = h9 at s9 k9 d9 d8'
  refine ⟨h9, c9 good3.step rfl rfl g ?_ (by simp), k9⟩
  have hlt : (1048576 : Int) < (s.length : Nat) := by omega
  have b0 : bldK z0 p1 [] = some (.agg z0) := rfl
  have l2 : I.ldA 4 h9 (.ptr h.next 0) = some (.agg z0) := d8'.ldAll rfl
  have l4 : I.ld0 h9 (.ptr h2.next 0) = some (.int .i64 4) := by rw [d9.ld0]; rfl
  simp only [t9_0, s2, s4, W, spanK_u, decide_eq_true_eq, Bool.not_eq_true', decide_eq_false_iff_not, Bool.false_eq_true, Bool.not_true, Bool.not_false, decide_true, decide_false, not_true_eq_false, not_false_eq_true, and_true, true_and, and_false, false_and, ne_eq, Nat.zero_add, Nat.add_zero, cond_true, cond_false, ↓reduceIte, reduceCtorEq, Nat.reduceAdd, Int.reduceEq, Int.reduceNe, Int.reduceLT, Int.reduceLE, Int.reduceAdd, Int.reduceSub, Int.reduceMul, Int.reduceNeg, Nat.reduceMul, List.getElem?_cons_zero, List.getElem?_cons_succ, hlt, b0, s8, s9, l2, l4]
theorem set_mid (c : UInt8) (i n : Nat) : (List.replicate i c ++ List.replicate (n + 1) (0 : UInt8)).set i c = List.replicate (i + 1) c ++ List.replicate n 0 := by
  rw [List.set_append_right _ _ (by simp), List.length_replicate, Nat.sub_self, List.replicate_succ, List.set_cons_zero, List.replicate_succ' (n := i), List.append_assoc]; rfl
theorem wide_loop {hM : H} (c : UInt8) {b : Nat} (hb : hM.next ≤ b) : ∀ (n i : Nat) (h : H), i + n = 256 → Ky hM h → Cs h b true false (bys (List.replicate i c ++ List.replicate n 0)) →
    ∃ h', J12 tab5 1 [.int .u8 (c.toNat : Nat), .slice b 0 256 1, .int .i64 (i : Nat)] h = .ok (sv (List.replicate 256 c)) h' ∧ Ky hM h' := by
  intro n
  induction n with
  | zero =>
    intro i h hi k cs
    have : i = 256 := by omega
    subst this
    rw [List.replicate_zero, List.append_nil] at cs
    refine ⟨h, e12_1 ?_ (by simp), k⟩
    have ec := cvS_all (n := 256) cs (by simp)
    simp only [t12_1, W, spanK_u, decide_eq_true_eq, Bool.not_eq_true', decide_eq_false_iff_not, Bool.false_eq_true, Bool.not_true, Bool.not_false, decide_true, decide_false, not_true_eq_false, not_false_eq_true, and_true, true_and, and_false, false_and, ne_eq, Nat.zero_add, Nat.add_zero, cond_true, cond_false, ↓reduceIte, reduceCtorEq, Nat.reduceAdd, Int.reduceEq, Int.reduceNe, Int.reduceLT, Int.reduceLE, Int.reduceAdd, Int.reduceSub, Int.reduceMul, Int.reduceNeg, Nat.reduceMul, List.getElem?_cons_zero, List.getElem?_cons_succ, Int.ofNat_eq_natCast, Int.cast_ofNat_Int, Int.lt_irrefl, ec]
  | succ n ih =>
    intro i h hi k cs
    obtain ⟨o, e1, c1, ho⟩ := cs.byte (i := i) (by simp) c
    rw [set_mid] at c1
    have k1 : Ky hM (h.put b o) := by
      obtain ⟨t, q, _⟩ := cs
      exact k.put hb q (fun _ _ _ hh => by cases hh)
    obtain ⟨h', e, k'⟩ := ih (i + 1) _ (by omega) k1 c1
    refine ⟨h', e12_1 ?_ (by simp), k'⟩
    have hlt : ((i : Nat) : Int) < 256 := by omega
    have ix := ixS_byte (b := b) (n := 256) (i := i) (k := .i64) (by omega)
    simp only [t12_1, W, spanK_u, decide_eq_true_eq, Bool.not_eq_true', decide_eq_false_iff_not, Bool.false_eq_true, Bool.not_true, Bool.not_false, decide_true, decide_false, not_true_eq_false, not_false_eq_true, and_true, true_and, and_false, false_and, ne_eq, Nat.zero_add, Nat.add_zero, cond_true, cond_false, ↓reduceIte, reduceCtorEq, Nat.reduceAdd, Int.reduceEq, Int.reduceNe, Int.reduceLT, Int.reduceLE, Int.reduceAdd, Int.reduceSub, Int.reduceMul, Int.reduceNeg, Nat.reduceMul, List.getElem?_cons_zero, List.getElem?_cons_succ, hlt, ix, e1, wr_succ (show i < 9223372036854775807 by omega)]
    exact e
theorem wide5 {h : H} (g : Gd h) (c : UInt8) : ∃ h', CL tab5 12 [.int .u8 (c.toNat : Nat)] h = .ok (sv (List.replicate 256 c)) h' ∧ Ky h h' := by
  obtain ⟨h2, e2, k2, c2⟩ := mks_ky g 256 (by omega)
  obtain ⟨h', e, k'⟩ := wide_loop c (Nat.le_refl _) 256 0 h2 (by omega) k2 (by simpa using c2)
  refine ⟨h', c12 good5.step rfl rfl g ?_ (by simp), k'⟩
  have e2' : mksK 1 1 [.int .u8 0] h (.int .i64 256) (.int .i64 256) = some (.slice h.next 0 256 1, h2) := e2
  simp only [t12_0, e2', W, spanK_u, decide_eq_true_eq, Bool.not_eq_true', decide_eq_false_iff_not, Bool.false_eq_true, Bool.not_true, Bool.not_false, decide_true, decide_false, not_true_eq_false, not_false_eq_true, and_true, true_and, and_false, false_and, ne_eq, Nat.zero_add, Nat.add_zero, cond_true, cond_false, ↓reduceIte, reduceCtorEq, Nat.reduceAdd, Int.reduceEq, Int.reduceNe, Int.reduceLT, Int.reduceLE, Int.reduceAdd, Int.reduceSub, Int.reduceMul, Int.reduceNeg, Nat.reduceMul, List.getElem?_cons_zero, List.getElem?_cons_succ]
  exact e
theorem maskAnd (m : Nat) (hm : m < 9223372036854775808) (a : Int) : ∃ r : Nat, r ≤ m ∧ binN .and (.int .i64 a) (.int .i64 ((m : Nat) : Int)) = some (.int .i64 (r : Int)) := by
  have hle : (BitVec.ofInt IntKind.i64.bits a &&& BitVec.ofInt IntKind.i64.bits ((m : Nat) : Int)).toNat ≤ m := by
    rw [BitVec.toNat_and]
    refine Nat.le_trans Nat.and_le_right ?_
    show (BitVec.ofInt 64 ((m : Nat) : Int)).toNat ≤ m
    rw [BitVec.ofInt_natCast, BitVec.toNat_ofNat]
    exact Nat.mod_le _ _
  refine ⟨_, hle, ?_⟩
  rw [binN_and]
  generalize (BitVec.ofInt IntKind.i64.bits a &&& BitVec.ofInt IntKind.i64.bits ((m : Nat) : Int)).toNat = r at hle ⊢
  have : IntKind.i64.wrap ((r : Nat) : Int) = (r : Nat) := by
    simp only [IntKind.wrap, IntKind.bits, IntKind.signed]
    simp
    omega
  rw [this]
def flC (l : List Chg) : List IV := (l.map chgC).flatten
theorem flC_snoc (l : List Chg) (c : Chg) : flC (l ++ [c]) = flC l ++ chgC c := by simp [flC]
theorem flC_len : ∀ l : List Chg, (flC l).length = 3 * l.length
  | [] => rfl
  | c :: l => by
    have := flC_len l
    simp only [flC, List.map_cons, List.flatten_cons, List.length_append, List.length_cons] at this ⊢
    rw [this]
    show 3 + _ = _
    omega
theorem flC_ch : ∀ l : List Chg, Ch RC 3 l (flC l)
  | [] => rfl
  | c :: l => ⟨chgC c, flC l, rfl, rfl, rfl, flC_ch l⟩
structure VL (h₀ h : H) (b : Nat) (n wd f s : IV) (w : Wv) : Prop where
  wf : WF h₀
  ky : Ky h₀ h
  hb : h₀.next ≤ b
  cs : Cs h b true false [n, wd, f, s]
  names : LR h₀ 1 RS w.names n
  wides : LW h₀ w.wides wd
  first : LR h₀ 1 RS w.first f
  gl : GLk h₀ h 3 (flC w.list) s
theorem VL.wr {h₀ h : H} {b : Nat} {n wd f s : IV} {w : Wv} (x : VL h₀ h b n wd f s w) : WR h n wd f s w := ⟨LR.ky x.names x.wf x.ky, LW.ky x.wides x.wf x.ky, LR.ky x.first x.wf x.ky, x.gl.gl.LR (by decide) (flC_ch _)⟩
theorem VL.go {h₀ h h' : H} {b : Nat} {n wd f s : IV} {w : Wv} (x : VL h₀ h b n wd f s w) (k : Ky h h') : VL h₀ h' b n wd f s w :=
  ⟨x.wf, x.ky.trans k, x.hb, x.cs.ky x.ky.gd.wf k, x.names, x.wides, x.first, x.gl.ky x.ky.gd.wf k⟩
theorem VL.snoc {h₀ h : H} {b : Nat} {n wd f s : IV} {w : Wv} (x : VL h₀ h b n wd f s w) (hl : w.list.length ≤ 100000000) (c : Chg) :
    ∃ h28 s' h31 h33, bslK false 3 z2 1 [(0, .agg (chgC c))] h = some (.slice h.next 0 1 3, h28) ∧ I.ld0 h28 (.ptr b 3) = some s ∧ appK 3 32 h28 s (.slice h.next 0 1 3) = some (s', h31) ∧ stA 1 h31 (.ptr b 3) s' = some h33 ∧ VL h₀ h33 b n wd f s' { w with list := w.list ++ [c] } := by
  obtain ⟨h28, e28, k28, c28, -⟩ := lit_ky (es := 3) (z := z2) (vs := [.agg (chgC c)]) x.ky.gd rfl (fun v hv => by simp at hv; subst hv; rfl) rfl
  have x2 := x.go k28
  have l3 : I.ld0 h28 (.ptr b 3) = some s := by rw [x2.cs.ld0]; rfl
  have hcs : cellsOf [IV.agg (chgC c)] = chgC c := rfl
  rw [hcs] at c28
  have src : sourceI h28 3 (.slice h.next 0 1 3) = some (chgC c, 1) := by
    have := (show Ci h28 h.next (chgC c) from ⟨_, c28⟩).source (off := 0) (n := 1) (es := 3) (by show 0 + 1 * 3 ≤ 3; omega) (by decide)
    rw [this]; rfl
  have room : (2 * ((flC w.list).length + 1) + 2000) * 32 ≤ 2 ^ 46 := by rw [flC_len]; omega
  obtain ⟨s', h31, e31, k31, gl31⟩ := x2.ky.app x2.gl src rfl rfl (by decide) room (by decide)
  have cs31 : Cs h31 b true false [n, wd, f, s] := appK_keep x2.ky.gd.wf x2.gl.gl e31 x2.cs
  have s'c : s'.cells = [s'] := by have := gl31.scalar; cases s' <;> first | rfl | (simp [IV.scalar] at this)
  obtain ⟨o, e33, k33, c33⟩ := k31.st cs31 x.hb (n := 1) (off := 3) (v := s') (by rw [s'c]; rfl) (by rw [s'c]; simp [allScalar, gl31.scalar]) (by show 3 + 1 ≤ 4; omega)
  have hp : placeL [n, wd, f, s] 3 s'.cells = [n, wd, f, s'] := by rw [s'c]; rfl
  rw [hp] at c33
  refine ⟨h28, s', h31, _, e28, l3, e31, e33, ⟨x.wf, k33, x.hb, c33, x.names, x.wides, x.first, ?_⟩⟩
  have := gl31.of_put (o := o) cs31
  rw [flC_snoc]; exact this
def bitL (i : Nat) : UInt8 := UInt8.ofNat (48 + i % 2)
theorem bitL_nat (i : Nat) : (bitL i).toNat = 48 + i % 2 := UInt8.toNat_ofNat_of_lt' (by show 48 + i % 2 < 256; omega)
theorem andOne (n : Nat) (h : n < 9223372036854775808) : IntKind.i64.wrap (BitVec.ofInt IntKind.i64.bits ((n : Nat) : Int) &&& BitVec.ofInt IntKind.i64.bits 1).toNat = ((n % 2 : Nat) : Int) := by
  have e : (BitVec.ofInt IntKind.i64.bits ((n : Nat) : Int) &&& BitVec.ofInt IntKind.i64.bits 1).toNat = n % 2 := by
    rw [BitVec.toNat_and]
    have h1 : (BitVec.ofInt IntKind.i64.bits ((n : Nat) : Int)).toNat = n := by
      show (BitVec.ofInt 64 ((n : Nat) : Int)).toNat = n
      rw [BitVec.ofInt_natCast, BitVec.toNat_ofNat]
      exact Nat.mod_eq_of_lt (by omega)
    have h2 : (BitVec.ofInt IntKind.i64.bits 1).toNat = 1 := rfl
    rw [h1, h2, Nat.and_one_is_mod]
  rw [e]
  rcases Nat.mod_two_eq_zero_or_one n with h | h <;> rw [h] <;> rfl
theorem long_loop {hM : H} {n wd f : IV} {b : Nat} {N : Nat} (hN : N ≤ 10000) : ∀ (k i : Nat) (h : H) (s : IV) (w : Wv), i + k = N → VL hM h b n wd f s w → w.list.length = i → WS w →
    ∃ h', J5 tab5 1 [.int .i64 (N : Nat), .ptr b 0, .int .i64 (i : Nat)] h = .ok (.bool true) h' := by
  intro k
  induction k with
  | zero =>
    intro i h s w hi x hl ok
    have hlt : ¬ ((i : Nat) : Int) < (N : Nat) := by omega
    have lA : I.ldA 4 h (.ptr b 0) = some (.agg [n, wd, f, s]) := x.cs.ldAll rfl
    obtain ⟨h5, ew, k5⟩ := write x.ky.gd x.wr (by omega)
    have x5 := x.go k5
    have lB : I.ldA 4 h5 (.ptr b 0) = some (.agg [n, wd, f, s]) := x5.cs.ldAll rfl
    obtain ⟨h9, er, k9⟩ := rwrite k5.gd x5.wr ok (by omega)
    obtain ⟨M, hM⟩ : ∃ M : Nat, M = 1048577 := ⟨_, rfl⟩
    obtain ⟨h10, e10, k10, c10⟩ := mks_ky k9.gd M (by omega)
    have ecv := cvS_all (n := M) c10 (by simp)
    have eM : IV.int .i64 1048577 = IV.int .i64 ((M : Nat) : Int) := by rw [hM]; rfl
    obtain ⟨h12, e12, k12⟩ := readLong k10.gd (List.replicate M 0) (by simp; omega)
    obtain ⟨h13, e13, k13, c13, -, -⟩ := (Ky.refl k12.gd).newI (cs := z0) rfl
    obtain ⟨o, e14, k14, c14⟩ := k13.st c13 (Nat.le_refl _) (n := 4) (off := 0) (v := .agg z0) rfl rfl (by show 0 + 4 ≤ 4; omega)
    refine ⟨h13.put h12.next o, e5_1 ?_ (by simp)⟩
    simp only [resI] at ew er
    simp only [t5_1, W, spanK_u, decide_eq_true_eq, Bool.not_eq_true', decide_eq_false_iff_not, Bool.false_eq_true, Bool.not_true, Bool.not_false, decide_true, decide_false, not_true_eq_false, not_false_eq_true, and_true, true_and, and_false, false_and, ne_eq, Nat.zero_add, Nat.add_zero, cond_true, cond_false, ↓reduceIte, reduceCtorEq, Nat.reduceAdd, Int.reduceEq, Int.reduceNe, Int.reduceLT, Int.reduceLE, Int.reduceAdd, Int.reduceSub, Int.reduceMul, Int.reduceNeg, Nat.reduceMul, List.getElem?_cons_zero, List.getElem?_cons_succ, hlt, lA, ew, lB, er, eM, e10, ecv, e12, e13, e14, awake5]
  | succ k ih =>
    intro i h s w hi x hl ok
    have hlt : ((i : Nat) : Int) < (N : Nat) := by omega
    have l3 : I.ld0 h (.ptr b 3) = some s := by rw [x.cs.ld0]; rfl
    obtain ⟨h24, ew, k24⟩ := wide5 x.ky.gd (bitL i)
    rw [bitL_nat] at ew
    have x24 := x.go k24
    have l3' : I.ld0 h24 (.ptr b 3) = some s := by rw [x24.cs.ld0]; rfl
    obtain ⟨h28, s', h31, h33, e28, l28, e31, e33, x33⟩ := x24.snoc (by omega) ⟨(i : Nat), 0, List.replicate 256 (bitL i)⟩
    obtain ⟨h', e⟩ := ih (i + 1) h33 s' _ (by omega) x33 (by simp [hl]) ⟨ok.names, ok.first, fun c hc => by
      rcases List.mem_append.1 hc with hc | hc
      · exact ok.vals c hc
      · simp only [List.mem_singleton] at hc; subst hc; simp⟩
    refine ⟨h', e5_1 ?_ (by simp)⟩
    have w1 : wr .u8 (wr .i64 (48 + ((i % 2 : Nat) : Int))) = ((48 + i % 2 : Nat) : Int) := by rw [wr_i64 (by omega) (by omega), wr_u8 (by omega) (by omega)]; omega
    have bl : bldK z2 p3 [(0, IV.int .i64 (i : Nat)), (2, sv (List.replicate 256 (bitL i)))] = some (.agg (chgC ⟨(i : Nat), 0, List.replicate 256 (bitL i)⟩)) := rfl
    simp only [t5_1, W, spanK_u, decide_eq_true_eq, Bool.not_eq_true', decide_eq_false_iff_not, Bool.false_eq_true, Bool.not_true, Bool.not_false, decide_true, decide_false, not_true_eq_false, not_false_eq_true, and_true, true_and, and_false, false_and, ne_eq, Nat.zero_add, Nat.add_zero, cond_true, cond_false, ↓reduceIte, reduceCtorEq, Nat.reduceAdd, Int.reduceEq, Int.reduceNe, Int.reduceLT, Int.reduceLE, Int.reduceAdd, Int.reduceSub, Int.reduceMul, Int.reduceNeg, Nat.reduceMul, List.getElem?_cons_zero, List.getElem?_cons_succ, hlt, l3, binN_and, andOne i (by omega), w1, ew, l3', bl, e28, l28, e31, e33, wr_succ (show i < 9223372036854775807 by omega)]
    exact e
theorem vcdLong {h : H} (g : Gd h) (many : Int) : ∃ h', CL tab5 5 [.int .i64 many] h = .ok (.bool true) h' := by
  obtain ⟨r, hr, er⟩ := maskAnd 255 (by decide) many
  obtain ⟨h4, e4, k4, c4, -⟩ := lit_ky (es := 1) (z := [.str ⟨0, 0⟩]) (vs := [sv [97]]) g rfl (fun v hv => by simp at hv; subst hv; rfl) rfl
  obtain ⟨h6, e6, k6, c6, -⟩ := litW_ky (es := 1) (z := [.int .i64 0]) (vs := [.int .i64 256]) k4.gd rfl (fun v hv => by simp at hv; subst hv; rfl) rfl
  obtain ⟨h8, e8, k8⟩ := wide5 k6.gd 120
  obtain ⟨h10, e10, k10, c10, -⟩ := lit_ky (es := 1) (z := [.str ⟨0, 0⟩]) (vs := [sv (List.replicate 256 120)]) k8.gd rfl (fun v hv => by simp at hv; subst hv; rfl) rfl
  obtain ⟨h13, e13, k13, c13, -, -⟩ := (Ky.refl k10.gd).newI (cs := z0) rfl
  obtain ⟨o, e14, k14, c14⟩ := k13.st c13 (Nat.le_refl _) (n := 4) (off := 0) (v := .agg [.slice h.next 0 1 1, .slice h4.next 0 1 1, .slice h8.next 0 1 1, .nilSlice]) rfl rfl (by show 0 + 4 ≤ 4; omega)
  have r1 : LR h10 1 RS [[97]] (.slice h.next 0 1 1) := .inr ⟨_, 0, _, rfl, ⟨_, c4.ky k4.gd.wf ((k6.trans k8).trans k10)⟩, by show 0 + 1 * 1 ≤ 1; omega, ⟨_, _, rfl, rfl, rfl, rfl⟩⟩
  have r3 : LR h10 1 RS [List.replicate 256 120] (.slice h8.next 0 1 1) := .inr ⟨_, 0, _, rfl, ⟨_, c10⟩, by show 0 + 1 * 1 ≤ 1; omega, ⟨_, _, rfl, rfl, rfl, rfl⟩⟩
  have r2 : LW h10 [256] (.slice h4.next 0 1 1) := .inr ⟨_, _, rfl, c6.ky k6.gd.wf (k8.trans k10)⟩
  have x : VL h10 (h13.put h10.next o) h10.next (.slice h.next 0 1 1) (.slice h4.next 0 1 1) (.slice h8.next 0 1 1) .nilSlice ⟨[[97]], [256], [List.replicate 256 120], []⟩ :=
    ⟨k10.gd.wf, k14, Nat.le_refl _, c14, r1, r2, r3, .inl ⟨rfl, rfl⟩⟩
  obtain ⟨h', e⟩ := long_loop (N := 3900 + r) (by omega) (3900 + r) 0 _ _ _ (by omega) x rfl ⟨by simp, by simp, by simp⟩
  refine ⟨h', c5 good5.step rfl rfl g ?_ (by simp)⟩
  have er' : binN .and (.int .i64 many) (.int .i64 255) = some (.int .i64 (r : Int)) := er
  have w1 : wr .i64 (3900 + (r : Int)) = ((3900 + r : Nat) : Int) := by rw [wr_i64 (by omega) (by omega)]; omega
  have e4' : bslK false 1 [.str ⟨0, 0⟩] 1 [(0, .str ⟨1, 97⟩)] h = some (.slice h.next 0 1 1, h4) := e4
  have e6' : bslK true 1 [.int .i64 0] 1 [(0, .int .i64 256)] h4 = some (.slice h4.next 0 1 1, h6) := e6
  have e8' : CL tab5 12 [.int .u8 120] h6 = .ok (sv (List.replicate 256 120)) h8 := e8
  have e10' : bslK false 1 [.str ⟨0, 0⟩] 1 [(0, sv (List.replicate 256 120))] h8 = some (.slice h8.next 0 1 1, h10) := e10
  have bl : bldK z0 p1 [(0, IV.slice h.next 0 1 1), (1, .slice h4.next 0 1 1), (2, .slice h8.next 0 1 1)] = some (.agg [.slice h.next 0 1 1, .slice h4.next 0 1 1, .slice h8.next 0 1 1, .nilSlice]) := rfl
  simp only [t5_0, er', W, spanK_u, decide_eq_true_eq, Bool.not_eq_true', decide_eq_false_iff_not, Bool.false_eq_true, Bool.not_true, Bool.not_false, decide_true, decide_false, not_true_eq_false, not_false_eq_true, and_true, true_and, and_false, false_and, ne_eq, Nat.zero_add, Nat.add_zero, cond_true, cond_false, ↓reduceIte, reduceCtorEq, Nat.reduceAdd, Int.reduceEq, Int.reduceNe, Int.reduceLT, Int.reduceLE, Int.reduceAdd, Int.reduceSub, Int.reduceMul, Int.reduceNeg, Nat.reduceMul, List.getElem?_cons_zero, List.getElem?_cons_succ, w1, e4', e6', e8', e10', bl, e13, e14]
  exact e
end Go.Proofs.YtdccdfmbakbikaaGreatDoor
namespace Go.Proofs.YtdccdfmbakbikaaGreatDoor
open Go
noncomputable abbrev tPow : Nat := ((Tryz.prog.globals[gPow]?).map (·.type)).getD 0
theorem tab_of {W : World} (h : Lib.VarReads Tryz.prog W "internal/strconv.uint64pow10" Rows.laid_internal_strconv_uint64pow10) : Lib.TabIs Tryz.prog W "internal/strconv.uint64pow10" .u64 Lib.pow10Tab := by
  obtain ⟨g', t, cs, fuel, p, e1, e2, e3, e4⟩ := h
  rw [named_pow] at e1
  injection e1 with e1
  subst e1
  rw [show (Tryz.prog.globals[gPow]?).map (·.type) = some tPow by kernel_rfl] at e2
  injection e2 with e2
  subst e2
  have ed : (Rows.laid_internal_strconv_uint64pow10 : DataW Unit) = Lib.tabData .u64 Lib.pow10Tab := by kernel_rfl
  rw [ed] at e4
  unfold Lib.TabIs
  rw [e3, ← Lib.cells_of_tab (P := Tryz.prog) (t := tPow) (e := lay171_ren.t 53) (n := 20) (by kernel_rfl) (by kernel_rfl) (by kernel_rfl) (by kernel_rfl) e4]
theorem ep_of {laid : List (String × DataW Unit)} (h1 : ("internal/strconv.uint64pow10", Rows.laid_internal_strconv_uint64pow10) ∈ laid) (h2 : ("strconv.ErrRange", Rows.laid_strconv_ErrRange) ∈ laid) (hp : (laid.all fun x => x.2.handleName?.isNone) = true)
    {W : World} (hs : W.ShapedOpen Tryz.prog) (hl : laidMetH Tryz.prog laid W) {S : I.Sc} (hS : ∀ k, ¬ S.wr k) : EP W S := by
  rw [MakeChecks.laidMetH_plain _ _ _ hp] at hl
  exact ⟨lay219.s1_3 W hs, tab_of (Lib.laidMet.reads hl h1), hS _, hS _⟩
end Go.Proofs.YtdccdfmbakbikaaGreatDoor
