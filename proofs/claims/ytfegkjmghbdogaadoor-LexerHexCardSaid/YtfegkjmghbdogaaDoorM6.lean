/- M6: Law02: awake by a closed run; the reference's functions on numbers. Law02: the reference's Number is the lexer's. Law02: the reference's digits and Number. Law02: the reference's Number is the lexer's. Law02: awake by a closed run; LexerNumbers. Law02: numbers as texts, and what the lexer makes of them; LexerBits. Law02: LexerBits. Law02: LexerHex. -/
import Derived.Test.YtfegkjmghbdogaaDoorM5
import Derived.Test.YtfegkjmghbdogaaDoorM3
namespace Go.Proofs.YtfegkjmghbdogaaDoor
open Go I
set_option maxRecDepth 100000
set_option linter.unusedVariables false
set_option linter.unusedSimpArgs false

noncomputable def tab4 : Tab := tab3.add 8 (pureF (fn1 dS fun s => if s.length < 1073741824 then some (numI (numberF s)) else none))
theorem good4 : GoodT Tryd.prog EP tab4 := good3.also envK mixed noNum good3 tNumber
theorem num4 {h : H} (s : Bs) (hs : s.length < 1073741824) : CL tab4 8 [sv s] h = .ok (numI (numberF s)) h := call1 (A := dS) (a := s) rfl (by simp only [hs, if_true]) h

/-! ### silkwormref01.Of, All, Fit -/
theorem rof_loop {T : Tab} {fz : Bool} {b w : Nat} (hw : w ≤ 4096) : ∀ (k n : Nat) (h : H) (l : Bs), k ≤ w → l.length = w → n < 9223372036854775808 → Cs h b true fz (bys l) →
    ∃ h', J13 T 1 [.int .i64 (n : Nat), .slice b 0 w 1, .int .i64 ((k : Int) - 1)] h = .ok (sv (ofF n k ++ l.drop k)) h' := by
  intro k
  induction k with
  | zero =>
    intro n h l hk hl hn c
    refine ⟨h, e13_1 ?_ (by simp)⟩
    have h0 : ¬ (0 : Int) ≤ ((0 : Nat) : Int) - 1 := by omega
    simp only [t13_1, W, spanK_u, decide_eq_true_eq, Bool.not_eq_true', decide_eq_false_iff_not, Bool.false_eq_true, Bool.not_true, Bool.not_false, decide_true, decide_false, not_true_eq_false, not_false_eq_true, and_true, true_and, and_false, false_and, ne_eq, Nat.zero_add, Nat.add_zero, cond_true, cond_false, ↓reduceIte, reduceCtorEq, Nat.reduceAdd, Int.reduceEq, Int.reduceNe, Int.reduceLT, Int.reduceLE, Int.reduceAdd, Int.reduceSub, Int.reduceMul, Int.reduceNeg, Nat.reduceMul, List.getElem?_cons_zero, List.getElem?_cons_succ, h0, cvS_all c hl.symm, ofF, List.drop_zero, List.nil_append]
  | succ k ih =>
    intro n h l hk hl hn c
    have h0 : (0 : Int) ≤ ((k + 1 : Nat) : Int) - 1 := by omega
    have e1 : ((k + 1 : Nat) : Int) - 1 = (k : Nat) := by omega
    have hkl : k < l.length := by omega
    obtain ⟨o, s1, s2, _⟩ := c.byte hkl (bitC n)
    obtain ⟨h', r⟩ := ih (n / 2) _ (l.set k (bitC n)) (by omega) (by rw [List.length_set]; exact hl) (by omega) s2
    refine ⟨h', e13_1 ?_ (by simp)⟩
    have er : binN .rem (.int .i64 (n : Nat)) (.int .i64 2) = some (.int .i64 ((n % 2 : Nat) : Int)) := by
      rw [binN_rem _ _ _ (by omega)]
      congr 2
    have eq : binN .quo (.int .i64 (n : Nat)) (.int .i64 2) = some (.int .i64 ((n / 2 : Nat) : Int)) := by
      rw [binN_quo _ _ _ (by omega)]
      congr 2
      have : Int.tdiv ((n : Nat) : Int) 2 = ((n / 2 : Nat) : Int) := rfl
      rw [this, wr_i64 (by omega) (by omega)]
    have w8 : wr .i64 (48 + ((n % 2 : Nat) : Int)) = ((48 + n % 2 : Nat) : Int) := by rw [wr_i64 (by omega) (by omega)]; omega
    have w9 : wr .u8 ((48 + n % 2 : Nat) : Int) = (((bitC n).toNat : Nat) : Int) := by rw [bitC_nat, wr_u8 (by omega) (by omega)]
    have wk : wr .i64 ((k : Int) - 1) = (k : Int) - 1 := wr_i64 (by omega) (by omega)
    have hd : (l.set k (bitC n)).drop k = bitC n :: l.drop (k + 1) := by
      rw [List.drop_eq_getElem_cons (by rw [List.length_set]; exact hkl), List.getElem_set_self, List.drop_set_of_lt (by omega)]
    rw [hd] at r
    have e2 : ofF n (k + 1) ++ l.drop (k + 1) = ofF (n / 2) k ++ bitC n :: l.drop (k + 1) := by simp [ofF]
    rw [e2]
    simp only [t13_1, W, spanK_u, decide_eq_true_eq, Bool.not_eq_true', decide_eq_false_iff_not, Bool.false_eq_true, Bool.not_true, Bool.not_false, decide_true, decide_false, not_true_eq_false, not_false_eq_true, and_true, true_and, and_false, false_and, ne_eq, Nat.zero_add, Nat.add_zero, cond_true, cond_false, ↓reduceIte, reduceCtorEq, Nat.reduceAdd, Int.reduceEq, Int.reduceNe, Int.reduceLT, Int.reduceLE, Int.reduceAdd, Int.reduceSub, Int.reduceMul, Int.reduceNeg, Nat.reduceMul, List.getElem?_cons_zero, List.getElem?_cons_succ, h0, e1, er, w8, w9, ixS_byte (show k < w by omega), s1, eq, wk]
    exact r
def rofV (n w : Int) : Option IV := if 0 ≤ n ∧ n < 9223372036854775808 ∧ 0 ≤ w ∧ w ≤ 4096 then some (sv (ofF n.toNat w.toNat)) else none
theorem tROf : PureT Tryd.prog (CL tab4) 13 (fn2 dI dI rofV) := pure2 Tryd.func13 rfl fun n w v e => by
  unfold rofV at e
  split at e
  · rename_i hc
    obtain ⟨h1, h2, h3, h4⟩ := hc
    injection e with e; subst e
    refine ⟨rfl, ?_⟩
    obtain ⟨n, rfl⟩ := Int.eq_ofNat_of_zero_le h1
    obtain ⟨w, rfl⟩ := Int.eq_ofNat_of_zero_le h3
    obtain ⟨h', e1, x, c⟩ := mks_bys gd0 w (by omega)
    obtain ⟨h'', r⟩ := rof_loop (T := tab4) (w := w) (by omega) w n h' _ (Nat.le_refl _) (by simp) (by omega) c
    refine ⟨h'', c13 good4.step rfl rfl gd0 ?_ (by simp)⟩
    have wk : wr .i64 ((w : Int) - 1) = (w : Int) - 1 := wr_i64 (by omega) (by omega)
    rw [List.drop_of_length_le (by simp), List.append_nil] at r
    simp only [t13_0, dI, W, spanK_u, decide_eq_true_eq, Bool.not_eq_true', decide_eq_false_iff_not, Bool.false_eq_true, Bool.not_true, Bool.not_false, decide_true, decide_false, not_true_eq_false, not_false_eq_true, and_true, true_and, and_false, false_and, ne_eq, Nat.zero_add, Nat.add_zero, cond_true, cond_false, ↓reduceIte, reduceCtorEq, Nat.reduceAdd, Int.reduceEq, Int.reduceNe, Int.reduceLT, Int.reduceLE, Int.reduceAdd, Int.reduceSub, Int.reduceMul, Int.reduceNeg, Nat.reduceMul, List.getElem?_cons_zero, List.getElem?_cons_succ, e1, wk, Int.toNat_natCast]
    exact r
  · cases e
theorem all_loop {T : Tab} {fz : Bool} {b w : Nat} {c : UInt8} (hw : w ≤ 4096) : ∀ (k i : Nat) (h : H), i + k = w → Cs h b true fz (bys (List.replicate i c ++ List.replicate k 0)) →
    ∃ h', J22 T 1 [.int .u8 (c.toNat : Nat), .int .i64 (w : Nat), .slice b 0 w 1, .int .i64 (i : Nat)] h = .ok (sv (List.replicate w c)) h' := by
  intro k
  induction k with
  | zero =>
    intro i h hi cs
    refine ⟨h, e22_1 ?_ (by simp)⟩
    have hi' : i = w := by omega
    subst hi'
    simp only [List.replicate_zero, List.append_nil] at cs
    have h0 : ¬ ((i : Nat) : Int) < (i : Nat) := by omega
    have e0 : cvS h (.slice b 0 i 1) = some (sv (List.replicate i c)) := cvS_all cs (by simp)
    simp only [t22_1, W, spanK_u, decide_eq_true_eq, Bool.not_eq_true', decide_eq_false_iff_not, Bool.false_eq_true, Bool.not_true, Bool.not_false, decide_true, decide_false, not_true_eq_false, not_false_eq_true, and_true, true_and, and_false, false_and, ne_eq, Nat.zero_add, Nat.add_zero, cond_true, cond_false, ↓reduceIte, reduceCtorEq, Nat.reduceAdd, Int.reduceEq, Int.reduceNe, Int.reduceLT, Int.reduceLE, Int.reduceAdd, Int.reduceSub, Int.reduceMul, Int.reduceNeg, Nat.reduceMul, List.getElem?_cons_zero, List.getElem?_cons_succ, h0, e0]
  | succ k ih =>
    intro i h hi cs
    have h0 : ((i : Nat) : Int) < (w : Nat) := by omega
    obtain ⟨o, s1, s2, _⟩ := cs.byte (i := i) (by simp) c
    have e : (List.replicate i c ++ List.replicate (k + 1) 0).set i c = List.replicate (i + 1) c ++ List.replicate k 0 := by
      rw [List.set_append_right _ _ (by simp), List.length_replicate, Nat.sub_self, List.replicate_succ (n := k), List.set_cons_zero, List.replicate_succ' (n := i), List.append_assoc]
      rfl
    rw [e] at s2
    obtain ⟨h', r⟩ := ih (i + 1) _ (by omega) s2
    refine ⟨h', e22_1 ?_ (by simp)⟩
    simp only [t22_1, W, spanK_u, decide_eq_true_eq, Bool.not_eq_true', decide_eq_false_iff_not, Bool.false_eq_true, Bool.not_true, Bool.not_false, decide_true, decide_false, not_true_eq_false, not_false_eq_true, and_true, true_and, and_false, false_and, ne_eq, Nat.zero_add, Nat.add_zero, cond_true, cond_false, ↓reduceIte, reduceCtorEq, Nat.reduceAdd, Int.reduceEq, Int.reduceNe, Int.reduceLT, Int.reduceLE, Int.reduceAdd, Int.reduceSub, Int.reduceMul, Int.reduceNeg, Nat.reduceMul, List.getElem?_cons_zero, List.getElem?_cons_succ, h0, ixS_byte (show i < w by omega), s1, wr_succ (show i < 9223372036854775807 by omega)]
    exact r
def allV (c : UInt8) (w : Int) : Option IV := if 0 ≤ w ∧ w ≤ 4096 then some (sv (List.replicate w.toNat c)) else none
theorem tAll : PureT Tryd.prog (CL tab4) 22 (fn2 dU dI allV) := pure2 Tryd.func22 rfl fun c w v e => by
  unfold allV at e
  split at e
  · rename_i hc
    obtain ⟨h3, h4⟩ := hc
    injection e with e; subst e
    refine ⟨rfl, ?_⟩
    obtain ⟨w, rfl⟩ := Int.eq_ofNat_of_zero_le h3
    obtain ⟨h', e1, x, cs⟩ := mks_bys gd0 w (by omega)
    obtain ⟨h'', r⟩ := all_loop (T := tab4) (w := w) (c := c) (by omega) w 0 h' (by omega) (by simpa using cs)
    refine ⟨h'', c22 good4.step rfl rfl gd0 ?_ (by simp)⟩
    simp only [Int.ofNat_zero] at r
    simp only [t22_0, dI, dU, W, spanK_u, decide_eq_true_eq, Bool.not_eq_true', decide_eq_false_iff_not, Bool.false_eq_true, Bool.not_true, Bool.not_false, decide_true, decide_false, not_true_eq_false, not_false_eq_true, and_true, true_and, and_false, false_and, ne_eq, Nat.zero_add, Nat.add_zero, cond_true, cond_false, ↓reduceIte, reduceCtorEq, Nat.reduceAdd, Int.reduceEq, Int.reduceNe, Int.reduceLT, Int.reduceLE, Int.reduceAdd, Int.reduceSub, Int.reduceMul, Int.reduceNeg, Nat.reduceMul, List.getElem?_cons_zero, List.getElem?_cons_succ, e1, Int.toNat_natCast]
    exact r
  · cases e

/-! ### digits -/
theorem digit39 {T : Tab} (hT : OvStep T) (ho : T.ov 39 = none) (hp : T.pol 39 = true) {h : H} (g : Gd h) (c : UInt8) : CL T 39 [.int .u8 (c.toNat : Nat)] h = .ok (.bool (decide (48 ≤ c.toNat ∧ c.toNat ≤ 57))) h := by
  refine c39 hT ho hp g ?_ (by simp)
  by_cases h1 : (48 : Int) ≤ (c.toNat : Nat)
  · by_cases h2 : ((c.toNat : Nat) : Int) ≤ 57
    · have : 48 ≤ c.toNat ∧ c.toNat ≤ 57 := by omega
      simp only [t39_0, W, spanK_u, decide_eq_true_eq, Bool.not_eq_true', decide_eq_false_iff_not, Bool.false_eq_true, Bool.not_true, Bool.not_false, decide_true, decide_false, not_true_eq_false, not_false_eq_true, and_true, true_and, and_false, false_and, ne_eq, Nat.zero_add, Nat.add_zero, cond_true, cond_false, ↓reduceIte, reduceCtorEq, Nat.reduceAdd, Int.reduceEq, Int.reduceNe, Int.reduceLT, Int.reduceLE, Int.reduceAdd, Int.reduceSub, Int.reduceMul, Int.reduceNeg, Nat.reduceMul, List.getElem?_cons_zero, List.getElem?_cons_succ, h1, h2, this]
    · have : ¬ (48 ≤ c.toNat ∧ c.toNat ≤ 57) := by omega
      simp only [t39_0, W, spanK_u, decide_eq_true_eq, Bool.not_eq_true', decide_eq_false_iff_not, Bool.false_eq_true, Bool.not_true, Bool.not_false, decide_true, decide_false, not_true_eq_false, not_false_eq_true, and_true, true_and, and_false, false_and, ne_eq, Nat.zero_add, Nat.add_zero, cond_true, cond_false, ↓reduceIte, reduceCtorEq, Nat.reduceAdd, Int.reduceEq, Int.reduceNe, Int.reduceLT, Int.reduceLE, Int.reduceAdd, Int.reduceSub, Int.reduceMul, Int.reduceNeg, Nat.reduceMul, List.getElem?_cons_zero, List.getElem?_cons_succ, h1, h2, this]
  · have : ¬ (48 ≤ c.toNat ∧ c.toNat ≤ 57) := by omega
    simp only [t39_0, W, spanK_u, decide_eq_true_eq, Bool.not_eq_true', decide_eq_false_iff_not, Bool.false_eq_true, Bool.not_true, Bool.not_false, decide_true, decide_false, not_true_eq_false, not_false_eq_true, and_true, true_and, and_false, false_and, ne_eq, Nat.zero_add, Nat.add_zero, cond_true, cond_false, ↓reduceIte, reduceCtorEq, Nat.reduceAdd, Int.reduceEq, Int.reduceNe, Int.reduceLT, Int.reduceLE, Int.reduceAdd, Int.reduceSub, Int.reduceMul, Int.reduceNeg, Nat.reduceMul, List.getElem?_cons_zero, List.getElem?_cons_succ, h1, this]
/-- a number of decimal digits, up to a highest one -/
def decL (most : Nat) : Nat → Bs → Option Nat
  | n, [] => some n
  | n, c :: l => if 48 ≤ c.toNat ∧ c.toNat ≤ 57 then (if most < n * 10 + (c.toNat - 48) then none else decL most (n * 10 + (c.toNat - 48)) l) else none
def optI (o : Option Nat) : Int := match o with
  | some n => n
  | none => -1
theorem decL_loop {T : Tab} (hT : OvStep T) (ho : T.ov 39 = none) (hp : T.pol 39 = true) {h : H} (g : Gd h) (s : Bs) (hs : s.length ≤ 1099511627776) {most : Nat} (hm : most ≤ 9007199254740992) : ∀ (k i n : Nat), i + k = s.length → n ≤ most →
    J20 T 1 [sv s, .int .i64 (most : Nat), .int .i64 (n : Nat), .int .i64 (i : Nat)] h = .ok (.int .i64 (optI (decL most n (s.drop i)))) h := by
  intro k
  induction k with
  | zero =>
    intro i n hi hn
    refine e20_1 ?_ (by simp)
    have h0 : ¬ ((i : Nat) : Int) < (s.length : Nat) := by omega
    rw [List.drop_of_length_le (by omega)]
    simp only [t20_1, W, spanK_u, decide_eq_true_eq, Bool.not_eq_true', decide_eq_false_iff_not, Bool.false_eq_true, Bool.not_true, Bool.not_false, decide_true, decide_false, not_true_eq_false, not_false_eq_true, and_true, true_and, and_false, false_and, ne_eq, Nat.zero_add, Nat.add_zero, cond_true, cond_false, ↓reduceIte, reduceCtorEq, Nat.reduceAdd, Int.reduceEq, Int.reduceNe, Int.reduceLT, Int.reduceLE, Int.reduceAdd, Int.reduceSub, Int.reduceMul, Int.reduceNeg, Nat.reduceMul, List.getElem?_cons_zero, List.getElem?_cons_succ, h0, decL, optI]
  | succ k ih =>
    intro i n hi hn
    have hil : i < s.length := by omega
    have h0 : ((i : Nat) : Int) < (s.length : Nat) := by omega
    refine e20_1 ?_ (by simp)
    rw [List.drop_eq_getElem_cons hil]
    have eix := ixStr_nat s i hil
    generalize s[i] = c at eix ⊢
    have e39 := digit39 hT ho hp g c
    have hc := c.toNat_lt
    by_cases hd : 48 ≤ c.toNat ∧ c.toNat ≤ 57
    · have w1 : wr .i64 (10 * ((n : Nat) : Int)) = ((n * 10 : Nat) : Int) := by rw [wr_i64 (by omega) (by omega)]; omega
      have w2 : wr .u8 (((c.toNat : Nat) : Int) - 48) = ((c.toNat - 48 : Nat) : Int) := by rw [wr_u8 (by omega) (by omega)]; omega
      have w3 : wr .i64 ((c.toNat - 48 : Nat) : Int) = ((c.toNat - 48 : Nat) : Int) := wr_i64 (by omega) (by omega)
      have w4 : wr .i64 (((n * 10 : Nat) : Int) + ((c.toNat - 48 : Nat) : Int)) = ((n * 10 + (c.toNat - 48) : Nat) : Int) := by rw [wr_i64 (by omega) (by omega)]; omega
      by_cases hb : most < n * 10 + (c.toNat - 48)
      · have hb' : ((most : Nat) : Int) < ((n * 10 + (c.toNat - 48) : Nat) : Int) := by omega
        simp only [hd, and_self, decide_true] at e39
        simp only [t20_1, W, spanK_u, decide_eq_true_eq, Bool.not_eq_true', decide_eq_false_iff_not, Bool.false_eq_true, Bool.not_true, Bool.not_false, decide_true, decide_false, not_true_eq_false, not_false_eq_true, and_true, true_and, and_false, false_and, ne_eq, Nat.zero_add, Nat.add_zero, cond_true, cond_false, ↓reduceIte, reduceCtorEq, Nat.reduceAdd, Int.reduceEq, Int.reduceNe, Int.reduceLT, Int.reduceLE, Int.reduceAdd, Int.reduceSub, Int.reduceMul, Int.reduceNeg, Nat.reduceMul, List.getElem?_cons_zero, List.getElem?_cons_succ, h0, eix, e39, w1, w2, w3, w4, hb', decL, hd, and_self, hb, if_true, optI]
      · have hb' : ¬ ((most : Nat) : Int) < ((n * 10 + (c.toNat - 48) : Nat) : Int) := by omega
        simp only [hd, and_self, decide_true] at e39
        simp only [t20_1, W, spanK_u, decide_eq_true_eq, Bool.not_eq_true', decide_eq_false_iff_not, Bool.false_eq_true, Bool.not_true, Bool.not_false, decide_true, decide_false, not_true_eq_false, not_false_eq_true, and_true, true_and, and_false, false_and, ne_eq, Nat.zero_add, Nat.add_zero, cond_true, cond_false, ↓reduceIte, reduceCtorEq, Nat.reduceAdd, Int.reduceEq, Int.reduceNe, Int.reduceLT, Int.reduceLE, Int.reduceAdd, Int.reduceSub, Int.reduceMul, Int.reduceNeg, Nat.reduceMul, List.getElem?_cons_zero, List.getElem?_cons_succ, h0, eix, e39, w1, w2, w3, w4, hb', decL, hd, and_self, hb, if_true, if_false, wr_succ (show i < 9223372036854775807 by omega)]
        exact ih (i + 1) _ (by omega) (by omega)
    · rw [decide_eq_false hd] at e39
      simp only [t20_1, W, spanK_u, decide_eq_true_eq, Bool.not_eq_true', decide_eq_false_iff_not, Bool.false_eq_true, Bool.not_true, Bool.not_false, decide_true, decide_false, not_true_eq_false, not_false_eq_true, and_true, true_and, and_false, false_and, ne_eq, Nat.zero_add, Nat.add_zero, cond_true, cond_false, ↓reduceIte, reduceCtorEq, Nat.reduceAdd, Int.reduceEq, Int.reduceNe, Int.reduceLT, Int.reduceLE, Int.reduceAdd, Int.reduceSub, Int.reduceMul, Int.reduceNeg, Nat.reduceMul, List.getElem?_cons_zero, List.getElem?_cons_succ, h0, eix, e39, decL, hd, if_false, optI]
def decR (s : Bs) (most : Nat) (noughts : Bool) : Option Nat := if noughts = true then (if s = [] then none else decL most 0 s) else (if plainF s = true then decL most 0 s else none)
def decRV (s : Bs) (most : Int) (noughts : Bool) : Option IV := if s.length ≤ 1099511627776 ∧ 0 ≤ most ∧ most ≤ 9007199254740992 then some (.int .i64 (optI (decR s most.toNat noughts))) else none
theorem plain_cons (c : UInt8) (l : Bs) : plainF (c :: l) = (decide ((c :: l).length ≤ 10) && (decide (l = []) || decide (c ≠ 48))) := by
  unfold plainF
  cases l with
  | nil => by_cases h : c = 48 <;> simp [h]
  | cons d l => by_cases h : c = 48 <;> simp [h]
theorem tRDec : PureT Tryd.prog (CL tab4) 20 (fn3 dS dI dB decRV) := pure3 Tryd.func20 rfl fun s m b v e => by
  unfold decRV at e
  split at e
  rotate_left
  · cases e
  rename_i hc
  obtain ⟨hs, h1, h2⟩ := hc
  injection e with e; subst e
  refine ⟨rfl, H0, ?_⟩
  obtain ⟨m, rfl⟩ := Int.eq_ofNat_of_zero_le h1
  have lp := decL_loop (T := tab4) good4.step rfl rfl gd0 s hs (most := m) (by omega) s.length 0 0 (by omega) (by omega)
  simp only [List.drop_zero] at lp
  refine c20 good4.step rfl rfl gd0 ?_ (by simp)
  simp only [Int.toNat_natCast]
  cases s with
  | nil =>
    have : decR [] m b = none := by
      cases b with
      | true => simp [decR]
      | false => simp [decR, plainF]
    rw [this]
    rfl
  | cons c l =>
    have hne : ((c :: l) = []) = False := by simp
    have u48 : (((c.toNat : Nat) : Int) = 48) = (c = 48) := u8_eq c 48 (by decide)
    cases b with
    | true =>
      have : decR (c :: l) m true = decL m 0 (c :: l) := by simp [decR]
      rw [this]
      simp only [t20_0, dS, dI, dB, sv0, W, spanK_u, decide_eq_true_eq, Bool.not_eq_true', decide_eq_false_iff_not, Bool.false_eq_true, Bool.not_true, Bool.not_false, decide_true, decide_false, not_true_eq_false, not_false_eq_true, and_true, true_and, and_false, false_and, ne_eq, Nat.zero_add, Nat.add_zero, cond_true, cond_false, ↓reduceIte, reduceCtorEq, Nat.reduceAdd, Int.reduceEq, Int.reduceNe, Int.reduceLT, Int.reduceLE, Int.reduceAdd, Int.reduceSub, Int.reduceMul, Int.reduceNeg, Nat.reduceMul, List.getElem?_cons_zero, List.getElem?_cons_succ, hne]
      exact lp
    | false =>
      unfold decR
      simp only [Bool.false_eq_true, if_false, plain_cons]
      by_cases q1 : (10 : Int) < ((List.length (c :: l) : Nat) : Int)
      · have q1' : ¬ (c :: l).length ≤ 10 := by omega
        simp only [t20_0, dS, dI, dB, sv0, W, spanK_u, decide_eq_true_eq, Bool.not_eq_true', decide_eq_false_iff_not, Bool.false_eq_true, Bool.not_true, Bool.not_false, decide_true, decide_false, not_true_eq_false, not_false_eq_true, and_true, true_and, and_false, false_and, ne_eq, Nat.zero_add, Nat.add_zero, cond_true, cond_false, ↓reduceIte, reduceCtorEq, Nat.reduceAdd, Int.reduceEq, Int.reduceNe, Int.reduceLT, Int.reduceLE, Int.reduceAdd, Int.reduceSub, Int.reduceMul, Int.reduceNeg, Nat.reduceMul, List.getElem?_cons_zero, List.getElem?_cons_succ, hne, q1, q1', Bool.false_and]
        rfl
      · have q1' : (c :: l).length ≤ 10 := by omega
        have eix : ixStr (sv (c :: l)) (.int .i64 0) = some (.int .u8 (c.toNat : Nat)) := ixStr_sv _ _ (by omega) (by simp)
        by_cases q2 : (1 : Int) < ((List.length (c :: l) : Nat) : Int)
        · have q2' : (l = []) = False := by
            simp only [eq_iff_iff, iff_false]
            rintro rfl
            simp at q2
          by_cases q3 : c = 48
          · have q3' : (c = 48) = True := by simp [q3]
            simp only [t20_0, dS, dI, dB, sv0, W, spanK_u, decide_eq_true_eq, Bool.not_eq_true', decide_eq_false_iff_not, Bool.false_eq_true, Bool.not_true, Bool.not_false, decide_true, decide_false, not_true_eq_false, not_false_eq_true, and_true, true_and, and_false, false_and, ne_eq, Nat.zero_add, Nat.add_zero, cond_true, cond_false, ↓reduceIte, reduceCtorEq, Nat.reduceAdd, Int.reduceEq, Int.reduceNe, Int.reduceLT, Int.reduceLE, Int.reduceAdd, Int.reduceSub, Int.reduceMul, Int.reduceNeg, Nat.reduceMul, List.getElem?_cons_zero, List.getElem?_cons_succ, hne, q1, q2, eix, u48, q3', q1', q2', Bool.true_and, Bool.or_self]
            rfl
          · have q3' : (c = 48) = False := by simp [q3]
            simp only [t20_0, dS, dI, dB, sv0, W, spanK_u, decide_eq_true_eq, Bool.not_eq_true', decide_eq_false_iff_not, Bool.false_eq_true, Bool.not_true, Bool.not_false, decide_true, decide_false, not_true_eq_false, not_false_eq_true, and_true, true_and, and_false, false_and, ne_eq, Nat.zero_add, Nat.add_zero, cond_true, cond_false, ↓reduceIte, reduceCtorEq, Nat.reduceAdd, Int.reduceEq, Int.reduceNe, Int.reduceLT, Int.reduceLE, Int.reduceAdd, Int.reduceSub, Int.reduceMul, Int.reduceNeg, Nat.reduceMul, List.getElem?_cons_zero, List.getElem?_cons_succ, hne, q1, q2, eix, u48, q3', q1', q2', Bool.true_and, Bool.or_true]
            exact lp
        · have q2' : (l = []) = True := by
            simp only [eq_iff_iff, iff_true]
            refine List.eq_nil_of_length_eq_zero ?_
            simp at q2; omega
          simp only [t20_0, dS, dI, dB, sv0, W, spanK_u, decide_eq_true_eq, Bool.not_eq_true', decide_eq_false_iff_not, Bool.false_eq_true, Bool.not_true, Bool.not_false, decide_true, decide_false, not_true_eq_false, not_false_eq_true, and_true, true_and, and_false, false_and, ne_eq, Nat.zero_add, Nat.add_zero, cond_true, cond_false, ↓reduceIte, reduceCtorEq, Nat.reduceAdd, Int.reduceEq, Int.reduceNe, Int.reduceLT, Int.reduceLE, Int.reduceAdd, Int.reduceSub, Int.reduceMul, Int.reduceNeg, Nat.reduceMul, List.getElem?_cons_zero, List.getElem?_cons_succ, hne, q1, q2, q1', q2', Bool.true_and, Bool.true_or]
          exact lp

end Go.Proofs.YtfegkjmghbdogaaDoor

namespace Go.Proofs.YtfegkjmghbdogaaDoor
open Go I
set_option maxRecDepth 100000
set_option linter.unusedVariables false
set_option linter.unusedSimpArgs false

noncomputable def tab5 : Tab := ((tab4.add 13 (pureF (fn2 dI dI rofV))).add 22 (pureF (fn2 dU dI allV))).add 20 (pureF (fn3 dS dI dB decRV))
theorem good5 : GoodT Tryd.prog EP tab5 := good4.also envK mixed noNum (good4.also envK mixed noNum (good4.also envK mixed noNum good4 tROf) tAll) tRDec
theorem rof5 {h : H} (n w : Nat) (hn : n < 9223372036854775808) (hw : w ≤ 4096) : CL tab5 13 [.int .i64 (n : Nat), .int .i64 (w : Nat)] h = .ok (sv (ofF n w)) h :=
  call2 (A := dI) (B := dI) (a := (n : Int)) (b := (w : Int)) rfl (by unfold rofV; rw [if_pos ⟨by omega, by omega, by omega, by omega⟩]; rfl) h
theorem all5 {h : H} (c : UInt8) (w : Nat) (hw : w ≤ 4096) : CL tab5 22 [.int .u8 (c.toNat : Nat), .int .i64 (w : Nat)] h = .ok (sv (List.replicate w c)) h :=
  call2 (A := dU) (B := dI) (a := c) (b := (w : Int)) rfl (by unfold allV; rw [if_pos ⟨by omega, by omega⟩]; rfl) h
theorem rdec5 {h : H} (s : Bs) (m : Nat) (b : Bool) (hs : s.length ≤ 1099511627776) (hm : m ≤ 9007199254740992) : CL tab5 20 [sv s, .int .i64 (m : Nat), .bool b] h = .ok (.int .i64 (optI (decR s m b))) h :=
  call3 (A := dS) (B := dI) (C := dB) (a := s) (b := (m : Int)) (c := b) rfl (by unfold decRV; rw [if_pos ⟨by omega, by omega, by omega⟩]; rfl) h

/-! ### four bits for a digit -/
theorem four_u8 : ∀ n : Fin 256, (hexC (UInt8.ofNat n.val)).getD [] =
    (if 48 ≤ n.val ∧ n.val ≤ 57 then ofF (n.val - 48) 4 else if 97 ≤ n.val ∧ n.val ≤ 102 then ofF (n.val - 97 + 10) 4 else if 65 ≤ n.val ∧ n.val ≤ 70 then ofF (n.val - 65 + 10) 4
      else if n.val = 120 ∨ n.val = 122 then [UInt8.ofNat n.val, UInt8.ofNat n.val, UInt8.ofNat n.val, UInt8.ofNat n.val] else []) := by decide +kernel
theorem four_eq (c : UInt8) : (hexC c).getD [] = (if 48 ≤ c.toNat ∧ c.toNat ≤ 57 then ofF (c.toNat - 48) 4 else if 97 ≤ c.toNat ∧ c.toNat ≤ 102 then ofF (c.toNat - 97 + 10) 4 else if 65 ≤ c.toNat ∧ c.toNat ≤ 70 then ofF (c.toNat - 65 + 10) 4
      else if c.toNat = 120 ∨ c.toNat = 122 then [c, c, c, c] else []) := by
  have := four_u8 ⟨c.toNat, c.toNat_lt⟩
  simp only [UInt8.ofNat_toNat] at this
  exact this
theorem tFour : PureT Tryd.prog (CL tab5) 40 (fn1 dU fun c => some (sv ((hexC c).getD []))) := pure1 Tryd.func40 rfl fun c v e => by
  injection e with e; subst e
  refine ⟨rfl, ?_⟩
  show ∃ h', CL tab5 40 [.int .u8 (c.toNat : Nat)] H0 = _
  rw [four_eq]
  have hc := c.toNat_lt
  have e39 := digit39 (T := tab5) good5.step rfl rfl gd0 c
  have one : ∀ n : Nat, n < 256 → J40 tab5 1 [.int .i64 (n : Nat)] H0 = .ok (sv (ofF n 4)) H0 := by
    intro n hn
    refine e40_1 ?_ (by simp)
    have h0 : ¬ ((n : Nat) : Int) < 0 := by omega
    have := rof5 (h := H0) n 4 (by omega) (by omega)
    simp only [Int.cast_ofNat_Int] at this
    simp only [t40_1, W, spanK_u, decide_eq_true_eq, Bool.not_eq_true', decide_eq_false_iff_not, Bool.false_eq_true, Bool.not_true, Bool.not_false, decide_true, decide_false, not_true_eq_false, not_false_eq_true, and_true, true_and, and_false, false_and, ne_eq, Nat.zero_add, Nat.add_zero, cond_true, cond_false, ↓reduceIte, reduceCtorEq, Nat.reduceAdd, Int.reduceEq, Int.reduceNe, Int.reduceLT, Int.reduceLE, Int.reduceAdd, Int.reduceSub, Int.reduceMul, Int.reduceNeg, Nat.reduceMul, List.getElem?_cons_zero, List.getElem?_cons_succ, h0, this]
  by_cases q1 : 48 ≤ c.toNat ∧ c.toNat ≤ 57
  · refine ⟨H0, c40 good5.step rfl rfl gd0 ?_ (by simp)⟩
    rw [decide_eq_true q1] at e39
    have w2 : wr .u8 (((c.toNat : Nat) : Int) - 48) = ((c.toNat - 48 : Nat) : Int) := by rw [wr_u8 (by omega) (by omega)]; omega
    have w3 : wr .i64 ((c.toNat - 48 : Nat) : Int) = ((c.toNat - 48 : Nat) : Int) := wr_i64 (by omega) (by omega)
    rw [if_pos q1]
    simp only [t40_0, e39, W, spanK_u, decide_eq_true_eq, Bool.not_eq_true', decide_eq_false_iff_not, Bool.false_eq_true, Bool.not_true, Bool.not_false, decide_true, decide_false, not_true_eq_false, not_false_eq_true, and_true, true_and, and_false, false_and, ne_eq, Nat.zero_add, Nat.add_zero, cond_true, cond_false, ↓reduceIte, reduceCtorEq, Nat.reduceAdd, Int.reduceEq, Int.reduceNe, Int.reduceLT, Int.reduceLE, Int.reduceAdd, Int.reduceSub, Int.reduceMul, Int.reduceNeg, Nat.reduceMul, List.getElem?_cons_zero, List.getElem?_cons_succ, w2, w3]
    exact one _ (by omega)
  rw [if_neg q1]
  rw [decide_eq_false q1] at e39
  by_cases q2 : 97 ≤ c.toNat ∧ c.toNat ≤ 102
  · refine ⟨H0, c40 good5.step rfl rfl gd0 ?_ (by simp)⟩
    have i1 : (97 : Int) ≤ (c.toNat : Nat) := by omega
    have i2 : ((c.toNat : Nat) : Int) ≤ 102 := by omega
    have w2 : wr .u8 (((c.toNat : Nat) : Int) - 97) = ((c.toNat - 97 : Nat) : Int) := by rw [wr_u8 (by omega) (by omega)]; omega
    have w3 : wr .i64 ((c.toNat - 97 : Nat) : Int) = ((c.toNat - 97 : Nat) : Int) := wr_i64 (by omega) (by omega)
    have w4 : wr .i64 (((c.toNat - 97 : Nat) : Int) + 10) = ((c.toNat - 97 + 10 : Nat) : Int) := by rw [wr_i64 (by omega) (by omega)]; omega
    rw [if_pos q2]
    simp only [t40_0, e39, W, spanK_u, decide_eq_true_eq, Bool.not_eq_true', decide_eq_false_iff_not, Bool.false_eq_true, Bool.not_true, Bool.not_false, decide_true, decide_false, not_true_eq_false, not_false_eq_true, and_true, true_and, and_false, false_and, ne_eq, Nat.zero_add, Nat.add_zero, cond_true, cond_false, ↓reduceIte, reduceCtorEq, Nat.reduceAdd, Int.reduceEq, Int.reduceNe, Int.reduceLT, Int.reduceLE, Int.reduceAdd, Int.reduceSub, Int.reduceMul, Int.reduceNeg, Nat.reduceMul, List.getElem?_cons_zero, List.getElem?_cons_succ, i1, i2, w2, w3, w4]
    exact one _ (by omega)
  rw [if_neg q2]
  by_cases q3 : 65 ≤ c.toNat ∧ c.toNat ≤ 70
  · refine ⟨H0, c40 good5.step rfl rfl gd0 ?_ (by simp)⟩
    have i1 : ¬ (97 : Int) ≤ (c.toNat : Nat) := by omega
    have i3 : (65 : Int) ≤ (c.toNat : Nat) := by omega
    have i4 : ((c.toNat : Nat) : Int) ≤ 70 := by omega
    have w2 : wr .u8 (((c.toNat : Nat) : Int) - 65) = ((c.toNat - 65 : Nat) : Int) := by rw [wr_u8 (by omega) (by omega)]; omega
    have w3 : wr .i64 ((c.toNat - 65 : Nat) : Int) = ((c.toNat - 65 : Nat) : Int) := wr_i64 (by omega) (by omega)
    have w4 : wr .i64 (((c.toNat - 65 : Nat) : Int) + 10) = ((c.toNat - 65 + 10 : Nat) : Int) := by rw [wr_i64 (by omega) (by omega)]; omega
    rw [if_pos q3]
    simp only [t40_0, e39, W, spanK_u, decide_eq_true_eq, Bool.not_eq_true', decide_eq_false_iff_not, Bool.false_eq_true, Bool.not_true, Bool.not_false, decide_true, decide_false, not_true_eq_false, not_false_eq_true, and_true, true_and, and_false, false_and, ne_eq, Nat.zero_add, Nat.add_zero, cond_true, cond_false, ↓reduceIte, reduceCtorEq, Nat.reduceAdd, Int.reduceEq, Int.reduceNe, Int.reduceLT, Int.reduceLE, Int.reduceAdd, Int.reduceSub, Int.reduceMul, Int.reduceNeg, Nat.reduceMul, List.getElem?_cons_zero, List.getElem?_cons_succ, i1, i3, i4, w2, w3, w4]
    exact one _ (by omega)
  rw [if_neg q3]
  by_cases q4 : c.toNat = 120 ∨ c.toNat = 122
  · rw [if_pos q4]
    obtain ⟨h1, e1, k1, c1⟩ := lit_bys gd0 [c, c, c, c]
    have e1' : bslK true 1 [(.int .u8 0)] 4 [(0, (.int .u8 (c.toNat : Nat))), (1, (.int .u8 (c.toNat : Nat))), (2, (.int .u8 (c.toNat : Nat))), (3, (.int .u8 (c.toNat : Nat)))] H0 = some (.slice 0 0 4 1, h1) := e1
    have e2 : cvS h1 (.slice 0 0 4 1) = some (sv [c, c, c, c]) := cvS_all c1 rfl
    refine ⟨h1, c40 good5.step rfl rfl gd0 ?_ (by simp)⟩
    have i1 : (97 : Int) ≤ (c.toNat : Nat) := by omega
    have i2 : ¬ ((c.toNat : Nat) : Int) ≤ 102 := by omega
    have i3 : (65 : Int) ≤ (c.toNat : Nat) := by omega
    have i4 : ¬ ((c.toNat : Nat) : Int) ≤ 70 := by omega
    by_cases i5 : ((c.toNat : Nat) : Int) = 120
    · have i5' : (((c.toNat : Nat) : Int) = 120) = True := by simp [i5]
      simp only [t40_0, e39, W, spanK_u, decide_eq_true_eq, Bool.not_eq_true', decide_eq_false_iff_not, Bool.false_eq_true, Bool.not_true, Bool.not_false, decide_true, decide_false, not_true_eq_false, not_false_eq_true, and_true, true_and, and_false, false_and, ne_eq, Nat.zero_add, Nat.add_zero, cond_true, cond_false, ↓reduceIte, reduceCtorEq, Nat.reduceAdd, Int.reduceEq, Int.reduceNe, Int.reduceLT, Int.reduceLE, Int.reduceAdd, Int.reduceSub, Int.reduceMul, Int.reduceNeg, Nat.reduceMul, List.getElem?_cons_zero, List.getElem?_cons_succ, i1, i2, i3, i4, i5', e1', e2]
    · have i6 : ((c.toNat : Nat) : Int) = 122 := by omega
      have i5' : (((c.toNat : Nat) : Int) = 120) = False := by simp [i5]
      have i6' : (((c.toNat : Nat) : Int) = 122) = True := by simp [i6]
      simp only [t40_0, e39, W, spanK_u, decide_eq_true_eq, Bool.not_eq_true', decide_eq_false_iff_not, Bool.false_eq_true, Bool.not_true, Bool.not_false, decide_true, decide_false, not_true_eq_false, not_false_eq_true, and_true, true_and, and_false, false_and, ne_eq, Nat.zero_add, Nat.add_zero, cond_true, cond_false, ↓reduceIte, reduceCtorEq, Nat.reduceAdd, Int.reduceEq, Int.reduceNe, Int.reduceLT, Int.reduceLE, Int.reduceAdd, Int.reduceSub, Int.reduceMul, Int.reduceNeg, Nat.reduceMul, List.getElem?_cons_zero, List.getElem?_cons_succ, i1, i2, i3, i4, i5', i6', e1', e2]
  · rw [if_neg q4]
    have i5 : ¬ ((c.toNat : Nat) : Int) = 120 := by omega
    have i6 : ¬ ((c.toNat : Nat) : Int) = 122 := by omega
    have n1 : J40 tab5 1 [.int .i64 (-1)] H0 = .ok (sv []) H0 := by
      refine e40_1 ?_ (by simp)
      simp only [t40_1, W, spanK_u, decide_eq_true_eq, Bool.not_eq_true', decide_eq_false_iff_not, Bool.false_eq_true, Bool.not_true, Bool.not_false, decide_true, decide_false, not_true_eq_false, not_false_eq_true, and_true, true_and, and_false, false_and, ne_eq, Nat.zero_add, Nat.add_zero, cond_true, cond_false, ↓reduceIte, reduceCtorEq, Nat.reduceAdd, Int.reduceEq, Int.reduceNe, Int.reduceLT, Int.reduceLE, Int.reduceAdd, Int.reduceSub, Int.reduceMul, Int.reduceNeg, Nat.reduceMul, List.getElem?_cons_zero, List.getElem?_cons_succ]
      rfl
    refine ⟨H0, c40 good5.step rfl rfl gd0 ?_ (by simp)⟩
    by_cases i1 : (97 : Int) ≤ (c.toNat : Nat)
    · have i2 : ¬ ((c.toNat : Nat) : Int) ≤ 102 := by omega
      have i3 : (65 : Int) ≤ (c.toNat : Nat) := by omega
      have i4 : ¬ ((c.toNat : Nat) : Int) ≤ 70 := by omega
      simp only [t40_0, e39, W, spanK_u, decide_eq_true_eq, Bool.not_eq_true', decide_eq_false_iff_not, Bool.false_eq_true, Bool.not_true, Bool.not_false, decide_true, decide_false, not_true_eq_false, not_false_eq_true, and_true, true_and, and_false, false_and, ne_eq, Nat.zero_add, Nat.add_zero, cond_true, cond_false, ↓reduceIte, reduceCtorEq, Nat.reduceAdd, Int.reduceEq, Int.reduceNe, Int.reduceLT, Int.reduceLE, Int.reduceAdd, Int.reduceSub, Int.reduceMul, Int.reduceNeg, Nat.reduceMul, List.getElem?_cons_zero, List.getElem?_cons_succ, i1, i2, i3, i4, i5, i6]
      exact n1
    · by_cases i3 : (65 : Int) ≤ (c.toNat : Nat)
      · have i4 : ¬ ((c.toNat : Nat) : Int) ≤ 70 := by omega
        simp only [t40_0, e39, W, spanK_u, decide_eq_true_eq, Bool.not_eq_true', decide_eq_false_iff_not, Bool.false_eq_true, Bool.not_true, Bool.not_false, decide_true, decide_false, not_true_eq_false, not_false_eq_true, and_true, true_and, and_false, false_and, ne_eq, Nat.zero_add, Nat.add_zero, cond_true, cond_false, ↓reduceIte, reduceCtorEq, Nat.reduceAdd, Int.reduceEq, Int.reduceNe, Int.reduceLT, Int.reduceLE, Int.reduceAdd, Int.reduceSub, Int.reduceMul, Int.reduceNeg, Nat.reduceMul, List.getElem?_cons_zero, List.getElem?_cons_succ, i1, i3, i4, i5, i6]
        exact n1
      · simp only [t40_0, e39, W, spanK_u, decide_eq_true_eq, Bool.not_eq_true', decide_eq_false_iff_not, Bool.false_eq_true, Bool.not_true, Bool.not_false, decide_true, decide_false, not_true_eq_false, not_false_eq_true, and_true, true_and, and_false, false_and, ne_eq, Nat.zero_add, Nat.add_zero, cond_true, cond_false, ↓reduceIte, reduceCtorEq, Nat.reduceAdd, Int.reduceEq, Int.reduceNe, Int.reduceLT, Int.reduceLE, Int.reduceAdd, Int.reduceSub, Int.reduceMul, Int.reduceNeg, Nat.reduceMul, List.getElem?_cons_zero, List.getElem?_cons_succ, i1, i3, i5, i6]
        exact n1

/-! ### Fit -/
def fitR (v : Bs) (w : Nat) : Bs := if w ≤ v.length then v.drop (v.length - w) else List.replicate (w - v.length) 48 ++ v
def fitV (v : Bs) (w : Int) : Option IV := if v.length ≤ 1099511627776 ∧ 0 ≤ w ∧ w ≤ 4096 then some (sv (fitR v w.toNat)) else none
theorem tFit : PureT Tryd.prog (CL tab5) 23 (fn2 dS dI fitV) := pure2 Tryd.func23 rfl fun s w v e => by
  unfold fitV at e
  split at e
  rotate_left
  · cases e
  rename_i hc
  obtain ⟨hs, h1, h2⟩ := hc
  injection e with e; subst e
  refine ⟨rfl, H0, ?_⟩
  obtain ⟨w, rfl⟩ := Int.eq_ofNat_of_zero_le h1
  refine c23 good5.step rfl rfl gd0 ?_ (by simp)
  simp only [Int.toNat_natCast, fitR]
  by_cases hle : ((w : Nat) : Int) ≤ (s.length : Nat)
  · have hle' : w ≤ s.length := by omega
    simp only [t23_0, dS, dI, W, spanK_u, decide_eq_true_eq, Bool.not_eq_true', decide_eq_false_iff_not, Bool.false_eq_true, Bool.not_true, Bool.not_false, decide_true, decide_false, not_true_eq_false, not_false_eq_true, and_true, true_and, and_false, false_and, ne_eq, Nat.zero_add, Nat.add_zero, cond_true, cond_false, ↓reduceIte, reduceCtorEq, Nat.reduceAdd, Int.reduceEq, Int.reduceNe, Int.reduceLT, Int.reduceLE, Int.reduceAdd, Int.reduceSub, Int.reduceMul, Int.reduceNeg, Nat.reduceMul, List.getElem?_cons_zero, List.getElem?_cons_succ, hle, hle']
    rw [wr_i64 (by omega) (by omega), slcStr_from _ _ (by omega) (by omega)]
    have : (((s.length : Nat) : Int) - ((w : Nat) : Int)).toNat = s.length - w := by omega
    simp only [W, spanK_u, decide_eq_true_eq, Bool.not_eq_true', decide_eq_false_iff_not, Bool.false_eq_true, Bool.not_true, Bool.not_false, decide_true, decide_false, not_true_eq_false, not_false_eq_true, and_true, true_and, and_false, false_and, ne_eq, Nat.zero_add, Nat.add_zero, cond_true, cond_false, ↓reduceIte, reduceCtorEq, Nat.reduceAdd, Int.reduceEq, Int.reduceNe, Int.reduceLT, Int.reduceLE, Int.reduceAdd, Int.reduceSub, Int.reduceMul, Int.reduceNeg, Nat.reduceMul, List.getElem?_cons_zero, List.getElem?_cons_succ, this]
  · have hle' : ¬ w ≤ s.length := by omega
    have hsub : wr .i64 (((w : Nat) : Int) - ((s.length : Nat) : Int)) = ((w - s.length : Nat) : Int) := by rw [wr_i64 (by omega) (by omega)]; omega
    have e22 := all5 (h := H0) 48 (w - s.length) (by omega)
    have add : binS .add (sv (List.replicate (w - s.length) 48)) (sv s) = some (sv (List.replicate (w - s.length) 48 ++ s)) := binS_add _ _ (by simp only [List.length_replicate]; omega)
    have e22' : CL tab5 22 [.int .u8 48, .int .i64 ((w - s.length : Nat) : Int)] H0 = .ok (sv (List.replicate (w - s.length) 48)) H0 := e22
    simp only [t23_0, dS, dI, W, spanK_u, decide_eq_true_eq, Bool.not_eq_true', decide_eq_false_iff_not, Bool.false_eq_true, Bool.not_true, Bool.not_false, decide_true, decide_false, not_true_eq_false, not_false_eq_true, and_true, true_and, and_false, false_and, ne_eq, Nat.zero_add, Nat.add_zero, cond_true, cond_false, ↓reduceIte, reduceCtorEq, Nat.reduceAdd, Int.reduceEq, Int.reduceNe, Int.reduceLT, Int.reduceLE, Int.reduceAdd, Int.reduceSub, Int.reduceMul, Int.reduceNeg, Nat.reduceMul, List.getElem?_cons_zero, List.getElem?_cons_succ, hle, hle', hsub, e22', add]

noncomputable def tab6 : Tab := (tab5.add 40 (pureF (fn1 dU fun c => some (sv ((hexC c).getD []))))).add 23 (pureF (fn2 dS dI fitV))
theorem good6 : GoodT Tryd.prog EP tab6 := good5.also envK mixed noNum (good5.also envK mixed noNum good5 tFour) tFit

end Go.Proofs.YtfegkjmghbdogaaDoor

namespace Go.Proofs.YtfegkjmghbdogaaDoor
open Go I
set_option maxRecDepth 100000
set_option linter.unusedVariables false
set_option linter.unusedSimpArgs false

theorem rof6 {h : H} (n w : Nat) (hn : n < 9223372036854775808) (hw : w ≤ 4096) : CL tab6 13 [.int .i64 (n : Nat), .int .i64 (w : Nat)] h = .ok (sv (ofF n w)) h :=
  call2 (A := dI) (B := dI) (a := (n : Int)) (b := (w : Int)) rfl (by unfold rofV; rw [if_pos ⟨by omega, by omega, by omega, by omega⟩]; rfl) h
theorem all6 {h : H} (c : UInt8) (w : Nat) (hw : w ≤ 4096) : CL tab6 22 [.int .u8 (c.toNat : Nat), .int .i64 (w : Nat)] h = .ok (sv (List.replicate w c)) h :=
  call2 (A := dU) (B := dI) (a := c) (b := (w : Int)) rfl (by unfold allV; rw [if_pos ⟨by omega, by omega⟩]; rfl) h
theorem rdec6 {h : H} (s : Bs) (m : Nat) (b : Bool) (hs : s.length ≤ 1099511627776) (hm : m ≤ 9007199254740992) : CL tab6 20 [sv s, .int .i64 (m : Nat), .bool b] h = .ok (.int .i64 (optI (decR s m b))) h :=
  call3 (A := dS) (B := dI) (C := dB) (a := s) (b := (m : Int)) (c := b) rfl (by unfold decRV; rw [if_pos ⟨by omega, by omega, by omega⟩]; rfl) h
theorem four6 {h : H} (c : UInt8) : CL tab6 40 [.int .u8 (c.toNat : Nat)] h = .ok (sv ((hexC c).getD [])) h := call1 (A := dU) (a := c) rfl rfl h
theorem fit6 {h : H} (v : Bs) (w : Nat) (hv : v.length ≤ 1099511627776) (hw : w ≤ 4096) : CL tab6 23 [sv v, .int .i64 (w : Nat)] h = .ok (sv (fitR v w)) h :=
  call2 (A := dS) (B := dI) (a := v) (b := (w : Int)) rfl (by unfold fitV; rw [if_pos ⟨hv, by omega, by omega⟩]; rfl) h

/-! ### the loop over the digits -/
theorem dig_loop {base : UInt8} {F : Bs → Option Bs} (s : Bs) (hs : s.length ≤ 137438953472) (hnil : F [] = some [])
    (hstep : ∀ (c : UInt8) (l : Bs), (F (c :: l) = none ∧ (∀ (h : H) (out : IV) (i : Nat) (l' : Bs), s.drop i = c :: l' → Gd h → J21 tab6 1 [.int .u8 (base.toNat : Nat), sv s, out, .int .i64 (i : Nat)] h = .ok (sv []) h)) ∨
      (∃ m, m.length ≤ 4 ∧ F (c :: l) = (F l).map (m ++ ·) ∧ ∀ (h : H) (out : IV) (acc : Bs) (i : Nat) (l' : Bs), s.drop i = c :: l' → Gd h → GL h 1 (bys acc) out → acc.length + 4 ≤ 1099511627776 → ∃ out' h', Gd h' ∧ GL h' 1 (bys (acc ++ m)) out' ∧ ∀ r, r ≠ .fail → J21 tab6 1 [.int .u8 (base.toNat : Nat), sv s, out', .int .i64 ((i + 1 : Nat) : Int)] h' = r → J21 tab6 1 [.int .u8 (base.toNat : Nat), sv s, out, .int .i64 (i : Nat)] h = r)) :
    ∀ (k i : Nat) (h : H) (out : IV) (acc : Bs), i + k = s.length → Gd h → GL h 1 (bys acc) out → acc.length ≤ 4 * i →
      ∃ h', J21 tab6 1 [.int .u8 (base.toNat : Nat), sv s, out, .int .i64 (i : Nat)] h = .ok (sv (match F (s.drop i) with | some m => acc ++ m | none => [])) h' := by
  intro k
  induction k with
  | zero =>
    intro i h out acc hi g gl hacc
    refine ⟨h, e21_1 ?_ (by simp)⟩
    have h0 : ¬ ((i : Nat) : Int) < (s.length : Nat) := by omega
    rw [List.drop_of_length_le (by omega), hnil]
    simp only [t21_1, W, spanK_u, decide_eq_true_eq, Bool.not_eq_true', decide_eq_false_iff_not, Bool.false_eq_true, Bool.not_true, Bool.not_false, decide_true, decide_false, not_true_eq_false, not_false_eq_true, and_true, true_and, and_false, false_and, ne_eq, Nat.zero_add, Nat.add_zero, cond_true, cond_false, ↓reduceIte, reduceCtorEq, Nat.reduceAdd, Int.reduceEq, Int.reduceNe, Int.reduceLT, Int.reduceLE, Int.reduceAdd, Int.reduceSub, Int.reduceMul, Int.reduceNeg, Nat.reduceMul, List.getElem?_cons_zero, List.getElem?_cons_succ, h0, gl.text, List.append_nil]
  | succ k ih =>
    intro i h out acc hi g gl hacc
    have hil : i < s.length := by omega
    have hd := List.drop_eq_getElem_cons hil
    rw [hd]
    rcases hstep s[i] (s.drop (i + 1)) with ⟨q1, q2⟩ | ⟨m, q0, q1, q2⟩
    · exact ⟨h, by rw [q1]; exact q2 h out i _ hd g⟩
    · obtain ⟨out', h', g', gl', q⟩ := q2 h out acc i _ hd g gl (by omega)
      obtain ⟨h2, e⟩ := ih (i + 1) h' out' (acc ++ m) (by omega) g' gl' (by rw [List.length_append]; omega)
      refine ⟨h2, q _ (by simp) ?_⟩
      rw [e, q1]
      cases F (s.drop (i + 1)) with
      | none => rfl
      | some r => simp only [Option.map_some, List.append_assoc]
/-- the digits of base 2 -/
def binF (s : Bs) : Option Bs := if s.all isV = true then some s else none
theorem binF_cons (c : UInt8) (l : Bs) : binF (c :: l) = if isV c = true then (binF l).map ([c] ++ ·) else none := by
  unfold binF
  by_cases h : isV c = true
  · by_cases h2 : l.all isV = true <;> simp [h, h2]
  · simp [h]
theorem hexF_cons (c : UInt8) (l : Bs) : hexF (c :: l) = match hexC c with | some m => (hexF l).map (m ++ ·) | none => none := by
  simp only [hexF]
  cases hexC c <;> cases hexF l <;> rfl
theorem isV_nat (c : UInt8) : (isV c = true) = (c.toNat = 48 ∨ c.toNat = 49 ∨ c.toNat = 120 ∨ c.toNat = 122) := by
  have key : ∀ n : Fin 256, (isV (UInt8.ofNat n.val) = true) = (n.val = 48 ∨ n.val = 49 ∨ n.val = 120 ∨ n.val = 122) := by
    intro n
    apply propext
    revert n
    decide +kernel
  have := key ⟨c.toNat, c.toNat_lt⟩
  simp only [UInt8.ofNat_toNat] at this
  exact this
theorem at_drop {s : Bs} {i : Nat} {c : UInt8} {l : Bs} (h : s.drop i = c :: l) : ∃ hi : i < s.length, s[i] = c := by
  have hi : i < s.length := by
    rcases Nat.lt_or_ge i s.length with h' | h'
    · exact h'
    · rw [List.drop_of_length_le h'] at h; cases h
  refine ⟨hi, ?_⟩
  rw [List.drop_eq_getElem_cons hi] at h
  injection h
theorem dig98 (s : Bs) (hs : s.length ≤ 137438953472) : ∃ h', J21 tab6 1 [.int .u8 98, sv s, .nilSlice, .int .i64 0] H0 = .ok (sv ((binF s).getD [])) h' := by
  have := dig_loop (base := 98) (F := binF) s hs rfl (fun c l => by
    rw [binF_cons]
    by_cases hv : isV c = true
    · refine .inr ⟨[c], by simp, by rw [if_pos hv], fun h out acc i l' hd g gl hroom => ?_⟩
      obtain ⟨hi, rfl⟩ := at_drop hd
      obtain ⟨out', h', e1, x, gl'⟩ := appB_sv g (e := 5) (m := [s[i]]) gl (by simp; omega)
      refine ⟨out', h', x.gd, gl', fun r hr e => e21_1 ?_ hr⟩
      have h0 : ((i : Nat) : Int) < (s.length : Nat) := by omega
      have eix := ixStr_nat s i hi
      have esl := slc1 s i hi
      have w1 := wr_succ (show i < 9223372036854775807 by omega)
      rw [isV_nat] at hv
      have fin : J21 tab6 2 [.int .u8 98, sv s, out, .int .i64 (i : Nat), sv [s[i]]] h = r := by
        refine e21_2 ?_ hr
        have hne : ([s[i]] = []) = False := by simp
        simp only [t21_2, sv0, W, spanK_u, decide_eq_true_eq, Bool.not_eq_true', decide_eq_false_iff_not, Bool.false_eq_true, Bool.not_true, Bool.not_false, decide_true, decide_false, not_true_eq_false, not_false_eq_true, and_true, true_and, and_false, false_and, ne_eq, Nat.zero_add, Nat.add_zero, cond_true, cond_false, ↓reduceIte, reduceCtorEq, Nat.reduceAdd, Int.reduceEq, Int.reduceNe, Int.reduceLT, Int.reduceLE, Int.reduceAdd, Int.reduceSub, Int.reduceMul, Int.reduceNeg, Nat.reduceMul, List.getElem?_cons_zero, List.getElem?_cons_succ, hne, e1, w1]
        exact e
      generalize s[i] = c at *
      rcases hv with hv | hv | hv | hv
      · simp only [t21_1, W, spanK_u, decide_eq_true_eq, Bool.not_eq_true', decide_eq_false_iff_not, Bool.false_eq_true, Bool.not_true, Bool.not_false, decide_true, decide_false, not_true_eq_false, not_false_eq_true, and_true, true_and, and_false, false_and, ne_eq, Nat.zero_add, Nat.add_zero, cond_true, cond_false, ↓reduceIte, reduceCtorEq, Nat.reduceAdd, Int.reduceEq, Int.reduceNe, Int.reduceLT, Int.reduceLE, Int.reduceAdd, Int.reduceSub, Int.reduceMul, Int.reduceNeg, Nat.reduceMul, List.getElem?_cons_zero, List.getElem?_cons_succ, show (((98 : UInt8).toNat : Nat) : Int) = 98 from rfl, h0, eix, four6, eq_true (show ((c.toNat : Nat) : Int) = 48 by omega), eq_false (show ¬ ((c.toNat : Nat) : Int) = 49 by omega), eq_false (show ¬ ((c.toNat : Nat) : Int) = 120 by omega), eq_false (show ¬ ((c.toNat : Nat) : Int) = 122 by omega), w1, esl]
        exact fin
      · simp only [t21_1, W, spanK_u, decide_eq_true_eq, Bool.not_eq_true', decide_eq_false_iff_not, Bool.false_eq_true, Bool.not_true, Bool.not_false, decide_true, decide_false, not_true_eq_false, not_false_eq_true, and_true, true_and, and_false, false_and, ne_eq, Nat.zero_add, Nat.add_zero, cond_true, cond_false, ↓reduceIte, reduceCtorEq, Nat.reduceAdd, Int.reduceEq, Int.reduceNe, Int.reduceLT, Int.reduceLE, Int.reduceAdd, Int.reduceSub, Int.reduceMul, Int.reduceNeg, Nat.reduceMul, List.getElem?_cons_zero, List.getElem?_cons_succ, show (((98 : UInt8).toNat : Nat) : Int) = 98 from rfl, h0, eix, four6, eq_false (show ¬ ((c.toNat : Nat) : Int) = 48 by omega), eq_true (show ((c.toNat : Nat) : Int) = 49 by omega), eq_false (show ¬ ((c.toNat : Nat) : Int) = 120 by omega), eq_false (show ¬ ((c.toNat : Nat) : Int) = 122 by omega), w1, esl]
        exact fin
      · simp only [t21_1, W, spanK_u, decide_eq_true_eq, Bool.not_eq_true', decide_eq_false_iff_not, Bool.false_eq_true, Bool.not_true, Bool.not_false, decide_true, decide_false, not_true_eq_false, not_false_eq_true, and_true, true_and, and_false, false_and, ne_eq, Nat.zero_add, Nat.add_zero, cond_true, cond_false, ↓reduceIte, reduceCtorEq, Nat.reduceAdd, Int.reduceEq, Int.reduceNe, Int.reduceLT, Int.reduceLE, Int.reduceAdd, Int.reduceSub, Int.reduceMul, Int.reduceNeg, Nat.reduceMul, List.getElem?_cons_zero, List.getElem?_cons_succ, show (((98 : UInt8).toNat : Nat) : Int) = 98 from rfl, h0, eix, four6, eq_false (show ¬ ((c.toNat : Nat) : Int) = 48 by omega), eq_false (show ¬ ((c.toNat : Nat) : Int) = 49 by omega), eq_true (show ((c.toNat : Nat) : Int) = 120 by omega), eq_false (show ¬ ((c.toNat : Nat) : Int) = 122 by omega), w1, esl]
        exact fin
      · simp only [t21_1, W, spanK_u, decide_eq_true_eq, Bool.not_eq_true', decide_eq_false_iff_not, Bool.false_eq_true, Bool.not_true, Bool.not_false, decide_true, decide_false, not_true_eq_false, not_false_eq_true, and_true, true_and, and_false, false_and, ne_eq, Nat.zero_add, Nat.add_zero, cond_true, cond_false, ↓reduceIte, reduceCtorEq, Nat.reduceAdd, Int.reduceEq, Int.reduceNe, Int.reduceLT, Int.reduceLE, Int.reduceAdd, Int.reduceSub, Int.reduceMul, Int.reduceNeg, Nat.reduceMul, List.getElem?_cons_zero, List.getElem?_cons_succ, show (((98 : UInt8).toNat : Nat) : Int) = 98 from rfl, h0, eix, four6, eq_false (show ¬ ((c.toNat : Nat) : Int) = 48 by omega), eq_false (show ¬ ((c.toNat : Nat) : Int) = 49 by omega), eq_false (show ¬ ((c.toNat : Nat) : Int) = 120 by omega), eq_true (show ((c.toNat : Nat) : Int) = 122 by omega), w1, esl]
        exact fin
    · refine .inl ⟨by rw [if_neg hv], fun h out i l' hd g => ?_⟩
      obtain ⟨hi, rfl⟩ := at_drop hd
      refine e21_1 ?_ (by simp)
      have h0 : ((i : Nat) : Int) < (s.length : Nat) := by omega
      have eix := ixStr_nat s i hi
      rw [isV_nat] at hv
      generalize s[i] = c at *
      have n48 : ¬ ((c.toNat : Nat) : Int) = 48 := by omega
      have n49 : ¬ ((c.toNat : Nat) : Int) = 49 := by omega
      have n120 : ¬ ((c.toNat : Nat) : Int) = 120 := by omega
      have n122 : ¬ ((c.toNat : Nat) : Int) = 122 := by omega
      simp only [t21_1, W, spanK_u, decide_eq_true_eq, Bool.not_eq_true', decide_eq_false_iff_not, Bool.false_eq_true, Bool.not_true, Bool.not_false, decide_true, decide_false, not_true_eq_false, not_false_eq_true, and_true, true_and, and_false, false_and, ne_eq, Nat.zero_add, Nat.add_zero, cond_true, cond_false, ↓reduceIte, reduceCtorEq, Nat.reduceAdd, Int.reduceEq, Int.reduceNe, Int.reduceLT, Int.reduceLE, Int.reduceAdd, Int.reduceSub, Int.reduceMul, Int.reduceNeg, Nat.reduceMul, List.getElem?_cons_zero, List.getElem?_cons_succ, show (((98 : UInt8).toNat : Nat) : Int) = 98 from rfl, h0, eix, four6, n48, n49, n120, n122]
      rfl) s.length 0 H0 .nilSlice [] (by omega) gd0 (.inl ⟨rfl, rfl⟩) (by simp)
  obtain ⟨h', e⟩ := this
  simp only [List.drop_zero, List.nil_append] at e
  refine ⟨h', e.trans ?_⟩
  cases binF s <;> rfl
theorem dig104 (s : Bs) (hs : s.length ≤ 137438953472) : ∃ h', J21 tab6 1 [.int .u8 104, sv s, .nilSlice, .int .i64 0] H0 = .ok (sv ((hexF s).getD [])) h' := by
  have := dig_loop (base := 104) (F := hexF) s hs rfl (fun c l => by
    rw [hexF_cons]
    cases hv : hexC c with
    | some m =>
      have hml := hexC_len hv
      refine .inr ⟨m, by omega, rfl, fun h out acc i l' hd g gl hroom => ?_⟩
      obtain ⟨hi, rfl⟩ := at_drop hd
      obtain ⟨out', h', e1, x, gl'⟩ := appB_sv g (e := 5) (m := m) gl (by omega)
      refine ⟨out', h', x.gd, gl', fun r hr e => e21_1 ?_ hr⟩
      have h0 : ((i : Nat) : Int) < (s.length : Nat) := by omega
      have eix := ixStr_nat s i hi
      have w1 := wr_succ (show i < 9223372036854775807 by omega)
      have hne : (m = []) = False := by simp only [eq_iff_iff, iff_false]; rintro rfl; simp at hml
      simp only [t21_1, W, spanK_u, decide_eq_true_eq, Bool.not_eq_true', decide_eq_false_iff_not, Bool.false_eq_true, Bool.not_true, Bool.not_false, decide_true, decide_false, not_true_eq_false, not_false_eq_true, and_true, true_and, and_false, false_and, ne_eq, Nat.zero_add, Nat.add_zero, cond_true, cond_false, ↓reduceIte, reduceCtorEq, Nat.reduceAdd, Int.reduceEq, Int.reduceNe, Int.reduceLT, Int.reduceLE, Int.reduceAdd, Int.reduceSub, Int.reduceMul, Int.reduceNeg, Nat.reduceMul, List.getElem?_cons_zero, List.getElem?_cons_succ, show (((104 : UInt8).toNat : Nat) : Int) = 104 from rfl, h0, eix, four6, hv, Option.getD_some]
      refine e21_2 ?_ hr
      simp only [t21_2, sv0, W, spanK_u, decide_eq_true_eq, Bool.not_eq_true', decide_eq_false_iff_not, Bool.false_eq_true, Bool.not_true, Bool.not_false, decide_true, decide_false, not_true_eq_false, not_false_eq_true, and_true, true_and, and_false, false_and, ne_eq, Nat.zero_add, Nat.add_zero, cond_true, cond_false, ↓reduceIte, reduceCtorEq, Nat.reduceAdd, Int.reduceEq, Int.reduceNe, Int.reduceLT, Int.reduceLE, Int.reduceAdd, Int.reduceSub, Int.reduceMul, Int.reduceNeg, Nat.reduceMul, List.getElem?_cons_zero, List.getElem?_cons_succ, hne, e1, w1]
      exact e
    | none =>
      refine .inl ⟨rfl, fun h out i l' hd g => ?_⟩
      obtain ⟨hi, rfl⟩ := at_drop hd
      refine e21_1 ?_ (by simp)
      have h0 : ((i : Nat) : Int) < (s.length : Nat) := by omega
      have eix := ixStr_nat s i hi
      simp only [t21_1, W, spanK_u, decide_eq_true_eq, Bool.not_eq_true', decide_eq_false_iff_not, Bool.false_eq_true, Bool.not_true, Bool.not_false, decide_true, decide_false, not_true_eq_false, not_false_eq_true, and_true, true_and, and_false, false_and, ne_eq, Nat.zero_add, Nat.add_zero, cond_true, cond_false, ↓reduceIte, reduceCtorEq, Nat.reduceAdd, Int.reduceEq, Int.reduceNe, Int.reduceLT, Int.reduceLE, Int.reduceAdd, Int.reduceSub, Int.reduceMul, Int.reduceNeg, Nat.reduceMul, List.getElem?_cons_zero, List.getElem?_cons_succ, show (((104 : UInt8).toNat : Nat) : Int) = 104 from rfl, h0, eix, four6, hv, Option.getD_none]
      refine e21_2 ?_ (by simp)
      have hT : (([] : Bs) = []) = True := by simp
      simp only [t21_2, sv0, W, spanK_u, decide_eq_true_eq, Bool.not_eq_true', decide_eq_false_iff_not, Bool.false_eq_true, Bool.not_true, Bool.not_false, decide_true, decide_false, not_true_eq_false, not_false_eq_true, and_true, true_and, and_false, false_and, ne_eq, Nat.zero_add, Nat.add_zero, cond_true, cond_false, ↓reduceIte, reduceCtorEq, Nat.reduceAdd, Int.reduceEq, Int.reduceNe, Int.reduceLT, Int.reduceLE, Int.reduceAdd, Int.reduceSub, Int.reduceMul, Int.reduceNeg, Nat.reduceMul, List.getElem?_cons_zero, List.getElem?_cons_succ, hT]) s.length 0 H0 .nilSlice [] (by omega) gd0 (.inl ⟨rfl, rfl⟩) (by simp)
  obtain ⟨h', e⟩ := this
  simp only [List.drop_zero, List.nil_append] at e
  refine ⟨h', e.trans ?_⟩
  cases hexF s <;> rfl
theorem digOther (base : UInt8) (hb : base ≠ 98 ∧ base ≠ 104) (s : Bs) (hs : s.length ≤ 137438953472) (hne : s ≠ []) : J21 tab6 1 [.int .u8 (base.toNat : Nat), sv s, .nilSlice, .int .i64 0] H0 = .ok (sv []) H0 := by
  refine e21_1 ?_ (by simp)
  have hl : 0 < s.length := List.length_pos_iff.2 hne
  have h0 : (0 : Int) < (s.length : Nat) := by omega
  have eix : ixStr (sv s) (.int .i64 0) = some (.int .u8 (s[0].toNat : Nat)) := ixStr_nat s 0 hl
  have u98 : (((base.toNat : Nat) : Int) = 98) = False := by rw [show (((base.toNat : Nat) : Int) = 98) = (base = 98) from u8_eq base 98 (by decide)]; simp [hb.1]
  have u104 : (((base.toNat : Nat) : Int) = 104) = False := by rw [show (((base.toNat : Nat) : Int) = 104) = (base = 104) from u8_eq base 104 (by decide)]; simp [hb.2]
  simp only [t21_1, W, spanK_u, decide_eq_true_eq, Bool.not_eq_true', decide_eq_false_iff_not, Bool.false_eq_true, Bool.not_true, Bool.not_false, decide_true, decide_false, not_true_eq_false, not_false_eq_true, and_true, true_and, and_false, false_and, ne_eq, Nat.zero_add, Nat.add_zero, cond_true, cond_false, ↓reduceIte, reduceCtorEq, Nat.reduceAdd, Int.reduceEq, Int.reduceNe, Int.reduceLT, Int.reduceLE, Int.reduceAdd, Int.reduceSub, Int.reduceMul, Int.reduceNeg, Nat.reduceMul, List.getElem?_cons_zero, List.getElem?_cons_succ, h0, eix, four6, u98]
  refine e21_2 ?_ (by simp)
  by_cases he : (hexC s[0]).getD [] = []
  · have he' : ((hexC s[0]).getD [] = []) = True := by simp only [he]
    simp only [t21_2, sv0, W, spanK_u, decide_eq_true_eq, Bool.not_eq_true', decide_eq_false_iff_not, Bool.false_eq_true, Bool.not_true, Bool.not_false, decide_true, decide_false, not_true_eq_false, not_false_eq_true, and_true, true_and, and_false, false_and, ne_eq, Nat.zero_add, Nat.add_zero, cond_true, cond_false, ↓reduceIte, reduceCtorEq, Nat.reduceAdd, Int.reduceEq, Int.reduceNe, Int.reduceLT, Int.reduceLE, Int.reduceAdd, Int.reduceSub, Int.reduceMul, Int.reduceNeg, Nat.reduceMul, List.getElem?_cons_zero, List.getElem?_cons_succ, he']
  · have he' : ((hexC s[0]).getD [] = []) = False := by simp only [he]
    simp only [t21_2, sv0, W, spanK_u, decide_eq_true_eq, Bool.not_eq_true', decide_eq_false_iff_not, Bool.false_eq_true, Bool.not_true, Bool.not_false, decide_true, decide_false, not_true_eq_false, not_false_eq_true, and_true, true_and, and_false, false_and, ne_eq, Nat.zero_add, Nat.add_zero, cond_true, cond_false, ↓reduceIte, reduceCtorEq, Nat.reduceAdd, Int.reduceEq, Int.reduceNe, Int.reduceLT, Int.reduceLE, Int.reduceAdd, Int.reduceSub, Int.reduceMul, Int.reduceNeg, Nat.reduceMul, List.getElem?_cons_zero, List.getElem?_cons_succ, he', u98, u104]

end Go.Proofs.YtfegkjmghbdogaaDoor

namespace Go.Proofs.YtfegkjmghbdogaaDoor
open Go I
set_option maxRecDepth 100000
set_option linter.unusedVariables false
set_option linter.unusedSimpArgs false

/-! ### two ways to read a decimal number -/
theorem puV_ge {m b : Nat} (hb : 1 ≤ b) : ∀ (l : Bs) (n : Nat), (puV m b n l).2 = 0 → n ≤ (puV m b n l).1
  | [], n, _ => Nat.le_refl _
  | c :: l, n, h => by
    unfold puV at h ⊢
    split at h
    · cases h
    · rename_i h1
      rw [if_neg h1]
      split at h
      · cases h
      · rename_i h2
        rw [if_neg h2]
        have := puV_ge hb l _ h
        have h3 : n * 1 ≤ n * b := Nat.mul_le_mul_left n hb
        omega
theorem digV_digit (c : UInt8) : (48 ≤ c.toNat ∧ c.toNat ≤ 57 → digV c = c.toNat - 48 ∧ digV c < 10) ∧ (¬ (48 ≤ c.toNat ∧ c.toNat ≤ 57) → 10 ≤ digV c) := by
  unfold digV
  refine ⟨fun h => by rw [if_pos h]; omega, fun h => ?_⟩
  rw [if_neg h]
  split <;> omega
theorem decL_eq {most M : Nat} (hM : most ≤ M) : ∀ (l : Bs) (n : Nat), n ≤ most → decL most n l = if (puV M 10 n l).2 = 0 ∧ (puV M 10 n l).1 ≤ most then some (puV M 10 n l).1 else none
  | [], n, hn => by simp [decL, puV, hn]
  | c :: l, n, hn => by
    have hd := digV_digit c
    by_cases h1 : 48 ≤ c.toNat ∧ c.toNat ≤ 57
    · obtain ⟨e1, e2⟩ := hd.1 h1
      have e10 : ¬ 10 ≤ digV c := by omega
      simp only [decL, puV, if_pos h1, ← e1, e10, if_false]
      by_cases h2 : most < n * 10 + digV c
      · rw [if_pos h2]
        split
        · rw [if_neg]; rintro ⟨h, _⟩; cases h
        · rw [if_neg]
          rintro ⟨h3, h4⟩
          have := puV_ge (by omega) l _ h3
          omega
      · have h3 : ¬ M < n * 10 + digV c := by omega
        simp only [h2, h3, if_false]
        exact decL_eq hM l _ (by omega)
    · have := hd.2 h1
      simp only [decL, puV, if_neg h1, if_pos this]
      rfl
theorem decF_eq (s : Bs) (hs : s ≠ []) (most : Nat) (hm : most ≤ 4611686018427387903) : decF s (most : Nat) = decL most 0 s := by
  rw [decL_eq (M := 2 ^ 62 - 1) (by omega) s 0 (by omega)]
  unfold decF puF
  rw [if_neg hs]
  have : ∀ n : Nat, (((n : Nat) : Int) ≤ ((most : Nat) : Int)) = (n ≤ most) := fun n => by apply propext; omega
  simp only [this]
theorem decL_noughts (most : Nat) : ∀ s : Bs, decL most 0 s = decL most 0 (s.dropWhile (· == 48))
  | [] => rfl
  | c :: l => by
    rw [List.dropWhile_cons]
    by_cases h : c = 48
    · subst h
      have : decL most 0 (48 :: l) = decL most 0 l := by
        simp only [decL]
        rw [if_pos (by decide), if_neg (by simp)]
        rfl
      rw [this, decL_noughts most l]; rfl
    · simp [h]
theorem all_noughts (s : Bs) : s.dropWhile (· == 48) = [] ↔ s.all (· == 48) = true := by
  rw [dropWhile_nil]; simp
theorem decR_bits (s : Bs) (hs : s ≠ []) : decR s 2147483647 true = (if s ≠ [] ∧ s.all (· == 48) = true then some 0 else decF (s.dropWhile (· == 48)) 2147483647) := by
  unfold decR
  rw [if_pos rfl, if_neg hs, decL_noughts]
  by_cases h : s.all (· == 48) = true
  · rw [if_pos ⟨hs, h⟩, (all_noughts s).2 h]; rfl
  · rw [if_neg (fun x => h x.2)]
    exact (decF_eq _ (fun x => h ((all_noughts s).1 x)) 2147483647 (by omega)).symm
theorem decR_plain (s : Bs) (most : Nat) (hm : most ≤ 4611686018427387903) : decR s most false = (if plainF s = true then decF s (most : Nat) else none) := by
  unfold decR
  simp only [Bool.false_eq_true, if_false]
  by_cases h : plainF s = true
  · rw [if_pos h, if_pos h]
    exact (decF_eq s (by rintro rfl; simp [plainF] at h) most hm).symm
  · rw [if_neg h, if_neg h]

/-! ### digits -/
theorem tDigits : PureT Tryd.prog (CL tab6) 21 (fn2 dU dS bitsV) := pure2 Tryd.func21 rfl fun base s v e => by
  unfold bitsV at e
  split at e
  rotate_left
  · cases e
  rename_i hs
  injection e with e; subst e
  refine ⟨rfl, ?_⟩
  show ∃ h', CL tab6 21 [.int .u8 (base.toNat : Nat), sv s] H0 = .ok (sv (bitsF base s)) h'
  by_cases hne : s = []
  · subst hne
    refine ⟨H0, c21 good6.step rfl rfl gd0 ?_ (by simp)⟩
    have hT : (([] : Bs) = []) = True := by simp
    have : bitsF base [] = [] := by
      unfold bitsF
      split
      · rfl
      · split
        · rfl
        · split <;> rfl
    rw [this]
    simp only [t21_0, sv0, W, spanK_u, decide_eq_true_eq, Bool.not_eq_true', decide_eq_false_iff_not, Bool.false_eq_true, Bool.not_true, Bool.not_false, decide_true, decide_false, not_true_eq_false, not_false_eq_true, and_true, true_and, and_false, false_and, ne_eq, Nat.zero_add, Nat.add_zero, cond_true, cond_false, ↓reduceIte, reduceCtorEq, Nat.reduceAdd, Int.reduceEq, Int.reduceNe, Int.reduceLT, Int.reduceLE, Int.reduceAdd, Int.reduceSub, Int.reduceMul, Int.reduceNeg, Nat.reduceMul, List.getElem?_cons_zero, List.getElem?_cons_succ, hT]
  have hF : (s = []) = False := eq_false hne
  unfold bitsF
  by_cases b1 : base = 100
  · have q100 : (((base.toNat : Nat) : Int) = 100) = True := by rw [show (((base.toNat : Nat) : Int) = 100) = (base = 100) from u8_eq base 100 (by decide)]; simp [b1]
    rw [if_pos b1, ← decR_bits s hne]
    refine ⟨H0, c21 good6.step rfl rfl gd0 ?_ (by simp)⟩
    have e20 := rdec6 (h := H0) s 2147483647 true (by omega) (by omega)
    simp only [Int.cast_ofNat_Int] at e20
    cases hd : decR s 2147483647 true with
    | none =>
      simp only [hd, optI] at e20
      simp only [t21_0, sv0, W, spanK_u, decide_eq_true_eq, Bool.not_eq_true', decide_eq_false_iff_not, Bool.false_eq_true, Bool.not_true, Bool.not_false, decide_true, decide_false, not_true_eq_false, not_false_eq_true, and_true, true_and, and_false, false_and, ne_eq, Nat.zero_add, Nat.add_zero, cond_true, cond_false, ↓reduceIte, reduceCtorEq, Nat.reduceAdd, Int.reduceEq, Int.reduceNe, Int.reduceLT, Int.reduceLE, Int.reduceAdd, Int.reduceSub, Int.reduceMul, Int.reduceNeg, Nat.reduceMul, List.getElem?_cons_zero, List.getElem?_cons_succ, hF, q100, e20]
    | some n =>
      simp only [hd, optI] at e20
      have h0 : ¬ ((n : Nat) : Int) < 0 := by omega
      have hn : n < 9223372036854775808 := by
        rw [decR_bits s hne] at hd
        split at hd
        · injection hd with hd; omega
        · have := decF_some hd; omega
      have e13 := rof6 (h := H0) n 31 hn (by omega)
      simp only [Int.cast_ofNat_Int] at e13
      simp only [t21_0, sv0, W, spanK_u, decide_eq_true_eq, Bool.not_eq_true', decide_eq_false_iff_not, Bool.false_eq_true, Bool.not_true, Bool.not_false, decide_true, decide_false, not_true_eq_false, not_false_eq_true, and_true, true_and, and_false, false_and, ne_eq, Nat.zero_add, Nat.add_zero, cond_true, cond_false, ↓reduceIte, reduceCtorEq, Nat.reduceAdd, Int.reduceEq, Int.reduceNe, Int.reduceLT, Int.reduceLE, Int.reduceAdd, Int.reduceSub, Int.reduceMul, Int.reduceNeg, Nat.reduceMul, List.getElem?_cons_zero, List.getElem?_cons_succ, hF, q100, e20, h0, e13]
  · have q100 : (((base.toNat : Nat) : Int) = 100) = False := by rw [show (((base.toNat : Nat) : Int) = 100) = (base = 100) from u8_eq base 100 (by decide)]; simp [b1]
    rw [if_neg b1]
    by_cases b2 : base = 98
    · subst b2
      rw [if_pos rfl]
      obtain ⟨h', e⟩ := dig98 s hs
      refine ⟨h', c21 good6.step rfl rfl gd0 ?_ (by simp)⟩
      have : (binF s).getD [] = if s.all isV = true then s else [] := by
        unfold binF; split <;> rfl
      rw [this] at e
      simp only [t21_0, sv0, W, spanK_u, decide_eq_true_eq, Bool.not_eq_true', decide_eq_false_iff_not, Bool.false_eq_true, Bool.not_true, Bool.not_false, decide_true, decide_false, not_true_eq_false, not_false_eq_true, and_true, true_and, and_false, false_and, ne_eq, Nat.zero_add, Nat.add_zero, cond_true, cond_false, ↓reduceIte, reduceCtorEq, Nat.reduceAdd, Int.reduceEq, Int.reduceNe, Int.reduceLT, Int.reduceLE, Int.reduceAdd, Int.reduceSub, Int.reduceMul, Int.reduceNeg, Nat.reduceMul, List.getElem?_cons_zero, List.getElem?_cons_succ, hF, q100]
      exact e
    · rw [if_neg b2]
      by_cases b3 : base = 104
      · subst b3
        rw [if_pos rfl]
        obtain ⟨h', e⟩ := dig104 s hs
        refine ⟨h', c21 good6.step rfl rfl gd0 ?_ (by simp)⟩
        simp only [t21_0, sv0, W, spanK_u, decide_eq_true_eq, Bool.not_eq_true', decide_eq_false_iff_not, Bool.false_eq_true, Bool.not_true, Bool.not_false, decide_true, decide_false, not_true_eq_false, not_false_eq_true, and_true, true_and, and_false, false_and, ne_eq, Nat.zero_add, Nat.add_zero, cond_true, cond_false, ↓reduceIte, reduceCtorEq, Nat.reduceAdd, Int.reduceEq, Int.reduceNe, Int.reduceLT, Int.reduceLE, Int.reduceAdd, Int.reduceSub, Int.reduceMul, Int.reduceNeg, Nat.reduceMul, List.getElem?_cons_zero, List.getElem?_cons_succ, hF, q100]
        exact e
      · rw [if_neg b3]
        refine ⟨H0, c21 good6.step rfl rfl gd0 ?_ (by simp)⟩
        simp only [t21_0, sv0, W, spanK_u, decide_eq_true_eq, Bool.not_eq_true', decide_eq_false_iff_not, Bool.false_eq_true, Bool.not_true, Bool.not_false, decide_true, decide_false, not_true_eq_false, not_false_eq_true, and_true, true_and, and_false, false_and, ne_eq, Nat.zero_add, Nat.add_zero, cond_true, cond_false, ↓reduceIte, reduceCtorEq, Nat.reduceAdd, Int.reduceEq, Int.reduceNe, Int.reduceLT, Int.reduceLE, Int.reduceAdd, Int.reduceSub, Int.reduceMul, Int.reduceNeg, Nat.reduceMul, List.getElem?_cons_zero, List.getElem?_cons_succ, hF, q100]
        exact digOther base ⟨b2, b3⟩ s hs hne

noncomputable def tab7 : Tab := tab6.add 21 (pureF (fn2 dU dS bitsV))
theorem good7 : GoodT Tryd.prog EP tab7 := good6.also envK mixed noNum good6 tDigits
theorem bits7 {h : H} (b : UInt8) (s : Bs) (hs : s.length ≤ 137438953472) : CL tab7 21 [.int .u8 (b.toNat : Nat), sv s] h = .ok (sv (bitsF b s)) h :=
  call2 (A := dU) (B := dS) (a := b) (b := s) rfl (by unfold bitsV; rw [if_pos hs]) h
theorem rof7 {h : H} (n w : Nat) (hn : n < 9223372036854775808) (hw : w ≤ 4096) : CL tab7 13 [.int .i64 (n : Nat), .int .i64 (w : Nat)] h = .ok (sv (ofF n w)) h :=
  call2 (A := dI) (B := dI) (a := (n : Int)) (b := (w : Int)) rfl (by unfold rofV; rw [if_pos ⟨by omega, by omega, by omega, by omega⟩]; rfl) h
theorem all7 {h : H} (c : UInt8) (w : Nat) (hw : w ≤ 4096) : CL tab7 22 [.int .u8 (c.toNat : Nat), .int .i64 (w : Nat)] h = .ok (sv (List.replicate w c)) h :=
  call2 (A := dU) (B := dI) (a := c) (b := (w : Int)) rfl (by unfold allV; rw [if_pos ⟨by omega, by omega⟩]; rfl) h
theorem rdec7 {h : H} (s : Bs) (m : Nat) (b : Bool) (hs : s.length ≤ 1099511627776) (hm : m ≤ 9007199254740992) : CL tab7 20 [sv s, .int .i64 (m : Nat), .bool b] h = .ok (.int .i64 (optI (decR s m b))) h :=
  call3 (A := dS) (B := dI) (C := dB) (a := s) (b := (m : Int)) (c := b) rfl (by unfold decRV; rw [if_pos ⟨by omega, by omega, by omega⟩]; rfl) h
theorem fit7 {h : H} (v : Bs) (w : Nat) (hv : v.length ≤ 1099511627776) (hw : w ≤ 4096) : CL tab7 23 [sv v, .int .i64 (w : Nat)] h = .ok (sv (fitR v w)) h :=
  call2 (A := dS) (B := dI) (a := v) (b := (w : Int)) rfl (by unfold fitV; rw [if_pos ⟨hv, by omega, by omega⟩]; rfl) h

/-! ### Number -/
theorem nq_loop (s : Bs) (hs : s.length < 1073741824) (q : Nat) {r : CRes} (hr : r ≠ .fail) (e : J9 tab7 1 [sv s, .int .i64 (q : Nat), .int .i64 (s.length : Nat)] H0 = r) : ∀ (k i : Nat), i + k = s.length →
    J9 tab7 1 [sv s, .int .i64 (q : Nat), .int .i64 (i : Nat)] H0 = r := by
  intro k
  induction k with
  | zero => intro i hi; have : i = s.length := by omega
            subst this; exact e
  | succ k ih =>
    intro i hi
    have h0 : ((i : Nat) : Int) < (s.length : Nat) := by omega
    have h1 : ¬ ((q : Nat) : Int) < 0 := by omega
    refine e9_1 ?_ hr
    simp only [t9_1, W, spanK_u, decide_eq_true_eq, Bool.not_eq_true', decide_eq_false_iff_not, Bool.false_eq_true, Bool.not_true, Bool.not_false, decide_true, decide_false, not_true_eq_false, not_false_eq_true, and_true, true_and, and_false, false_and, ne_eq, Nat.zero_add, Nat.add_zero, cond_true, cond_false, ↓reduceIte, reduceCtorEq, Nat.reduceAdd, Int.reduceEq, Int.reduceNe, Int.reduceLT, Int.reduceLE, Int.reduceAdd, Int.reduceSub, Int.reduceMul, Int.reduceNeg, Nat.reduceMul, List.getElem?_cons_zero, List.getElem?_cons_succ, h0, h1]
    refine e9_2 ?_ hr
    simp only [t9_2, W, spanK_u, decide_eq_true_eq, Bool.not_eq_true', decide_eq_false_iff_not, Bool.false_eq_true, Bool.not_true, Bool.not_false, decide_true, decide_false, not_true_eq_false, not_false_eq_true, and_true, true_and, and_false, false_and, ne_eq, Nat.zero_add, Nat.add_zero, cond_true, cond_false, ↓reduceIte, reduceCtorEq, Nat.reduceAdd, Int.reduceEq, Int.reduceNe, Int.reduceLT, Int.reduceLE, Int.reduceAdd, Int.reduceSub, Int.reduceMul, Int.reduceNeg, Nat.reduceMul, List.getElem?_cons_zero, List.getElem?_cons_succ, wr_succ (show i < 9223372036854775807 by omega)]
    exact ih (i + 1) (by omega)
def qOf (s : Bs) (i : Nat) : Int := if (cutL 39 (s.drop i)).2.2 = true then ((i + (cutL 39 (s.drop i)).1.length : Nat) : Int) else -1
theorem n_loop (s : Bs) (hs : s.length < 1073741824) {r : CRes} (hr : r ≠ .fail) : ∀ (k i : Nat), i + k = s.length → J9 tab7 1 [sv s, .int .i64 (qOf s i), .int .i64 (s.length : Nat)] H0 = r →
    J9 tab7 1 [sv s, .int .i64 (-1), .int .i64 (i : Nat)] H0 = r := by
  intro k
  induction k with
  | zero =>
    intro i hi e
    have hi' : i = s.length := by omega
    subst hi'
    have : qOf s s.length = -1 := by unfold qOf; rw [List.drop_length]; rfl
    rw [this] at e
    exact e
  | succ k ih =>
    intro i hi e
    have hil : i < s.length := by omega
    have h0 : ((i : Nat) : Int) < (s.length : Nat) := by omega
    have eix := ixStr_nat s i hil
    have hd := List.drop_eq_getElem_cons hil
    have u39 : (((s[i].toNat : Nat) : Int) = 39) = (s[i] = 39) := u8_eq s[i] 39 (by decide)
    refine e9_1 ?_ hr
    by_cases hc : s[i] = 39
    · have : qOf s i = ((i : Nat) : Int) := by
        unfold qOf
        rw [hd]
        simp only [cutL, hc, if_true, List.length_nil, Nat.add_zero]
      rw [this] at e
      simp only [t9_1, W, spanK_u, decide_eq_true_eq, Bool.not_eq_true', decide_eq_false_iff_not, Bool.false_eq_true, Bool.not_true, Bool.not_false, decide_true, decide_false, not_true_eq_false, not_false_eq_true, and_true, true_and, and_false, false_and, ne_eq, Nat.zero_add, Nat.add_zero, cond_true, cond_false, ↓reduceIte, reduceCtorEq, Nat.reduceAdd, Int.reduceEq, Int.reduceNe, Int.reduceLT, Int.reduceLE, Int.reduceAdd, Int.reduceSub, Int.reduceMul, Int.reduceNeg, Nat.reduceMul, List.getElem?_cons_zero, List.getElem?_cons_succ, h0, eix, u39, eq_true hc]
      refine e9_2 ?_ hr
      simp only [t9_2, W, spanK_u, decide_eq_true_eq, Bool.not_eq_true', decide_eq_false_iff_not, Bool.false_eq_true, Bool.not_true, Bool.not_false, decide_true, decide_false, not_true_eq_false, not_false_eq_true, and_true, true_and, and_false, false_and, ne_eq, Nat.zero_add, Nat.add_zero, cond_true, cond_false, ↓reduceIte, reduceCtorEq, Nat.reduceAdd, Int.reduceEq, Int.reduceNe, Int.reduceLT, Int.reduceLE, Int.reduceAdd, Int.reduceSub, Int.reduceMul, Int.reduceNeg, Nat.reduceMul, List.getElem?_cons_zero, List.getElem?_cons_succ, wr_succ (show i < 9223372036854775807 by omega)]
      exact nq_loop s hs i hr e k (i + 1) (by omega)
    · have : qOf s i = qOf s (i + 1) := by
        unfold qOf
        rw [hd]
        simp only [cutL, hc, if_false, List.length_cons]
        split
        · omega
        · rfl
      rw [this] at e
      simp only [t9_1, W, spanK_u, decide_eq_true_eq, Bool.not_eq_true', decide_eq_false_iff_not, Bool.false_eq_true, Bool.not_true, Bool.not_false, decide_true, decide_false, not_true_eq_false, not_false_eq_true, and_true, true_and, and_false, false_and, ne_eq, Nat.zero_add, Nat.add_zero, cond_true, cond_false, ↓reduceIte, reduceCtorEq, Nat.reduceAdd, Int.reduceEq, Int.reduceNe, Int.reduceLT, Int.reduceLE, Int.reduceAdd, Int.reduceSub, Int.reduceMul, Int.reduceNeg, Nat.reduceMul, List.getElem?_cons_zero, List.getElem?_cons_succ, h0, eix, u39, eq_false hc]
      refine e9_2 ?_ hr
      simp only [t9_2, W, spanK_u, decide_eq_true_eq, Bool.not_eq_true', decide_eq_false_iff_not, Bool.false_eq_true, Bool.not_true, Bool.not_false, decide_true, decide_false, not_true_eq_false, not_false_eq_true, and_true, true_and, and_false, false_and, ne_eq, Nat.zero_add, Nat.add_zero, cond_true, cond_false, ↓reduceIte, reduceCtorEq, Nat.reduceAdd, Int.reduceEq, Int.reduceNe, Int.reduceLT, Int.reduceLE, Int.reduceAdd, Int.reduceSub, Int.reduceMul, Int.reduceNeg, Nat.reduceMul, List.getElem?_cons_zero, List.getElem?_cons_succ, wr_succ (show i < 9223372036854775807 by omega)]
      exact ih (i + 1) (by omega) e

theorem tRNumber : PureT Tryd.prog (CL tab7) 9 (fn1 dS fun s => if s.length < 1073741824 then some (numI (numberF s)) else none) := pure1 Tryd.func9 rfl fun s v e => by
  split at e
  rotate_left
  · cases e
  rename_i hs
  injection e with e; subst e
  refine ⟨rfl, H0, ?_⟩
  show CL tab7 9 [sv s] H0 = _
  refine c9 good7.step rfl rfl gd0 ?_ (by simp [numI])
  simp only [t9_0]
  refine n_loop s hs (by simp [numI]) s.length 0 (by omega) ?_
  unfold qOf
  rw [List.drop_zero]
  have hlt : ¬ ((s.length : Nat) : Int) < (s.length : Nat) := by omega
  refine e9_1 ?_ (by simp [numI])
  cases hb : (cutL 39 s).2.2 with
  | false =>
    obtain ⟨e1, e2, _⟩ := cutL_false 39 s hb
    have e20 := rdec7 (h := H0) s 4294967295 false (by omega) (by omega)
    simp only [Int.cast_ofNat_Int] at e20
    rw [decR_plain s 4294967295 (by omega)] at e20
    unfold numberF
    rw [hb, e1]
    simp only [Bool.false_eq_true, if_false, Int.cast_ofNat_Int] at e20 ⊢
    cases hd : (if plainF s = true then decF s 4294967295 else none) with
    | none =>
      simp only [hd, optI] at e20
      simp only [t9_1, W, spanK_u, decide_eq_true_eq, Bool.not_eq_true', decide_eq_false_iff_not, Bool.false_eq_true, Bool.not_true, Bool.not_false, decide_true, decide_false, not_true_eq_false, not_false_eq_true, and_true, true_and, and_false, false_and, ne_eq, Nat.zero_add, Nat.add_zero, cond_true, cond_false, ↓reduceIte, reduceCtorEq, Nat.reduceAdd, Int.reduceEq, Int.reduceNe, Int.reduceLT, Int.reduceLE, Int.reduceAdd, Int.reduceSub, Int.reduceMul, Int.reduceNeg, Nat.reduceMul, List.getElem?_cons_zero, List.getElem?_cons_succ, hlt, e20]
      rfl
    | some n =>
      have hn : n ≤ 4294967295 := by
        split at hd
        · have := decF_some hd; omega
        · cases hd
      have h0 : ¬ ((n : Nat) : Int) < 0 := by omega
      have e13 := rof7 (h := H0) n 32 (by omega) (by omega)
      simp only [Int.cast_ofNat_Int] at e13
      simp only [hd, optI] at e20
      simp only [t9_1, W, spanK_u, decide_eq_true_eq, Bool.not_eq_true', decide_eq_false_iff_not, Bool.false_eq_true, Bool.not_true, Bool.not_false, decide_true, decide_false, not_true_eq_false, not_false_eq_true, and_true, true_and, and_false, false_and, ne_eq, Nat.zero_add, Nat.add_zero, cond_true, cond_false, ↓reduceIte, reduceCtorEq, Nat.reduceAdd, Int.reduceEq, Int.reduceNe, Int.reduceLT, Int.reduceLE, Int.reduceAdd, Int.reduceSub, Int.reduceMul, Int.reduceNeg, Nat.reduceMul, List.getElem?_cons_zero, List.getElem?_cons_succ, hlt, e20, h0, e13]
      rfl
  | true =>
    have e := cutL_true 39 s hb
    unfold numberF
    rw [hb]
    generalize (cutL 39 s).1 = A at e ⊢
    generalize (cutL 39 s).2.1 = B at e ⊢
    subst e
    simp only [List.length_append, List.length_cons] at hs
    have hA : ((A ++ 39 :: B).take A.length) = A := by simp
    have e20 := rdec7 (h := H0) A 256 false (by omega) (by omega)
    rw [decR_plain A 256 (by omega)] at e20
    simp only [Int.cast_ofNat_Int] at e20
    have hq : ¬ ((A.length : Nat) : Int) < 0 := by omega
    have w1 : wr .i64 (((A.length : Nat) : Int) + 1) = ((A.length + 1 : Nat) : Int) := wr_succ (by omega)
    have w2 : wr .i64 (((A.length : Nat) : Int) + 2) = ((A.length + 2 : Nat) : Int) := by rw [wr_i64 (by omega) (by omega)]; omega
    have esl : slcStr (sv (A ++ 39 :: B)) none (some (.int .i64 (A.length : Nat))) = some (sv A) := by
      rw [slcStr_to _ _ (by omega) (by simp; omega), Int.toNat_natCast, hA]
    have hlen : (A ++ 39 :: B).length = A.length + (B.length + 1) := by simp
    simp only [if_true, Bool.true_eq_false, if_false, Nat.zero_add]
    cases hd : (if plainF A = true then decF A 256 else none) with
    | none =>
      simp only [hd, optI] at e20
      simp only [t9_1, W, spanK_u, decide_eq_true_eq, Bool.not_eq_true', decide_eq_false_iff_not, Bool.false_eq_true, Bool.not_true, Bool.not_false, decide_true, decide_false, not_true_eq_false, not_false_eq_true, and_true, true_and, and_false, false_and, ne_eq, Nat.zero_add, Nat.add_zero, cond_true, cond_false, ↓reduceIte, reduceCtorEq, Nat.reduceAdd, Int.reduceEq, Int.reduceNe, Int.reduceLT, Int.reduceLE, Int.reduceAdd, Int.reduceSub, Int.reduceMul, Int.reduceNeg, Nat.reduceMul, List.getElem?_cons_zero, List.getElem?_cons_succ, hlt, hq, esl, e20]
      rfl
    | some n =>
      have hn : n ≤ 256 := by
        split at hd
        · have := decF_some hd; omega
        · cases hd
      simp only [hd, optI] at e20
      by_cases h1 : n < 1 ∨ B = []
      · simp only [h1, if_true]
        by_cases h2 : ((n : Nat) : Int) < 1
        · simp only [t9_1, W, spanK_u, decide_eq_true_eq, Bool.not_eq_true', decide_eq_false_iff_not, Bool.false_eq_true, Bool.not_true, Bool.not_false, decide_true, decide_false, not_true_eq_false, not_false_eq_true, and_true, true_and, and_false, false_and, ne_eq, Nat.zero_add, Nat.add_zero, cond_true, cond_false, ↓reduceIte, reduceCtorEq, Nat.reduceAdd, Int.reduceEq, Int.reduceNe, Int.reduceLT, Int.reduceLE, Int.reduceAdd, Int.reduceSub, Int.reduceMul, Int.reduceNeg, Nat.reduceMul, List.getElem?_cons_zero, List.getElem?_cons_succ, hlt, hq, esl, e20, h2]
          rfl
        · have hB : B = [] := h1.resolve_left (by omega)
          subst hB
          have h3 : (((A ++ [39]).length : Nat) : Int) ≤ ((A.length + 1 : Nat) : Int) := by simp
          simp only [t9_1, W, spanK_u, decide_eq_true_eq, Bool.not_eq_true', decide_eq_false_iff_not, Bool.false_eq_true, Bool.not_true, Bool.not_false, decide_true, decide_false, not_true_eq_false, not_false_eq_true, and_true, true_and, and_false, false_and, ne_eq, Nat.zero_add, Nat.add_zero, cond_true, cond_false, ↓reduceIte, reduceCtorEq, Nat.reduceAdd, Int.reduceEq, Int.reduceNe, Int.reduceLT, Int.reduceLE, Int.reduceAdd, Int.reduceSub, Int.reduceMul, Int.reduceNeg, Nat.reduceMul, List.getElem?_cons_zero, List.getElem?_cons_succ, hlt, hq, esl, e20, h2, w1, h3]
          rfl
      · simp only [h1, if_false]
        have h2 : ¬ ((n : Nat) : Int) < 1 := by omega
        obtain ⟨c, l, rfl⟩ := List.exists_cons_of_ne_nil (show B ≠ [] from fun h => h1 (.inr h))
        simp only [List.length_cons] at hs hlen
        have h3 : ¬ (((A ++ 39 :: c :: l).length : Nat) : Int) ≤ ((A.length + 1 : Nat) : Int) := by rw [hlen]; omega
        have eix : ixStr (sv (A ++ 39 :: c :: l)) (.int .i64 ((A.length + 1 : Nat) : Int)) = some (.int .u8 (c.toNat : Nat)) := by
          rw [ixStr_nat _ _ (by rw [hlen]; omega)]
          simp
        have esl2 : slcStr (sv (A ++ 39 :: c :: l)) (some (.int .i64 ((A.length + 2 : Nat) : Int))) none = some (sv l) := by
          have hz : A.drop (A.length + 2) = [] := List.drop_of_length_le (by omega)
          rw [slcStr_from _ _ (by omega) (by rw [hlen]; omega), Int.toNat_natCast, List.drop_append, hz]
          simp
        have e21 := bits7 (h := H0) c l (by omega)
        have hbl := bitsF_len c l
        simp only [List.headD_cons, List.tail_cons]
        generalize bitsF c l = d at e21 hbl ⊢
        unfold fitF
        cases d with
        | nil =>
          have hT : (([] : Bs) = []) = True := by simp
          simp only [t9_1, W, spanK_u, decide_eq_true_eq, Bool.not_eq_true', decide_eq_false_iff_not, Bool.false_eq_true, Bool.not_true, Bool.not_false, decide_true, decide_false, not_true_eq_false, not_false_eq_true, and_true, true_and, and_false, false_and, ne_eq, Nat.zero_add, Nat.add_zero, cond_true, cond_false, ↓reduceIte, reduceCtorEq, Nat.reduceAdd, Int.reduceEq, Int.reduceNe, Int.reduceLT, Int.reduceLE, Int.reduceAdd, Int.reduceSub, Int.reduceMul, Int.reduceNeg, Nat.reduceMul, List.getElem?_cons_zero, List.getElem?_cons_succ, hlt, hq, esl, e20, h2, w1, h3, eix, w2, esl2, e21, sv0, hT, List.isEmpty_nil]
          rfl
        | cons x m =>
          have hF : ((x :: m) = []) = False := by simp
          have u120 : (((x.toNat : Nat) : Int) = 120) = (x = 120) := u8_eq x 120 (by decide)
          have u122 : (((x.toNat : Nat) : Int) = 122) = (x = 122) := u8_eq x 122 (by decide)
          have hix : ixStr (sv (x :: m)) (.int .i64 0) = some (.int .u8 (x.toNat : Nat)) := ixStr_sv _ _ (by omega) (by simp)
          have e23 := fit7 (h := H0) (x :: m) n (by omega) (by omega)
          simp only [List.isEmpty_cons, Bool.false_eq_true, if_false, padF, List.head?_cons, Option.some.injEq, List.headD_cons]
          by_cases h4 : ((List.length (x :: m) : Nat) : Int) < ((n : Nat) : Int)
          · have h4' : ¬ n ≤ (x :: m).length := by omega
            have hsub : wr .i64 (((n : Nat) : Int) - ((List.length (x :: m) : Nat) : Int)) = ((n - (x :: m).length : Nat) : Int) := by rw [wr_i64 (by omega) (by omega)]; omega
            have e22 := all7 (h := H0) x (n - (x :: m).length) (by omega)
            have add : binS .add (sv (List.replicate (n - (x :: m).length) x)) (sv (x :: m)) = some (sv (List.replicate (n - (x :: m).length) x ++ x :: m)) := binS_add _ _ (by simp only [List.length_replicate]; omega)
            rw [if_neg h4']
            by_cases q1 : x = 120
            · rw [if_pos (.inl q1)]
              simp only [t9_1, W, spanK_u, decide_eq_true_eq, Bool.not_eq_true', decide_eq_false_iff_not, Bool.false_eq_true, Bool.not_true, Bool.not_false, decide_true, decide_false, not_true_eq_false, not_false_eq_true, and_true, true_and, and_false, false_and, ne_eq, Nat.zero_add, Nat.add_zero, cond_true, cond_false, ↓reduceIte, reduceCtorEq, Nat.reduceAdd, Int.reduceEq, Int.reduceNe, Int.reduceLT, Int.reduceLE, Int.reduceAdd, Int.reduceSub, Int.reduceMul, Int.reduceNeg, Nat.reduceMul, List.getElem?_cons_zero, List.getElem?_cons_succ, hlt, hq, esl, e20, h2, w1, h3, eix, w2, esl2, e21, sv0, hF, h4, hix, u120, eq_true q1, hsub, e22, add]
              rfl
            · by_cases q2 : x = 122
              · rw [if_pos (.inr q2)]
                simp only [t9_1, W, spanK_u, decide_eq_true_eq, Bool.not_eq_true', decide_eq_false_iff_not, Bool.false_eq_true, Bool.not_true, Bool.not_false, decide_true, decide_false, not_true_eq_false, not_false_eq_true, and_true, true_and, and_false, false_and, ne_eq, Nat.zero_add, Nat.add_zero, cond_true, cond_false, ↓reduceIte, reduceCtorEq, Nat.reduceAdd, Int.reduceEq, Int.reduceNe, Int.reduceLT, Int.reduceLE, Int.reduceAdd, Int.reduceSub, Int.reduceMul, Int.reduceNeg, Nat.reduceMul, List.getElem?_cons_zero, List.getElem?_cons_succ, hlt, hq, esl, e20, h2, w1, h3, eix, w2, esl2, e21, sv0, hF, h4, hix, u120, u122, eq_false q1, eq_true q2, hsub, e22, add]
                rfl
              · rw [if_neg (fun h => h.elim q1 q2)]
                simp only [t9_1, W, spanK_u, decide_eq_true_eq, Bool.not_eq_true', decide_eq_false_iff_not, Bool.false_eq_true, Bool.not_true, Bool.not_false, decide_true, decide_false, not_true_eq_false, not_false_eq_true, and_true, true_and, and_false, false_and, ne_eq, Nat.zero_add, Nat.add_zero, cond_true, cond_false, ↓reduceIte, reduceCtorEq, Nat.reduceAdd, Int.reduceEq, Int.reduceNe, Int.reduceLT, Int.reduceLE, Int.reduceAdd, Int.reduceSub, Int.reduceMul, Int.reduceNeg, Nat.reduceMul, List.getElem?_cons_zero, List.getElem?_cons_succ, hlt, hq, esl, e20, h2, w1, h3, eix, w2, esl2, e21, sv0, hF, h4, hix, u120, u122, eq_false q1, eq_false q2, e23, fitR, h4', if_false]
                rfl
          · have h4' : n ≤ (x :: m).length := by omega
            rw [if_pos h4']
            simp only [t9_1, W, spanK_u, decide_eq_true_eq, Bool.not_eq_true', decide_eq_false_iff_not, Bool.false_eq_true, Bool.not_true, Bool.not_false, decide_true, decide_false, not_true_eq_false, not_false_eq_true, and_true, true_and, and_false, false_and, ne_eq, Nat.zero_add, Nat.add_zero, cond_true, cond_false, ↓reduceIte, reduceCtorEq, Nat.reduceAdd, Int.reduceEq, Int.reduceNe, Int.reduceLT, Int.reduceLE, Int.reduceAdd, Int.reduceSub, Int.reduceMul, Int.reduceNeg, Nat.reduceMul, List.getElem?_cons_zero, List.getElem?_cons_succ, hlt, hq, esl, e20, h2, w1, h3, eix, w2, esl2, e21, sv0, hF, h4, e23, fitR, h4', if_true]
            rfl

end Go.Proofs.YtfegkjmghbdogaaDoor

namespace Go.Proofs.YtfegkjmghbdogaaDoor
open Go I
set_option maxRecDepth 100000
set_option linter.unusedVariables false
set_option linter.unusedSimpArgs false

noncomputable def tab8 : Tab := tab7.add 9 (pureF (fn1 dS fun s => if s.length < 1073741824 then some (numI (numberF s)) else none))
theorem good8 : GoodT Tryd.prog EP tab8 := good7.also envK mixed noNum good7 tRNumber
theorem awake10 : ∃ h', CL tab8 10 [] H0 = .ok (.bool true) h' := closed_val (m := 100) (n := 40) (by kernel_rfl)
theorem tAwake : PureT Tryd.prog (CL tab8) 10 (fn0 (.bool true)) := pure0 Tryd.func10 rfl rfl awake10
noncomputable def tab9 : Tab := tab8.add 10 (pureF (fn0 (.bool true)))
theorem good9 : GoodT Tryd.prog EP tab9 := good8.also envK mixed noNum good8 tAwake
theorem sound9 : ∀ w₀ S, EP w₀ S → CallS Tryd.prog w₀ S (CL tab9) := good9.sound envK mixed noNum
theorem awake9 (h : H) : CL tab9 10 [] h = .ok (.bool true) h := call0 rfl h
theorem num9 {h : H} (s : Bs) (hs : s.length < 1073741824) : CL tab9 8 [sv s] h = .ok (numI (numberF s)) h := call1 (A := dS) (a := s) rfl (by simp only [hs, if_true]) h
theorem rnum9 {h : H} (s : Bs) (hs : s.length < 1073741824) : CL tab9 9 [sv s] h = .ok (numI (numberF s)) h := call1 (A := dS) (a := s) rfl (by simp only [hs, if_true]) h
theorem numbers (s : Bs) (hs : s.length < 1073741824) : CL tab9 3 [sv s] H0 = .ok (.bool true) H0 := by
  refine c3 good9.step rfl rfl gd0 ?_ (by simp)
  simp only [t3_0, num9 s hs, rnum9 s hs, numI, W, spanK_u, decide_eq_true_eq, Bool.not_eq_true', decide_eq_false_iff_not, Bool.false_eq_true, Bool.not_true, Bool.not_false, decide_true, decide_false, not_true_eq_false, not_false_eq_true, and_true, true_and, and_false, false_and, ne_eq, Nat.zero_add, Nat.add_zero, cond_true, cond_false, ↓reduceIte, reduceCtorEq, Nat.reduceAdd, Int.reduceEq, Int.reduceNe, Int.reduceLT, Int.reduceLE, Int.reduceAdd, Int.reduceSub, Int.reduceMul, Int.reduceNeg, Nat.reduceMul, List.getElem?_cons_zero, List.getElem?_cons_succ, BEq.rfl, awake9]
theorem numbersE (s : Bs) (hs : s.length ≤ 1048576) : ∃ h', CL tab9 3 [sv s] H0 = .ok (.bool true) h' := ⟨H0, numbers s (by omega)⟩

end Go.Proofs.YtfegkjmghbdogaaDoor

namespace Go.Proofs.YtfegkjmghbdogaaDoor
open Go I
set_option maxRecDepth 100000
set_option linter.unusedVariables false
set_option linter.unusedSimpArgs false

/-! ### a number's decimal digits -/
def dgt (k : Nat) : UInt8 := UInt8.ofNat (48 + k % 10)
theorem dgt_nat (k : Nat) : (dgt k).toNat = 48 + k % 10 := UInt8.toNat_ofNat_of_lt' (by show 48 + k % 10 < 256; omega)
def showL : Nat → Nat → Bs
  | 0, _ => []
  | f + 1, k => if k = 0 then [] else showL f (k / 10) ++ [dgt k]
theorem puV_snoc {M b : Nat} (c : UInt8) : ∀ (l : Bs) (n : Nat), puV M b n (l ++ [c]) = if (puV M b n l).2 = 0 then (if b ≤ digV c then (0, 2) else if M < (puV M b n l).1 * b + digV c then (M, 1) else ((puV M b n l).1 * b + digV c, 0)) else puV M b n l
  | [], n => by simp only [List.nil_append, puV, if_true]; rfl
  | x :: l, n => by
    simp only [List.cons_append, puV]
    split
    · rfl
    · split
      · rfl
      · exact puV_snoc c l _
theorem dgt_dig (k : Nat) : digV (dgt k) = k % 10 := by
  unfold digV
  rw [dgt_nat, if_pos (by omega)]; omega
theorem puV_show {M : Nat} : ∀ (f k : Nat), k < 10 ^ f → k ≤ M → puV M 10 0 (showL f k) = (k, 0)
  | 0, k, h, hM => by
    have : k = 0 := by simpa using h
    subst this; rfl
  | f + 1, k, h, hM => by
    unfold showL
    by_cases h0 : k = 0
    · subst h0; rfl
    · rw [if_neg h0, puV_snoc, puV_show f (k / 10) (by rw [Nat.pow_succ] at h; omega) (by omega), dgt_dig]
      simp only [if_true]
      rw [if_neg (by omega), if_neg (by omega)]
      congr 1; omega
theorem showL_len : ∀ (f k : Nat), (showL f k).length ≤ f
  | 0, k => Nat.le_refl _
  | f + 1, k => by
    unfold showL
    split
    · simp
    · have := showL_len f (k / 10); simp; omega
theorem showL_digits : ∀ (f k : Nat), ∀ c ∈ showL f k, 48 ≤ c.toNat ∧ c.toNat ≤ 57
  | 0, k, c, h => by cases h
  | f + 1, k, c, h => by
    unfold showL at h
    split at h
    · cases h
    · rcases List.mem_append.1 h with h | h
      · exact showL_digits f _ c h
      · rw [List.mem_singleton] at h
        subst h; rw [dgt_nat]; omega
theorem showL_head : ∀ (f k : Nat), k ≠ 0 → k < 10 ^ f → ∃ c l, showL f k = c :: l ∧ c ≠ 48
  | 0, k, h0, h => by have : k = 0 := by simpa using h
                      exact absurd this h0
  | f + 1, k, h0, h => by
    unfold showL
    rw [if_neg h0]
    by_cases h1 : k / 10 = 0
    · refine ⟨dgt k, [], ?_, ?_⟩
      · rw [h1]
        cases f <;> rfl
      · intro e
        have := congrArg UInt8.toNat e
        rw [dgt_nat] at this
        have h48 : (48 : UInt8).toNat = 48 := rfl
        omega
    · obtain ⟨c, l, e, hc⟩ := showL_head f (k / 10) h1 (by rw [Nat.pow_succ] at h; omega)
      exact ⟨c, l ++ [dgt k], by rw [e]; rfl, hc⟩
/-- what a number's text is: its digits, or a nought -/
def showN (m : Nat) : Bs := if m = 0 then [48] else showL 10 m
theorem showN_len (m : Nat) : (showN m).length ≤ 10 := by
  unfold showN
  split
  · decide
  · exact showL_len 10 m
theorem showN_digits (m : Nat) : ∀ c ∈ showN m, 48 ≤ c.toNat ∧ c.toNat ≤ 57 := by
  unfold showN
  split
  · intro c h; rw [List.mem_singleton] at h; subst h; decide
  · exact showL_digits 10 m
theorem showN_plain (m : Nat) (hm : m < 10000000000) : plainF (showN m) = true := by
  have hlen := showN_len m
  unfold showN at hlen ⊢
  split
  · rfl
  · rename_i h0
    rw [if_neg h0] at hlen
    obtain ⟨c, l, e, hc⟩ := showL_head 10 m h0 hm
    rw [e] at hlen ⊢
    rw [plain_cons]
    simp only [decide_eq_true hlen, decide_eq_true hc, Bool.or_true, Bool.and_self]
theorem showN_pu (m : Nat) (hm : m < 10000000000) : puF 10 62 (showN m) = (m, 0) := by
  unfold puF showN
  by_cases h0 : m = 0
  · subst h0; rfl
  · rw [if_neg h0]
    obtain ⟨c, l, e, hc⟩ := showL_head 10 m h0 hm
    rw [if_neg (by rw [e]; exact List.cons_ne_nil _ _)]
    exact puV_show 10 m hm (by omega)
theorem showN_dec (m : Nat) (hm : m < 10000000000) {most : Int} (h : (m : Int) ≤ most) : decF (showN m) most = some m := by
  unfold decF
  rw [showN_pu m hm, if_pos ⟨rfl, h⟩]
theorem cutL_app {c : UInt8} : ∀ (a b : Bs), (∀ x ∈ a, x ≠ c) → cutL c (a ++ c :: b) = (a, b, true)
  | [], b, _ => by simp [cutL]
  | x :: a, b, h => by
    have h1 : x ≠ c := h x (List.mem_cons_self ..)
    simp only [List.cons_append, cutL, h1, if_false]
    rw [cutL_app a b fun y hy => h y (List.mem_cons_of_mem _ hy)]
theorem cutL_no {c : UInt8} : ∀ (a : Bs), (∀ x ∈ a, x ≠ c) → cutL c a = (a, [], false)
  | [], _ => rfl
  | x :: a, h => by
    have h1 : x ≠ c := h x (List.mem_cons_self ..)
    simp only [cutL, h1, if_false]
    rw [cutL_no a fun y hy => h y (List.mem_cons_of_mem _ hy)]
theorem showN_39 (m : Nat) : ∀ x ∈ showN m, x ≠ 39 := by
  rintro x hx rfl
  have := showN_digits m _ hx
  have h39 : (39 : UInt8).toNat = 39 := rfl
  omega
/-- a number of a width, by its digits -/
theorem number_based (w : Nat) (h1 : 1 ≤ w) (h2 : w ≤ 256) (b : UInt8) (s : Bs) : numberF (showN w ++ 39 :: b :: s) = fitF (bitsF b s) w := by
  unfold numberF
  rw [cutL_app _ _ (showN_39 w)]
  simp only [showN_plain w (by omega), if_true, showN_dec w (by omega) (show (w : Int) ≤ 256 by omega), Bool.true_eq_false, if_false]
  rw [if_neg (by simp; omega)]
  rfl
theorem number_plain (m : Nat) (hm : m ≤ 4294967295) : numberF (showN m) = (ofF m 32, true, 0) := by
  unfold numberF
  rw [cutL_no _ (showN_39 m)]
  simp only [showN_plain m (by omega), if_true, Bool.false_eq_true, if_false, showN_dec m (by omega) (show (m : Int) ≤ 4294967295 by omega)]
theorem bits_100 (m : Nat) (hm : m ≤ 2147483647) : bitsF 100 (showN m) = ofF m 31 := by
  unfold bitsF
  rw [if_pos rfl]
  by_cases h0 : m = 0
  · subst h0; rfl
  · obtain ⟨c, l, e, hc⟩ := showL_head 10 m h0 (by omega)
    have e' : showN m = c :: l := by unfold showN; rw [if_neg h0, e]
    have hd : (showN m).dropWhile (· == 48) = showN m := by rw [e', List.dropWhile_cons, if_neg (by simpa using hc)]
    have ha : ¬ (showN m ≠ [] ∧ (showN m).all (· == 48) = true) := by
      rintro ⟨_, h⟩
      rw [e'] at h
      simp [hc] at h
    rw [if_neg ha, hd, showN_dec m (by omega) (show (m : Int) ≤ 2147483647 by omega)]
theorem fit_same {d : Bs} {n : Nat} (hd : d.length = n) (hn : n ≠ 0) : fitF d n = (d, false, 0) := by
  unfold fitF padF
  have : d.isEmpty = false := by cases d with
    | nil => exact absurd hd.symm hn
    | cons => rfl
  rw [this, if_neg (by simp), if_pos (by omega), hd, Nat.sub_self, List.drop_zero]

/-! ### a number that is masked -/
theorem mask_and (k m : Nat) (hm : m < 9223372036854775808) (a : Int) : ∃ r : Nat, r ≤ m ∧ IntKind.i64.wrap (BitVec.ofInt IntKind.i64.bits a &&& BitVec.ofInt IntKind.i64.bits (m : Nat)).toNat = (r : Int) := by
  refine ⟨(BitVec.ofInt IntKind.i64.bits a &&& BitVec.ofInt IntKind.i64.bits ((m : Nat) : Int)).toNat, ?_, ?_⟩
  · rw [BitVec.toNat_and]
    refine Nat.le_trans Nat.and_le_right ?_
    show (BitVec.ofInt 64 ((m : Nat) : Int)).toNat ≤ m
    rw [BitVec.ofInt_natCast, BitVec.toNat_ofNat]
    exact Nat.mod_le _ _
  · have hle : (BitVec.ofInt IntKind.i64.bits a &&& BitVec.ofInt IntKind.i64.bits ((m : Nat) : Int)).toNat ≤ m := by
      rw [BitVec.toNat_and]
      refine Nat.le_trans Nat.and_le_right ?_
      show (BitVec.ofInt 64 ((m : Nat) : Int)).toNat ≤ m
      rw [BitVec.ofInt_natCast, BitVec.toNat_ofNat]
      exact Nat.mod_le _ _
    generalize (BitVec.ofInt IntKind.i64.bits a &&& BitVec.ofInt IntKind.i64.bits ((m : Nat) : Int)).toNat = r at hle ⊢
    show IntKind.i64.wrap ((r : Nat) : Int) = (r : Nat)
    have := wr_i64 (n := ((r : Nat) : Int)) (by omega) (by omega)
    simp only [IntKind.wrap, IntKind.bits, IntKind.signed]
    simp
    omega

end Go.Proofs.YtfegkjmghbdogaaDoor

namespace Go.Proofs.YtfegkjmghbdogaaDoor
open Go I
set_option maxRecDepth 100000
set_option linter.unusedVariables false
set_option linter.unusedSimpArgs false

/-! ### silkwormref01.May -/
theorem may_loop {T : Tab} (s : Bs) (hs : s.length ≤ 9223372036854775807) : ∀ (k i : Nat), i + k = s.length → J12 T 1 [sv s, .int .i64 (i : Nat)] H0 = .ok (.bool ((s.drop i).all isV && (decide (1 ≤ s.length) && decide (s.length ≤ 256)))) H0 := by
  intro k
  induction k with
  | zero =>
    intro i hi
    refine e12_1 ?_ (by simp)
    have h0 : ¬ ((i : Nat) : Int) < (s.length : Nat) := by omega
    rw [List.drop_of_length_le (by omega)]
    by_cases h1 : (1 : Int) ≤ (s.length : Nat)
    · by_cases h2 : ((s.length : Nat) : Int) ≤ 256
      · have h1' : 1 ≤ s.length := by omega
        have h2' : s.length ≤ 256 := by omega
        simp only [t12_1, W, spanK_u, decide_eq_true_eq, Bool.not_eq_true', decide_eq_false_iff_not, Bool.false_eq_true, Bool.not_true, Bool.not_false, decide_true, decide_false, not_true_eq_false, not_false_eq_true, and_true, true_and, and_false, false_and, ne_eq, Nat.zero_add, Nat.add_zero, cond_true, cond_false, ↓reduceIte, reduceCtorEq, Nat.reduceAdd, Int.reduceEq, Int.reduceNe, Int.reduceLT, Int.reduceLE, Int.reduceAdd, Int.reduceSub, Int.reduceMul, Int.reduceNeg, Nat.reduceMul, List.getElem?_cons_zero, List.getElem?_cons_succ, h0, h1, h2, h1', h2', List.all_nil, Bool.and_self]
      · have h1' : 1 ≤ s.length := by omega
        have h2' : ¬ s.length ≤ 256 := by omega
        simp only [t12_1, W, spanK_u, decide_eq_true_eq, Bool.not_eq_true', decide_eq_false_iff_not, Bool.false_eq_true, Bool.not_true, Bool.not_false, decide_true, decide_false, not_true_eq_false, not_false_eq_true, and_true, true_and, and_false, false_and, ne_eq, Nat.zero_add, Nat.add_zero, cond_true, cond_false, ↓reduceIte, reduceCtorEq, Nat.reduceAdd, Int.reduceEq, Int.reduceNe, Int.reduceLT, Int.reduceLE, Int.reduceAdd, Int.reduceSub, Int.reduceMul, Int.reduceNeg, Nat.reduceMul, List.getElem?_cons_zero, List.getElem?_cons_succ, h0, h1, h2, h1', h2', List.all_nil, Bool.and_false]
    · have h1' : ¬ 1 ≤ s.length := by omega
      simp only [t12_1, W, spanK_u, decide_eq_true_eq, Bool.not_eq_true', decide_eq_false_iff_not, Bool.false_eq_true, Bool.not_true, Bool.not_false, decide_true, decide_false, not_true_eq_false, not_false_eq_true, and_true, true_and, and_false, false_and, ne_eq, Nat.zero_add, Nat.add_zero, cond_true, cond_false, ↓reduceIte, reduceCtorEq, Nat.reduceAdd, Int.reduceEq, Int.reduceNe, Int.reduceLT, Int.reduceLE, Int.reduceAdd, Int.reduceSub, Int.reduceMul, Int.reduceNeg, Nat.reduceMul, List.getElem?_cons_zero, List.getElem?_cons_succ, h0, h1, h1', List.all_nil, Bool.false_and, Bool.and_false]
  | succ k ih =>
    intro i hi
    have hil : i < s.length := by omega
    have h0 : ((i : Nat) : Int) < (s.length : Nat) := by omega
    refine e12_1 ?_ (by simp)
    have eix := ixStr_nat s i hil
    have w1 := wr_succ (show i < 9223372036854775807 by omega)
    have ih' := ih (i + 1) (by omega)
    rw [List.drop_eq_getElem_cons hil, List.all_cons]
    have hv := isV_nat s[i]
    generalize s[i] = c at *
    by_cases h : isV c = true
    · rw [h]
      simp only [Bool.true_and]
      rw [hv] at h
      rcases h with hv | hv | hv | hv
      · simp only [t12_1, W, spanK_u, decide_eq_true_eq, Bool.not_eq_true', decide_eq_false_iff_not, Bool.false_eq_true, Bool.not_true, Bool.not_false, decide_true, decide_false, not_true_eq_false, not_false_eq_true, and_true, true_and, and_false, false_and, ne_eq, Nat.zero_add, Nat.add_zero, cond_true, cond_false, ↓reduceIte, reduceCtorEq, Nat.reduceAdd, Int.reduceEq, Int.reduceNe, Int.reduceLT, Int.reduceLE, Int.reduceAdd, Int.reduceSub, Int.reduceMul, Int.reduceNeg, Nat.reduceMul, List.getElem?_cons_zero, List.getElem?_cons_succ, h0, eix, eq_true (show ((c.toNat : Nat) : Int) = 48 by omega), eq_false (show ¬ ((c.toNat : Nat) : Int) = 49 by omega), eq_false (show ¬ ((c.toNat : Nat) : Int) = 120 by omega), eq_false (show ¬ ((c.toNat : Nat) : Int) = 122 by omega), w1]
        exact ih'
      · simp only [t12_1, W, spanK_u, decide_eq_true_eq, Bool.not_eq_true', decide_eq_false_iff_not, Bool.false_eq_true, Bool.not_true, Bool.not_false, decide_true, decide_false, not_true_eq_false, not_false_eq_true, and_true, true_and, and_false, false_and, ne_eq, Nat.zero_add, Nat.add_zero, cond_true, cond_false, ↓reduceIte, reduceCtorEq, Nat.reduceAdd, Int.reduceEq, Int.reduceNe, Int.reduceLT, Int.reduceLE, Int.reduceAdd, Int.reduceSub, Int.reduceMul, Int.reduceNeg, Nat.reduceMul, List.getElem?_cons_zero, List.getElem?_cons_succ, h0, eix, eq_false (show ¬ ((c.toNat : Nat) : Int) = 48 by omega), eq_true (show ((c.toNat : Nat) : Int) = 49 by omega), eq_false (show ¬ ((c.toNat : Nat) : Int) = 120 by omega), eq_false (show ¬ ((c.toNat : Nat) : Int) = 122 by omega), w1]
        exact ih'
      · simp only [t12_1, W, spanK_u, decide_eq_true_eq, Bool.not_eq_true', decide_eq_false_iff_not, Bool.false_eq_true, Bool.not_true, Bool.not_false, decide_true, decide_false, not_true_eq_false, not_false_eq_true, and_true, true_and, and_false, false_and, ne_eq, Nat.zero_add, Nat.add_zero, cond_true, cond_false, ↓reduceIte, reduceCtorEq, Nat.reduceAdd, Int.reduceEq, Int.reduceNe, Int.reduceLT, Int.reduceLE, Int.reduceAdd, Int.reduceSub, Int.reduceMul, Int.reduceNeg, Nat.reduceMul, List.getElem?_cons_zero, List.getElem?_cons_succ, h0, eix, eq_false (show ¬ ((c.toNat : Nat) : Int) = 48 by omega), eq_false (show ¬ ((c.toNat : Nat) : Int) = 49 by omega), eq_true (show ((c.toNat : Nat) : Int) = 120 by omega), eq_false (show ¬ ((c.toNat : Nat) : Int) = 122 by omega), w1]
        exact ih'
      · simp only [t12_1, W, spanK_u, decide_eq_true_eq, Bool.not_eq_true', decide_eq_false_iff_not, Bool.false_eq_true, Bool.not_true, Bool.not_false, decide_true, decide_false, not_true_eq_false, not_false_eq_true, and_true, true_and, and_false, false_and, ne_eq, Nat.zero_add, Nat.add_zero, cond_true, cond_false, ↓reduceIte, reduceCtorEq, Nat.reduceAdd, Int.reduceEq, Int.reduceNe, Int.reduceLT, Int.reduceLE, Int.reduceAdd, Int.reduceSub, Int.reduceMul, Int.reduceNeg, Nat.reduceMul, List.getElem?_cons_zero, List.getElem?_cons_succ, h0, eix, eq_false (show ¬ ((c.toNat : Nat) : Int) = 48 by omega), eq_false (show ¬ ((c.toNat : Nat) : Int) = 49 by omega), eq_false (show ¬ ((c.toNat : Nat) : Int) = 120 by omega), eq_true (show ((c.toNat : Nat) : Int) = 122 by omega), w1]
        exact ih'
    · have hf : isV c = false := by simpa using h
      rw [hf]
      simp only [Bool.false_and]
      rw [hv] at h
      simp only [t12_1, W, spanK_u, decide_eq_true_eq, Bool.not_eq_true', decide_eq_false_iff_not, Bool.false_eq_true, Bool.not_true, Bool.not_false, decide_true, decide_false, not_true_eq_false, not_false_eq_true, and_true, true_and, and_false, false_and, ne_eq, Nat.zero_add, Nat.add_zero, cond_true, cond_false, ↓reduceIte, reduceCtorEq, Nat.reduceAdd, Int.reduceEq, Int.reduceNe, Int.reduceLT, Int.reduceLE, Int.reduceAdd, Int.reduceSub, Int.reduceMul, Int.reduceNeg, Nat.reduceMul, List.getElem?_cons_zero, List.getElem?_cons_succ, h0, eix, eq_false (show ¬ ((c.toNat : Nat) : Int) = 48 by omega), eq_false (show ¬ ((c.toNat : Nat) : Int) = 49 by omega), eq_false (show ¬ ((c.toNat : Nat) : Int) = 120 by omega), eq_false (show ¬ ((c.toNat : Nat) : Int) = 122 by omega)]
theorem may {T : Tab} (hT : OvStep T) (ho : T.ov 12 = none) (hp : T.pol 12 = true) (s : Bs) (hs : s.length ≤ 9223372036854775807) : CL T 12 [sv s] H0 = .ok (.bool (s.all isV && (decide (1 ≤ s.length) && decide (s.length ≤ 256)))) H0 := by
  refine c12 hT ho hp gd0 ?_ (by simp)
  have := may_loop (T := T) s hs s.length 0 (by omega)
  rw [List.drop_zero] at this
  simp only [t12_0]
  exact this

/-! ### the size, by digits out of a list -/
def ws : List IV := [(.str ⟨0, 0⟩), (.str ⟨1, 49⟩), (.str ⟨1, 50⟩), (.str ⟨1, 51⟩), (.str ⟨1, 52⟩), (.str ⟨1, 53⟩), (.str ⟨1, 54⟩), (.str ⟨1, 55⟩), (.str ⟨1, 56⟩), (.str ⟨1, 57⟩)]
theorem ws_at (r : Nat) (h : r < 10) : ∃ v, ws[r]? = some v ∧ (r ≠ 0 → v = sv [dgt r]) := by
  rcases r with _ | _ | _ | _ | _ | _ | _ | _ | _ | _ | r
  · exact ⟨_, rfl, fun h => absurd rfl h⟩
  all_goals first
    | exact ⟨_, rfl, fun _ => rfl⟩
    | omega
theorem dgt_mod (k : Nat) : dgt (k % 10) = dgt k := by unfold dgt; rw [Nat.mod_mod]
theorem rem10 (k : Nat) (hk : k < 9223372036854775808) : binN .rem (.int .i64 (k : Nat)) (.int .i64 10) = some (.int .i64 ((k % 10 : Nat) : Int)) := by rw [binN_rem _ _ _ (by omega)]; congr 2
theorem quo10 (k : Nat) (hk : k < 9223372036854775808) : binN .quo (.int .i64 (k : Nat)) (.int .i64 10) = some (.int .i64 ((k / 10 : Nat) : Int)) := by
  rw [binN_quo _ _ _ (by omega)]
  have : Int.tdiv ((k : Nat) : Int) 10 = ((k / 10 : Nat) : Int) := rfl
  rw [this, wr_i64 (by omega) (by omega)]
theorem size_loop {T : Tab} {h : H} {b : Nat} {rw fz : Bool} (c : Cs h b rw fz ws) {a0 a1 : IV} {r : CRes} (hr : r ≠ .fail) : ∀ (f k : Nat) (acc : Bs), k < 10 ^ f → f ≤ 10 → acc.length + f ≤ 1000 →
    J6 T 1 [a0, a1, .slice b 0 10 1, sv (showL f k ++ acc), .int .i64 0] h = r → J6 T 1 [a0, a1, .slice b 0 10 1, sv acc, .int .i64 (k : Nat)] h = r := by
  intro f
  induction f with
  | zero => intro k acc hk _ _ e; have : k = 0 := by simpa using hk
            subst this; exact e
  | succ f ih =>
    intro k acc hk hf hacc e
    by_cases h0 : k = 0
    · subst h0
      unfold showL at e
      rw [if_pos rfl] at e; exact e
    · have hk10 : k < 9223372036854775808 := by
        have : 10 ^ (f + 1) ≤ 10 ^ 10 := Nat.pow_le_pow_right (by omega) hf
        omega
      have e' := ih (k / 10) ([dgt k] ++ acc) (by rw [Nat.pow_succ] at hk; omega) (by omega) (by simp; omega) (by
        rw [← List.append_assoc]
        unfold showL at e
        rw [if_neg h0] at e; exact e)
      have hpos : (0 : Int) < (k : Nat) := by omega
      obtain ⟨v, q1, q2⟩ := ws_at (k % 10) (by omega)
      have eld : I.ld0 h (.ptr b (k % 10)) = some v := by rw [c.ld0]; exact q1
      have eix : ixS 1 (.slice b 0 10 1) (.int .i64 ((k % 10 : Nat) : Int)) = some (.ptr b (k % 10)) := ixS_byte (by omega)
      have add : binS .add (sv [dgt k]) (sv acc) = some (sv ([dgt k] ++ acc)) := binS_add _ _ (by simp; omega)
      refine e6_1 ?_ hr
      have fin : J6 T 2 [a0, a1, .slice b 0 10 1, sv acc, .int .i64 (k : Nat), sv [dgt k]] h = r := by
        refine e6_2 ?_ hr
        simp only [t6_2, W, spanK_u, decide_eq_true_eq, Bool.not_eq_true', decide_eq_false_iff_not, Bool.false_eq_true, Bool.not_true, Bool.not_false, decide_true, decide_false, not_true_eq_false, not_false_eq_true, and_true, true_and, and_false, false_and, ne_eq, Nat.zero_add, Nat.add_zero, cond_true, cond_false, ↓reduceIte, reduceCtorEq, Nat.reduceAdd, Int.reduceEq, Int.reduceNe, Int.reduceLT, Int.reduceLE, Int.reduceAdd, Int.reduceSub, Int.reduceMul, Int.reduceNeg, Nat.reduceMul, List.getElem?_cons_zero, List.getElem?_cons_succ, add, quo10 k hk10]
        exact e'
      by_cases hz : k % 10 = 0
      · have hz' : (((k % 10 : Nat) : Int) = 0) = True := eq_true (by omega)
        have hd : IV.str ⟨1, 48⟩ = sv [dgt k] := by
          have : dgt k = 48 := by unfold dgt; rw [hz]; rfl
          rw [this]; rfl
        simp only [t6_1, W, spanK_u, decide_eq_true_eq, Bool.not_eq_true', decide_eq_false_iff_not, Bool.false_eq_true, Bool.not_true, Bool.not_false, decide_true, decide_false, not_true_eq_false, not_false_eq_true, and_true, true_and, and_false, false_and, ne_eq, Nat.zero_add, Nat.add_zero, cond_true, cond_false, ↓reduceIte, reduceCtorEq, Nat.reduceAdd, Int.reduceEq, Int.reduceNe, Int.reduceLT, Int.reduceLE, Int.reduceAdd, Int.reduceSub, Int.reduceMul, Int.reduceNeg, Nat.reduceMul, List.getElem?_cons_zero, List.getElem?_cons_succ, hpos, rem10 k hk10, eix, eld, hz', hd]
        exact fin
      · have hz' : (((k % 10 : Nat) : Int) = 0) = False := eq_false (by omega)
        have hv := q2 hz
        rw [dgt_mod] at hv
        simp only [t6_1, W, spanK_u, decide_eq_true_eq, Bool.not_eq_true', decide_eq_false_iff_not, Bool.false_eq_true, Bool.not_true, Bool.not_false, decide_true, decide_false, not_true_eq_false, not_false_eq_true, and_true, true_and, and_false, false_and, ne_eq, Nat.zero_add, Nat.add_zero, cond_true, cond_false, ↓reduceIte, reduceCtorEq, Nat.reduceAdd, Int.reduceEq, Int.reduceNe, Int.reduceLT, Int.reduceLE, Int.reduceAdd, Int.reduceSub, Int.reduceMul, Int.reduceNeg, Nat.reduceMul, List.getElem?_cons_zero, List.getElem?_cons_succ, hpos, rem10 k hk10, eix, eld, hz', hv]
        exact fin
/-! ### the number, by digits -/
theorem lit_one {h : H} (g : Gd h) (c : UInt8) : ∃ h', bslK true 1 [.int .u8 0] 1 [(0, .int .u8 (c.toNat : Nat))] h = some (.slice h.next 0 1 1, h') ∧ Ky h h' ∧ cvS h' (.slice h.next 0 1 1) = some (sv [c]) := by
  obtain ⟨h', e, k, cs⟩ := lit_bys g [c]
  exact ⟨h', e, k, cvS_all cs rfl⟩
theorem digit_u8 (k : Nat) : wr .u8 ((48 + k % 10 : Nat) : Int) = (((dgt k).toNat : Nat) : Int) := by rw [dgt_nat, wr_u8 (by omega) (by omega)]
theorem num_loop {T : Tab} {m : IV} {r : IV} : ∀ (f k : Nat) (acc : Bs) (h : H), Gd h → k < 10 ^ f → f ≤ 10 → acc.length + f ≤ 1000 → acc ≠ [] →
    (∀ h', Gd h' → ∃ h'', J6 T 3 [m, sv (showL f k ++ acc), .int .i64 0] h' = .ok r h'') → ∃ h'', J6 T 3 [m, sv acc, .int .i64 (k : Nat)] h = .ok r h'' := by
  intro f
  induction f with
  | zero => intro k acc h g hk _ _ _ e; have : k = 0 := by simpa using hk
            subst this; exact e h g
  | succ f ih =>
    intro k acc h g hk hf hacc hne e
    by_cases h0 : k = 0
    · subst h0
      unfold showL at e
      rw [if_pos rfl] at e; exact e h g
    · have hk10 : k < 9223372036854775808 := by
        have : 10 ^ (f + 1) ≤ 10 ^ 10 := Nat.pow_le_pow_right (by omega) hf
        omega
      obtain ⟨h1, e1, k1, e2⟩ := lit_one g (dgt k)
      obtain ⟨h2, e3⟩ := ih (k / 10) ([dgt k] ++ acc) h1 k1.gd (by rw [Nat.pow_succ] at hk; omega) (by omega) (by simp; omega) (by simp) (by
        rw [← List.append_assoc]
        unfold showL at e
        rw [if_neg h0] at e; exact e)
      have hpos : (0 : Int) < (k : Nat) := by omega
      have add : binS .add (sv [dgt k]) (sv acc) = some (sv ([dgt k] ++ acc)) := binS_add _ _ (by simp; omega)
      have w1 : wr .i64 (48 + ((k % 10 : Nat) : Int)) = ((48 + k % 10 : Nat) : Int) := by rw [wr_i64 (by omega) (by omega)]; omega
      refine ⟨h2, e6_3 ?_ (by simp)⟩
      simp only [t6_3, W, spanK_u, decide_eq_true_eq, Bool.not_eq_true', decide_eq_false_iff_not, Bool.false_eq_true, Bool.not_true, Bool.not_false, decide_true, decide_false, not_true_eq_false, not_false_eq_true, and_true, true_and, and_false, false_and, ne_eq, Nat.zero_add, Nat.add_zero, cond_true, cond_false, ↓reduceIte, reduceCtorEq, Nat.reduceAdd, Int.reduceEq, Int.reduceNe, Int.reduceLT, Int.reduceLE, Int.reduceAdd, Int.reduceSub, Int.reduceMul, Int.reduceNeg, Nat.reduceMul, List.getElem?_cons_zero, List.getElem?_cons_succ, hpos, rem10 k hk10, w1, digit_u8, e1, e2, add, quo10 k hk10]
      exact e3
theorem rof9 {h : H} (n w : Nat) (hn : n < 9223372036854775808) (hw : w ≤ 4096) : CL tab9 13 [.int .i64 (n : Nat), .int .i64 (w : Nat)] h = .ok (sv (ofF n w)) h :=
  call2 (A := dI) (B := dI) (a := (n : Int)) (b := (w : Int)) rfl (by unfold rofV; rw [if_pos ⟨by omega, by omega, by omega, by omega⟩]; rfl) h
theorem showN_ne (m : Nat) (hm : m < 10000000000) : showN m ≠ [] := by
  unfold showN
  split
  · simp
  · rename_i h0
    obtain ⟨c, l, e, _⟩ := showL_head 10 m h0 hm
    rw [e]; simp
theorem showN31 : showN 31 = [51, 49] := by decide +kernel
theorem bits_end (m : Nat) (hm : m ≤ 2147483647) {h : H} (g : Gd h) : J6 tab9 3 [.int .i64 (m : Nat), sv (showN m), .int .i64 0] h = .ok (.bool true) h := by
  refine e6_3 ?_ (by simp)
  have hne := eq_false (showN_ne m (by omega))
  have hlen := showN_len m
  have n1 := num9 (h := h) (showN m) (by omega)
  rw [number_plain m (by omega)] at n1
  have n2 := num9 (h := h) (showN 31 ++ 39 :: 100 :: showN m) (by rw [showN31]; simp; omega)
  rw [number_based 31 (by omega) (by omega), bits_100 m hm, fit_same (ofF_len 31 m) (by omega)] at n2
  have e31 : binS .add (.str ⟨4, 1680290099⟩) (sv (showN m)) = some (sv (showN 31 ++ 39 :: 100 :: showN m)) := by
    rw [showN31]
    exact binS_add [51, 49, 39, 100] (showN m) (by simp; omega)
  have o1 := rof9 (h := h) m 32 (by omega) (by omega)
  have o2 := rof9 (h := h) m 31 (by omega) (by omega)
  simp only [Int.cast_ofNat_Int] at o1 o2
  have hpos : ¬ (0 : Int) < 0 := by omega
  simp only [t6_3, W, spanK_u, decide_eq_true_eq, Bool.not_eq_true', decide_eq_false_iff_not, Bool.false_eq_true, Bool.not_true, Bool.not_false, decide_true, decide_false, not_true_eq_false, not_false_eq_true, and_true, true_and, and_false, false_and, ne_eq, Nat.zero_add, Nat.add_zero, cond_true, cond_false, ↓reduceIte, reduceCtorEq, Nat.reduceAdd, Int.reduceEq, Int.reduceNe, Int.reduceLT, Int.reduceLE, Int.reduceAdd, Int.reduceSub, Int.reduceMul, Int.reduceNeg, Nat.reduceMul, List.getElem?_cons_zero, List.getElem?_cons_succ, hpos, sv0, hne, n1, n2, numI, e31, o1, o2, awake9]
theorem wsK {h : H} (g : Gd h) : ∃ h', bslK false 1 [(.str ⟨0, 0⟩)] 10 [(0, (.str ⟨0, 0⟩)), (1, (.str ⟨1, 49⟩)), (2, (.str ⟨1, 50⟩)), (3, (.str ⟨1, 51⟩)), (4, (.str ⟨1, 52⟩)), (5, (.str ⟨1, 53⟩)), (6, (.str ⟨1, 54⟩)), (7, (.str ⟨1, 55⟩)), (8, (.str ⟨1, 56⟩)), (9, (.str ⟨1, 57⟩))] h = some (.slice h.next 0 10 1, h') ∧ Ex h h' ∧ Cs h' h.next false true ws :=
  bslK_imm (vs := ws) g rfl (by intro v hv; simp only [ws, List.mem_cons, List.not_mem_nil, or_false] at hv; rcases hv with rfl | rfl | rfl | rfl | rfl | rfl | rfl | rfl | rfl | rfl <;> rfl) rfl
theorem lexerBits (s : Bs) (n w : Int) (hs : s.length ≤ 9223372036854775807) : ∃ h', CL tab9 6 [sv s, .int .i64 n, .int .i64 w] H0 = .ok (.bool true) h' := by
  have em := may (T := tab9) good9.step rfl rfl s hs
  by_cases hm : (s.all isV && (decide (1 ≤ s.length) && decide (s.length ≤ 256))) = true
  · rw [hm] at em
    simp only [Bool.and_eq_true, decide_eq_true_eq] at hm
    obtain ⟨hv, h1, h2⟩ := hm
    obtain ⟨h1', e1, x1, c1⟩ := wsK gd0
    have e1 : bslK false 1 [(.str ⟨0, 0⟩)] 10 [(0, (.str ⟨0, 0⟩)), (1, (.str ⟨1, 49⟩)), (2, (.str ⟨1, 50⟩)), (3, (.str ⟨1, 51⟩)), (4, (.str ⟨1, 52⟩)), (5, (.str ⟨1, 53⟩)), (6, (.str ⟨1, 54⟩)), (7, (.str ⟨1, 55⟩)), (8, (.str ⟨1, 56⟩)), (9, (.str ⟨1, 57⟩))] H0 = some (.slice 0 0 10 1, h1') := e1
    have hshow : showL 10 s.length = showN s.length := by unfold showN; rw [if_neg (by omega)]
    have hlen := showN_len s.length
    -- the number whose width is that of the text
    have nb := num9 (h := h1') (showN s.length ++ 39 :: 98 :: s) (by simp; omega)
    have hb : bitsF 98 s = s := by
      unfold bitsF
      rw [if_neg (by decide), if_pos rfl, if_pos hv]
    rw [number_based s.length h1 h2, hb, fit_same rfl (by omega)] at nb
    have a1 : binS .add (sv (showN s.length)) (.str ⟨2, 25127⟩) = some (sv (showN s.length ++ [39, 98])) := binS_add _ [39, 98] (by simp; omega)
    have a2 : binS .add (sv (showN s.length ++ [39, 98])) (sv s) = some (sv (showN s.length ++ 39 :: 98 :: s)) := by
      rw [binS_add _ _ (by simp; omega)]; simp
    obtain ⟨m, hm1, hm2⟩ := mask_and 0 2147483647 (by omega) n
    simp only [Int.cast_ofNat_Int] at hm2
    -- the number
    have three : ∃ h'', J6 tab9 3 [.int .i64 (m : Nat), sv [], .int .i64 (m : Nat)] h1' = .ok (.bool true) h'' := by
      have w1 : wr .i64 (48 + ((m % 10 : Nat) : Int)) = ((48 + m % 10 : Nat) : Int) := by rw [wr_i64 (by omega) (by omega)]; omega
      obtain ⟨h2', e2, k2, e3⟩ := lit_one x1.gd (dgt m)
      have add : binS .add (sv [dgt m]) (sv []) = some (sv [dgt m]) := by rw [binS_add _ _ (by simp)]; rfl
      obtain ⟨h3, e4⟩ := num_loop (T := tab9) (m := .int .i64 (m : Nat)) (r := .bool true) 9 (m / 10) [dgt m] h2' k2.gd (by omega) (by omega) (by simp) (by simp) (fun h' g' => ⟨h', by
        have : showL 9 (m / 10) ++ [dgt m] = showN m := by
          unfold showN
          by_cases h0 : m = 0
          · subst h0; rfl
          · rw [if_neg h0]
            conv => rhs; unfold showL
            rw [if_neg h0]
        rw [this]
        exact bits_end m hm1 g'⟩)
      have hT : (([] : Bs) = []) = True := by simp
      refine ⟨h3, e6_3 ?_ (by simp)⟩
      by_cases hp : (0 : Int) < (m : Nat)
      · simp only [t6_3, W, spanK_u, decide_eq_true_eq, Bool.not_eq_true', decide_eq_false_iff_not, Bool.false_eq_true, Bool.not_true, Bool.not_false, decide_true, decide_false, not_true_eq_false, not_false_eq_true, and_true, true_and, and_false, false_and, ne_eq, Nat.zero_add, Nat.add_zero, cond_true, cond_false, ↓reduceIte, reduceCtorEq, Nat.reduceAdd, Int.reduceEq, Int.reduceNe, Int.reduceLT, Int.reduceLE, Int.reduceAdd, Int.reduceSub, Int.reduceMul, Int.reduceNeg, Nat.reduceMul, List.getElem?_cons_zero, List.getElem?_cons_succ, hp, rem10 m (by omega), w1, digit_u8, e2, e3, add, quo10 m (by omega)]
        exact e4
      · simp only [t6_3, W, spanK_u, decide_eq_true_eq, Bool.not_eq_true', decide_eq_false_iff_not, Bool.false_eq_true, Bool.not_true, Bool.not_false, decide_true, decide_false, not_true_eq_false, not_false_eq_true, and_true, true_and, and_false, false_and, ne_eq, Nat.zero_add, Nat.add_zero, cond_true, cond_false, ↓reduceIte, reduceCtorEq, Nat.reduceAdd, Int.reduceEq, Int.reduceNe, Int.reduceLT, Int.reduceLE, Int.reduceAdd, Int.reduceSub, Int.reduceMul, Int.reduceNeg, Nat.reduceMul, List.getElem?_cons_zero, List.getElem?_cons_succ, hp, sv0, hT, rem10 m (by omega), w1, digit_u8, e2, e3, add, quo10 m (by omega)]
        exact e4
    obtain ⟨h3, e3⟩ := three
    refine ⟨h3, c6 good9.step rfl rfl gd0 ?_ (by simp)⟩
    simp only [t6_0, em, W, spanK_u, decide_eq_true_eq, Bool.not_eq_true', decide_eq_false_iff_not, Bool.false_eq_true, Bool.not_true, Bool.not_false, decide_true, decide_false, not_true_eq_false, not_false_eq_true, and_true, true_and, and_false, false_and, ne_eq, Nat.zero_add, Nat.add_zero, cond_true, cond_false, ↓reduceIte, reduceCtorEq, Nat.reduceAdd, Int.reduceEq, Int.reduceNe, Int.reduceLT, Int.reduceLE, Int.reduceAdd, Int.reduceSub, Int.reduceMul, Int.reduceNeg, Nat.reduceMul, List.getElem?_cons_zero, List.getElem?_cons_succ, e1]
    refine size_loop (T := tab9) c1 (by simp) 10 s.length [] (by omega) (by omega) (by simp) ?_
    rw [List.append_nil, hshow]
    refine e6_1 ?_ (by simp)
    have hpos : ¬ (0 : Int) < 0 := by omega
    simp only [t6_1, W, spanK_u, decide_eq_true_eq, Bool.not_eq_true', decide_eq_false_iff_not, Bool.false_eq_true, Bool.not_true, Bool.not_false, decide_true, decide_false, not_true_eq_false, not_false_eq_true, and_true, true_and, and_false, false_and, ne_eq, Nat.zero_add, Nat.add_zero, cond_true, cond_false, ↓reduceIte, reduceCtorEq, Nat.reduceAdd, Int.reduceEq, Int.reduceNe, Int.reduceLT, Int.reduceLE, Int.reduceAdd, Int.reduceSub, Int.reduceMul, Int.reduceNeg, Nat.reduceMul, List.getElem?_cons_zero, List.getElem?_cons_succ, hpos, a1, a2, nb, numI, binN_and, hm2, sv0]
    exact e3
  · have hf : (s.all isV && (decide (1 ≤ s.length) && decide (s.length ≤ 256))) = false := by simpa using hm
    rw [hf] at em
    refine ⟨H0, c6 good9.step rfl rfl gd0 ?_ (by simp)⟩
    simp only [t6_0, em, W, spanK_u, decide_eq_true_eq, Bool.not_eq_true', decide_eq_false_iff_not, Bool.false_eq_true, Bool.not_true, Bool.not_false, decide_true, decide_false, not_true_eq_false, not_false_eq_true, and_true, true_and, and_false, false_and, ne_eq, Nat.zero_add, Nat.add_zero, cond_true, cond_false, ↓reduceIte, reduceCtorEq, Nat.reduceAdd, Int.reduceEq, Int.reduceNe, Int.reduceLT, Int.reduceLE, Int.reduceAdd, Int.reduceSub, Int.reduceMul, Int.reduceNeg, Nat.reduceMul, List.getElem?_cons_zero, List.getElem?_cons_succ, awake9]

end Go.Proofs.YtfegkjmghbdogaaDoor

namespace Go.Proofs.YtfegkjmghbdogaaDoor
open Go I
set_option maxRecDepth 100000
set_option linter.unusedVariables false
set_option linter.unusedSimpArgs false

theorem Ky_ext {h h' : H} (g : Gd h) (x : Ky h h') : Ext h h' := ⟨x.gd.pol.trans g.pol.symm, x.next, fun b fz size cs hb => ⟨fz, by
  rw [x.low b (by
    rcases Nat.lt_or_ge b h.next with hl | hl
    · exact hl
    · rw [g.wf b hl] at hb; cases hb)]; exact hb⟩⟩
/-! ### eighteen digits -/
def all18 : Bs := [48, 49, 50, 51, 52, 53, 54, 55, 56, 57, 97, 98, 99, 100, 101, 102, 120, 122]
def four18 : List Bs := [[48, 48, 48, 48], [48, 48, 48, 49], [48, 48, 49, 48], [48, 48, 49, 49], [48, 49, 48, 48], [48, 49, 48, 49], [48, 49, 49, 48], [48, 49, 49, 49], [49, 48, 48, 48], [49, 48, 48, 49], [49, 48, 49, 48], [49, 48, 49, 49], [49, 49, 48, 48], [49, 49, 48, 49], [49, 49, 49, 48], [49, 49, 49, 49], [120, 120, 120, 120], [122, 122, 122, 122]]
def hexA (k : Nat) : UInt8 := all18.getD k 0
def hexB (k : Nat) : Bs := four18.getD k []
theorem hex18 : ∀ k : Fin 18, hexC (hexA k.val) = some (hexB k.val) ∧ (hexB k.val).all isV = true ∧ (hexB k.val).length = 4 := by decide +kernel
theorem hexF_map : ∀ (l : List Nat), (∀ k ∈ l, k < 18) → hexF (l.map hexA) = some (l.map hexB).flatten ∧ ((l.map hexB).flatten).all isV = true ∧ ((l.map hexB).flatten).length = 4 * l.length
  | [], _ => ⟨rfl, rfl, rfl⟩
  | k :: l, h => by
    obtain ⟨e1, e2, e3⟩ := hex18 ⟨k, h k (List.mem_cons_self ..)⟩
    obtain ⟨f1, f2, f3⟩ := hexF_map l fun x hx => h x (List.mem_cons_of_mem _ hx)
    simp only at e1 e2 e3
    refine ⟨?_, ?_, ?_⟩
    · simp only [List.map_cons, hexF, e1, f1, List.flatten_cons]
    · simp only [List.map_cons, List.flatten_cons, List.all_append, e2, f2, Bool.and_self]
    · simp only [List.map_cons, List.flatten_cons, List.length_append, e3, f3, List.length_cons]; omega
theorem all_str : IV.str ⟨18, 10668668875418930475461405453970842420654384⟩ = sv all18 := by kernel_rfl
theorem hexA_slc (k : Nat) (hk : k < 18) : slcStr (sv all18) (some (.int .i64 (k : Nat))) (some (.int .i64 ((k + 1 : Nat) : Int))) = some (sv [hexA k]) := by
  rw [slc1 all18 k (by show k < 18; exact hk)]
  congr 3
  simp [hexA, List.getD, List.getElem?_eq_getElem (show k < all18.length from hk)]
def fours : List IV := four18.map sv
theorem fours_at (k : Nat) (hk : k < 18) : fours[k]? = some (sv (hexB k)) := by
  simp only [fours, List.getElem?_map, hexB, List.getD]
  rw [List.getElem?_eq_getElem (show k < four18.length from hk)]
  rfl
theorem foursK {h : H} (g : Gd h) : ∃ h', bslK false 1 [(.str ⟨0, 0⟩)] 18 [(0, (.str ⟨4, 808464432⟩)), (1, (.str ⟨4, 825241648⟩)), (2, (.str ⟨4, 808529968⟩)), (3, (.str ⟨4, 825307184⟩)), (4, (.str ⟨4, 808464688⟩)), (5, (.str ⟨4, 825241904⟩)), (6, (.str ⟨4, 808530224⟩)), (7, (.str ⟨4, 825307440⟩)), (8, (.str ⟨4, 808464433⟩)), (9, (.str ⟨4, 825241649⟩)), (10, (.str ⟨4, 808529969⟩)), (11, (.str ⟨4, 825307185⟩)), (12, (.str ⟨4, 808464689⟩)), (13, (.str ⟨4, 825241905⟩)), (14, (.str ⟨4, 808530225⟩)), (15, (.str ⟨4, 825307441⟩)), (16, (.str ⟨4, 2021161080⟩)), (17, (.str ⟨4, 2054847098⟩))] h = some (.slice h.next 0 18 1, h') ∧ Ex h h' ∧ Cs h' h.next false true fours :=
  have e : cellsOf fours = fours := by kernel_rfl
  have := bslK_imm (es := 1) (z := [.str ⟨0, 0⟩]) (vs := fours) g rfl (by
    intro v hv
    simp only [fours, List.mem_map] at hv
    obtain ⟨x, _, rfl⟩ := hv; rfl) (by rw [e]; kernel_rfl)
  by rw [e] at this; exact this

/-! ### the size -/
theorem hsize_loop {T : Tab} {h₀ : H} {a0 a5 a6 a7 r : IV} : ∀ (f k : Nat) (acc : Bs) (h : H), Gd h → Ky h₀ h → k < 10 ^ f → f ≤ 10 → acc.length + f ≤ 1000 →
    (∀ h', Gd h' → Ky h₀ h' → ∃ h'', J7 T 1 [a0, a5, a6, a7, sv (showL f k ++ acc), .int .i64 0] h' = .ok r h'') → ∃ h'', J7 T 1 [a0, a5, a6, a7, sv acc, .int .i64 (k : Nat)] h = .ok r h'' := by
  intro f
  induction f with
  | zero => intro k acc h g ky hk _ _ e; have : k = 0 := by simpa using hk
            subst this; exact e h g ky
  | succ f ih =>
    intro k acc h g ky hk hf hacc e
    by_cases h0 : k = 0
    · subst h0
      unfold showL at e
      rw [if_pos rfl] at e; exact e h g ky
    · have hk10 : k < 9223372036854775808 := by
        have : 10 ^ (f + 1) ≤ 10 ^ 10 := Nat.pow_le_pow_right (by omega) hf
        omega
      obtain ⟨h1, e1, k1, e2⟩ := lit_one g (dgt k)
      obtain ⟨h2, e3⟩ := ih (k / 10) ([dgt k] ++ acc) h1 k1.gd (ky.trans k1) (by rw [Nat.pow_succ] at hk; omega) (by omega) (by simp; omega) (by
        rw [← List.append_assoc]
        unfold showL at e
        rw [if_neg h0] at e; exact e)
      have hpos : (0 : Int) < (k : Nat) := by omega
      have add : binS .add (sv [dgt k]) (sv acc) = some (sv ([dgt k] ++ acc)) := binS_add _ _ (by simp; omega)
      have w1 : wr .i64 (48 + ((k % 10 : Nat) : Int)) = ((48 + k % 10 : Nat) : Int) := by rw [wr_i64 (by omega) (by omega)]; omega
      refine ⟨h2, e7_1 ?_ (by simp)⟩
      simp only [t7_1, W, spanK_u, decide_eq_true_eq, Bool.not_eq_true', decide_eq_false_iff_not, Bool.false_eq_true, Bool.not_true, Bool.not_false, decide_true, decide_false, not_true_eq_false, not_false_eq_true, and_true, true_and, and_false, false_and, ne_eq, Nat.zero_add, Nat.add_zero, cond_true, cond_false, ↓reduceIte, reduceCtorEq, Nat.reduceAdd, Int.reduceEq, Int.reduceNe, Int.reduceLT, Int.reduceLE, Int.reduceAdd, Int.reduceSub, Int.reduceMul, Int.reduceNeg, Nat.reduceMul, List.getElem?_cons_zero, List.getElem?_cons_succ, hpos, rem10 k hk10, w1, digit_u8, e1, e2, add, quo10 k hk10]
      exact e3

/-! ### the digits -/
def RI (x : Int) (c : List IV) : Prop := c = [.int .i64 x]
/-- what a digit's number is taken for -/
noncomputable def dig18 (x : Int) : Nat := (IntKind.i64.wrap (BitVec.ofInt IntKind.i64.bits x &&& BitVec.ofInt IntKind.i64.bits 65535).toNat).toNat % 18
theorem dig18_lt (x : Int) : dig18 x < 18 := Nat.mod_lt _ (by omega)
theorem digit18 (x : Int) : ∃ r : Nat, r ≤ 65535 ∧ binN .and (.int .i64 x) (.int .i64 65535) = some (.int .i64 (r : Nat)) ∧ binN .rem (.int .i64 (r : Nat)) (.int .i64 18) = some (.int .i64 ((dig18 x : Nat) : Int)) := by
  obtain ⟨r, h1, h2⟩ := mask_and 0 65535 (by omega) x
  simp only [Int.cast_ofNat_Int] at h2
  refine ⟨r, h1, by rw [binN_and, h2], ?_⟩
  have : dig18 x = r % 18 := by unfold dig18; rw [h2]; rfl
  rw [this, binN_rem _ _ _ (by omega)]
  congr 2
theorem hex_end {h : H} (g : Gd h) (w : Nat) (hw1 : 1 ≤ w) (hw2 : w ≤ 256) (ks : List Nat) (hk : ∀ k ∈ ks, k < 18) (hlen : ks.length ≤ 60) (hne : ks ≠ []) {a0 a6 : IV} {n : Nat} (hn : lenS a0 = some (.int .i64 (n : Nat))) :
    J7 tab9 2 [a0, sv all18, a6, .int .i64 (w : Nat), sv (showN w), sv (ks.map hexA), sv ((ks.map hexB).flatten), .int .i64 (n : Nat)] h = .ok (.bool true) h := by
  refine e7_2 ?_ (by simp)
  obtain ⟨f1, f2, f3⟩ := hexF_map ks hk
  have hl := showN_len w
  have hlt : ¬ ((n : Nat) : Int) < (n : Nat) := by omega
  have hnil : ((ks.map hexB).flatten) ≠ [] := by
    intro e
    rw [e] at f3
    exact hne (List.eq_nil_of_length_eq_zero (by simp at f3; omega))
  have n1 := num9 (h := h) (showN w ++ 39 :: 104 :: ks.map hexA) (by simp; omega)
  rw [number_based w hw1 hw2] at n1
  have b1 : bitsF 104 (ks.map hexA) = (ks.map hexB).flatten := by
    unfold bitsF
    rw [if_neg (by decide), if_neg (by decide), if_pos rfl, f1]; rfl
  have n2 := num9 (h := h) (showN w ++ 39 :: 98 :: (ks.map hexB).flatten) (by simp only [List.length_append, List.length_cons, f3]; omega)
  rw [number_based w hw1 hw2] at n2
  have b2 : bitsF 98 ((ks.map hexB).flatten) = (ks.map hexB).flatten := by
    unfold bitsF
    rw [if_neg (by decide), if_pos rfl, if_pos f2]
  rw [b1] at n1
  rw [b2] at n2
  have hfit : fitF ((ks.map hexB).flatten) w = (padF ((ks.map hexB).flatten) w, false, 0) := by
    unfold fitF
    rw [if_neg]
    intro e
    exact hnil (List.isEmpty_iff.1 e)
  have hpl : (padF ((ks.map hexB).flatten) w).length = w := by
    unfold padF
    split
    · rw [List.length_drop]; omega
    · rw [List.length_append, List.length_replicate]; omega
  rw [hfit] at n1 n2
  have a1 : binS .add (sv (showN w)) (.str ⟨2, 26663⟩) = some (sv (showN w ++ [39, 104])) := binS_add _ [39, 104] (by simp; omega)
  have a2 : binS .add (sv (showN w ++ [39, 104])) (sv (ks.map hexA)) = some (sv (showN w ++ 39 :: 104 :: ks.map hexA)) := by
    rw [binS_add _ _ (by simp; omega)]; simp
  have a3 : binS .add (sv (showN w)) (.str ⟨2, 25127⟩) = some (sv (showN w ++ [39, 98])) := binS_add _ [39, 98] (by simp; omega)
  have a4 : binS .add (sv (showN w ++ [39, 98])) (sv ((ks.map hexB).flatten)) = some (sv (showN w ++ 39 :: 98 :: (ks.map hexB).flatten)) := by
    rw [binS_add _ _ (by simp only [List.length_append, List.length_cons, List.length_nil, f3]; omega)]; simp
  simp only [t7_2, W, spanK_u, decide_eq_true_eq, Bool.not_eq_true', decide_eq_false_iff_not, Bool.false_eq_true, Bool.not_true, Bool.not_false, decide_true, decide_false, not_true_eq_false, not_false_eq_true, and_true, true_and, and_false, false_and, ne_eq, Nat.zero_add, Nat.add_zero, cond_true, cond_false, ↓reduceIte, reduceCtorEq, Nat.reduceAdd, Int.reduceEq, Int.reduceNe, Int.reduceLT, Int.reduceLE, Int.reduceAdd, Int.reduceSub, Int.reduceMul, Int.reduceNeg, Nat.reduceMul, List.getElem?_cons_zero, List.getElem?_cons_succ, hn, hlt, a1, a2, n1, a3, a4, n2, numI, hpl, awake9]
theorem hex_loop7 {h : H} (g : Gd h) (w : Nat) (hw1 : 1 ≤ w) (hw2 : w ≤ 256) {b : Nat} (c : Cs h b false true fours) (l : List Int) (hl : l.length ≤ 60) (hne : l ≠ []) {v : IV} (lr : LR h 1 RI l v) (hv : lenS v = some (.int .i64 (l.length : Nat))) :
    ∀ (k i : Nat), i + k = l.length → J7 tab9 2 [v, sv all18, .slice b 0 18 1, .int .i64 (w : Nat), sv (showN w), sv (((l.take i).map dig18).map hexA), sv ((((l.take i).map dig18).map hexB).flatten), .int .i64 (i : Nat)] h = .ok (.bool true) h := by
  intro k
  induction k with
  | zero =>
    intro i hi
    have : i = l.length := by omega
    subst this
    rw [List.take_length]
    exact hex_end g w hw1 hw2 (l.map dig18) (by
      intro k hk
      simp only [List.mem_map] at hk
      obtain ⟨x, _, rfl⟩ := hk
      exact dig18_lt x) (by simpa using hl) (by simpa using hne) hv
  | succ k ih =>
    intro i hi
    have hil : i < l.length := by omega
    obtain ⟨p, cc, q1, q2, q3, _, q5, pb, poff, rfl⟩ := lr.ix (List.getElem?_eq_getElem hil)
    have q3 : cc = [.int .i64 l[i]] := q3
    subst q3
    have eld := q5 0 (by omega) pb poff rfl
    simp only [Nat.add_zero, List.getElem?_cons_zero] at eld
    obtain ⟨r, hr, e1, e2⟩ := digit18 l[i]
    have hd := dig18_lt l[i]
    generalize hx : l[i] = x at eld e1 e2 hd
    obtain ⟨d, hdx⟩ : ∃ d, dig18 x = d := ⟨_, rfl⟩
    rw [hdx] at e2 hd
    have hB : (hexB d).length = 4 := (hex18 ⟨d, hd⟩).2.2
    have hlt : ((i : Nat) : Int) < (l.length : Nat) := by omega
    have w1 : wr .i64 (((d : Nat) : Int) + 1) = ((d + 1 : Nat) : Int) := wr_succ (by omega)
    have w2 : wr .i64 (((i : Nat) : Int) + 1) = ((i + 1 : Nat) : Int) := wr_succ (by omega)
    have f3 := (hexF_map ((l.take i).map dig18) (by
      intro k hk
      simp only [List.mem_map] at hk
      obtain ⟨y, _, rfl⟩ := hk
      exact dig18_lt y)).2.2
    rw [List.length_map, List.length_take] at f3
    have m1 : ((l.take (i + 1)).map dig18).map hexA = ((l.take i).map dig18).map hexA ++ [hexA d] := by
      rw [List.take_succ_eq_append_getElem hil, hx, List.map_append, List.map_append, List.map_singleton, List.map_singleton, hdx]
    have m2 : (((l.take (i + 1)).map dig18).map hexB).flatten = (((l.take i).map dig18).map hexB).flatten ++ hexB d := by
      rw [List.take_succ_eq_append_getElem hil, hx, List.map_append, List.map_append, List.map_singleton, List.map_singleton, hdx, List.flatten_append, List.flatten_singleton]
    have l1 : (((l.take i).map dig18).map hexA).length ≤ 60 := by
      rw [List.length_map, List.length_map, List.length_take]
      exact Nat.le_trans (Nat.min_le_right _ _) hl
    have l2 : ((((l.take i).map dig18).map hexB).flatten).length ≤ 4 * 60 := by
      rw [f3]
      exact Nat.mul_le_mul_left 4 (Nat.le_trans (Nat.min_le_right _ _) hl)
    have ih' := ih (i + 1) (by omega)
    rw [m1, m2] at ih'
    clear m1 m2 f3
    generalize ((l.take i).map dig18).map hexA = A at l1 ih' ⊢
    generalize (((l.take i).map dig18).map hexB).flatten = B at l2 ih' ⊢
    have a1 : binS .add (sv A) (sv [hexA d]) = some (sv (A ++ [hexA d])) := binS_add _ _ (by rw [List.length_singleton]; omega)
    have a2 : binS .add (sv B) (sv (hexB d)) = some (sv (B ++ hexB d)) := binS_add _ _ (by rw [hB]; omega)
    have efx : ixS 1 (.slice b 0 18 1) (.int .i64 ((d : Nat) : Int)) = some (.ptr b d) := ixS_byte hd
    have efl : I.ld0 h (.ptr b d) = some (sv (hexB d)) := by rw [c.ld0, fours_at _ hd]
    refine e7_2 ?_ (by simp)
    simp only [t7_2, W, spanK_u, decide_eq_true_eq, Bool.not_eq_true', decide_eq_false_iff_not, Bool.false_eq_true, Bool.not_true, Bool.not_false, decide_true, decide_false, not_true_eq_false, not_false_eq_true, and_true, true_and, and_false, false_and, ne_eq, Nat.zero_add, Nat.add_zero, cond_true, cond_false, ↓reduceIte, reduceCtorEq, Nat.reduceAdd, Int.reduceEq, Int.reduceNe, Int.reduceLT, Int.reduceLE, Int.reduceAdd, Int.reduceSub, Int.reduceMul, Int.reduceNeg, Nat.reduceMul, List.getElem?_cons_zero, List.getElem?_cons_succ, hv, hlt, q1, eld, e1, e2, w1, hexA_slc _ hd, a1, efx, efl, a2, w2]
    exact ih'
theorem lexerHex {h : H} (g : Gd h) (l : List Int) {v : IV} (lr : LR h 1 RI l v) (hl : l.length ≤ 9223372036854775807) (wide : Int) : ∃ h', CL tab9 7 [v, .int .i64 wide] h = .ok (.bool true) h' := by
  obtain ⟨h1, e1, x1, c1⟩ := foursK g
  have hv : lenS v = some (.int .i64 (l.length : Nat)) := by
    rcases lr with ⟨rfl, rfl | ⟨b, off, rfl⟩⟩ | ⟨b, off, cs, rfl, _⟩ <;> rfl
  by_cases h0 : l.length = 0
  · have h0' : ((l.length : Nat) : Int) = 0 := by omega
    refine ⟨h1, c7 good9.step rfl rfl g ?_ (by simp)⟩
    simp only [t7_0, W, spanK_u, decide_eq_true_eq, Bool.not_eq_true', decide_eq_false_iff_not, Bool.false_eq_true, Bool.not_true, Bool.not_false, decide_true, decide_false, not_true_eq_false, not_false_eq_true, and_true, true_and, and_false, false_and, ne_eq, Nat.zero_add, Nat.add_zero, cond_true, cond_false, ↓reduceIte, reduceCtorEq, Nat.reduceAdd, Int.reduceEq, Int.reduceNe, Int.reduceLT, Int.reduceLE, Int.reduceAdd, Int.reduceSub, Int.reduceMul, Int.reduceNeg, Nat.reduceMul, List.getElem?_cons_zero, List.getElem?_cons_succ, e1, hv, eq_true h0', awake9]
  by_cases h60 : 60 < l.length
  · have h0' : ¬ ((l.length : Nat) : Int) = 0 := by omega
    have h60' : (60 : Int) < (l.length : Nat) := by omega
    refine ⟨h1, c7 good9.step rfl rfl g ?_ (by simp)⟩
    simp only [t7_0, W, spanK_u, decide_eq_true_eq, Bool.not_eq_true', decide_eq_false_iff_not, Bool.false_eq_true, Bool.not_true, Bool.not_false, decide_true, decide_false, not_true_eq_false, not_false_eq_true, and_true, true_and, and_false, false_and, ne_eq, Nat.zero_add, Nat.add_zero, cond_true, cond_false, ↓reduceIte, reduceCtorEq, Nat.reduceAdd, Int.reduceEq, Int.reduceNe, Int.reduceLT, Int.reduceLE, Int.reduceAdd, Int.reduceSub, Int.reduceMul, Int.reduceNeg, Nat.reduceMul, List.getElem?_cons_zero, List.getElem?_cons_succ, e1, hv, eq_false h0', h60', awake9]
  · have h0' : ¬ ((l.length : Nat) : Int) = 0 := by omega
    have h60' : ¬ (60 : Int) < (l.length : Nat) := by omega
    obtain ⟨m, hm1, hm2⟩ := mask_and 0 255 (by omega) wide
    simp only [Int.cast_ofNat_Int] at hm2
    have w1 : wr .i64 (1 + ((m : Nat) : Int)) = ((m + 1 : Nat) : Int) := by rw [wr_i64 (by omega) (by omega)]; omega
    have lr1 : LR h1 1 RI l v := lr.mono x1.ext fun y c h => h
    obtain ⟨h2, e2⟩ := hsize_loop (T := tab9) (h₀ := h1) (a0 := v) (a5 := sv all18) (a6 := .slice h.next 0 18 1) (a7 := .int .i64 ((m + 1 : Nat) : Int)) (r := .bool true) 10 (m + 1) [] h1 x1.gd (.refl x1.gd) (by omega) (by omega) (by simp) (fun h' g' ky => by
      have hs : showL 10 (m + 1) ++ [] = showN (m + 1) := by rw [List.append_nil]; unfold showN; rw [if_neg (by omega)]
      rw [hs]
      refine ⟨h', e7_1 ?_ (by simp)⟩
      have hpos : ¬ (0 : Int) < 0 := by omega
      simp only [t7_1, W, spanK_u, decide_eq_true_eq, Bool.not_eq_true', decide_eq_false_iff_not, Bool.false_eq_true, Bool.not_true, Bool.not_false, decide_true, decide_false, not_true_eq_false, not_false_eq_true, and_true, true_and, and_false, false_and, ne_eq, Nat.zero_add, Nat.add_zero, cond_true, cond_false, ↓reduceIte, reduceCtorEq, Nat.reduceAdd, Int.reduceEq, Int.reduceNe, Int.reduceLT, Int.reduceLE, Int.reduceAdd, Int.reduceSub, Int.reduceMul, Int.reduceNeg, Nat.reduceMul, List.getElem?_cons_zero, List.getElem?_cons_succ, hpos]
      have := hex_loop7 g' (m + 1) (by omega) (by omega) (c1.ky x1.gd.wf ky) l (by omega) (fun e => h0 (by rw [e]; rfl)) (lr1.mono (Ky_ext x1.gd ky) fun y c h => h) hv l.length 0 (by omega)
      exact this)
    refine ⟨h2, c7 good9.step rfl rfl g ?_ (by simp)⟩
    simp only [t7_0, W, spanK_u, decide_eq_true_eq, Bool.not_eq_true', decide_eq_false_iff_not, Bool.false_eq_true, Bool.not_true, Bool.not_false, decide_true, decide_false, not_true_eq_false, not_false_eq_true, and_true, true_and, and_false, false_and, ne_eq, Nat.zero_add, Nat.add_zero, cond_true, cond_false, ↓reduceIte, reduceCtorEq, Nat.reduceAdd, Int.reduceEq, Int.reduceNe, Int.reduceLT, Int.reduceLE, Int.reduceAdd, Int.reduceSub, Int.reduceMul, Int.reduceNeg, Nat.reduceMul, List.getElem?_cons_zero, List.getElem?_cons_succ, e1, hv, eq_false h0', h60', binN_and, hm2, w1, all_str]
    exact e2

end Go.Proofs.YtfegkjmghbdogaaDoor
