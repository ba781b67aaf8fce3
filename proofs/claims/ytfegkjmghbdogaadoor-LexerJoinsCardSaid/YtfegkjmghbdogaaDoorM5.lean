/- M5: Law02: what is known of the world (three package variables); the tables of the functions that contracts tell. Law02: the library's functions on texts: Cut, HasPrefix, IndexByte, Contains, trims of one byte. Law02: strings.TrimLeft and strings.Trim of noughts; strings.Trim of "01xz"; logic.Check. Law02: strconv.ParseUint; decimal numbers; plain. Law02: logic.Check, logic.Of; the tables so far. Law02: strings.Builder. Law02: the digits of a number, by its base (lexer.bits). Law02: lexer.Number: the vector of a number's text. Law02: what the rows' premises tell of the package variables. -/
import Derived.Test.YtfegkjmghbdogaaDoorM4
import Derived.Test.YtfegkjmghbdogaaDoorM3
import Derived.Shelf.Strings.Repeat
import Derived.Shelf.Strings.Search2
import Derived.Shelf.Pu.ToError
import Derived.Shelf.Pu.ToErrorRange
import Derived.Test.YtfegkjmghbdogaaDoorRows
import Derived.Lib.LaidU8
import Derived.LaidLaws
import Derived.MakeChecks
namespace Go.Proofs.YtfegkjmghbdogaaDoor
open Go I
open Go.RowKit (Below)
set_option maxRecDepth 100000
set_option linter.unusedVariables false
set_option linter.unusedSimpArgs false

abbrev gMax : Nat := lay219_ren.g 1
abbrev gSyn : Nat := lay17_ren.g 0
abbrev gRng : Nat := lay17_ren.g 1
def isErr (v : Value) : Prop := v = .nilIface ∨ ∃ te pe, v = .iface te pe
structure EP (w : World) (S : Sc) : Prop where
  max : ∃ m, w.cell? ⟨gMax, 0, none⟩ = some (.int .i64 m)
  syn : ∃ v, w.cell? ⟨gSyn, 0, none⟩ = some v ∧ isErr v
  rng : ∃ v, w.cell? ⟨gRng, 0, none⟩ = some v ∧ isErr v
  n1 : ¬ S.wr gMax
  n2 : ¬ S.wr gSyn
  n3 : ¬ S.wr gRng
theorem cell_keep {w w' : World} {k : Nat} {v : Value} (hc : w.cell? ⟨k, 0, none⟩ = some v) (h : k < w.heap.size → w'.heap[k]? = w.heap[k]?) : w'.cell? ⟨k, 0, none⟩ = some v := by
  have hk : k < w.heap.size := by
    rcases Nat.lt_or_ge k w.heap.size with h | h
    · exact h
    · simp only [World.cell?, Array.getElem?_eq_none h] at hc; cases hc
  rw [← hc]
  simp only [World.cell?, h hk]
theorem envK : EnvK EP := by
  rintro w₀ S w₁ S₁ k ⟨⟨m, h1⟩, ⟨v2, h2, e2⟩, ⟨v3, h3, e3⟩, n1, n2, n3⟩
  have lt : ∀ {k : Nat} {v : Value}, w₀.cell? ⟨k, 0, none⟩ = some v → k < w₀.heap.size := by
    intro k v hc
    rcases Nat.lt_or_ge k w₀.heap.size with h | h
    · exact h
    · simp only [World.cell?, Array.getElem?_eq_none h] at hc; cases hc
  exact ⟨⟨m, cell_keep h1 fun hk => (k.keep _ hk n1).2⟩, ⟨v2, cell_keep h2 fun hk => (k.keep _ hk n2).2, e2⟩, ⟨v3, cell_keep h3 fun hk => (k.keep _ hk n3).2, e3⟩,
    (k.keep _ (lt h1) n1).1, (k.keep _ (lt h2) n2).1, (k.keep _ (lt h3) n3).1⟩

/-! ### strings.Repeat -/
def repF (l : Bs) (n : Int) : Option IV := if 0 ≤ n ∧ n ≤ 9223372036854775807 ∧ l.length * n.toNat ≤ 140737488355328 then some (sv (Lib.repeatL l n.toNat)) else none
theorem rep_S (w₀ : World) (S : Sc) (args : List IV) (h : H) (μ : Mu) (w : World) (cargs : Array Value) (r : Rel w₀ S μ h w) (hv : VRs μ args cargs.toList) : CallR Tryd.prog w₀ S μ 19 cargs w (pureF (fn2 dS dI repF) args h) := by
  refine pureF_C noNum Tryd.func19 rfl (fun args v e => ?_) (fun args v w cargs e k hv => ?_) args h μ w cargs r hv
  · obtain ⟨l, n, rfl, e2⟩ := fn2_inv e
    unfold repF at e2
    split at e2
    · injection e2 with e2; subst e2; exact ⟨rfl, rfl⟩
    · cases e2
  · obtain ⟨l, n, rfl, e2⟩ := fn2_inv e
    unfold repF at e2
    split at e2
    · rename_i hc
      injection e2 with e2; subst e2
      obtain ⟨v1, vs, e1, q1, v2, vs2, rfl, q2, q3⟩ := hv
      simp only [VRs] at q3; subst q3
      obtain ⟨b, rfl, rfl⟩ := VR_sv q1
      have q2 : v2 = .int .i64 n := q2
      subst q2
      obtain rfl : cargs = #[.string b, .int .i64 n] := Array.toList_inj.1 e1
      have hb : b.data.toList.length = b.size := by rw [Array.length_toList]; rfl
      have x := Any.strings_Repeat lay105 layB b n.toNat w (by omega) (by rw [← hb]; exact hc.2.2)
      rw [Int.toNat_of_nonneg hc.1] at x
      refine Calls.mono (f := 19) x ?_
      rintro e w' ⟨rfl, hw⟩
      exact ⟨_, rfl, VR_str _, hw⟩
    · cases e2
/-! ### stringslite.Index -/
def idxF (a b : Bs) : Option IV := if a.length < 4294967281 then some (.int .i64 (Lib.index a b)) else none
theorem idx_S (w₀ : World) (S : Sc) (es : EP w₀ S) (args : List IV) (h : H) (μ : Mu) (w : World) (cargs : Array Value) (r : Rel w₀ S μ h w) (hv : VRs μ args cargs.toList) : CallR Tryd.prog w₀ S μ 46 cargs w (pureF (fn2 dS dS idxF) args h) := by
  refine pureF_C noNum Tryd.func46 rfl (fun args v e => ?_) (fun args v w cargs e k hv => ?_) args h μ w cargs r hv
  · obtain ⟨l, n, rfl, e2⟩ := fn2_inv e
    unfold idxF at e2
    split at e2
    · injection e2 with e2; subst e2; exact ⟨rfl, rfl⟩
    · cases e2
  · obtain ⟨l, n, rfl, e2⟩ := fn2_inv e
    unfold idxF at e2
    split at e2
    · rename_i hc
      injection e2 with e2; subst e2
      obtain ⟨v1, vs, e1, q1, v2, vs2, rfl, q2, q3⟩ := hv
      simp only [VRs] at q3; subst q3
      obtain ⟨b, rfl, rfl⟩ := VR_sv q1
      obtain ⟨c, rfl, rfl⟩ := VR_sv q2
      obtain rfl : cargs = #[.string b, .string c] := Array.toList_inj.1 e1
      have hb : b.data.toList.length = b.size := by rw [Array.length_toList]; rfl
      obtain ⟨m, hm⟩ := (envK _ _ _ _ k es).max
      refine (Any.stringslite_Index { lay219 with } b c m w (by omega) hm).mono ?_
      rintro e w' ⟨rfl, rfl⟩
      exact ⟨_, rfl, rfl, Below.refl _ _⟩
    · cases e2
/-! ### strconv.toError: a new error -/
def toErrI (args : List IV) (h : H) : CRes :=
  match args with
  | [.str _, .str s, .int .i64 _, .int .i64 _, .iface t (.int .i64 e)] => if t = lay17_ren.t 34 ∧ s.len ≤ 281474976710656 ∧ (e = 1 ∨ e = 2) then .ok (.iface (lay17_ren.t 39) (.ptr h.next 0)) h.skip else .fail
  | _ => .fail
theorem toErrI_step (args : List IV) (h : H) : (toErrI args h).Steps h := by
  unfold toErrI
  split
  · split
    · exact Step.skip h
    · trivial
  · trivial
theorem toErr_S (w₀ : World) (S : Sc) (es : EP w₀ S) (args : List IV) (h : H) (μ : Mu) (w : World) (cargs : Array Value) (r : Rel w₀ S μ h w) (hv : VRs μ args cargs.toList) : CallR Tryd.prog w₀ S μ 48 cargs w (toErrI args h) := by
  unfold toErrI
  split
  · rename_i s1 s a b t e
    split
    · rename_i hc
      obtain ⟨rfl, hs, he⟩ := hc
      obtain ⟨v1, vs, e1, q1, v2, vs, rfl, q2, v3, vs, rfl, q3, v4, vs, rfl, q4, v5, vs, rfl, q5, q6⟩ := hv
      simp only [VRs] at q6; subst q6
      obtain ⟨b1, rfl, -⟩ := q1
      obtain ⟨b2, rfl, rfl⟩ := q2
      have q3 : v3 = .int .i64 a := q3
      have q4 : v4 = .int .i64 b := q4
      obtain ⟨u, rfl, q5⟩ := q5
      have q5 : u = .int .i64 e := q5
      subst q3; subst q4; subst q5
      obtain rfl : cargs = #[.string b1, .string b2, .int .i64 a, .int .i64 b, .iface (lay17_ren.t 34) (.int .i64 e)] := Array.toList_inj.1 e1
      have ew := envK _ _ _ _ r.wk es
      have fin : ∀ {ev : Value}, (Calls Tryd.prog 48 #[.string b1, .string b2, .int .i64 a, .int .i64 b, .iface (lay17_ren.t 34) (.int .i64 e)] w fun e w' => ∃ N, e = .returned (.iface (lay17_ren.t 39) (.pointer (some ⟨N, 0, none⟩))) ∧ w.heap.size ≤ N ∧ w'.heap[N]? = some (.cells #[.string b1, .string b2, ev] (lay17_ren.t 44) (0, 0)) ∧ Below w.heap.size w w') →
          CallR Tryd.prog w₀ S μ 48 #[.string b1, .string b2, .int .i64 a, .int .i64 b, .iface (lay17_ren.t 34) (.int .i64 e)] w (.ok (.iface (lay17_ren.t 39) (.ptr h.next 0)) h.skip) := by
        intro ev hc
        refine .inl ⟨callFunc_enter (P := Tryd.prog) Tryd.func48 rfl (noNum _ _ Tryd.func48) _ w, hc.mono ?_⟩
        rintro e' w' ⟨N, rfl, h1, h2, h3⟩
        have hN : N < w'.heap.size := by
          rcases Nat.lt_or_ge N w'.heap.size with h | h
          · exact h
          · rw [Array.getElem?_eq_none h] at h2; cases h2
        have hn := r.new h.next (Nat.le_refl _)
        exact ⟨_, μ.push h.next (N, 0, 0), rfl, Mu.le_push hn, r.skip h3 h1 hN, ⟨_, rfl, N, 0, 0, by simp [Mu.push], rfl⟩⟩
      rcases he with rfl | rfl
      · obtain ⟨ev, hv, hev⟩ := ew.rng
        exact fin (AnyPu.strconv_toError_range lay17 b1 b2 a b ev w hs hv hev)
      · obtain ⟨ev, hv, hev⟩ := ew.syn
        exact fin (AnyPu.strconv_toError_syntax lay17 b1 b2 a b ev w hs hv hev)
    · trivial
  · trivial

/-! ### the first tables -/
def pol (f : FuncId) : Bool := true
noncomputable def tab0 : Tab := (((((Tab.none pol).add 77 indexByteI).add 75 noEscapeI).add 19 (pureF (fn2 dS dI repF))).add 46 (pureF (fn2 dS dS idxF))).add 48 toErrI
theorem good0 : GoodT Tryd.prog EP tab0 :=
  (((((GoodT.none pol).put (fun w₀ S _ args h μ w cargs r hv => indexByte_S Tryd.func77 (by kernel_rfl) (by kernel_rfl) (by kernel_rfl) (by kernel_rfl) args h μ w cargs r hv) indexByteI_step).put
    (fun w₀ S _ args h μ w cargs r hv => noEscape_S Tryd.func75 (by kernel_rfl) (by kernel_rfl) (by kernel_rfl) (by kernel_rfl) args h μ w cargs r hv) noEscapeI_step).put
    (fun w₀ S _ => rep_S w₀ S) (pureF_step _)).put idx_S (pureF_step _)).put toErr_S toErrI_step

end Go.Proofs.YtfegkjmghbdogaaDoor

namespace Go.Proofs.YtfegkjmghbdogaaDoor
open Go I
set_option maxRecDepth 100000
set_option linter.unusedVariables false
set_option linter.unusedSimpArgs false

theorem sv0 : IV.str ⟨0, 0⟩ = sv [] := rfl
/-! ### stringslite.HasPrefix, strings.HasPrefix -/
theorem take_pre (s p : Bs) : decide (s.take p.length = p) = p.isPrefixOf s := by
  rw [Bool.eq_iff_iff]
  simp only [decide_eq_true_eq, List.isPrefixOf_iff_prefix]
  exact ⟨fun h => by rw [← h]; exact List.take_prefix _ _, fun h => (List.prefix_iff_eq_take.1 h).symm⟩
theorem hasPrefix59 {h : H} (g : Gd h) (s p : Bs) (hs : s.length ≤ 1099511627776) : CL tab0 59 [sv s, sv p] h = .ok (.bool (p.isPrefixOf s)) h := by
  refine c59 good0.step rfl rfl g ?_ (by simp)
  by_cases hl : ((p.length : Nat) : Int) ≤ (s.length : Nat)
  · simp only [t59_0, W, spanK_u, decide_eq_true_eq, Bool.not_eq_true', decide_eq_false_iff_not, Bool.false_eq_true, Bool.not_true, Bool.not_false, decide_true, decide_false, not_true_eq_false, not_false_eq_true, and_true, true_and, and_false, false_and, ne_eq, Nat.zero_add, Nat.add_zero, cond_true, cond_false, ↓reduceIte, reduceCtorEq, Nat.reduceAdd, Int.reduceEq, Int.reduceNe, Int.reduceLT, Int.reduceLE, Int.reduceAdd, Int.reduceSub, Int.reduceMul, Int.reduceNeg, Nat.reduceMul, List.getElem?_cons_zero, List.getElem?_cons_succ, hl]
    rw [slcStr_to _ _ (by omega) (by omega)]
    simp only [W, spanK_u, decide_eq_true_eq, Bool.not_eq_true', decide_eq_false_iff_not, Bool.false_eq_true, Bool.not_true, Bool.not_false, decide_true, decide_false, not_true_eq_false, not_false_eq_true, and_true, true_and, and_false, false_and, ne_eq, Nat.zero_add, Nat.add_zero, cond_true, cond_false, ↓reduceIte, reduceCtorEq, Nat.reduceAdd, Int.reduceEq, Int.reduceNe, Int.reduceLT, Int.reduceLE, Int.reduceAdd, Int.reduceSub, Int.reduceMul, Int.reduceNeg, Nat.reduceMul, List.getElem?_cons_zero, List.getElem?_cons_succ, Int.toNat_natCast, take_pre]
  · simp only [t59_0, W, spanK_u, decide_eq_true_eq, Bool.not_eq_true', decide_eq_false_iff_not, Bool.false_eq_true, Bool.not_true, Bool.not_false, decide_true, decide_false, not_true_eq_false, not_false_eq_true, and_true, true_and, and_false, false_and, ne_eq, Nat.zero_add, Nat.add_zero, cond_true, cond_false, ↓reduceIte, reduceCtorEq, Nat.reduceAdd, Int.reduceEq, Int.reduceNe, Int.reduceLT, Int.reduceLE, Int.reduceAdd, Int.reduceSub, Int.reduceMul, Int.reduceNeg, Nat.reduceMul, List.getElem?_cons_zero, List.getElem?_cons_succ, hl]
    have : p.isPrefixOf s = false := by
      rw [← take_pre, decide_eq_false_iff_not]
      intro e
      have := congrArg List.length e
      rw [List.length_take] at this
      omega
    rw [this]
theorem hasPrefix {h : H} (g : Gd h) (s p : Bs) (hs : s.length ≤ 1099511627776) : CL tab0 36 [sv s, sv p] h = .ok (.bool (p.isPrefixOf s)) h :=
  c36 good0.step rfl rfl g (by simp only [t36_0, hasPrefix59 g s p hs, W, spanK_u, decide_eq_true_eq, Bool.not_eq_true', decide_eq_false_iff_not, Bool.false_eq_true, Bool.not_true, Bool.not_false, decide_true, decide_false, not_true_eq_false, not_false_eq_true, and_true, true_and, and_false, false_and, ne_eq, Nat.zero_add, Nat.add_zero, cond_true, cond_false, ↓reduceIte, reduceCtorEq, Nat.reduceAdd, Int.reduceEq, Int.reduceNe, Int.reduceLT, Int.reduceLE, Int.reduceAdd, Int.reduceSub, Int.reduceMul, Int.reduceNeg, Nat.reduceMul, List.getElem?_cons_zero, List.getElem?_cons_succ]) (by simp)
def preF (s p : Bs) : Option IV := if s.length ≤ 1099511627776 then some (.bool (p.isPrefixOf s)) else none
theorem tPre : PureT Tryd.prog (CL tab0) 36 (fn2 dS dS preF) := pure2 Tryd.func36 rfl fun s p v e => by
  unfold preF at e
  split at e
  · rename_i hs
    injection e with e; subst e
    exact ⟨rfl, _, hasPrefix gd0 s p hs⟩
  · cases e

/-! ### Cut -/
def cutL (c : UInt8) : Bs → Bs × Bs × Bool
  | [] => ([], [], false)
  | x :: l => if x = c then ([], l, true) else (x :: (cutL c l).1, (cutL c l).2)
theorem index_one (c : UInt8) : ∀ l : Bs, Lib.index l [c] = if (cutL c l).2.2 = true then (((cutL c l).1.length : Nat) : Int) else -1
  | [] => by simp [Lib.index, cutL]
  | x :: l => by
    have hp : [c].isPrefixOf (x :: l) = (c == x) := by simp [List.isPrefixOf]
    unfold Lib.index cutL
    rw [hp, index_one c l]
    by_cases h : x = c
    · subst h; simp
    · have : (c == x) = false := beq_eq_false_iff_ne.2 fun e => h e.symm
      rw [this]
      simp only [h, if_false, Bool.false_eq_true]
      by_cases h2 : (cutL c l).2.2 = true
      · simp only [h2, if_true, List.length_cons]
        rw [if_neg (by simp)]
        omega
      · simp only [h2, if_false]
        rfl
theorem cutL_true (c : UInt8) : ∀ l : Bs, (cutL c l).2.2 = true → l = (cutL c l).1 ++ c :: (cutL c l).2.1
  | [], h => by cases h
  | x :: l, h => by
    unfold cutL at h ⊢
    by_cases e : x = c
    · subst e; simp
    · simp only [e, if_false] at h ⊢
      have := cutL_true c l h
      rw [List.cons_append, ← this]
theorem cutL_false (c : UInt8) : ∀ l : Bs, (cutL c l).2.2 = false → (cutL c l).1 = l ∧ (cutL c l).2.1 = [] ∧ ∀ x ∈ l, x ≠ c
  | [], _ => by simp [cutL]
  | x :: l, h => by
    unfold cutL at h ⊢
    by_cases e : x = c
    · subst e; simp at h
    · simp only [e, if_false] at h ⊢
      obtain ⟨h1, h2, h3⟩ := cutL_false c l h
      refine ⟨by rw [h1], h2, fun y hy => ?_⟩
      rcases List.mem_cons.1 hy with rfl | hy
      · exact e
      · exact h3 y hy
theorem idx {h : H} (a b : Bs) (ha : a.length < 4294967281) : CL tab0 46 [sv a, sv b] h = .ok (.int .i64 (Lib.index a b)) h := call2 (A := dS) (B := dS) rfl (by simp only [idxF, ha, if_true]) h
theorem cut {h : H} (g : Gd h) (s : Bs) (c : UInt8) (hs : s.length < 4294967281) : CL tab0 14 [sv s, sv [c]] h = .ok (.tup [sv (cutL c s).1, sv (cutL c s).2.1, .bool (cutL c s).2.2]) h := by
  have h2 : CL tab0 28 [sv s, sv [c]] h = .ok (.tup [sv (cutL c s).1, sv (cutL c s).2.1, .bool (cutL c s).2.2]) h := by
    refine c28 good0.step rfl rfl g ?_ (by simp)
    simp only [t28_0, idx s [c] hs, W, spanK_u, decide_eq_true_eq, Bool.not_eq_true', decide_eq_false_iff_not, Bool.false_eq_true, Bool.not_true, Bool.not_false, decide_true, decide_false, not_true_eq_false, not_false_eq_true, and_true, true_and, and_false, false_and, ne_eq, Nat.zero_add, Nat.add_zero, cond_true, cond_false, ↓reduceIte, reduceCtorEq, Nat.reduceAdd, Int.reduceEq, Int.reduceNe, Int.reduceLT, Int.reduceLE, Int.reduceAdd, Int.reduceSub, Int.reduceMul, Int.reduceNeg, Nat.reduceMul, List.getElem?_cons_zero, List.getElem?_cons_succ, index_one]
    cases hb : (cutL c s).2.2 with
    | true =>
      have e := cutL_true c s hb
      generalize hr : cutL c s = r at e hb ⊢
      obtain ⟨A, B, b⟩ := r
      simp only at e hb ⊢
      clear hr
      subst e
      have h0 : (0 : Int) ≤ (A.length : Nat) := by omega
      simp only [List.length_append, List.length_cons] at hs
      simp only [W, spanK_u, decide_eq_true_eq, Bool.not_eq_true', decide_eq_false_iff_not, Bool.false_eq_true, Bool.not_true, Bool.not_false, decide_true, decide_false, not_true_eq_false, not_false_eq_true, and_true, true_and, and_false, false_and, ne_eq, Nat.zero_add, Nat.add_zero, cond_true, cond_false, ↓reduceIte, reduceCtorEq, Nat.reduceAdd, Int.reduceEq, Int.reduceNe, Int.reduceLT, Int.reduceLE, Int.reduceAdd, Int.reduceSub, Int.reduceMul, Int.reduceNeg, Nat.reduceMul, List.getElem?_cons_zero, List.getElem?_cons_succ, h0]
      rw [slcStr_to _ _ h0 (by simp; omega)]
      simp only [W, spanK_u, decide_eq_true_eq, Bool.not_eq_true', decide_eq_false_iff_not, Bool.false_eq_true, Bool.not_true, Bool.not_false, decide_true, decide_false, not_true_eq_false, not_false_eq_true, and_true, true_and, and_false, false_and, ne_eq, Nat.zero_add, Nat.add_zero, cond_true, cond_false, ↓reduceIte, reduceCtorEq, Nat.reduceAdd, Int.reduceEq, Int.reduceNe, Int.reduceLT, Int.reduceLE, Int.reduceAdd, Int.reduceSub, Int.reduceMul, Int.reduceNeg, Nat.reduceMul, List.getElem?_cons_zero, List.getElem?_cons_succ, List.length_cons, List.length_nil, Int.toNat_natCast]
      rw [wr_i64 (by omega) (by omega), slcStr_from _ _ (by omega) (by simp; omega)]
      have e2 : (A ++ c :: B).drop (((A.length : Nat) : Int) + ((1 : Nat) : Int)).toNat = B := by
        rw [show (((A.length : Nat) : Int) + ((1 : Nat) : Int)).toNat = A.length + 1 by omega, List.drop_append]
        simp
      simp only [W, spanK_u, decide_eq_true_eq, Bool.not_eq_true', decide_eq_false_iff_not, Bool.false_eq_true, Bool.not_true, Bool.not_false, decide_true, decide_false, not_true_eq_false, not_false_eq_true, and_true, true_and, and_false, false_and, ne_eq, Nat.zero_add, Nat.add_zero, cond_true, cond_false, ↓reduceIte, reduceCtorEq, Nat.reduceAdd, Int.reduceEq, Int.reduceNe, Int.reduceLT, Int.reduceLE, Int.reduceAdd, Int.reduceSub, Int.reduceMul, Int.reduceNeg, Nat.reduceMul, List.getElem?_cons_zero, List.getElem?_cons_succ, List.take_left', e2, hb]
    | false =>
      obtain ⟨e1, e2, _⟩ := cutL_false c s hb
      simp only [W, spanK_u, decide_eq_true_eq, Bool.not_eq_true', decide_eq_false_iff_not, Bool.false_eq_true, Bool.not_true, Bool.not_false, decide_true, decide_false, not_true_eq_false, not_false_eq_true, and_true, true_and, and_false, false_and, ne_eq, Nat.zero_add, Nat.add_zero, cond_true, cond_false, ↓reduceIte, reduceCtorEq, Nat.reduceAdd, Int.reduceEq, Int.reduceNe, Int.reduceLT, Int.reduceLE, Int.reduceAdd, Int.reduceSub, Int.reduceMul, Int.reduceNeg, Nat.reduceMul, List.getElem?_cons_zero, List.getElem?_cons_succ, e1, e2]
      rfl
  exact c14 good0.step rfl rfl g (by simp only [t14_0, h2, W, spanK_u, decide_eq_true_eq, Bool.not_eq_true', decide_eq_false_iff_not, Bool.false_eq_true, Bool.not_true, Bool.not_false, decide_true, decide_false, not_true_eq_false, not_false_eq_true, and_true, true_and, and_false, false_and, ne_eq, Nat.zero_add, Nat.add_zero, cond_true, cond_false, ↓reduceIte, reduceCtorEq, Nat.reduceAdd, Int.reduceEq, Int.reduceNe, Int.reduceLT, Int.reduceLE, Int.reduceAdd, Int.reduceSub, Int.reduceMul, Int.reduceNeg, Nat.reduceMul, List.getElem?_cons_zero, List.getElem?_cons_succ]) (by simp)
def cutF (s p : Bs) : Option IV :=
  match p with
  | [c] => if s.length < 4294967281 then some (.tup [sv (cutL c s).1, sv (cutL c s).2.1, .bool (cutL c s).2.2]) else none
  | _ => none
theorem tCut : PureT Tryd.prog (CL tab0) 14 (fn2 dS dS cutF) := pure2 Tryd.func14 rfl fun s p v e => by
  unfold cutF at e
  split at e
  · split at e
    · rename_i hs
      injection e with e; subst e
      exact ⟨rfl, _, cut gd0 s _ hs⟩
    · cases e
  · cases e

/-! ### trims by one byte -/
theorem u8_eqv (a b : UInt8) : (((a.toNat : Nat) : Int) = ((b.toNat : Nat) : Int)) = (a = b) := propext ⟨fun h => UInt8.toNat_inj.1 (by omega), fun h => by rw [h]⟩
theorem leftByte {h : H} (c : UInt8) : ∀ (l : Bs), l.length ≤ 1099511627776 → J49 tab0 1 [sv l, .int .u8 (c.toNat : Nat)] h = .ok (sv (l.dropWhile (· == c))) h := by
  intro l
  induction l with
  | nil =>
    intro _
    refine e49_1 ?_ (by simp)
    simp only [t49_1, W, spanK_u, decide_eq_true_eq, Bool.not_eq_true', decide_eq_false_iff_not, Bool.false_eq_true, Bool.not_true, Bool.not_false, decide_true, decide_false, not_true_eq_false, not_false_eq_true, and_true, true_and, and_false, false_and, ne_eq, Nat.zero_add, Nat.add_zero, cond_true, cond_false, ↓reduceIte, reduceCtorEq, Nat.reduceAdd, Int.reduceEq, Int.reduceNe, Int.reduceLT, Int.reduceLE, Int.reduceAdd, Int.reduceSub, Int.reduceMul, Int.reduceNeg, Nat.reduceMul, List.getElem?_cons_zero, List.getElem?_cons_succ, List.length_nil, Int.ofNat_zero, Int.lt_irrefl]
    rfl
  | cons x l ih =>
    intro hl
    simp only [List.length_cons] at hl
    refine e49_1 ?_ (by simp)
    have h0 : (0 : Int) < ((l.length + 1 : Nat) : Int) := by omega
    simp only [t49_1, W, spanK_u, decide_eq_true_eq, Bool.not_eq_true', decide_eq_false_iff_not, Bool.false_eq_true, Bool.not_true, Bool.not_false, decide_true, decide_false, not_true_eq_false, not_false_eq_true, and_true, true_and, and_false, false_and, ne_eq, Nat.zero_add, Nat.add_zero, cond_true, cond_false, ↓reduceIte, reduceCtorEq, Nat.reduceAdd, Int.reduceEq, Int.reduceNe, Int.reduceLT, Int.reduceLE, Int.reduceAdd, Int.reduceSub, Int.reduceMul, Int.reduceNeg, Nat.reduceMul, List.getElem?_cons_zero, List.getElem?_cons_succ, List.length_cons, h0]
    rw [ixStr_sv _ _ (by omega) (by simp)]
    simp only [W, spanK_u, decide_eq_true_eq, Bool.not_eq_true', decide_eq_false_iff_not, Bool.false_eq_true, Bool.not_true, Bool.not_false, decide_true, decide_false, not_true_eq_false, not_false_eq_true, and_true, true_and, and_false, false_and, ne_eq, Nat.zero_add, Nat.add_zero, cond_true, cond_false, ↓reduceIte, reduceCtorEq, Nat.reduceAdd, Int.reduceEq, Int.reduceNe, Int.reduceLT, Int.reduceLE, Int.reduceAdd, Int.reduceSub, Int.reduceMul, Int.reduceNeg, Nat.reduceMul, List.getElem?_cons_zero, List.getElem?_cons_succ, Int.toNat_zero, List.getElem_cons_zero, u8_eqv, List.dropWhile_cons]
    by_cases hx : x = c
    · simp only [hx, W, spanK_u, decide_eq_true_eq, Bool.not_eq_true', decide_eq_false_iff_not, Bool.false_eq_true, Bool.not_true, Bool.not_false, decide_true, decide_false, not_true_eq_false, not_false_eq_true, and_true, true_and, and_false, false_and, ne_eq, Nat.zero_add, Nat.add_zero, cond_true, cond_false, ↓reduceIte, reduceCtorEq, Nat.reduceAdd, Int.reduceEq, Int.reduceNe, Int.reduceLT, Int.reduceLE, Int.reduceAdd, Int.reduceSub, Int.reduceMul, Int.reduceNeg, Nat.reduceMul, List.getElem?_cons_zero, List.getElem?_cons_succ, BEq.rfl]
      rw [slcStr_from _ _ (by omega) (by simp; omega)]
      simp only [W, spanK_u, decide_eq_true_eq, Bool.not_eq_true', decide_eq_false_iff_not, Bool.false_eq_true, Bool.not_true, Bool.not_false, decide_true, decide_false, not_true_eq_false, not_false_eq_true, and_true, true_and, and_false, false_and, ne_eq, Nat.zero_add, Nat.add_zero, cond_true, cond_false, ↓reduceIte, reduceCtorEq, Nat.reduceAdd, Int.reduceEq, Int.reduceNe, Int.reduceLT, Int.reduceLE, Int.reduceAdd, Int.reduceSub, Int.reduceMul, Int.reduceNeg, Nat.reduceMul, List.getElem?_cons_zero, List.getElem?_cons_succ]
      exact ih (by omega)
    · simp only [hx, W, spanK_u, decide_eq_true_eq, Bool.not_eq_true', decide_eq_false_iff_not, Bool.false_eq_true, Bool.not_true, Bool.not_false, decide_true, decide_false, not_true_eq_false, not_false_eq_true, and_true, true_and, and_false, false_and, ne_eq, Nat.zero_add, Nat.add_zero, cond_true, cond_false, ↓reduceIte, reduceCtorEq, Nat.reduceAdd, Int.reduceEq, Int.reduceNe, Int.reduceLT, Int.reduceLE, Int.reduceAdd, Int.reduceSub, Int.reduceMul, Int.reduceNeg, Nat.reduceMul, List.getElem?_cons_zero, List.getElem?_cons_succ, beq_iff_eq]
theorem trimLB {h : H} (g : Gd h) (c : UInt8) (l : Bs) (hl : l.length ≤ 1099511627776) : CL tab0 49 [sv l, .int .u8 (c.toNat : Nat)] h = .ok (sv (l.dropWhile (· == c))) h :=
  c49 good0.step rfl rfl g (by simp only [t49_0]; exact leftByte c l hl) (by simp)
def trimR (p : UInt8 → Bool) (l : Bs) : Bs := (l.reverse.dropWhile p).reverse
theorem trimR_snoc {p : UInt8 → Bool} (l : Bs) (c : UInt8) : trimR p (l ++ [c]) = if p c = true then trimR p l else l ++ [c] := by
  unfold trimR
  rw [List.reverse_append]
  simp only [List.reverse_cons, List.reverse_nil, List.nil_append, List.singleton_append, List.dropWhile_cons]
  split <;> simp
theorem trimR_len {p : UInt8 → Bool} (l : Bs) : (trimR p l).length ≤ l.length := by
  unfold trimR
  rw [List.length_reverse]
  have := (List.dropWhile_sublist (p := p) (l := l.reverse)).length_le
  simpa using this
theorem dropWhile_nil {p : UInt8 → Bool} : ∀ l : Bs, l.dropWhile p = [] ↔ ∀ x ∈ l, p x = true
  | [] => by simp
  | x :: l => by
    rw [List.dropWhile_cons]
    by_cases h : p x = true
    · rw [if_pos h, dropWhile_nil l]; simp [h]
    · rw [if_neg h]; simp [h]
theorem trim_nil {p : UInt8 → Bool} (l : Bs) : (trimR p l).dropWhile p = [] ↔ l.all p = true := by
  unfold trimR
  rw [dropWhile_nil]
  simp only [List.mem_reverse, List.all_eq_true]
  constructor
  · intro h x hx
    have : l.reverse.takeWhile p ++ l.reverse.dropWhile p = l.reverse := List.takeWhile_append_dropWhile
    have hx' : x ∈ l.reverse := by simpa using hx
    rw [← this] at hx'
    rcases List.mem_append.1 hx' with h1 | h1
    · exact List.all_eq_true.1 (List.all_takeWhile (p := p)) x h1
    · exact h x h1
  · intro h x hx
    exact h x (by simpa using (List.dropWhile_sublist (p := p) (l := l.reverse)).subset hx)
theorem rightByte {h : H} (c : UInt8) : ∀ (n : Nat) (l : Bs), l.length = n → l.length ≤ 1099511627776 → J53 tab0 1 [sv l, .int .u8 (c.toNat : Nat)] h = .ok (sv (trimR (· == c) l)) h := by
  intro n
  induction n with
  | zero =>
    intro l hl _
    have : l = [] := by simpa using hl
    subst this
    refine e53_1 ?_ (by simp)
    simp only [t53_1, W, spanK_u, decide_eq_true_eq, Bool.not_eq_true', decide_eq_false_iff_not, Bool.false_eq_true, Bool.not_true, Bool.not_false, decide_true, decide_false, not_true_eq_false, not_false_eq_true, and_true, true_and, and_false, false_and, ne_eq, Nat.zero_add, Nat.add_zero, cond_true, cond_false, ↓reduceIte, reduceCtorEq, Nat.reduceAdd, Int.reduceEq, Int.reduceNe, Int.reduceLT, Int.reduceLE, Int.reduceAdd, Int.reduceSub, Int.reduceMul, Int.reduceNeg, Nat.reduceMul, List.getElem?_cons_zero, List.getElem?_cons_succ, List.length_nil, Int.ofNat_zero, Int.lt_irrefl]
    rfl
  | succ n ih =>
    intro l hl hb
    rcases List.eq_nil_or_concat l with rfl | ⟨l', x, rfl⟩
    · simp at hl
    · simp only [List.concat_eq_append, List.length_append, List.length_singleton] at hl hb ⊢
      refine e53_1 ?_ (by simp)
      have e1 : ((l'.length + 1 : Nat) : Int) - 1 = (l'.length : Nat) := by omega
      have h0 : (0 : Int) < ((l'.length + 1 : Nat) : Int) := by omega
      simp (disch := omega) only [t53_1, W, spanK_u, decide_eq_true_eq, Bool.not_eq_true', decide_eq_false_iff_not, Bool.false_eq_true, Bool.not_true, Bool.not_false, decide_true, decide_false, not_true_eq_false, not_false_eq_true, and_true, true_and, and_false, false_and, ne_eq, Nat.zero_add, Nat.add_zero, cond_true, cond_false, ↓reduceIte, reduceCtorEq, Nat.reduceAdd, Int.reduceEq, Int.reduceNe, Int.reduceLT, Int.reduceLE, Int.reduceAdd, Int.reduceSub, Int.reduceMul, Int.reduceNeg, Nat.reduceMul, List.getElem?_cons_zero, List.getElem?_cons_succ, List.length_append, List.length_singleton, wr_i64, e1, h0]
      rw [ixStr_nat _ _ (by simp)]
      simp only [W, spanK_u, decide_eq_true_eq, Bool.not_eq_true', decide_eq_false_iff_not, Bool.false_eq_true, Bool.not_true, Bool.not_false, decide_true, decide_false, not_true_eq_false, not_false_eq_true, and_true, true_and, and_false, false_and, ne_eq, Nat.zero_add, Nat.add_zero, cond_true, cond_false, ↓reduceIte, reduceCtorEq, Nat.reduceAdd, Int.reduceEq, Int.reduceNe, Int.reduceLT, Int.reduceLE, Int.reduceAdd, Int.reduceSub, Int.reduceMul, Int.reduceNeg, Nat.reduceMul, List.getElem?_cons_zero, List.getElem?_cons_succ, List.getElem_append_right (Nat.le_refl _), Nat.sub_self, List.getElem_cons_zero, u8_eqv]
      rw [trimR_snoc]
      by_cases hx : x = c
      · simp only [hx, W, spanK_u, decide_eq_true_eq, Bool.not_eq_true', decide_eq_false_iff_not, Bool.false_eq_true, Bool.not_true, Bool.not_false, decide_true, decide_false, not_true_eq_false, not_false_eq_true, and_true, true_and, and_false, false_and, ne_eq, Nat.zero_add, Nat.add_zero, cond_true, cond_false, ↓reduceIte, reduceCtorEq, Nat.reduceAdd, Int.reduceEq, Int.reduceNe, Int.reduceLT, Int.reduceLE, Int.reduceAdd, Int.reduceSub, Int.reduceMul, Int.reduceNeg, Nat.reduceMul, List.getElem?_cons_zero, List.getElem?_cons_succ, BEq.rfl]
        rw [slcStr_to _ _ (by omega) (by simp; omega)]
        simp only [W, spanK_u, decide_eq_true_eq, Bool.not_eq_true', decide_eq_false_iff_not, Bool.false_eq_true, Bool.not_true, Bool.not_false, decide_true, decide_false, not_true_eq_false, not_false_eq_true, and_true, true_and, and_false, false_and, ne_eq, Nat.zero_add, Nat.add_zero, cond_true, cond_false, ↓reduceIte, reduceCtorEq, Nat.reduceAdd, Int.reduceEq, Int.reduceNe, Int.reduceLT, Int.reduceLE, Int.reduceAdd, Int.reduceSub, Int.reduceMul, Int.reduceNeg, Nat.reduceMul, List.getElem?_cons_zero, List.getElem?_cons_succ, Int.toNat_natCast, List.take_left']
        exact ih l' (by omega) (by omega)
      · simp only [hx, W, spanK_u, decide_eq_true_eq, Bool.not_eq_true', decide_eq_false_iff_not, Bool.false_eq_true, Bool.not_true, Bool.not_false, decide_true, decide_false, not_true_eq_false, not_false_eq_true, and_true, true_and, and_false, false_and, ne_eq, Nat.zero_add, Nat.add_zero, cond_true, cond_false, ↓reduceIte, reduceCtorEq, Nat.reduceAdd, Int.reduceEq, Int.reduceNe, Int.reduceLT, Int.reduceLE, Int.reduceAdd, Int.reduceSub, Int.reduceMul, Int.reduceNeg, Nat.reduceMul, List.getElem?_cons_zero, List.getElem?_cons_succ, beq_iff_eq]
theorem trimRB {h : H} (g : Gd h) (c : UInt8) (l : Bs) (hl : l.length ≤ 1099511627776) : CL tab0 53 [sv l, .int .u8 (c.toNat : Nat)] h = .ok (sv (trimR (· == c) l)) h :=
  c53 good0.step rfl rfl g (by simp only [t53_0]; exact rightByte c _ l rfl hl) (by simp)

end Go.Proofs.YtfegkjmghbdogaaDoor

namespace Go.Proofs.YtfegkjmghbdogaaDoor
open Go I
set_option maxRecDepth 100000
set_option linter.unusedVariables false
set_option linter.unusedSimpArgs false

/-! ### noughts -/
theorem str48 : IV.str ⟨1, 48⟩ = sv [48] := rfl
theorem ix48 : ixStr (sv [48]) (.int .i64 0) = some (.int .u8 (((48 : UInt8).toNat : Nat) : Int)) := ixStr_sv [48] 0 (by omega) (by simp)
theorem u48 : ((((48 : UInt8).toNat : Nat) : Int) < 128) = True := by decide
theorem trimLeft0 {h : H} (g : Gd h) (l : Bs) (hl : l.length ≤ 1099511627776) : CL tab0 30 [sv l, sv [48]] h = .ok (sv (l.dropWhile (· == 48))) h := by
  refine c30 good0.step rfl rfl g ?_ (by simp)
  by_cases h0 : l = []
  · subst h0
    simp only [t30_0, sv0, W, spanK_u, decide_eq_true_eq, Bool.not_eq_true', decide_eq_false_iff_not, Bool.false_eq_true, Bool.not_true, Bool.not_false, decide_true, decide_false, not_true_eq_false, not_false_eq_true, and_true, true_and, and_false, false_and, ne_eq, Nat.zero_add, Nat.add_zero, cond_true, cond_false, ↓reduceIte, reduceCtorEq, Nat.reduceAdd, Int.reduceEq, Int.reduceNe, Int.reduceLT, Int.reduceLE, Int.reduceAdd, Int.reduceSub, Int.reduceMul, Int.reduceNeg, Nat.reduceMul, List.getElem?_cons_zero, List.getElem?_cons_succ]
    rfl
  · simp only [t30_0, sv0, W, spanK_u, decide_eq_true_eq, Bool.not_eq_true', decide_eq_false_iff_not, Bool.false_eq_true, Bool.not_true, Bool.not_false, decide_true, decide_false, not_true_eq_false, not_false_eq_true, and_true, true_and, and_false, false_and, ne_eq, Nat.zero_add, Nat.add_zero, cond_true, cond_false, ↓reduceIte, reduceCtorEq, Nat.reduceAdd, Int.reduceEq, Int.reduceNe, Int.reduceLT, Int.reduceLE, Int.reduceAdd, Int.reduceSub, Int.reduceMul, Int.reduceNeg, Nat.reduceMul, List.getElem?_cons_zero, List.getElem?_cons_succ, h0, List.length_cons, List.length_nil, ix48, u48, trimLB g 48 l hl, Int.ofNat_eq_natCast, Int.natCast_add, Int.cast_ofNat_Int]
theorem trim0 {h : H} (g : Gd h) (l : Bs) (hl : l.length ≤ 1099511627776) : CL tab0 31 [sv l, sv [48]] h = .ok (sv ((trimR (· == 48) l).dropWhile (· == 48))) h := by
  refine c31 good0.step rfl rfl g ?_ (by simp)
  by_cases h0 : l = []
  · subst h0
    simp only [t31_0, sv0, W, spanK_u, decide_eq_true_eq, Bool.not_eq_true', decide_eq_false_iff_not, Bool.false_eq_true, Bool.not_true, Bool.not_false, decide_true, decide_false, not_true_eq_false, not_false_eq_true, and_true, true_and, and_false, false_and, ne_eq, Nat.zero_add, Nat.add_zero, cond_true, cond_false, ↓reduceIte, reduceCtorEq, Nat.reduceAdd, Int.reduceEq, Int.reduceNe, Int.reduceLT, Int.reduceLE, Int.reduceAdd, Int.reduceSub, Int.reduceMul, Int.reduceNeg, Nat.reduceMul, List.getElem?_cons_zero, List.getElem?_cons_succ]
    rfl
  · simp only [t31_0, sv0, W, spanK_u, decide_eq_true_eq, Bool.not_eq_true', decide_eq_false_iff_not, Bool.false_eq_true, Bool.not_true, Bool.not_false, decide_true, decide_false, not_true_eq_false, not_false_eq_true, and_true, true_and, and_false, false_and, ne_eq, Nat.zero_add, Nat.add_zero, cond_true, cond_false, ↓reduceIte, reduceCtorEq, Nat.reduceAdd, Int.reduceEq, Int.reduceNe, Int.reduceLT, Int.reduceLE, Int.reduceAdd, Int.reduceSub, Int.reduceMul, Int.reduceNeg, Nat.reduceMul, List.getElem?_cons_zero, List.getElem?_cons_succ, h0, List.length_cons, List.length_nil, ix48, u48, trimRB g 48 l hl, trimLB g 48 _ (Nat.le_trans (trimR_len l) hl), Int.ofNat_eq_natCast, Int.natCast_add, Int.cast_ofNat_Int]

/-! ### sets of bytes -/
def setL (p : UInt8 → Bool) : List IV := (List.range 256).map fun i => .bool (p (UInt8.ofNat i))
theorem setL_len (p : UInt8 → Bool) : (setL p).length = 256 := by simp [setL]
theorem setL_get (p : UInt8 → Bool) (c : UInt8) : (setL p)[c.toNat]? = some (.bool (p c)) := by
  have hc := c.toNat_lt
  simp only [setL, List.getElem?_map, List.getElem?_range hc, Option.map_some, UInt8.ofNat_toNat]
theorem setL_scalar (p : UInt8 → Bool) : allScalar (setL p) = true := by
  unfold setL
  generalize List.range 256 = l
  induction l with
  | nil => rfl
  | cons x l ih => simp only [List.map_cons, allScalar, ih, IV.scalar, Bool.and_self]
theorem z2_set : z2 = setL fun _ => false := by kernel_rfl
theorem contains {p : UInt8 → Bool} {h : H} {b : Nat} (c : Cs h b true false (setL p)) (g : Gd h) (x : UInt8) : CL tab0 71 [.ptr b 0, .int .u8 (x.toNat : Nat)] h = .ok (.bool (p x)) h := by
  have hx := x.toNat_lt
  refine c71 good0.step rfl rfl g ?_ (by simp)
  simp only [t71_0, nilI_ptr, obind_some, ixA]
  rw [if_pos (by omega)]
  simp only [obind_some, c.ld0]
  simp only [Int.toNat_natCast, Nat.mul_one, Nat.zero_add, setL_get, obind_some]
def isV (c : UInt8) : Bool := c == 48 || c == 49 || c == 120 || c == 122
def cut4 : IV := .str ⟨4, 2054697264⟩
theorem makeV : ∃ h', CL tab0 50 [cut4] H0 = .ok (.tup [.agg (setL isV), .bool true]) h' := closed_val (m := 300) (n := 20) (by kernel_rfl)
theorem trimRight {p : UInt8 → Bool} {h : H} {b : Nat} (c : Cs h b true false (setL p)) (g : Gd h) : ∀ (n : Nat) (l : Bs), l.length = n → l.length ≤ 1099511627776 → J54 tab0 2 [sv l, .ptr b 0] h = .ok (sv (trimR p l)) h := by
  intro n
  induction n with
  | zero =>
    intro l hl _
    have : l = [] := by simpa using hl
    subst this
    refine e54_2 ?_ (by simp)
    simp only [t54_2, W, spanK_u, decide_eq_true_eq, Bool.not_eq_true', decide_eq_false_iff_not, Bool.false_eq_true, Bool.not_true, Bool.not_false, decide_true, decide_false, not_true_eq_false, not_false_eq_true, and_true, true_and, and_false, false_and, ne_eq, Nat.zero_add, Nat.add_zero, cond_true, cond_false, ↓reduceIte, reduceCtorEq, Nat.reduceAdd, Int.reduceEq, Int.reduceNe, Int.reduceLT, Int.reduceLE, Int.reduceAdd, Int.reduceSub, Int.reduceMul, Int.reduceNeg, Nat.reduceMul, List.getElem?_cons_zero, List.getElem?_cons_succ, List.length_nil, Int.ofNat_zero, Int.lt_irrefl]
    refine e54_1 ?_ (by simp)
    rfl
  | succ n ih =>
    intro l hl hb
    rcases List.eq_nil_or_concat l with rfl | ⟨l', x, rfl⟩
    · simp at hl
    · simp only [List.concat_eq_append, List.length_append, List.length_singleton] at hl hb ⊢
      refine e54_2 ?_ (by simp)
      have e1 : ((l'.length + 1 : Nat) : Int) - 1 = (l'.length : Nat) := by omega
      simp (disch := omega) only [t54_2, W, spanK_u, decide_eq_true_eq, Bool.not_eq_true', decide_eq_false_iff_not, Bool.false_eq_true, Bool.not_true, Bool.not_false, decide_true, decide_false, not_true_eq_false, not_false_eq_true, and_true, true_and, and_false, false_and, ne_eq, Nat.zero_add, Nat.add_zero, cond_true, cond_false, ↓reduceIte, reduceCtorEq, Nat.reduceAdd, Int.reduceEq, Int.reduceNe, Int.reduceLT, Int.reduceLE, Int.reduceAdd, Int.reduceSub, Int.reduceMul, Int.reduceNeg, Nat.reduceMul, List.getElem?_cons_zero, List.getElem?_cons_succ, List.length_append, List.length_singleton, wr_i64, e1]
      rw [if_pos (by omega), ixStr_nat _ _ (by simp)]
      simp only [W, spanK_u, decide_eq_true_eq, Bool.not_eq_true', decide_eq_false_iff_not, Bool.false_eq_true, Bool.not_true, Bool.not_false, decide_true, decide_false, not_true_eq_false, not_false_eq_true, and_true, true_and, and_false, false_and, ne_eq, Nat.zero_add, Nat.add_zero, cond_true, cond_false, ↓reduceIte, reduceCtorEq, Nat.reduceAdd, Int.reduceEq, Int.reduceNe, Int.reduceLT, Int.reduceLE, Int.reduceAdd, Int.reduceSub, Int.reduceMul, Int.reduceNeg, Nat.reduceMul, List.getElem?_cons_zero, List.getElem?_cons_succ, List.getElem_append_right (Nat.le_refl _), Nat.sub_self, List.getElem_cons_zero]
      rw [contains c g x]
      simp only [W, spanK_u, decide_eq_true_eq, Bool.not_eq_true', decide_eq_false_iff_not, Bool.false_eq_true, Bool.not_true, Bool.not_false, decide_true, decide_false, not_true_eq_false, not_false_eq_true, and_true, true_and, and_false, false_and, ne_eq, Nat.zero_add, Nat.add_zero, cond_true, cond_false, ↓reduceIte, reduceCtorEq, Nat.reduceAdd, Int.reduceEq, Int.reduceNe, Int.reduceLT, Int.reduceLE, Int.reduceAdd, Int.reduceSub, Int.reduceMul, Int.reduceNeg, Nat.reduceMul, List.getElem?_cons_zero, List.getElem?_cons_succ]
      rw [trimR_snoc]
      cases hx : p x with
      | false =>
        simp only [W, spanK_u, decide_eq_true_eq, Bool.not_eq_true', decide_eq_false_iff_not, Bool.false_eq_true, Bool.not_true, Bool.not_false, decide_true, decide_false, not_true_eq_false, not_false_eq_true, and_true, true_and, and_false, false_and, ne_eq, Nat.zero_add, Nat.add_zero, cond_true, cond_false, ↓reduceIte, reduceCtorEq, Nat.reduceAdd, Int.reduceEq, Int.reduceNe, Int.reduceLT, Int.reduceLE, Int.reduceAdd, Int.reduceSub, Int.reduceMul, Int.reduceNeg, Nat.reduceMul, List.getElem?_cons_zero, List.getElem?_cons_succ]
        exact e54_1 rfl (by simp)
      | true =>
        simp only [W, spanK_u, decide_eq_true_eq, Bool.not_eq_true', decide_eq_false_iff_not, Bool.false_eq_true, Bool.not_true, Bool.not_false, decide_true, decide_false, not_true_eq_false, not_false_eq_true, and_true, true_and, and_false, false_and, ne_eq, Nat.zero_add, Nat.add_zero, cond_true, cond_false, ↓reduceIte, reduceCtorEq, Nat.reduceAdd, Int.reduceEq, Int.reduceNe, Int.reduceLT, Int.reduceLE, Int.reduceAdd, Int.reduceSub, Int.reduceMul, Int.reduceNeg, Nat.reduceMul, List.getElem?_cons_zero, List.getElem?_cons_succ]
        rw [slcStr_to _ _ (by omega) (by simp; omega)]
        simp only [W, spanK_u, decide_eq_true_eq, Bool.not_eq_true', decide_eq_false_iff_not, Bool.false_eq_true, Bool.not_true, Bool.not_false, decide_true, decide_false, not_true_eq_false, not_false_eq_true, and_true, true_and, and_false, false_and, ne_eq, Nat.zero_add, Nat.add_zero, cond_true, cond_false, ↓reduceIte, reduceCtorEq, Nat.reduceAdd, Int.reduceEq, Int.reduceNe, Int.reduceLT, Int.reduceLE, Int.reduceAdd, Int.reduceSub, Int.reduceMul, Int.reduceNeg, Nat.reduceMul, List.getElem?_cons_zero, List.getElem?_cons_succ, Int.toNat_natCast, List.take_left']
        exact ih l' (by omega) (by omega)
theorem trimLeft {p : UInt8 → Bool} {h : H} {b : Nat} (c : Cs h b true false (setL p)) (g : Gd h) : ∀ (l : Bs), l.length ≤ 1099511627776 → J51 tab0 2 [sv l, .ptr b 0] h = .ok (sv (l.dropWhile p)) h := by
  intro l
  induction l with
  | nil =>
    intro _
    refine e51_2 ?_ (by simp)
    simp only [t51_2, W, spanK_u, decide_eq_true_eq, Bool.not_eq_true', decide_eq_false_iff_not, Bool.false_eq_true, Bool.not_true, Bool.not_false, decide_true, decide_false, not_true_eq_false, not_false_eq_true, and_true, true_and, and_false, false_and, ne_eq, Nat.zero_add, Nat.add_zero, cond_true, cond_false, ↓reduceIte, reduceCtorEq, Nat.reduceAdd, Int.reduceEq, Int.reduceNe, Int.reduceLT, Int.reduceLE, Int.reduceAdd, Int.reduceSub, Int.reduceMul, Int.reduceNeg, Nat.reduceMul, List.getElem?_cons_zero, List.getElem?_cons_succ, List.length_nil, Int.ofNat_zero, Int.lt_irrefl]
    exact e51_1 rfl (by simp)
  | cons x l ih =>
    intro hb
    simp only [List.length_cons] at hb
    refine e51_2 ?_ (by simp)
    simp only [t51_2, W, spanK_u, decide_eq_true_eq, Bool.not_eq_true', decide_eq_false_iff_not, Bool.false_eq_true, Bool.not_true, Bool.not_false, decide_true, decide_false, not_true_eq_false, not_false_eq_true, and_true, true_and, and_false, false_and, ne_eq, Nat.zero_add, Nat.add_zero, cond_true, cond_false, ↓reduceIte, reduceCtorEq, Nat.reduceAdd, Int.reduceEq, Int.reduceNe, Int.reduceLT, Int.reduceLE, Int.reduceAdd, Int.reduceSub, Int.reduceMul, Int.reduceNeg, Nat.reduceMul, List.getElem?_cons_zero, List.getElem?_cons_succ, List.length_cons]
    rw [if_pos (by omega), ixStr_sv _ _ (by omega) (by simp)]
    simp only [W, spanK_u, decide_eq_true_eq, Bool.not_eq_true', decide_eq_false_iff_not, Bool.false_eq_true, Bool.not_true, Bool.not_false, decide_true, decide_false, not_true_eq_false, not_false_eq_true, and_true, true_and, and_false, false_and, ne_eq, Nat.zero_add, Nat.add_zero, cond_true, cond_false, ↓reduceIte, reduceCtorEq, Nat.reduceAdd, Int.reduceEq, Int.reduceNe, Int.reduceLT, Int.reduceLE, Int.reduceAdd, Int.reduceSub, Int.reduceMul, Int.reduceNeg, Nat.reduceMul, List.getElem?_cons_zero, List.getElem?_cons_succ, Int.toNat_zero, List.getElem_cons_zero]
    rw [contains c g x]
    simp only [W, spanK_u, decide_eq_true_eq, Bool.not_eq_true', decide_eq_false_iff_not, Bool.false_eq_true, Bool.not_true, Bool.not_false, decide_true, decide_false, not_true_eq_false, not_false_eq_true, and_true, true_and, and_false, false_and, ne_eq, Nat.zero_add, Nat.add_zero, cond_true, cond_false, ↓reduceIte, reduceCtorEq, Nat.reduceAdd, Int.reduceEq, Int.reduceNe, Int.reduceLT, Int.reduceLE, Int.reduceAdd, Int.reduceSub, Int.reduceMul, Int.reduceNeg, Nat.reduceMul, List.getElem?_cons_zero, List.getElem?_cons_succ, List.dropWhile_cons]
    cases hx : p x with
    | false => simp only [W, spanK_u, decide_eq_true_eq, Bool.not_eq_true', decide_eq_false_iff_not, Bool.false_eq_true, Bool.not_true, Bool.not_false, decide_true, decide_false, not_true_eq_false, not_false_eq_true, and_true, true_and, and_false, false_and, ne_eq, Nat.zero_add, Nat.add_zero, cond_true, cond_false, ↓reduceIte, reduceCtorEq, Nat.reduceAdd, Int.reduceEq, Int.reduceNe, Int.reduceLT, Int.reduceLE, Int.reduceAdd, Int.reduceSub, Int.reduceMul, Int.reduceNeg, Nat.reduceMul, List.getElem?_cons_zero, List.getElem?_cons_succ]; exact e51_1 rfl (by simp)
    | true =>
      simp only [W, spanK_u, decide_eq_true_eq, Bool.not_eq_true', decide_eq_false_iff_not, Bool.false_eq_true, Bool.not_true, Bool.not_false, decide_true, decide_false, not_true_eq_false, not_false_eq_true, and_true, true_and, and_false, false_and, ne_eq, Nat.zero_add, Nat.add_zero, cond_true, cond_false, ↓reduceIte, reduceCtorEq, Nat.reduceAdd, Int.reduceEq, Int.reduceNe, Int.reduceLT, Int.reduceLE, Int.reduceAdd, Int.reduceSub, Int.reduceMul, Int.reduceNeg, Nat.reduceMul, List.getElem?_cons_zero, List.getElem?_cons_succ]
      rw [slcStr_from _ _ (by omega) (by simp; omega)]
      simp only [W, spanK_u, decide_eq_true_eq, Bool.not_eq_true', decide_eq_false_iff_not, Bool.false_eq_true, Bool.not_true, Bool.not_false, decide_true, decide_false, not_true_eq_false, not_false_eq_true, and_true, true_and, and_false, false_and, ne_eq, Nat.zero_add, Nat.add_zero, cond_true, cond_false, ↓reduceIte, reduceCtorEq, Nat.reduceAdd, Int.reduceEq, Int.reduceNe, Int.reduceLT, Int.reduceLE, Int.reduceAdd, Int.reduceSub, Int.reduceMul, Int.reduceNeg, Nat.reduceMul, List.getElem?_cons_zero, List.getElem?_cons_succ]
      exact ih (by omega)
theorem cut_sv : cut4 = sv [48, 49, 120, 122] := rfl
theorem trim (l : Bs) (hl : l.length ≤ 1099511627776) : ∃ h', CL tab0 31 [sv l, cut4] H0 = .ok (sv ((trimR isV l).dropWhile isV)) h' := by
  by_cases h0 : l = []
  · subst h0
    refine ⟨H0, c31 good0.step rfl rfl gd0 ?_ (by simp)⟩
    simp only [t31_0, sv0, W, spanK_u, decide_eq_true_eq, Bool.not_eq_true', decide_eq_false_iff_not, Bool.false_eq_true, Bool.not_true, Bool.not_false, decide_true, decide_false, not_true_eq_false, not_false_eq_true, and_true, true_and, and_false, false_and, ne_eq, Nat.zero_add, Nat.add_zero, cond_true, cond_false, ↓reduceIte, reduceCtorEq, Nat.reduceAdd, Int.reduceEq, Int.reduceNe, Int.reduceLT, Int.reduceLE, Int.reduceAdd, Int.reduceSub, Int.reduceMul, Int.reduceNeg, Nat.reduceMul, List.getElem?_cons_zero, List.getElem?_cons_succ]
    rfl
  · obtain ⟨h1, e1⟩ := makeV
    obtain ⟨g1, x1⟩ := call_ok good0.step e1 gd0
    obtain ⟨h2, e2, x2, c2⟩ := newI_ex g1 (cs := z2) (by rw [z2_set]; exact setL_scalar _)
    rw [z2_set] at c2
    obtain ⟨o, e3, c3, ho⟩ := c2.st (n := 256) (off := 0) (v := .agg (setL isV)) (setL_len _) (setL_scalar _) (by simp [setL_len])
    have g3 : Gd (h2.put h1.next o) := by
      obtain ⟨t, q, _⟩ := c2
      have := Step.put (o := o) q (fun fz size cs hh => by cases hh) x2.gd.wf
      exact ⟨this.1, this.2.pol.trans x2.gd.pol⟩
    have c4 : Cs (h2.put h1.next o) h1.next true false (setL isV) := by
      have : placeL (setL fun _ => false) 0 (IV.agg (setL isV)).cells = setL isV := by
        apply List.ext_getElem?
        intro i
        rw [placeL_get _ _ _ _ (by simp [IV.cells, setL_len])]
        simp only [IV.cells, Nat.zero_le, true_and, Nat.zero_add, Nat.sub_zero, setL_len]
        split
        · rfl
        · rw [List.getElem?_eq_none (by rw [setL_len]; omega), List.getElem?_eq_none (by rw [setL_len]; omega)]
      rw [this] at c3; exact c3
    have r1 : CL tab0 54 [sv l, .ptr h1.next 0] (h2.put h1.next o) = .ok (sv (trimR isV l)) (h2.put h1.next o) :=
      c54 good0.step rfl rfl g3 (by simp only [t54_0]; exact trimRight c4 g3 _ l rfl hl) (by simp)
    have r2 : CL tab0 51 [sv (trimR isV l), .ptr h1.next 0] (h2.put h1.next o) = .ok (sv ((trimR isV l).dropWhile isV)) (h2.put h1.next o) :=
      c51 good0.step rfl rfl g3 (by simp only [t51_0]; exact trimLeft c4 g3 _ (Nat.le_trans (trimR_len l) hl)) (by simp)
    refine ⟨h2.put h1.next o, c31 good0.step rfl rfl gd0 ?_ (by simp)⟩
    simp only [t31_0, sv0, cut_sv, W, spanK_u, decide_eq_true_eq, Bool.not_eq_true', decide_eq_false_iff_not, Bool.false_eq_true, Bool.not_true, Bool.not_false, decide_true, decide_false, not_true_eq_false, not_false_eq_true, and_true, true_and, and_false, false_and, ne_eq, Nat.zero_add, Nat.add_zero, cond_true, cond_false, ↓reduceIte, reduceCtorEq, Nat.reduceAdd, Int.reduceEq, Int.reduceNe, Int.reduceLT, Int.reduceLE, Int.reduceAdd, Int.reduceSub, Int.reduceMul, Int.reduceNeg, Nat.reduceMul, List.getElem?_cons_zero, List.getElem?_cons_succ, h0, List.length_cons, List.length_nil, reduceCtorEq]
    rw [← cut_sv, e1]
    simp only [W, spanK_u, decide_eq_true_eq, Bool.not_eq_true', decide_eq_false_iff_not, Bool.false_eq_true, Bool.not_true, Bool.not_false, decide_true, decide_false, not_true_eq_false, not_false_eq_true, and_true, true_and, and_false, false_and, ne_eq, Nat.zero_add, Nat.add_zero, cond_true, cond_false, ↓reduceIte, reduceCtorEq, Nat.reduceAdd, Int.reduceEq, Int.reduceNe, Int.reduceLT, Int.reduceLE, Int.reduceAdd, Int.reduceSub, Int.reduceMul, Int.reduceNeg, Nat.reduceMul, List.getElem?_cons_zero, List.getElem?_cons_succ, e2, e3, r1, r2, Int.ofNat_eq_natCast]
    rfl

/-! ### the two as tables -/
def trimF (l p : Bs) : Option IV :=
  if l.length ≤ 1099511627776 then (if p = [48] then some (sv ((trimR (· == 48) l).dropWhile (· == 48))) else if p = [48, 49, 120, 122] then some (sv ((trimR isV l).dropWhile isV)) else none) else none
theorem tTrim : PureT Tryd.prog (CL tab0) 31 (fn2 dS dS trimF) := pure2 Tryd.func31 rfl fun l p v e => by
  unfold trimF at e
  split at e
  · rename_i hl
    split at e
    · rename_i hp
      subst hp
      injection e with e; subst e
      exact ⟨rfl, _, trim0 gd0 l hl⟩
    · split at e
      · rename_i hp
        subst hp
        injection e with e; subst e
        exact ⟨rfl, trim l hl⟩
      · cases e
  · cases e
def trimLF (l p : Bs) : Option IV := if l.length ≤ 1099511627776 ∧ p = [48] then some (sv (l.dropWhile (· == 48))) else none
theorem tTrimL : PureT Tryd.prog (CL tab0) 30 (fn2 dS dS trimLF) := pure2 Tryd.func30 rfl fun l p v e => by
  unfold trimLF at e
  split at e
  · rename_i hl
    obtain ⟨hl, rfl⟩ := hl
    injection e with e; subst e
    exact ⟨rfl, _, trimLeft0 gd0 l hl⟩
  · cases e

end Go.Proofs.YtfegkjmghbdogaaDoor

namespace Go.Proofs.YtfegkjmghbdogaaDoor
open Go I
set_option maxRecDepth 100000
set_option linter.unusedVariables false
set_option linter.unusedSimpArgs false

/-- a table under which strconv.ParseUint can be walked -/
structure PT (T : Tab) : Prop where
  step : OvStep T
  o29 : T.ov 29 = none
  o47 : T.ov 47 = none
  o65 : T.ov 65 = none
  o48 : T.ov 48 = some toErrI
  pol : ∀ f, T.pol f = true
theorem pt0 : PT tab0 := ⟨good0.step, rfl, rfl, rfl, rfl, fun _ => rfl⟩
/-! ### one digit -/
theorem lower {T : Tab} (pt : PT T) {h : H} (g : Gd h) (c : UInt8) : CL T 65 [.int .u8 (c.toNat : Nat)] h = .ok (.int .u8 ((c.toNat ||| 32 : Nat) : Int)) h := by
  refine c65 pt.step pt.o65 (pt.pol _) g ?_ (by simp)
  have key : ∀ n : Fin 256, IntKind.u8.wrap (BitVec.ofInt IntKind.u8.bits ((n.val : Nat) : Int) ||| BitVec.ofInt IntKind.u8.bits 32).toNat = ((n.val ||| 32 : Nat) : Int) := by decide +kernel
  have := key ⟨c.toNat, c.toNat_lt⟩
  simp only at this
  simp only [t65_0, binN_or, W, spanK_u, decide_eq_true_eq, Bool.not_eq_true', decide_eq_false_iff_not, Bool.false_eq_true, Bool.not_true, Bool.not_false, decide_true, decide_false, not_true_eq_false, not_false_eq_true, and_true, true_and, and_false, false_and, ne_eq, Nat.zero_add, Nat.add_zero, cond_true, cond_false, ↓reduceIte, reduceCtorEq, Nat.reduceAdd, Int.reduceEq, Int.reduceNe, Int.reduceLT, Int.reduceLE, Int.reduceAdd, Int.reduceSub, Int.reduceMul, Int.reduceNeg, Nat.reduceMul, List.getElem?_cons_zero, List.getElem?_cons_succ, this]
def digV (c : UInt8) : Nat :=
  if 48 ≤ c.toNat ∧ c.toNat ≤ 57 then c.toNat - 48
  else if 97 ≤ (c.toNat ||| 32) ∧ (c.toNat ||| 32) ≤ 122 then (c.toNat ||| 32) - 97 + 10 else 255
theorem digV_lt (c : UInt8) : digV c < 256 := by
  have := c.toNat_lt
  unfold digV
  split
  · omega
  · split
    · omega
    · omega
/-- a number in a base, or why there is none -/
def puV (maxV base : Nat) : Nat → Bs → Nat × Int
  | n, [] => (n, 0)
  | n, c :: l => if base ≤ digV c then (0, 2) else if maxV < n * base + digV c then (maxV, 1) else puV maxV base (n * base + digV c) l
def errI (e : Int) : IV := if e = 0 then .nilIface else .iface 95 (.int .i64 e)
theorem wr_u64' {n : Nat} (h : n < 18446744073709551616) : wr .u64 (n : Int) = (n : Nat) := wr_u64 (by omega) (by omega)

theorem pu_step {T : Tab} (pt : PT T) {h : H} (g : Gd h) {maxV base cut n : Nat} {s0 : IV} {b len i : Nat} (hb : base = 10 ∨ base = 16) (h1 : maxV < cut * base) (h2 : ∀ k, k < cut → k * base < 18446744073709551616) (hm : maxV < 18446744073709551616) (hn : n ≤ maxV) (hc : cut < 18446744073709551616) (hi : i + 1 ≤ 9223372036854775807) (d : Nat) (hd : d < 256) {r : CRes} (hr : r ≠ .fail)
    (next : ¬ base ≤ d → ¬ maxV < n * base + d → J47 T 4 [.int .i64 (base : Nat), .bool false, s0, .int .u64 (cut : Nat), .int .u64 (maxV : Nat), .bool false, .int .u64 ((n * base + d : Nat) : Int), .slice b 0 len 1, .int .i64 (len : Nat), .int .i64 ((i + 1 : Nat) : Int)] h = r)
    (e1 : base ≤ d → r = .ok (.tup [.int .u64 0, errI 2]) h) (e2 : ¬ base ≤ d → maxV < n * base + d → r = .ok (.tup [.int .u64 (maxV : Nat), errI 1]) h) :
    J47 T 6 [.int .i64 (base : Nat), .bool false, s0, .int .u64 (cut : Nat), .int .u64 (maxV : Nat), .bool false, .int .u64 (n : Nat), .int .u8 (d : Nat), .slice b 0 len 1, .int .i64 (len : Nat), .int .i64 (i : Nat)] h = r := by
  refine e47_6 ?_ hr
  have hw : wr .u8 ((base : Nat) : Int) = (base : Nat) := wr_u8 (by omega) (by omega)
  have hw2 : wr .u64 ((base : Nat) : Int) = (base : Nat) := wr_u64' (by omega)
  have hw3 : wr .u64 ((d : Nat) : Int) = (d : Nat) := wr_u64' (by omega)
  by_cases hbd : base ≤ d
  · have hbd' : ((base : Nat) : Int) ≤ (d : Nat) := by omega
    simp only [t47_6, W, spanK_u, decide_eq_true_eq, Bool.not_eq_true', decide_eq_false_iff_not, Bool.false_eq_true, Bool.not_true, Bool.not_false, decide_true, decide_false, not_true_eq_false, not_false_eq_true, and_true, true_and, and_false, false_and, ne_eq, Nat.zero_add, Nat.add_zero, cond_true, cond_false, ↓reduceIte, reduceCtorEq, Nat.reduceAdd, Int.reduceEq, Int.reduceNe, Int.reduceLT, Int.reduceLE, Int.reduceAdd, Int.reduceSub, Int.reduceMul, Int.reduceNeg, Nat.reduceMul, List.getElem?_cons_zero, List.getElem?_cons_succ, hw, hbd', e1 hbd, errI]
  · have hbd' : ¬ ((base : Nat) : Int) ≤ (d : Nat) := by omega
    have e2 := e2 hbd
    have next := next hbd
    by_cases hcn : cut ≤ n
    · have hbig : maxV < n * base + d := by
        have := Nat.mul_le_mul_right base hcn
        omega
      have hcn' : ((cut : Nat) : Int) ≤ (n : Nat) := by omega
      simp only [t47_6, W, spanK_u, decide_eq_true_eq, Bool.not_eq_true', decide_eq_false_iff_not, Bool.false_eq_true, Bool.not_true, Bool.not_false, decide_true, decide_false, not_true_eq_false, not_false_eq_true, and_true, true_and, and_false, false_and, ne_eq, Nat.zero_add, Nat.add_zero, cond_true, cond_false, ↓reduceIte, reduceCtorEq, Nat.reduceAdd, Int.reduceEq, Int.reduceNe, Int.reduceLT, Int.reduceLE, Int.reduceAdd, Int.reduceSub, Int.reduceMul, Int.reduceNeg, Nat.reduceMul, List.getElem?_cons_zero, List.getElem?_cons_succ, hw, hbd', hcn', e2 hbig, errI]
    · have hcn' : ¬ ((cut : Nat) : Int) ≤ (n : Nat) := by omega
      have hmul : wr .u64 (((n : Nat) : Int) * ((base : Nat) : Int)) = ((n * base : Nat) : Int) := by
        rw [← Int.natCast_mul]; exact wr_u64' (h2 n (by omega))
      have hlt := h2 n (by omega)
      by_cases hov : n * base + d < 18446744073709551616
      · have hadd : wr .u64 (((n * base : Nat) : Int) + ((d : Nat) : Int)) = ((n * base + d : Nat) : Int) := by
          rw [← Int.natCast_add]; exact wr_u64' hov
        have hl : ¬ (((n * base + d : Nat) : Int) < ((n * base : Nat) : Int)) := by omega
        by_cases hbig : maxV < n * base + d
        · have hbig' : ((maxV : Nat) : Int) < ((n * base + d : Nat) : Int) := by omega
          simp only [t47_6, W, spanK_u, decide_eq_true_eq, Bool.not_eq_true', decide_eq_false_iff_not, Bool.false_eq_true, Bool.not_true, Bool.not_false, decide_true, decide_false, not_true_eq_false, not_false_eq_true, and_true, true_and, and_false, false_and, ne_eq, Nat.zero_add, Nat.add_zero, cond_true, cond_false, ↓reduceIte, reduceCtorEq, Nat.reduceAdd, Int.reduceEq, Int.reduceNe, Int.reduceLT, Int.reduceLE, Int.reduceAdd, Int.reduceSub, Int.reduceMul, Int.reduceNeg, Nat.reduceMul, List.getElem?_cons_zero, List.getElem?_cons_succ, hw, hw2, hw3, hbd', hcn', hmul, hadd, hl, hbig', e2 hbig, errI]
        · have hbig' : ¬ ((maxV : Nat) : Int) < ((n * base + d : Nat) : Int) := by omega
          have hi2 : wr .i64 ((i : Int) + 1) = ((i + 1 : Nat) : Int) := by rw [wr_i64 (by omega) (by omega)]; omega
          simp only [t47_6, W, spanK_u, decide_eq_true_eq, Bool.not_eq_true', decide_eq_false_iff_not, Bool.false_eq_true, Bool.not_true, Bool.not_false, decide_true, decide_false, not_true_eq_false, not_false_eq_true, and_true, true_and, and_false, false_and, ne_eq, Nat.zero_add, Nat.add_zero, cond_true, cond_false, ↓reduceIte, reduceCtorEq, Nat.reduceAdd, Int.reduceEq, Int.reduceNe, Int.reduceLT, Int.reduceLE, Int.reduceAdd, Int.reduceSub, Int.reduceMul, Int.reduceNeg, Nat.reduceMul, List.getElem?_cons_zero, List.getElem?_cons_succ, hw, hw2, hw3, hbd', hcn', hmul, hadd, hl, hbig']
          refine e47_5 ?_ hr
          simp only [t47_5, W, spanK_u, decide_eq_true_eq, Bool.not_eq_true', decide_eq_false_iff_not, Bool.false_eq_true, Bool.not_true, Bool.not_false, decide_true, decide_false, not_true_eq_false, not_false_eq_true, and_true, true_and, and_false, false_and, ne_eq, Nat.zero_add, Nat.add_zero, cond_true, cond_false, ↓reduceIte, reduceCtorEq, Nat.reduceAdd, Int.reduceEq, Int.reduceNe, Int.reduceLT, Int.reduceLE, Int.reduceAdd, Int.reduceSub, Int.reduceMul, Int.reduceNeg, Nat.reduceMul, List.getElem?_cons_zero, List.getElem?_cons_succ, hi2]
          exact next hbig
      · have hbig : maxV < n * base + d := by omega
        have hadd : wr .u64 (((n * base : Nat) : Int) + ((d : Nat) : Int)) = ((n * base + d - 18446744073709551616 : Nat) : Int) := by
          rw [wr_eq, IntKind.wrap_u64]; omega
        have hl : ((n * base + d - 18446744073709551616 : Nat) : Int) < ((n * base : Nat) : Int) := by omega
        simp only [t47_6, W, spanK_u, decide_eq_true_eq, Bool.not_eq_true', decide_eq_false_iff_not, Bool.false_eq_true, Bool.not_true, Bool.not_false, decide_true, decide_false, not_true_eq_false, not_false_eq_true, and_true, true_and, and_false, false_and, ne_eq, Nat.zero_add, Nat.add_zero, cond_true, cond_false, ↓reduceIte, reduceCtorEq, Nat.reduceAdd, Int.reduceEq, Int.reduceNe, Int.reduceLT, Int.reduceLE, Int.reduceAdd, Int.reduceSub, Int.reduceMul, Int.reduceNeg, Nat.reduceMul, List.getElem?_cons_zero, List.getElem?_cons_succ, hw, hw2, hw3, hbd', hcn', hmul, hadd, hl, e2 hbig, errI]
theorem pu_loop {T : Tab} (pt : PT T) {h : H} (g : Gd h) {maxV base cut : Nat} {s0 : IV} {b : Nat} {l : Bs} (c : Cs h b true true (bys l)) (hb : base = 10 ∨ base = 16) (h1 : maxV < cut * base) (h2 : ∀ k, k < cut → k * base < 18446744073709551616) (hm : maxV < 18446744073709551616) (hc : cut < 18446744073709551616) (hl : l.length ≤ 1099511627776) :
    ∀ (k i n : Nat), i + k = l.length → n ≤ maxV → J47 T 4 [.int .i64 (base : Nat), .bool false, s0, .int .u64 (cut : Nat), .int .u64 (maxV : Nat), .bool false, .int .u64 (n : Nat), .slice b 0 l.length 1, .int .i64 (l.length : Nat), .int .i64 (i : Nat)] h
      = .ok (.tup [.int .u64 ((puV maxV base n (l.drop i)).1 : Nat), errI (puV maxV base n (l.drop i)).2]) h := by
  intro k
  induction k with
  | zero =>
    intro i n hi hn
    have hd : l.drop i = [] := List.drop_of_length_le (by omega)
    rw [hd]
    refine e47_4 ?_ (by simp)
    have hlt : ¬ ((i : Nat) : Int) < (l.length : Nat) := by omega
    simp only [t47_4, W, spanK_u, decide_eq_true_eq, Bool.not_eq_true', decide_eq_false_iff_not, Bool.false_eq_true, Bool.not_true, Bool.not_false, decide_true, decide_false, not_true_eq_false, not_false_eq_true, and_true, true_and, and_false, false_and, ne_eq, Nat.zero_add, Nat.add_zero, cond_true, cond_false, ↓reduceIte, reduceCtorEq, Nat.reduceAdd, Int.reduceEq, Int.reduceNe, Int.reduceLT, Int.reduceLE, Int.reduceAdd, Int.reduceSub, Int.reduceMul, Int.reduceNeg, Nat.reduceMul, List.getElem?_cons_zero, List.getElem?_cons_succ, hlt, puV, errI]
  | succ k ih =>
    intro i n hi hn
    have hil : i < l.length := by omega
    have hlt : ((i : Nat) : Int) < (l.length : Nat) := by omega
    rw [List.drop_eq_getElem_cons hil]
    generalize hx : l[i] = x
    have eld : I.ld0 h (.ptr b i) = some (.int .u8 (x.toNat : Nat)) := by rw [c.ld0, bys_at l i hil, hx]
    have hxl := x.toNat_lt
    refine e47_4 ?_ (by simp)
    have key := fun (d : Nat) (hd : d < 256) (e : digV x = d ∨ (base ≤ digV x ∧ base ≤ d)) => pu_step pt (s0 := s0) (b := b) (len := l.length) (i := i) g hb h1 h2 hm hn hc (by omega) d hd (r := .ok (.tup [.int .u64 ((puV maxV base n (x :: l.drop (i + 1))).1 : Nat), errI (puV maxV base n (x :: l.drop (i + 1))).2]) h) (by simp)
      (fun q1 q2 => by
        have : digV x = d := by omega
        rw [ih (i + 1) (n * base + d) (by omega) (by omega)]
        simp only [puV, this, q1, q2, if_false])
      (fun q1 => by
        have : base ≤ digV x := by omega
        simp only [puV, this, if_true]; rfl)
      (fun q1 q2 => by
        have : digV x = d := by omega
        simp only [puV, this, q1, q2, if_true, if_false])
    by_cases h95 : x.toNat = 95
    · have h95' : ((x.toNat : Nat) : Int) = 95 := by omega
      have e127 : (x.toNat ||| 32) = 127 := by rw [h95]; rfl
      have q57' : ¬ ((x.toNat : Nat) : Int) ≤ 57 := by omega
      have q48' : (48 : Int) ≤ (x.toNat : Nat) := by omega
      have q97' : (97 : Int) ≤ ((127 : Nat) : Int) := by omega
      have q122' : ¬ ((127 : Nat) : Int) ≤ 122 := by omega
      have hdv : base ≤ digV x := by
        have nd : ¬ (48 ≤ x.toNat ∧ x.toNat ≤ 57) := by omega
        have n2 : ¬ (97 ≤ 127 ∧ 127 ≤ 122) := by omega
        simp only [digV, nd, e127, n2, if_false]; omega
      have hp : puV maxV base n (x :: l.drop (i + 1)) = (0, 2) := by simp only [puV, hdv, if_true]
      have lo := lower pt g x
      rw [e127] at lo
      simp only [t47_4, W, spanK_u, decide_eq_true_eq, Bool.not_eq_true', decide_eq_false_iff_not, Bool.false_eq_true, Bool.not_true, Bool.not_false, decide_true, decide_false, not_true_eq_false, not_false_eq_true, and_true, true_and, and_false, false_and, ne_eq, Nat.zero_add, Nat.add_zero, cond_true, cond_false, ↓reduceIte, reduceCtorEq, Nat.reduceAdd, Int.reduceEq, Int.reduceNe, Int.reduceLT, Int.reduceLE, Int.reduceAdd, Int.reduceSub, Int.reduceMul, Int.reduceNeg, Nat.reduceMul, List.getElem?_cons_zero, List.getElem?_cons_succ, hlt, ixS_byte hil, eld, h95', Int.reduceLE, hp, errI]
      rw [h95'] at lo
      simp only [lo, W, spanK_u, decide_eq_true_eq, Bool.not_eq_true', decide_eq_false_iff_not, Bool.false_eq_true, Bool.not_true, Bool.not_false, decide_true, decide_false, not_true_eq_false, not_false_eq_true, and_true, true_and, and_false, false_and, ne_eq, Nat.zero_add, Nat.add_zero, cond_true, cond_false, ↓reduceIte, reduceCtorEq, Nat.reduceAdd, Int.reduceEq, Int.reduceNe, Int.reduceLT, Int.reduceLE, Int.reduceAdd, Int.reduceSub, Int.reduceMul, Int.reduceNeg, Nat.reduceMul, List.getElem?_cons_zero, List.getElem?_cons_succ, q97', q122']
      rfl
    have h95 : ¬ (((x.toNat : Nat) : Int) = 95) := by omega
    by_cases q48 : 48 ≤ x.toNat
    · have q48' : (48 : Int) ≤ (x.toNat : Nat) := by omega
      by_cases q57 : x.toNat ≤ 57
      · have q57' : ((x.toNat : Nat) : Int) ≤ 57 := by omega
        have hw : wr .u8 (((x.toNat : Nat) : Int) - 48) = ((x.toNat - 48 : Nat) : Int) := by rw [wr_u8 (by omega) (by omega)]; omega
        have hd := key (x.toNat - 48) (by omega) (.inl (by simp only [digV, q48, q57, and_self, if_true]))
        simp only [t47_4, W, spanK_u, decide_eq_true_eq, Bool.not_eq_true', decide_eq_false_iff_not, Bool.false_eq_true, Bool.not_true, Bool.not_false, decide_true, decide_false, not_true_eq_false, not_false_eq_true, and_true, true_and, and_false, false_and, ne_eq, Nat.zero_add, Nat.add_zero, cond_true, cond_false, ↓reduceIte, reduceCtorEq, Nat.reduceAdd, Int.reduceEq, Int.reduceNe, Int.reduceLT, Int.reduceLE, Int.reduceAdd, Int.reduceSub, Int.reduceMul, Int.reduceNeg, Nat.reduceMul, List.getElem?_cons_zero, List.getElem?_cons_succ, hlt, ixS_byte hil, eld, h95, q48', q57', hw]
        exact hd
      · have q57' : ¬ ((x.toNat : Nat) : Int) ≤ 57 := by omega
        have nd : ¬ (48 ≤ x.toNat ∧ x.toNat ≤ 57) := by omega
        by_cases q97 : 97 ≤ (x.toNat ||| 32)
        · have q97' : (97 : Int) ≤ ((x.toNat ||| 32 : Nat) : Int) := by omega
          by_cases q122 : (x.toNat ||| 32) ≤ 122
          · have q122' : ((x.toNat ||| 32 : Nat) : Int) ≤ 122 := by omega
            have hw : wr .u8 (((x.toNat ||| 32 : Nat) : Int) - 97) = ((x.toNat ||| 32) - 97 : Nat) := by rw [wr_u8 (by omega) (by omega)]; omega
            have hw2 : wr .u8 ((((x.toNat ||| 32) - 97 : Nat) : Int) + 10) = (((x.toNat ||| 32) - 97 + 10 : Nat) : Int) := by rw [wr_u8 (by omega) (by omega)]; omega
            have hd := key ((x.toNat ||| 32) - 97 + 10) (by omega) (.inl (by simp only [digV, nd, q97, q122, and_self, if_true, if_false]))
            simp only [t47_4, W, spanK_u, decide_eq_true_eq, Bool.not_eq_true', decide_eq_false_iff_not, Bool.false_eq_true, Bool.not_true, Bool.not_false, decide_true, decide_false, not_true_eq_false, not_false_eq_true, and_true, true_and, and_false, false_and, ne_eq, Nat.zero_add, Nat.add_zero, cond_true, cond_false, ↓reduceIte, reduceCtorEq, Nat.reduceAdd, Int.reduceEq, Int.reduceNe, Int.reduceLT, Int.reduceLE, Int.reduceAdd, Int.reduceSub, Int.reduceMul, Int.reduceNeg, Nat.reduceMul, List.getElem?_cons_zero, List.getElem?_cons_succ, hlt, ixS_byte hil, eld, h95, q48', q57', lower pt g x, q97', q122', hw, hw2]
            exact hd
          · have q122' : ¬ ((x.toNat ||| 32 : Nat) : Int) ≤ 122 := by omega
            have hdv : base ≤ digV x := by simp only [digV, nd, q97, q122, and_false, if_false]; omega
            have hp : puV maxV base n (x :: l.drop (i + 1)) = (0, 2) := by simp only [puV, hdv, if_true]
            simp only [t47_4, W, spanK_u, decide_eq_true_eq, Bool.not_eq_true', decide_eq_false_iff_not, Bool.false_eq_true, Bool.not_true, Bool.not_false, decide_true, decide_false, not_true_eq_false, not_false_eq_true, and_true, true_and, and_false, false_and, ne_eq, Nat.zero_add, Nat.add_zero, cond_true, cond_false, ↓reduceIte, reduceCtorEq, Nat.reduceAdd, Int.reduceEq, Int.reduceNe, Int.reduceLT, Int.reduceLE, Int.reduceAdd, Int.reduceSub, Int.reduceMul, Int.reduceNeg, Nat.reduceMul, List.getElem?_cons_zero, List.getElem?_cons_succ, hlt, ixS_byte hil, eld, h95, q48', q57', lower pt g x, q97', q122', hp, errI]
            rfl
        · have q97' : ¬ (97 : Int) ≤ ((x.toNat ||| 32 : Nat) : Int) := by omega
          have hdv : base ≤ digV x := by simp only [digV, nd, q97, false_and, if_false]; omega
          have hp : puV maxV base n (x :: l.drop (i + 1)) = (0, 2) := by simp only [puV, hdv, if_true]
          simp only [t47_4, W, spanK_u, decide_eq_true_eq, Bool.not_eq_true', decide_eq_false_iff_not, Bool.false_eq_true, Bool.not_true, Bool.not_false, decide_true, decide_false, not_true_eq_false, not_false_eq_true, and_true, true_and, and_false, false_and, ne_eq, Nat.zero_add, Nat.add_zero, cond_true, cond_false, ↓reduceIte, reduceCtorEq, Nat.reduceAdd, Int.reduceEq, Int.reduceNe, Int.reduceLT, Int.reduceLE, Int.reduceAdd, Int.reduceSub, Int.reduceMul, Int.reduceNeg, Nat.reduceMul, List.getElem?_cons_zero, List.getElem?_cons_succ, hlt, ixS_byte hil, eld, h95, q48', q57', lower pt g x, q97', hp, errI]
          rfl
    · have q48' : ¬ (48 : Int) ≤ (x.toNat : Nat) := by omega
      have nd : ¬ (48 ≤ x.toNat ∧ x.toNat ≤ 57) := by omega
      have hor : (x.toNat ||| 32) < 97 := by
        have key : ∀ n : Fin 256, n.val < 48 → (n.val ||| 32) < 97 := by decide +kernel
        exact key ⟨x.toNat, x.toNat_lt⟩ (by show x.toNat < 48; omega)
      have q97' : ¬ (97 : Int) ≤ ((x.toNat ||| 32 : Nat) : Int) := by omega
      have hdv : base ≤ digV x := by
        have : ¬ 97 ≤ (x.toNat ||| 32) := by omega
        simp only [digV, nd, this, false_and, if_false]; omega
      have hp : puV maxV base n (x :: l.drop (i + 1)) = (0, 2) := by simp only [puV, hdv, if_true]
      simp only [t47_4, W, spanK_u, decide_eq_true_eq, Bool.not_eq_true', decide_eq_false_iff_not, Bool.false_eq_true, Bool.not_true, Bool.not_false, decide_true, decide_false, not_true_eq_false, not_false_eq_true, and_true, true_and, and_false, false_and, ne_eq, Nat.zero_add, Nat.add_zero, cond_true, cond_false, ↓reduceIte, reduceCtorEq, Nat.reduceAdd, Int.reduceEq, Int.reduceNe, Int.reduceLT, Int.reduceLE, Int.reduceAdd, Int.reduceSub, Int.reduceMul, Int.reduceNeg, Nat.reduceMul, List.getElem?_cons_zero, List.getElem?_cons_succ, hlt, ixS_byte hil, eld, h95, q48', lower pt g x, q97', hp, errI]
      rfl

/-- strconv.ParseUint of a base 10 or 16, so many bits -/
def puF (base bits : Nat) (s : Bs) : Nat × Int := if s = [] then (0, 2) else puV (2 ^ bits - 1) base 0 s
theorem parse47 {T : Tab} (pt : PT T) {h : H} (g : Gd h) (s : Bs) (base bits : Nat) (hb : base = 10 ∨ base = 16) (hbits : bits = 62 ∨ bits = 8) (hs : s.length ≤ 1099511627776) : ∃ h', CL T 47 [sv s, .int .i64 (base : Nat), .int .i64 (bits : Nat)] h = .ok (.tup [.int .u64 ((puF base bits s).1 : Nat), errI (puF base bits s).2]) h' ∧ Ky h h' := by
  by_cases h0 : s = []
  · subst h0
    refine ⟨h, c47 pt.step pt.o47 (pt.pol _) g ?_ (by simp), .refl g⟩
    simp only [t47_0, sv0, W, spanK_u, decide_eq_true_eq, Bool.not_eq_true', decide_eq_false_iff_not, Bool.false_eq_true, Bool.not_true, Bool.not_false, decide_true, decide_false, not_true_eq_false, not_false_eq_true, and_true, true_and, and_false, false_and, ne_eq, Nat.zero_add, Nat.add_zero, cond_true, cond_false, ↓reduceIte, reduceCtorEq, Nat.reduceAdd, Int.reduceEq, Int.reduceNe, Int.reduceLT, Int.reduceLE, Int.reduceAdd, Int.reduceSub, Int.reduceMul, Int.reduceNeg, Nat.reduceMul, List.getElem?_cons_zero, List.getElem?_cons_succ, puF, errI]
    rfl
  · obtain ⟨h', e1, x, c⟩ := cvB_ky g s
    have p0 : ¬ ((base : Nat) : Int) = 0 := by omega
    have p1 : (2 : Int) ≤ (base : Nat) := by omega
    have p2 : ((base : Nat) : Int) ≤ 36 := by omega
    have q0 : ¬ ((bits : Nat) : Int) = 0 := by omega
    have q1 : ¬ ((bits : Nat) : Int) < 0 := by omega
    have q2 : ¬ (64 : Int) < ((bits : Nat) : Int) := by omega
    have hw : wr .u64 ((bits : Nat) : Int) = (bits : Nat) := wr_u64' (by omega)
    have hsh : binN .shl (.int .u64 1) (.int .u64 ((bits : Nat) : Int)) = some (.int .u64 ((2 ^ bits : Nat) : Int)) := by
      rw [binN_shl .u64 .u64 1 _ (by omega)]
      rcases hbits with rfl | rfl <;> rfl
    have hsub : wr .u64 (((2 ^ bits : Nat) : Int) - 1) = ((2 ^ bits - 1 : Nat) : Int) := by rcases hbits with rfl | rfl <;> rfl
    refine ⟨h', c47 pt.step pt.o47 (pt.pol _) g ?_ (by simp), x⟩
    simp only [t47_0, sv0, W, spanK_u, decide_eq_true_eq, Bool.not_eq_true', decide_eq_false_iff_not, Bool.false_eq_true, Bool.not_true, Bool.not_false, decide_true, decide_false, not_true_eq_false, not_false_eq_true, and_true, true_and, and_false, false_and, ne_eq, Nat.zero_add, Nat.add_zero, cond_true, cond_false, ↓reduceIte, reduceCtorEq, Nat.reduceAdd, Int.reduceEq, Int.reduceNe, Int.reduceLT, Int.reduceLE, Int.reduceAdd, Int.reduceSub, Int.reduceMul, Int.reduceNeg, Nat.reduceMul, List.getElem?_cons_zero, List.getElem?_cons_succ, h0, p0, p1, p2]
    refine e47_1 ?_ (by simp)
    simp only [t47_1, W, spanK_u, decide_eq_true_eq, Bool.not_eq_true', decide_eq_false_iff_not, Bool.false_eq_true, Bool.not_true, Bool.not_false, decide_true, decide_false, not_true_eq_false, not_false_eq_true, and_true, true_and, and_false, false_and, ne_eq, Nat.zero_add, Nat.add_zero, cond_true, cond_false, ↓reduceIte, reduceCtorEq, Nat.reduceAdd, Int.reduceEq, Int.reduceNe, Int.reduceLT, Int.reduceLE, Int.reduceAdd, Int.reduceSub, Int.reduceMul, Int.reduceNeg, Nat.reduceMul, List.getElem?_cons_zero, List.getElem?_cons_succ, q0, q1, q2]
    refine e47_2 ?_ (by simp)
    have fin : ∀ cut : Nat, 2 ^ bits - 1 < cut * base → (∀ k, k < cut → k * base < 18446744073709551616) → cut < 18446744073709551616 → J47 T 3 [sv s, .int .i64 (base : Nat), .int .i64 (bits : Nat), .bool false, sv s, .int .u64 (cut : Nat)] h = .ok (.tup [.int .u64 ((puF base bits s).1 : Nat), errI (puF base bits s).2]) h' := by
      intro cut w1 w2 w3
      refine e47_3 ?_ (by simp)
      have hm : 2 ^ bits - 1 < 18446744073709551616 := by rcases hbits with rfl | rfl <;> decide
      have := pu_loop pt (s0 := sv s) x.gd c hb w1 w2 hm w3 hs s.length 0 0 (by omega) (by omega)
      simp only [t47_3, W, spanK_u, decide_eq_true_eq, Bool.not_eq_true', decide_eq_false_iff_not, Bool.false_eq_true, Bool.not_true, Bool.not_false, decide_true, decide_false, not_true_eq_false, not_false_eq_true, and_true, true_and, and_false, false_and, ne_eq, Nat.zero_add, Nat.add_zero, cond_true, cond_false, ↓reduceIte, reduceCtorEq, Nat.reduceAdd, Int.reduceEq, Int.reduceNe, Int.reduceLT, Int.reduceLE, Int.reduceAdd, Int.reduceSub, Int.reduceMul, Int.reduceNeg, Nat.reduceMul, List.getElem?_cons_zero, List.getElem?_cons_succ, hw, hsh, hsub, e1, lenS, puF, h0]
      exact this
    rcases hb with rfl | rfl
    · simp only [t47_2, W, spanK_u, decide_eq_true_eq, Bool.not_eq_true', decide_eq_false_iff_not, Bool.false_eq_true, Bool.not_true, Bool.not_false, decide_true, decide_false, not_true_eq_false, not_false_eq_true, and_true, true_and, and_false, false_and, ne_eq, Nat.zero_add, Nat.add_zero, cond_true, cond_false, ↓reduceIte, reduceCtorEq, Nat.reduceAdd, Int.reduceEq, Int.reduceNe, Int.reduceLT, Int.reduceLE, Int.reduceAdd, Int.reduceSub, Int.reduceMul, Int.reduceNeg, Nat.reduceMul, List.getElem?_cons_zero, List.getElem?_cons_succ, Int.cast_ofNat_Int]
      exact fin 1844674407370955162 (by rcases hbits with rfl | rfl <;> decide) (fun k hk => by omega) (by decide)
    · simp only [t47_2, W, spanK_u, decide_eq_true_eq, Bool.not_eq_true', decide_eq_false_iff_not, Bool.false_eq_true, Bool.not_true, Bool.not_false, decide_true, decide_false, not_true_eq_false, not_false_eq_true, and_true, true_and, and_false, false_and, ne_eq, Nat.zero_add, Nat.add_zero, cond_true, cond_false, ↓reduceIte, reduceCtorEq, Nat.reduceAdd, Int.reduceEq, Int.reduceNe, Int.reduceLT, Int.reduceLE, Int.reduceAdd, Int.reduceSub, Int.reduceMul, Int.reduceNeg, Nat.reduceMul, List.getElem?_cons_zero, List.getElem?_cons_succ, Int.cast_ofNat_Int]
      exact fin 1152921504606846976 (by rcases hbits with rfl | rfl <;> decide) (fun k hk => by omega) (by decide)
/-- strconv.ParseUint: the number, or a new error -/
theorem parse29 {T : Tab} (pt : PT T) {h : H} (g : Gd h) (s : Bs) (base bits : Nat) (hb : base = 10 ∨ base = 16) (hbits : bits = 62 ∨ bits = 8) (hs : s.length ≤ 1099511627776) : ∃ h' ev, CL T 29 [sv s, .int .i64 (base : Nat), .int .i64 (bits : Nat)] h = .ok (.tup [.int .u64 ((puF base bits s).1 : Nat), ev]) h' ∧ Ky h h' ∧ ((puF base bits s).2 = 0 ∧ ev = .nilIface ∨ (puF base bits s).2 ≠ 0 ∧ ∃ t v, ev = .iface t v) := by
  obtain ⟨h', e, x⟩ := parse47 pt g s base bits hb hbits hs
  have he : (puF base bits s).2 = 0 ∨ (puF base bits s).2 = 1 ∨ (puF base bits s).2 = 2 := by
    have key : ∀ (m b : Nat) (l : Bs) (n : Nat), (puV m b n l).2 = 0 ∨ (puV m b n l).2 = 1 ∨ (puV m b n l).2 = 2 := by
      intro m b l
      induction l with
      | nil => intro n; exact .inl rfl
      | cons c l ih =>
        intro n
        unfold puV
        split
        · exact .inr (.inr rfl)
        · split
          · exact .inr (.inl rfl)
          · exact ih _
    unfold puF
    split
    · exact .inr (.inr rfl)
    · exact key _ _ _ _
  by_cases h0 : (puF base bits s).2 = 0
  · refine ⟨h', .nilIface, c29 pt.step pt.o29 (pt.pol _) g ?_ (by simp), x, .inl ⟨h0, rfl⟩⟩
    simp only [t29_0, e, W, spanK_u, decide_eq_true_eq, Bool.not_eq_true', decide_eq_false_iff_not, Bool.false_eq_true, Bool.not_true, Bool.not_false, decide_true, decide_false, not_true_eq_false, not_false_eq_true, and_true, true_and, and_false, false_and, ne_eq, Nat.zero_add, Nat.add_zero, cond_true, cond_false, ↓reduceIte, reduceCtorEq, Nat.reduceAdd, Int.reduceEq, Int.reduceNe, Int.reduceLT, Int.reduceLE, Int.reduceAdd, Int.reduceSub, Int.reduceMul, Int.reduceNeg, Nat.reduceMul, List.getElem?_cons_zero, List.getElem?_cons_succ, errI, h0]
  · have q : CL T 48 [.str ⟨9, 2147778296661251613008⟩, sv s, .int .i64 (base : Nat), .int .i64 (bits : Nat), .iface 95 (.int .i64 (puF base bits s).2)] h' = .ok (.iface (lay17_ren.t 39) (.ptr h'.next 0)) h'.skip := by
      refine call_tab (g := toErrI) pt.o48 ?_ (by simp)
      simp only [toErrI, sv]
      rw [if_pos ⟨rfl, by omega, by omega⟩]
    refine ⟨h'.skip, .iface (lay17_ren.t 39) (.ptr h'.next 0), c29 pt.step pt.o29 (pt.pol _) g ?_ (by simp), x.skip, .inr ⟨h0, _, _, rfl⟩⟩
    simp only [t29_0, e, W, spanK_u, decide_eq_true_eq, Bool.not_eq_true', decide_eq_false_iff_not, Bool.false_eq_true, Bool.not_true, Bool.not_false, decide_true, decide_false, not_true_eq_false, not_false_eq_true, and_true, true_and, and_false, false_and, ne_eq, Nat.zero_add, Nat.add_zero, cond_true, cond_false, ↓reduceIte, reduceCtorEq, Nat.reduceAdd, Int.reduceEq, Int.reduceNe, Int.reduceLT, Int.reduceLE, Int.reduceAdd, Int.reduceSub, Int.reduceMul, Int.reduceNeg, Nat.reduceMul, List.getElem?_cons_zero, List.getElem?_cons_succ, errI, h0]
    simp only [q, W, spanK_u, decide_eq_true_eq, Bool.not_eq_true', decide_eq_false_iff_not, Bool.false_eq_true, Bool.not_true, Bool.not_false, decide_true, decide_false, not_true_eq_false, not_false_eq_true, and_true, true_and, and_false, false_and, ne_eq, Nat.zero_add, Nat.add_zero, cond_true, cond_false, ↓reduceIte, reduceCtorEq, Nat.reduceAdd, Int.reduceEq, Int.reduceNe, Int.reduceLT, Int.reduceLE, Int.reduceAdd, Int.reduceSub, Int.reduceMul, Int.reduceNeg, Nat.reduceMul, List.getElem?_cons_zero, List.getElem?_cons_succ]

/-! ### decimal numbers, up to a highest one -/
def decF (s : Bs) (most : Int) : Option Nat := if (puF 10 62 s).2 = 0 ∧ (((puF 10 62 s).1 : Nat) : Int) ≤ most then some (puF 10 62 s).1 else none
theorem puV_le {m b : Nat} : ∀ (l : Bs) (n : Nat), n ≤ m → (puV m b n l).1 ≤ m
  | [], n, h => h
  | c :: l, n, h => by
    unfold puV
    split
    · exact Nat.zero_le _
    · split
      · exact Nat.le_refl _
      · exact puV_le l _ (by omega)
theorem puF_le (b k : Nat) (s : Bs) : (puF b k s).1 ≤ 2 ^ k - 1 := by
  unfold puF
  split
  · exact Nat.zero_le _
  · exact puV_le s 0 (Nat.zero_le _)
theorem decimal16 {h : H} (g : Gd h) (s : Bs) (most : Int) (hs : s.length ≤ 1099511627776) : ∃ h', CL tab0 16 [sv s, .int .i64 most] h = .ok (.tup [.int .i64 ((puF 10 62 s).1 : Nat), .bool (decF s most).isSome]) h' := by
  obtain ⟨h', ev, e, k', hev⟩ := parse29 pt0 g s 10 62 (.inl rfl) (.inl rfl) hs
  have hle := puF_le 10 62 s
  have hw : wr .i64 (((puF 10 62 s).1 : Nat) : Int) = ((puF 10 62 s).1 : Nat) := wr_i64 (by omega) (by omega)
  refine ⟨h', c16 good0.step rfl rfl g ?_ (by simp)⟩
  simp only [Int.cast_ofNat_Int] at e
  rcases hev with ⟨h0, rfl⟩ | ⟨h0, t, v, rfl⟩
  · have hne : s ≠ [] := by
      rintro rfl
      exact absurd h0 (by decide)
    obtain ⟨c, l, rfl⟩ := List.exists_cons_of_ne_nil hne
    have hc : ¬ (((c.toNat : Nat) : Int) = 43) := by
      intro hc
      have : c = 43 := UInt8.toNat_inj.1 (by show c.toNat = 43; omega)
      subst this
      have : (puF 10 62 (43 :: l)).2 = 2 := by unfold puF puV; rfl
      omega
    simp only [t16_0, e, W, spanK_u, decide_eq_true_eq, Bool.not_eq_true', decide_eq_false_iff_not, Bool.false_eq_true, Bool.not_true, Bool.not_false, decide_true, decide_false, not_true_eq_false, not_false_eq_true, and_true, true_and, and_false, false_and, ne_eq, Nat.zero_add, Nat.add_zero, cond_true, cond_false, ↓reduceIte, reduceCtorEq, Nat.reduceAdd, Int.reduceEq, Int.reduceNe, Int.reduceLT, Int.reduceLE, Int.reduceAdd, Int.reduceSub, Int.reduceMul, Int.reduceNeg, Nat.reduceMul, List.getElem?_cons_zero, List.getElem?_cons_succ, hw]
    rw [ixStr_sv _ _ (by omega) (by simp)]
    by_cases hm : (((puF 10 62 (c :: l)).1 : Nat) : Int) ≤ most
    · simp only [W, spanK_u, decide_eq_true_eq, Bool.not_eq_true', decide_eq_false_iff_not, Bool.false_eq_true, Bool.not_true, Bool.not_false, decide_true, decide_false, not_true_eq_false, not_false_eq_true, and_true, true_and, and_false, false_and, ne_eq, Nat.zero_add, Nat.add_zero, cond_true, cond_false, ↓reduceIte, reduceCtorEq, Nat.reduceAdd, Int.reduceEq, Int.reduceNe, Int.reduceLT, Int.reduceLE, Int.reduceAdd, Int.reduceSub, Int.reduceMul, Int.reduceNeg, Nat.reduceMul, List.getElem?_cons_zero, List.getElem?_cons_succ, Int.toNat_zero, List.getElem_cons_zero, hc, hm, decF, h0, and_self, Option.isSome_some]
    · simp only [W, spanK_u, decide_eq_true_eq, Bool.not_eq_true', decide_eq_false_iff_not, Bool.false_eq_true, Bool.not_true, Bool.not_false, decide_true, decide_false, not_true_eq_false, not_false_eq_true, and_true, true_and, and_false, false_and, ne_eq, Nat.zero_add, Nat.add_zero, cond_true, cond_false, ↓reduceIte, reduceCtorEq, Nat.reduceAdd, Int.reduceEq, Int.reduceNe, Int.reduceLT, Int.reduceLE, Int.reduceAdd, Int.reduceSub, Int.reduceMul, Int.reduceNeg, Nat.reduceMul, List.getElem?_cons_zero, List.getElem?_cons_succ, Int.toNat_zero, List.getElem_cons_zero, hc, hm, decF, h0, and_false, Option.isSome_none]
  · simp only [t16_0, e, W, spanK_u, decide_eq_true_eq, Bool.not_eq_true', decide_eq_false_iff_not, Bool.false_eq_true, Bool.not_true, Bool.not_false, decide_true, decide_false, not_true_eq_false, not_false_eq_true, and_true, true_and, and_false, false_and, ne_eq, Nat.zero_add, Nat.add_zero, cond_true, cond_false, ↓reduceIte, reduceCtorEq, Nat.reduceAdd, Int.reduceEq, Int.reduceNe, Int.reduceLT, Int.reduceLE, Int.reduceAdd, Int.reduceSub, Int.reduceMul, Int.reduceNeg, Nat.reduceMul, List.getElem?_cons_zero, List.getElem?_cons_succ, hw, decF, h0, Option.isSome_none]
def decV (s : Bs) (most : Int) : Option IV := if s.length ≤ 1099511627776 then some (.tup [.int .i64 ((puF 10 62 s).1 : Nat), .bool (decF s most).isSome]) else none
theorem tDec : PureT Tryd.prog (CL tab0) 16 (fn2 dS dI decV) := pure2 Tryd.func16 rfl fun s m v e => by
  unfold decV at e
  split at e
  · rename_i hs
    injection e with e; subst e
    exact ⟨rfl, decimal16 gd0 s m hs⟩
  · cases e

/-! ### a number without noughts ahead -/
def plainF (s : Bs) : Bool := decide (s = [48]) || (decide (s ≠ []) && decide (s.head? ≠ some 48) && decide (s.length ≤ 10))
theorem plain15 {h : H} (g : Gd h) (s : Bs) : CL tab0 15 [sv s] h = .ok (.bool (plainF s)) h := by
  refine c15 good0.step rfl rfl g ?_ (by simp)
  by_cases h1 : s = [48]
  · subst h1; rfl
  · cases s with
    | nil => rfl
    | cons c l =>
      have hc : (((c.toNat : Nat) : Int) = 48) = (c = 48) := u8_eq c 48 (by decide)
      by_cases h2 : c = 48
      · simp only [t15_0, str48, sv0, W, spanK_u, decide_eq_true_eq, Bool.not_eq_true', decide_eq_false_iff_not, Bool.false_eq_true, Bool.not_true, Bool.not_false, decide_true, decide_false, not_true_eq_false, not_false_eq_true, and_true, true_and, and_false, false_and, ne_eq, Nat.zero_add, Nat.add_zero, cond_true, cond_false, ↓reduceIte, reduceCtorEq, Nat.reduceAdd, Int.reduceEq, Int.reduceNe, Int.reduceLT, Int.reduceLE, Int.reduceAdd, Int.reduceSub, Int.reduceMul, Int.reduceNeg, Nat.reduceMul, List.getElem?_cons_zero, List.getElem?_cons_succ, h1, List.cons_ne_nil]
        rw [ixStr_sv _ _ (by omega) (by simp)]
        simp only [W, spanK_u, decide_eq_true_eq, Bool.not_eq_true', decide_eq_false_iff_not, Bool.false_eq_true, Bool.not_true, Bool.not_false, decide_true, decide_false, not_true_eq_false, not_false_eq_true, and_true, true_and, and_false, false_and, ne_eq, Nat.zero_add, Nat.add_zero, cond_true, cond_false, ↓reduceIte, reduceCtorEq, Nat.reduceAdd, Int.reduceEq, Int.reduceNe, Int.reduceLT, Int.reduceLE, Int.reduceAdd, Int.reduceSub, Int.reduceMul, Int.reduceNeg, Nat.reduceMul, List.getElem?_cons_zero, List.getElem?_cons_succ, Int.toNat_zero, List.getElem_cons_zero, hc, h2, plainF, h1, List.cons_ne_nil, List.head?_cons, Bool.false_or, Bool.and_false, Bool.false_and, Bool.or_false]
        simp only [h2] at h1
        simp only [h1, decide_false]
        rfl
      · by_cases h3 : ((List.length (c :: l) : Nat) : Int) ≤ 10
        · have h3' : (c :: l).length ≤ 10 := by omega
          simp only [t15_0, str48, sv0, W, spanK_u, decide_eq_true_eq, Bool.not_eq_true', decide_eq_false_iff_not, Bool.false_eq_true, Bool.not_true, Bool.not_false, decide_true, decide_false, not_true_eq_false, not_false_eq_true, and_true, true_and, and_false, false_and, ne_eq, Nat.zero_add, Nat.add_zero, cond_true, cond_false, ↓reduceIte, reduceCtorEq, Nat.reduceAdd, Int.reduceEq, Int.reduceNe, Int.reduceLT, Int.reduceLE, Int.reduceAdd, Int.reduceSub, Int.reduceMul, Int.reduceNeg, Nat.reduceMul, List.getElem?_cons_zero, List.getElem?_cons_succ, h1, List.cons_ne_nil]
          rw [ixStr_sv _ _ (by omega) (by simp)]
          simp only [W, spanK_u, decide_eq_true_eq, Bool.not_eq_true', decide_eq_false_iff_not, Bool.false_eq_true, Bool.not_true, Bool.not_false, decide_true, decide_false, not_true_eq_false, not_false_eq_true, and_true, true_and, and_false, false_and, ne_eq, Nat.zero_add, Nat.add_zero, cond_true, cond_false, ↓reduceIte, reduceCtorEq, Nat.reduceAdd, Int.reduceEq, Int.reduceNe, Int.reduceLT, Int.reduceLE, Int.reduceAdd, Int.reduceSub, Int.reduceMul, Int.reduceNeg, Nat.reduceMul, List.getElem?_cons_zero, List.getElem?_cons_succ, Int.toNat_zero, List.getElem_cons_zero, hc, h2, h3, plainF, h1, List.cons_ne_nil, List.head?_cons, Option.some.injEq, h3', Bool.and_self, Bool.or_true]
        · have h3' : ¬ (c :: l).length ≤ 10 := by omega
          simp only [t15_0, str48, sv0, W, spanK_u, decide_eq_true_eq, Bool.not_eq_true', decide_eq_false_iff_not, Bool.false_eq_true, Bool.not_true, Bool.not_false, decide_true, decide_false, not_true_eq_false, not_false_eq_true, and_true, true_and, and_false, false_and, ne_eq, Nat.zero_add, Nat.add_zero, cond_true, cond_false, ↓reduceIte, reduceCtorEq, Nat.reduceAdd, Int.reduceEq, Int.reduceNe, Int.reduceLT, Int.reduceLE, Int.reduceAdd, Int.reduceSub, Int.reduceMul, Int.reduceNeg, Nat.reduceMul, List.getElem?_cons_zero, List.getElem?_cons_succ, h1, List.cons_ne_nil]
          rw [ixStr_sv _ _ (by omega) (by simp)]
          simp only [W, spanK_u, decide_eq_true_eq, Bool.not_eq_true', decide_eq_false_iff_not, Bool.false_eq_true, Bool.not_true, Bool.not_false, decide_true, decide_false, not_true_eq_false, not_false_eq_true, and_true, true_and, and_false, false_and, ne_eq, Nat.zero_add, Nat.add_zero, cond_true, cond_false, ↓reduceIte, reduceCtorEq, Nat.reduceAdd, Int.reduceEq, Int.reduceNe, Int.reduceLT, Int.reduceLE, Int.reduceAdd, Int.reduceSub, Int.reduceMul, Int.reduceNeg, Nat.reduceMul, List.getElem?_cons_zero, List.getElem?_cons_succ, Int.toNat_zero, List.getElem_cons_zero, hc, h2, h3, plainF, h1, List.cons_ne_nil, List.head?_cons, Option.some.injEq, h3', Bool.and_false, Bool.or_false]
theorem tPlain : PureT Tryd.prog (CL tab0) 15 (fn1 dS fun s => some (.bool (plainF s))) := pure1 Tryd.func15 rfl fun s v e => by
  injection e with e; subst e
  exact ⟨rfl, _, plain15 gd0 s⟩

end Go.Proofs.YtfegkjmghbdogaaDoor

namespace Go.Proofs.YtfegkjmghbdogaaDoor
open Go I
set_option maxRecDepth 100000
set_option linter.unusedVariables false
set_option linter.unusedSimpArgs false

theorem mixed : Tryd.prog.follows .mixedOrders = true := Tryd.checked.mixed
noncomputable def tab1 : Tab := (((((tab0.add 14 (pureF (fn2 dS dS cutF))).add 36 (pureF (fn2 dS dS preF))).add 31 (pureF (fn2 dS dS trimF))).add 30 (pureF (fn2 dS dS trimLF))).add 16 (pureF (fn2 dS dI decV))).add 15 (pureF (fn1 dS fun s => some (.bool (plainF s))))
theorem good1 : GoodT Tryd.prog EP tab1 := good0.also envK mixed noNum (good0.also envK mixed noNum (good0.also envK mixed noNum (good0.also envK mixed noNum (good0.also envK mixed noNum (good0.also envK mixed noNum good0 tCut) tPre) tTrim) tTrimL) tDec) tPlain

/-! ### logic.Check -/
def checkM (l : Bs) : Bool := decide (1 ≤ l.length) && decide (l.length ≤ 256) && l.all isV
def checkF (l : Bs) : Option IV := some (.int .i64 (if checkM l = true then 0 else 10))
theorem tr4 {h : H} (l : Bs) (hl : l.length ≤ 1099511627776) : CL tab1 31 [sv l, .str ⟨4, 2054697264⟩] h = .ok (sv ((trimR isV l).dropWhile isV)) h :=
  call2 (A := dS) (B := dS) (a := l) (b := [48, 49, 120, 122]) rfl (by unfold trimF; rw [if_pos hl, if_neg (by decide), if_pos rfl]) h
theorem tCheck : PureT Tryd.prog (CL tab1) 32 (fn1 dS checkF) := pure1 Tryd.func32 rfl fun l v hv => by
  injection hv with hv; subst hv
  refine ⟨rfl, H0, ?_⟩
  show CL tab1 32 [sv l] H0 = _
  by_cases h1 : (l.length : Int) < 1
  · refine c32 good1.step rfl rfl gd0 ?_ (by simp)
    have : checkM l = false := by simp [checkM]; omega
    simp only [t32_0, W, spanK_u, decide_eq_true_eq, Bool.not_eq_true', decide_eq_false_iff_not, Bool.false_eq_true, Bool.not_true, Bool.not_false, decide_true, decide_false, not_true_eq_false, not_false_eq_true, and_true, true_and, and_false, false_and, ne_eq, Nat.zero_add, Nat.add_zero, cond_true, cond_false, ↓reduceIte, reduceCtorEq, Nat.reduceAdd, Int.reduceEq, Int.reduceNe, Int.reduceLT, Int.reduceLE, Int.reduceAdd, Int.reduceSub, Int.reduceMul, Int.reduceNeg, Nat.reduceMul, List.getElem?_cons_zero, List.getElem?_cons_succ, this, h1]
  · by_cases h2 : 256 < (l.length : Int)
    · refine c32 good1.step rfl rfl gd0 ?_ (by simp)
      have : checkM l = false := by simp [checkM]; omega
      simp only [t32_0, W, spanK_u, decide_eq_true_eq, Bool.not_eq_true', decide_eq_false_iff_not, Bool.false_eq_true, Bool.not_true, Bool.not_false, decide_true, decide_false, not_true_eq_false, not_false_eq_true, and_true, true_and, and_false, false_and, ne_eq, Nat.zero_add, Nat.add_zero, cond_true, cond_false, ↓reduceIte, reduceCtorEq, Nat.reduceAdd, Int.reduceEq, Int.reduceNe, Int.reduceLT, Int.reduceLE, Int.reduceAdd, Int.reduceSub, Int.reduceMul, Int.reduceNeg, Nat.reduceMul, List.getElem?_cons_zero, List.getElem?_cons_succ, this, h1, h2]
    · refine c32 good1.step rfl rfl gd0 ?_ (by simp)
      have h3 : checkM l = l.all isV := by simp [checkM]; omega
      simp only [t32_0, W, spanK_u, decide_eq_true_eq, Bool.not_eq_true', decide_eq_false_iff_not, Bool.false_eq_true, Bool.not_true, Bool.not_false, decide_true, decide_false, not_true_eq_false, not_false_eq_true, and_true, true_and, and_false, false_and, ne_eq, Nat.zero_add, Nat.add_zero, cond_true, cond_false, ↓reduceIte, reduceCtorEq, Nat.reduceAdd, Int.reduceEq, Int.reduceNe, Int.reduceLT, Int.reduceLE, Int.reduceAdd, Int.reduceSub, Int.reduceMul, Int.reduceNeg, Nat.reduceMul, List.getElem?_cons_zero, List.getElem?_cons_succ, h1, h2, tr4 l (by omega), sv0, trim_nil, h3]
      cases l.all isV <;> simp only [W, spanK_u, decide_eq_true_eq, Bool.not_eq_true', decide_eq_false_iff_not, Bool.false_eq_true, Bool.not_true, Bool.not_false, decide_true, decide_false, not_true_eq_false, not_false_eq_true, and_true, true_and, and_false, false_and, ne_eq, Nat.zero_add, Nat.add_zero, cond_true, cond_false, ↓reduceIte, reduceCtorEq, Nat.reduceAdd, Int.reduceEq, Int.reduceNe, Int.reduceLT, Int.reduceLE, Int.reduceAdd, Int.reduceSub, Int.reduceMul, Int.reduceNeg, Nat.reduceMul, List.getElem?_cons_zero, List.getElem?_cons_succ]

/-! ### logic.Of -/
def bitC (n : Nat) : UInt8 := UInt8.ofNat (48 + n % 2)
theorem bitC_nat (n : Nat) : (bitC n).toNat = 48 + n % 2 := UInt8.toNat_ofNat_of_lt' (by show 48 + n % 2 < 256; omega)
/-- a number's bits, the highest first -/
def ofF : Nat → Nat → Bs
  | _, 0 => []
  | n, w + 1 => ofF (n / 2) w ++ [bitC n]
theorem ofF_len : ∀ w n, (ofF n w).length = w
  | 0, n => rfl
  | w + 1, n => by simp only [ofF, List.length_append, ofF_len w, List.length_singleton]
theorem and_one (n : Nat) (h : n < 9223372036854775808) : IntKind.i64.wrap (BitVec.ofInt IntKind.i64.bits ((n : Nat) : Int) &&& BitVec.ofInt IntKind.i64.bits 1).toNat = ((n % 2 : Nat) : Int) := by
  have e : (BitVec.ofInt IntKind.i64.bits ((n : Nat) : Int) &&& BitVec.ofInt IntKind.i64.bits 1).toNat = n % 2 := by
    rw [BitVec.toNat_and]
    have h1 : (BitVec.ofInt IntKind.i64.bits ((n : Nat) : Int)).toNat = n := by
      show (BitVec.ofInt 64 ((n : Nat) : Int)).toNat = n
      rw [BitVec.ofInt_natCast, BitVec.toNat_ofNat]
      exact Nat.mod_eq_of_lt (by omega)
    have h2 : (BitVec.ofInt IntKind.i64.bits 1).toNat = 1 := rfl
    rw [h1, h2, Nat.and_one_is_mod]
  rw [e]
  rcases Nat.mod_two_eq_zero_or_one n with h | h <;> rw [h] <;> rfl
theorem of_loop {T : Tab} {fz : Bool} {b w : Nat} (hw : w ≤ 256) : ∀ (k n : Nat) (h : H) (l : Bs), k ≤ w → l.length = w → n < 9223372036854775808 → Cs h b true fz (bys l) →
    ∃ h', J17 T 1 [.int .i64 (n : Nat), .slice b 0 w 1, .int .i64 ((k : Int) - 1)] h = .ok (.tup [sv (ofF n k ++ l.drop k), .int .i64 0]) h' := by
  intro k
  induction k with
  | zero =>
    intro n h l hk hl hn c
    refine ⟨h, e17_1 ?_ (by simp)⟩
    have h0 : ¬ (0 : Int) ≤ ((0 : Nat) : Int) - 1 := by omega
    simp only [t17_1, W, spanK_u, decide_eq_true_eq, Bool.not_eq_true', decide_eq_false_iff_not, Bool.false_eq_true, Bool.not_true, Bool.not_false, decide_true, decide_false, not_true_eq_false, not_false_eq_true, and_true, true_and, and_false, false_and, ne_eq, Nat.zero_add, Nat.add_zero, cond_true, cond_false, ↓reduceIte, reduceCtorEq, Nat.reduceAdd, Int.reduceEq, Int.reduceNe, Int.reduceLT, Int.reduceLE, Int.reduceAdd, Int.reduceSub, Int.reduceMul, Int.reduceNeg, Nat.reduceMul, List.getElem?_cons_zero, List.getElem?_cons_succ, h0, cvS_all c hl.symm, ofF, List.drop_zero, List.nil_append]
  | succ k ih =>
    intro n h l hk hl hn c
    have h0 : (0 : Int) ≤ ((k + 1 : Nat) : Int) - 1 := by omega
    have e1 : ((k + 1 : Nat) : Int) - 1 = (k : Nat) := by omega
    have hkl : k < l.length := by omega
    obtain ⟨o, s1, s2, _⟩ := c.byte hkl (bitC n)
    obtain ⟨h', r⟩ := ih (n / 2) _ (l.set k (bitC n)) (by omega) (by rw [List.length_set]; exact hl) (by omega) s2
    refine ⟨h', e17_1 ?_ (by simp)⟩
    have w8 : wr .u8 ((n % 2 : Nat) : Int) = ((n % 2 : Nat) : Int) := wr_u8 (by omega) (by omega)
    have w9 : wr .u8 (48 + ((n % 2 : Nat) : Int)) = (((bitC n).toNat : Nat) : Int) := by rw [bitC_nat, wr_u8 (by omega) (by omega)]; omega
    have wk : wr .i64 ((k : Int) - 1) = (k : Int) - 1 := wr_i64 (by omega) (by omega)
    have esh : binN .shr (.int .i64 (n : Nat)) (.int .u64 1) = some (.int .i64 ((n / 2 : Nat) : Int)) := by
      rw [binN_shr _ _ _ _ (by omega)]
      congr 2
      show Int.fdiv (n : Nat) (2 ^ 1) = _
      rw [Int.fdiv_eq_ediv_of_nonneg _ (by omega)]
      omega
    have hd : (l.set k (bitC n)).drop k = bitC n :: l.drop (k + 1) := by
      rw [List.drop_eq_getElem_cons (by rw [List.length_set]; exact hkl), List.getElem_set_self, List.drop_set_of_lt (by omega)]
    rw [hd] at r
    have e2 : ofF n (k + 1) ++ l.drop (k + 1) = ofF (n / 2) k ++ bitC n :: l.drop (k + 1) := by simp [ofF]
    rw [e2]
    simp only [t17_1, W, spanK_u, decide_eq_true_eq, Bool.not_eq_true', decide_eq_false_iff_not, Bool.false_eq_true, Bool.not_true, Bool.not_false, decide_true, decide_false, not_true_eq_false, not_false_eq_true, and_true, true_and, and_false, false_and, ne_eq, Nat.zero_add, Nat.add_zero, cond_true, cond_false, ↓reduceIte, reduceCtorEq, Nat.reduceAdd, Int.reduceEq, Int.reduceNe, Int.reduceLT, Int.reduceLE, Int.reduceAdd, Int.reduceSub, Int.reduceMul, Int.reduceNeg, Nat.reduceMul, List.getElem?_cons_zero, List.getElem?_cons_succ, h0, e1, binN_and, and_one n hn, w8, w9, ixS_byte (show k < w by omega), s1, esh, wk]
    exact r
def ofV (n w : Int) : Option IV :=
  if 0 ≤ n ∧ n < 9223372036854775808 ∧ 1 ≤ w ∧ w ≤ 256 then some (.tup [sv (ofF n.toNat w.toNat), .int .i64 0]) else none
theorem tOf : PureT Tryd.prog (CL tab1) 17 (fn2 dI dI ofV) := pure2 Tryd.func17 rfl fun n w v e => by
  unfold ofV at e
  split at e
  · rename_i hc
    obtain ⟨h1, h2, h3, h4⟩ := hc
    injection e with e; subst e
    refine ⟨rfl, ?_⟩
    obtain ⟨n, rfl⟩ := Int.eq_ofNat_of_zero_le h1
    obtain ⟨w, rfl⟩ := Int.eq_ofNat_of_zero_le (show 0 ≤ w by omega)
    obtain ⟨h', e1, x, c⟩ := mks_bys gd0 w (by omega)
    obtain ⟨h'', r⟩ := of_loop (T := tab1) (w := w) (by omega) w n h' _ (Nat.le_refl _) (by simp) (by omega) c
    refine ⟨h'', c17 good1.step rfl rfl gd0 ?_ (by simp)⟩
    have q1 : ¬ ((n : Nat) : Int) < 0 := by omega
    have q2 : ¬ ((w : Nat) : Int) < 1 := by omega
    have q3 : ¬ (256 : Int) < ((w : Nat) : Int) := by omega
    have wk : wr .i64 ((w : Int) - 1) = (w : Int) - 1 := wr_i64 (by omega) (by omega)
    rw [List.drop_of_length_le (by simp), List.append_nil] at r
    simp only [t17_0, dI, W, spanK_u, decide_eq_true_eq, Bool.not_eq_true', decide_eq_false_iff_not, Bool.false_eq_true, Bool.not_true, Bool.not_false, decide_true, decide_false, not_true_eq_false, not_false_eq_true, and_true, true_and, and_false, false_and, ne_eq, Nat.zero_add, Nat.add_zero, cond_true, cond_false, ↓reduceIte, reduceCtorEq, Nat.reduceAdd, Int.reduceEq, Int.reduceNe, Int.reduceLT, Int.reduceLE, Int.reduceAdd, Int.reduceSub, Int.reduceMul, Int.reduceNeg, Nat.reduceMul, List.getElem?_cons_zero, List.getElem?_cons_succ, q1, q2, q3, e1, wk, Int.toNat_natCast]
    exact r
  · cases e

noncomputable def tab2 : Tab := (tab1.add 32 (pureF (fn1 dS checkF))).add 17 (pureF (fn2 dI dI ofV))
theorem good2 : GoodT Tryd.prog EP tab2 := good1.also envK mixed noNum (good1.also envK mixed noNum good1 tCheck) tOf

end Go.Proofs.YtfegkjmghbdogaaDoor

namespace Go.Proofs.YtfegkjmghbdogaaDoor
open Go I
set_option maxRecDepth 100000
set_option linter.unusedVariables false
set_option linter.unusedSimpArgs false

/-- the types: strings.Builder, a pointer to one, a byte -/
abbrev tyB : Nat := 64
abbrev tyU : Nat := 5
/-- a table under which a Builder can be walked -/
structure BT (T : Tab) : Prop where
  step : OvStep T
  cc : T.ov 56 = none
  ws : T.ov 33 = none
  st : T.ov 34 = none
  ne : T.ov 75 = some noEscapeI
  pol : ∀ f, T.pol f = true
/-- a Builder that was made behind h₀, and what was written -/
structure BL (h₀ h : H) (b : Nat) (l : Bs) : Prop where
  ky : Ky h₀ h
  at_ : h₀.next ≤ b
  ty : h.tys.get b = some (tyB, 2)
  cell : ∃ addr buf, Cs h b true false [addr, buf] ∧ (addr = .nilPtr ∨ addr = .ptr b 0) ∧ GB tyU h₀ h l buf
theorem BL.lt {h₀ h : H} {b : Nat} {l : Bs} (x : BL h₀ h b l) : b < h.next := by
  obtain ⟨addr, buf, c, _⟩ := x.cell
  exact c.lt x.ky.gd.wf
theorem BL.mono {h₀ h h' : H} {b : Nat} {l : Bs} (x : BL h₀ h b l) (y : Ky h h') : BL h₀ h' b l := by
  obtain ⟨addr, buf, c, ha, gb⟩ := x.cell
  exact ⟨x.ky.trans y, x.at_, (y.ty b x.lt).trans x.ty, addr, buf, c.ky x.ky.gd.wf y, ha, gb.ky x.ky.gd.wf y⟩
theorem newB_bl {h : H} (g : Gd h) : ∃ h', newB h [.nilPtr, .nilSlice] tyB = some (.ptr h.next 0, h') ∧ BL h h' h.next [] := by
  obtain ⟨h1, e1, x1, c1, _, _⟩ := (Ky.refl g).newI (cs := [.nilPtr, .nilSlice]) rfl
  refine ⟨h1.tag h.next tyB 2, by unfold newB; rw [e1]; rfl, x1.tag (Nat.le_refl _), Nat.le_refl _, ?_, .nilPtr, .nilSlice, c1, .inl rfl, .inl ⟨rfl, rfl⟩⟩
  simp only [H.tag, Go.Proofs.YtfegkjmghbdogaaDoor.I.T.get_set, if_true]
theorem convTo {h : H} {b : Nat} {fz : Bool} {x y : IV} (c : Cs h b true fz [x, y]) : convI Tryd.prog h 62 103 (.ptr b 0) = some (.ptr b 0, h) := by
  obtain ⟨t, q, _⟩ := c
  have hs : sizeT Tryd.prog 64 = some 2 := by kernel_rfl
  simp only [convI, Tryd.underlying62, Tryd.underlying103, hs, q, List.length_cons, List.length_nil]
  rfl
theorem convFrom {h : H} {b : Nat} (c : h.tys.get b = some (tyB, 2)) : convI Tryd.prog h 103 62 (.ptr b 0) = some (.ptr b 0, h) := by
  have hs : sizeT Tryd.prog 64 = some 2 := by kernel_rfl
  have hl : liesAt Tryd.prog Tryd.prog.depth tyB (2 / Tryd.prog.cellsOf tyB) 0 64 1 = true := by kernel_rfl
  simp only [convI, Tryd.underlying62, Tryd.underlying103, hs, c, hl]
  rfl
theorem eqP_self {h : H} {b : Nat} {cs : List IV} (c : Cs h b true false cs) : eqP .neq h (.ptr b 0) (.ptr b 0) = some (.bool false) := by
  obtain ⟨t, q, _⟩ := c
  simp only [eqP, eqPv, if_true, q, decide_true]
  rfl
theorem bl_set {h₀ h h' : H} {b : Nat} {l m : Bs} {addr buf addr' buf' : IV} (x : BL h₀ h b l) (c : Cs h' b true false [addr, buf]) (k : Ky h₀ h') (ht : h'.tys.get b = some (tyB, 2)) {off : Nat} {v : IV} (hv : v.scalar = true) (hoff : off + 1 ≤ 2) (hp : placeL [addr, buf] off v.cells = [addr', buf'])
    (ha : addr' = .nilPtr ∨ addr' = .ptr b 0) (gb : GB tyU h₀ h' m buf') : ∃ h'', stA 1 h' (.ptr b off) v = some h'' ∧ BL h₀ h'' b m := by
  have hc : v.cells = [v] := by cases v <;> first | rfl | (simp [IV.scalar] at hv)
  obtain ⟨o, s1, s2, _⟩ := c.st (n := 1) (off := off) (v := v) (by rw [hc]; rfl) (by rw [hc]; simp [allScalar, hv]) hoff
  rw [hp] at s2
  have hb := x.at_
  obtain ⟨t, q, _⟩ := c
  have k' : Ky h₀ (h'.put b o) := k.put hb q fun fz size cs hh => by cases hh
  refine ⟨h'.put b o, s1, k', hb, ht, addr', buf', s2, ha, ?_⟩
  rcases gb with h1 | ⟨bb, n, h1, ⟨t2, q2, q3⟩, h2, h3, h4, h5⟩
  · exact .inl h1
  · refine .inr ⟨bb, n, h1, ⟨t2, ?_, q3⟩, h2, h3, h4, h5⟩
    rw [H.get_put, if_neg, q2]
    rintro rfl
    rw [q] at q2; cases q2
theorem copyCheck {T : Tab} (t : BT T) {h₀ h : H} {b : Nat} {l : Bs} (x : BL h₀ h b l) : ∃ h', CL T 56 [.ptr b 0] h = .ok (.tup []) h' ∧ BL h₀ h' b l := by
  obtain ⟨addr, buf, c, ha, gb⟩ := x.cell
  have l0 := c.ld0 0
  rcases ha with rfl | rfl
  · obtain ⟨h', e, y⟩ := bl_set (addr' := .ptr b 0) (buf' := buf) x c x.ky x.ty (off := 0) (v := .ptr b 0) rfl (by omega) rfl (.inr rfl) gb
    have hne : CL T 75 [.ptr b 0] h = .ok (.ptr b 0) h := call_tab t.ne rfl (by simp)
    refine ⟨h', c56 t.step t.cc (t.pol _) x.ky.gd ?_ (by simp), y⟩
    simp only [List.getElem?_cons_zero] at l0
    simp only [t56_0, W, spanK_u, decide_eq_true_eq, Bool.not_eq_true', decide_eq_false_iff_not, Bool.false_eq_true, Bool.not_true, Bool.not_false, decide_true, decide_false, not_true_eq_false, not_false_eq_true, and_true, true_and, and_false, false_and, ne_eq, Nat.zero_add, Nat.add_zero, cond_true, cond_false, ↓reduceIte, reduceCtorEq, Nat.reduceAdd, Int.reduceEq, Int.reduceNe, Int.reduceLT, Int.reduceLE, Int.reduceAdd, Int.reduceSub, Int.reduceMul, Int.reduceNeg, Nat.reduceMul, List.getElem?_cons_zero, List.getElem?_cons_succ, l0, convTo c, hne, convFrom x.ty, e]
  · refine ⟨h, c56 t.step t.cc (t.pol _) x.ky.gd ?_ (by simp), x⟩
    simp only [List.getElem?_cons_zero] at l0
    simp only [t56_0, W, spanK_u, decide_eq_true_eq, Bool.not_eq_true', decide_eq_false_iff_not, Bool.false_eq_true, Bool.not_true, Bool.not_false, decide_true, decide_false, not_true_eq_false, not_false_eq_true, and_true, true_and, and_false, false_and, ne_eq, Nat.zero_add, Nat.add_zero, cond_true, cond_false, ↓reduceIte, reduceCtorEq, Nat.reduceAdd, Int.reduceEq, Int.reduceNe, Int.reduceLT, Int.reduceLE, Int.reduceAdd, Int.reduceSub, Int.reduceMul, Int.reduceNeg, Nat.reduceMul, List.getElem?_cons_zero, List.getElem?_cons_succ, l0, eqP_self c]
theorem writeString {T : Tab} (t : BT T) {h₀ h : H} {b : Nat} {l : Bs} (x : BL h₀ h b l) (m : Bs) (hroom : l.length + m.length ≤ 1099511627776) : ∃ h', CL T 33 [.ptr b 0, sv m] h = .ok (.tup [.int .i64 (m.length : Nat), .nilIface]) h' ∧ BL h₀ h' b (l ++ m) := by
  obtain ⟨h1, e1, x1⟩ := copyCheck t x
  obtain ⟨addr, buf, c, ha, gb⟩ := x1.cell
  obtain ⟨s', h2, e2, k2, gb2, same⟩ := gb.app x1.ky hroom
  have hne : ∀ k, buf ≠ .slice b 0 k 1 := by
    rintro k rfl
    rcases gb with ⟨_, hh⟩ | ⟨bb, n, hh, ⟨t2, q2, q3⟩, _⟩
    · cases hh
    · injection hh with hh _ _ _
      subst hh
      obtain ⟨t3, q4, _⟩ := c
      rw [q2] at q4; cases q4
  obtain ⟨g1, g2⟩ := same b x1.lt hne
  obtain ⟨h3, e3, x3⟩ := bl_set (addr' := addr) (buf' := s') x1 (c.of_get g1) k2 (g2.trans x1.ty) (off := 1) (v := s') gb2.scalar (by omega) (by
    have : s'.cells = [s'] := by
      have hv := gb2.scalar
      cases s' <;> first | rfl | (simp [IV.scalar] at hv)
    rw [this]; rfl) ha gb2
  have l1 := c.ld0 1
  refine ⟨h3, c33 t.step t.ws (t.pol _) x.ky.gd ?_ (by simp), x3⟩
  simp only [List.getElem?_cons_zero, List.getElem?_cons_succ] at l1
  simp only [t33_0, W, spanK_u, decide_eq_true_eq, Bool.not_eq_true', decide_eq_false_iff_not, Bool.false_eq_true, Bool.not_true, Bool.not_false, decide_true, decide_false, not_true_eq_false, not_false_eq_true, and_true, true_and, and_false, false_and, ne_eq, Nat.zero_add, Nat.add_zero, cond_true, cond_false, ↓reduceIte, reduceCtorEq, Nat.reduceAdd, Int.reduceEq, Int.reduceNe, Int.reduceLT, Int.reduceLE, Int.reduceAdd, Int.reduceSub, Int.reduceMul, Int.reduceNeg, Nat.reduceMul, List.getElem?_cons_zero, List.getElem?_cons_succ, e1, l1, e2, e3]
theorem builderString {T : Tab} (t : BT T) {h₀ h : H} {b : Nat} {l : Bs} (x : BL h₀ h b l) (hl : l.length ≤ 1099511627776) : ∃ h', CL T 34 [.ptr b 0] h = .ok (sv l) h' ∧ Ky h₀ h' := by
  obtain ⟨addr, buf, c, ha, gb⟩ := x.cell
  obtain ⟨p, n, h', e1, e2, e3, k⟩ := gb.str x.ky hl
  have l1 := c.ld0 1
  refine ⟨h', c34 t.step t.st (t.pol _) x.ky.gd ?_ (by simp), k⟩
  simp only [List.getElem?_cons_zero, List.getElem?_cons_succ] at l1
  simp only [t34_0, W, spanK_u, decide_eq_true_eq, Bool.not_eq_true', decide_eq_false_iff_not, Bool.false_eq_true, Bool.not_true, Bool.not_false, decide_true, decide_false, not_true_eq_false, not_false_eq_true, and_true, true_and, and_false, false_and, ne_eq, Nat.zero_add, Nat.add_zero, cond_true, cond_false, ↓reduceIte, reduceCtorEq, Nat.reduceAdd, Int.reduceEq, Int.reduceNe, Int.reduceLT, Int.reduceLE, Int.reduceAdd, Int.reduceSub, Int.reduceMul, Int.reduceNeg, Nat.reduceMul, List.getElem?_cons_zero, List.getElem?_cons_succ, l1, e1, e2, e3]

end Go.Proofs.YtfegkjmghbdogaaDoor

namespace Go.Proofs.YtfegkjmghbdogaaDoor
open Go I
set_option maxRecDepth 100000
set_option linter.unusedVariables false
set_option linter.unusedSimpArgs false

theorem bt2 : BT tab2 := ⟨good2.step, rfl, rfl, rfl, rfl, fun _ => rfl⟩
theorem slc1 (l : Bs) (i : Nat) (h : i < l.length) : slcStr (sv l) (some (.int .i64 (i : Nat))) (some (.int .i64 ((i + 1 : Nat) : Int))) = some (sv [l[i]]) := by
  rw [slcStr_sv l _ _ (by omega) (by omega) (by omega)]
  congr 2
  simp only [Int.toNat_natCast]
  rw [List.drop_take, List.drop_eq_getElem_cons h, show i + 1 - i = 1 by omega]
  rfl
theorem wr_succ {i : Nat} (h : i < 9223372036854775807) : wr .i64 ((i : Int) + 1) = ((i + 1 : Nat) : Int) := by rw [wr_i64 (by omega) (by omega)]; omega
theorem rep2 {h : H} (l : Bs) (n : Nat) (hn : l.length * n ≤ 140737488355328) (h2 : n ≤ 9223372036854775807) : CL tab2 19 [sv l, .int .i64 (n : Nat)] h = .ok (sv (Lib.repeatL l n)) h :=
  call2 (A := dS) (B := dI) (a := l) (b := (n : Int)) rfl (by unfold repF; rw [if_pos ⟨by omega, by omega, by simpa using hn⟩]; rfl) h
theorem of2 {h : H} (n w : Nat) (hn : n < 9223372036854775808) (h1 : 1 ≤ w) (h2 : w ≤ 256) : CL tab2 17 [.int .i64 (n : Nat), .int .i64 (w : Nat)] h = .ok (.tup [sv (ofF n w), .int .i64 0]) h :=
  call2 (A := dI) (B := dI) (a := (n : Int)) (b := (w : Int)) rfl (by unfold ofV; rw [if_pos ⟨by omega, by omega, by omega, by omega⟩]; rfl) h
/-- four bits for a digit; none: it is none -/
def hexC (c : UInt8) : Option Bs := if c = 120 ∨ c = 122 then some [c, c, c, c] else if digV c < 16 then some (ofF (digV c) 4) else none
def hexF : Bs → Option Bs
  | [] => some []
  | c :: l => match hexC c, hexF l with
    | some m, some r => some (m ++ r)
    | _, _ => none
def bitsF (base : UInt8) (s : Bs) : Bs :=
  if base = 100 then (match (if s ≠ [] ∧ s.all (· == 48) = true then some 0 else decF (s.dropWhile (· == 48)) 2147483647) with
    | some n => ofF n 31
    | none => [])
  else if base = 98 then (if s.all isV = true then s else [])
  else if base = 104 then (hexF s).getD []
  else []
theorem hexC_len {c : UInt8} {m : Bs} (h : hexC c = some m) : m.length = 4 := by
  unfold hexC at h
  split at h
  · injection h with h; subst h; rfl
  · split at h
    · injection h with h; subst h; exact ofF_len _ _
    · cases h
/-- strconv.ParseUint, under the second table -/
theorem pt2 : PT tab2 := ⟨good2.step, rfl, rfl, rfl, rfl, fun _ => rfl⟩
theorem parseT {h : H} (g : Gd h) (c : UInt8) : ∃ h' ev, CL tab2 29 [sv [c], .int .i64 16, .int .i64 8] h = .ok (.tup [.int .u64 ((puF 16 8 [c]).1 : Nat), ev]) h' ∧ Ky h h' ∧ ((puF 16 8 [c]).2 = 0 ∧ ev = .nilIface ∨ (puF 16 8 [c]).2 ≠ 0 ∧ ∃ t v, ev = .iface t v) :=
  parse29 pt2 g [c] 16 8 (.inr rfl) (.inr rfl) (by simp)
theorem puF_one (c : UInt8) : puF 16 8 [c] = if 16 ≤ digV c then (0, 2) else (digV c, 0) := by
  unfold puF puV
  simp only [List.cons_ne_nil, if_false]
  split
  · rfl
  · rw [if_neg (by have := digV_lt c; omega)]
    simp [puV]
/-- what is left of a text of hexadecimal digits -/
theorem hex_loop {h₀ : H} {b : Nat} (s : Bs) (hs : s.length ≤ 137438953472) : ∀ (k i : Nat) (h : H) (acc : Bs), i + k = s.length → BL h₀ h b acc → acc.length ≤ 4 * i →
    ∃ h', J18 tab2 3 [sv s, .ptr b 0, .int .i64 (s.length : Nat), .int .i64 (i : Nat)] h = .ok (sv (match hexF (s.drop i) with | some m => acc ++ m | none => [])) h' := by
  intro k
  induction k with
  | zero =>
    intro i h acc hi x hacc
    obtain ⟨h', e, _⟩ := builderString bt2 x (by omega)
    refine ⟨h', e18_3 ?_ (by simp)⟩
    have hlt : ¬ ((i : Nat) : Int) < (s.length : Nat) := by omega
    rw [List.drop_of_length_le (by omega)]
    simp only [t18_3, W, spanK_u, decide_eq_true_eq, Bool.not_eq_true', decide_eq_false_iff_not, Bool.false_eq_true, Bool.not_true, Bool.not_false, decide_true, decide_false, not_true_eq_false, not_false_eq_true, and_true, true_and, and_false, false_and, ne_eq, Nat.zero_add, Nat.add_zero, cond_true, cond_false, ↓reduceIte, reduceCtorEq, Nat.reduceAdd, Int.reduceEq, Int.reduceNe, Int.reduceLT, Int.reduceLE, Int.reduceAdd, Int.reduceSub, Int.reduceMul, Int.reduceNeg, Nat.reduceMul, List.getElem?_cons_zero, List.getElem?_cons_succ, hlt, hexF, List.append_nil]
    refine e18_1 ?_ (by simp)
    simp only [t18_1, W, spanK_u, decide_eq_true_eq, Bool.not_eq_true', decide_eq_false_iff_not, Bool.false_eq_true, Bool.not_true, Bool.not_false, decide_true, decide_false, not_true_eq_false, not_false_eq_true, and_true, true_and, and_false, false_and, ne_eq, Nat.zero_add, Nat.add_zero, cond_true, cond_false, ↓reduceIte, reduceCtorEq, Nat.reduceAdd, Int.reduceEq, Int.reduceNe, Int.reduceLT, Int.reduceLE, Int.reduceAdd, Int.reduceSub, Int.reduceMul, Int.reduceNeg, Nat.reduceMul, List.getElem?_cons_zero, List.getElem?_cons_succ, e]
  | succ k ih =>
    intro i h acc hi x hacc
    have hil : i < s.length := by omega
    have hlt : ((i : Nat) : Int) < (s.length : Nat) := by omega
    rw [List.drop_eq_getElem_cons hil]
    have eix := ixStr_nat s i hil
    have esl := slc1 s i hil
    generalize s[i] = c at eix esl ⊢
    have w1 : wr .i64 ((i : Int) + 1) = ((i + 1 : Nat) : Int) := wr_succ (by omega)
    -- how it goes on
    have more : ∀ {h2 : H} {m : Bs} {r : CRes}, hexC c = some m → BL h₀ h2 b (acc ++ m) → ∃ h', J18 tab2 4 [sv s, .ptr b 0, .int .i64 (s.length : Nat), .int .i64 (i : Nat)] h2 = .ok (sv (match hexF (c :: s.drop (i + 1)) with | some m => acc ++ m | none => [])) h' := by
      intro h2 m r hm y
      obtain ⟨h', e⟩ := ih (i + 1) h2 (acc ++ m) (by omega) y (by rw [List.length_append, hexC_len hm]; omega)
      refine ⟨h', e18_4 ?_ (by simp)⟩
      simp only [t18_4, W, spanK_u, decide_eq_true_eq, Bool.not_eq_true', decide_eq_false_iff_not, Bool.false_eq_true, Bool.not_true, Bool.not_false, decide_true, decide_false, not_true_eq_false, not_false_eq_true, and_true, true_and, and_false, false_and, ne_eq, Nat.zero_add, Nat.add_zero, cond_true, cond_false, ↓reduceIte, reduceCtorEq, Nat.reduceAdd, Int.reduceEq, Int.reduceNe, Int.reduceLT, Int.reduceLE, Int.reduceAdd, Int.reduceSub, Int.reduceMul, Int.reduceNeg, Nat.reduceMul, List.getElem?_cons_zero, List.getElem?_cons_succ, w1, e]
      simp only [hexF, hm]
      cases hexF (s.drop (i + 1)) with
      | none => rfl
      | some r => simp only [List.append_assoc]
    have fin : ∀ (q : Bool), (q = true ↔ c = 120 ∨ c = 122) → ∃ h', J18 tab2 5 [sv s, .ptr b 0, .int .i64 (i : Nat), .int .i64 (s.length : Nat), .int .i64 (i : Nat), .bool q] h = .ok (sv (match hexF (c :: s.drop (i + 1)) with | some m => acc ++ m | none => [])) h' := by
      intro q hq
      cases q with
      | true =>
        have hc := hq.1 rfl
        have hm : hexC c = some [c, c, c, c] := by unfold hexC; rw [if_pos hc]
        have er : Lib.repeatL [c] 4 = [c, c, c, c] := rfl
        have e19 := rep2 (h := h) [c] 4 (by simp) (by omega)
        rw [er] at e19
        obtain ⟨h2, e2, y⟩ := writeString bt2 x [c, c, c, c] (by simp; omega)
        obtain ⟨h', e⟩ := more (r := .fail) hm y
        refine ⟨h', e18_5 ?_ (by simp)⟩
        simp only [Int.cast_ofNat_Int] at e19
        simp only [t18_5, W, spanK_u, decide_eq_true_eq, Bool.not_eq_true', decide_eq_false_iff_not, Bool.false_eq_true, Bool.not_true, Bool.not_false, decide_true, decide_false, not_true_eq_false, not_false_eq_true, and_true, true_and, and_false, false_and, ne_eq, Nat.zero_add, Nat.add_zero, cond_true, cond_false, ↓reduceIte, reduceCtorEq, Nat.reduceAdd, Int.reduceEq, Int.reduceNe, Int.reduceLT, Int.reduceLE, Int.reduceAdd, Int.reduceSub, Int.reduceMul, Int.reduceNeg, Nat.reduceMul, List.getElem?_cons_zero, List.getElem?_cons_succ, w1, esl, e19, e2]
        exact e
      | false =>
        have hc : ¬ (c = 120 ∨ c = 122) := fun hh => by have := hq.2 hh; cases this
        obtain ⟨h1, ev, e1, k1, hev⟩ := parseT x.ky.gd c
        rw [puF_one] at e1 hev
        by_cases hd : 16 ≤ digV c
        · rw [if_pos hd] at e1 hev
          rcases hev with ⟨hh, _⟩ | ⟨_, t, v, rfl⟩
          · cases hh
          · have hm : hexC c = none := by unfold hexC; rw [if_neg hc, if_neg (by omega)]
            refine ⟨h1, e18_5 ?_ (by simp)⟩
            simp only [t18_5, W, spanK_u, decide_eq_true_eq, Bool.not_eq_true', decide_eq_false_iff_not, Bool.false_eq_true, Bool.not_true, Bool.not_false, decide_true, decide_false, not_true_eq_false, not_false_eq_true, and_true, true_and, and_false, false_and, ne_eq, Nat.zero_add, Nat.add_zero, cond_true, cond_false, ↓reduceIte, reduceCtorEq, Nat.reduceAdd, Int.reduceEq, Int.reduceNe, Int.reduceLT, Int.reduceLE, Int.reduceAdd, Int.reduceSub, Int.reduceMul, Int.reduceNeg, Nat.reduceMul, List.getElem?_cons_zero, List.getElem?_cons_succ, w1, esl, e1, hexF, hm]
            rfl
        · rw [if_neg hd] at e1 hev
          rcases hev with ⟨_, rfl⟩ | ⟨hh, _⟩
          · have hm : hexC c = some (ofF (digV c) 4) := by unfold hexC; rw [if_neg hc, if_pos (by omega)]
            have wd : wr .i64 ((digV c : Nat) : Int) = (digV c : Nat) := wr_i64 (by omega) (by omega)
            have e17 := of2 (h := h1) (digV c) 4 (by omega) (by omega) (by omega)
            simp only [Int.cast_ofNat_Int] at e17
            obtain ⟨h2, e2, y⟩ := writeString bt2 (x.mono k1) (ofF (digV c) 4) (by rw [ofF_len]; omega)
            obtain ⟨h', e⟩ := more (r := .fail) hm y
            refine ⟨h', e18_5 ?_ (by simp)⟩
            simp only [t18_5, W, spanK_u, decide_eq_true_eq, Bool.not_eq_true', decide_eq_false_iff_not, Bool.false_eq_true, Bool.not_true, Bool.not_false, decide_true, decide_false, not_true_eq_false, not_false_eq_true, and_true, true_and, and_false, false_and, ne_eq, Nat.zero_add, Nat.add_zero, cond_true, cond_false, ↓reduceIte, reduceCtorEq, Nat.reduceAdd, Int.reduceEq, Int.reduceNe, Int.reduceLT, Int.reduceLE, Int.reduceAdd, Int.reduceSub, Int.reduceMul, Int.reduceNeg, Nat.reduceMul, List.getElem?_cons_zero, List.getElem?_cons_succ, w1, esl, e1, wd, e17, e2]
            exact e
          · exact absurd rfl hh
    have h120 : (((c.toNat : Nat) : Int) = 120) = (c = 120) := u8_eq c 120 (by decide)
    have h122 : (((c.toNat : Nat) : Int) = 122) = (c = 122) := u8_eq c 122 (by decide)
    by_cases c1 : c = 120
    · obtain ⟨h', e⟩ := fin true ⟨fun _ => .inl c1, fun _ => rfl⟩
      refine ⟨h', e18_3 ?_ (by simp)⟩
      simp only [t18_3, W, spanK_u, decide_eq_true_eq, Bool.not_eq_true', decide_eq_false_iff_not, Bool.false_eq_true, Bool.not_true, Bool.not_false, decide_true, decide_false, not_true_eq_false, not_false_eq_true, and_true, true_and, and_false, false_and, ne_eq, Nat.zero_add, Nat.add_zero, cond_true, cond_false, ↓reduceIte, reduceCtorEq, Nat.reduceAdd, Int.reduceEq, Int.reduceNe, Int.reduceLT, Int.reduceLE, Int.reduceAdd, Int.reduceSub, Int.reduceMul, Int.reduceNeg, Nat.reduceMul, List.getElem?_cons_zero, List.getElem?_cons_succ, hlt, eix, h120, c1] at e ⊢
      exact e
    · obtain ⟨h', e⟩ := fin (decide (c = 122)) (by simp [c1])
      refine ⟨h', e18_3 ?_ (by simp)⟩
      simp only [t18_3, W, spanK_u, decide_eq_true_eq, Bool.not_eq_true', decide_eq_false_iff_not, Bool.false_eq_true, Bool.not_true, Bool.not_false, decide_true, decide_false, not_true_eq_false, not_false_eq_true, and_true, true_and, and_false, false_and, ne_eq, Nat.zero_add, Nat.add_zero, cond_true, cond_false, ↓reduceIte, reduceCtorEq, Nat.reduceAdd, Int.reduceEq, Int.reduceNe, Int.reduceLT, Int.reduceLE, Int.reduceAdd, Int.reduceSub, Int.reduceMul, Int.reduceNeg, Nat.reduceMul, List.getElem?_cons_zero, List.getElem?_cons_succ, hlt, eix, h120, h122, c1] at e ⊢
      exact e
def bitsV (base : UInt8) (s : Bs) : Option IV := if s.length ≤ 137438953472 then some (sv (bitsF base s)) else none
theorem tBits : PureT Tryd.prog (CL tab2) 18 (fn2 dU dS bitsV) := pure2 Tryd.func18 rfl fun base s v e => by
  unfold bitsV at e
  split at e
  rotate_left
  · cases e
  rename_i hs
  injection e with e; subst e
  refine ⟨rfl, ?_⟩
  obtain ⟨h1, e1, x⟩ := newB_bl gd0
  have e1 : newB H0 [.nilPtr, .nilSlice] 64 = some (.ptr H0.next 0, h1) := e1
  have u100 : (((base.toNat : Nat) : Int) = 100) = (base = 100) := u8_eq base 100 (by decide)
  have u98 : (((base.toNat : Nat) : Int) = 98) = (base = 98) := u8_eq base 98 (by decide)
  have u104 : (((base.toNat : Nat) : Int) = 104) = (base = 104) := u8_eq base 104 (by decide)
  show ∃ h', CL tab2 18 [.int .u8 (base.toNat : Nat), sv s] H0 = .ok (sv (bitsF base s)) h'
  unfold bitsF
  by_cases b1 : base = 100
  · have q100 : (((base.toNat : Nat) : Int) = 100) = True := by rw [u100]; simp [b1]
    simp only [b1, if_true]
    rw [← b1]
    have eL : CL tab2 30 [sv s, .str ⟨1, 48⟩] h1 = .ok (sv (s.dropWhile (· == 48))) h1 := call2 (A := dS) (B := dS) (a := s) (b := [48]) rfl (by unfold trimLF; rw [if_pos ⟨by omega, rfl⟩]) h1
    have eT : CL tab2 31 [sv s, .str ⟨1, 48⟩] h1 = .ok (sv ((trimR (· == 48) s).dropWhile (· == 48))) h1 := call2 (A := dS) (B := dS) (a := s) (b := [48]) rfl (by unfold trimF; rw [if_pos (by omega), if_pos rfl]) h1
    have hle : (s.dropWhile (· == 48)).length ≤ s.length := (List.dropWhile_sublist _).length_le
    have eadd : binS .add (sv (s.dropWhile (· == 48))) (sv []) = some (sv (s.dropWhile (· == 48))) := by rw [binS_add _ _ (by simp; omega), List.append_nil]
    have eD : CL tab2 16 [sv (s.dropWhile (· == 48)), .int .i64 2147483647] h1 = .ok (.tup [.int .i64 ((puF 10 62 (s.dropWhile (· == 48))).1 : Nat), .bool (decF (s.dropWhile (· == 48)) 2147483647).isSome]) h1 :=
      call2 (A := dS) (B := dI) (a := s.dropWhile (· == 48)) (b := 2147483647) rfl (by unfold decV; rw [if_pos (by omega)]) h1
    have two : ∀ (n : Nat) (ok : Bool), n < 9223372036854775808 → ∃ h', J18 tab2 2 [.int .i64 (n : Nat), .bool ok] h1 = .ok (sv (if ok = true then ofF n 31 else [])) h' := by
      intro n ok hn
      cases ok with
      | true =>
        have e17 := of2 (h := h1) n 31 hn (by omega) (by omega)
        simp only [Int.cast_ofNat_Int] at e17
        refine ⟨h1, e18_2 ?_ (by simp)⟩
        simp only [t18_2, W, spanK_u, decide_eq_true_eq, Bool.not_eq_true', decide_eq_false_iff_not, Bool.false_eq_true, Bool.not_true, Bool.not_false, decide_true, decide_false, not_true_eq_false, not_false_eq_true, and_true, true_and, and_false, false_and, ne_eq, Nat.zero_add, Nat.add_zero, cond_true, cond_false, ↓reduceIte, reduceCtorEq, Nat.reduceAdd, Int.reduceEq, Int.reduceNe, Int.reduceLT, Int.reduceLE, Int.reduceAdd, Int.reduceSub, Int.reduceMul, Int.reduceNeg, Nat.reduceMul, List.getElem?_cons_zero, List.getElem?_cons_succ, e17]
      | false =>
        refine ⟨h1, e18_2 ?_ (by simp)⟩
        simp only [t18_2, W, spanK_u, decide_eq_true_eq, Bool.not_eq_true', decide_eq_false_iff_not, Bool.false_eq_true, Bool.not_true, Bool.not_false, decide_true, decide_false, not_true_eq_false, not_false_eq_true, and_true, true_and, and_false, false_and, ne_eq, Nat.zero_add, Nat.add_zero, cond_true, cond_false, ↓reduceIte, reduceCtorEq, Nat.reduceAdd, Int.reduceEq, Int.reduceNe, Int.reduceLT, Int.reduceLE, Int.reduceAdd, Int.reduceSub, Int.reduceMul, Int.reduceNeg, Nat.reduceMul, List.getElem?_cons_zero, List.getElem?_cons_succ]
        rfl
    by_cases hz : s ≠ [] ∧ s.all (· == 48) = true
    · obtain ⟨h', e⟩ := two 0 true (by omega)
      simp only [hz, ne_eq, not_false_eq_true, and_self, if_true] at e ⊢
      refine ⟨h', c18 good2.step rfl rfl gd0 ?_ (by simp)⟩
      have hne : ¬ s = [] := hz.1
      simp only [t18_0, e1, q100, W, spanK_u, decide_eq_true_eq, Bool.not_eq_true', decide_eq_false_iff_not, Bool.false_eq_true, Bool.not_true, Bool.not_false, decide_true, decide_false, not_true_eq_false, not_false_eq_true, and_true, true_and, and_false, false_and, ne_eq, Nat.zero_add, Nat.add_zero, cond_true, cond_false, ↓reduceIte, reduceCtorEq, Nat.reduceAdd, Int.reduceEq, Int.reduceNe, Int.reduceLT, Int.reduceLE, Int.reduceAdd, Int.reduceSub, Int.reduceMul, Int.reduceNeg, Nat.reduceMul, List.getElem?_cons_zero, List.getElem?_cons_succ, eL, sv0, eadd, eD, hne, eT, trim_nil, hz.2]
      exact e
    · obtain ⟨h', e⟩ := two (puF 10 62 (s.dropWhile (· == 48))).1 (decF (s.dropWhile (· == 48)) 2147483647).isSome (by have := puF_le 10 62 (s.dropWhile (· == 48)); omega)
      have eq : (if (decF (s.dropWhile (· == 48)) 2147483647).isSome = true then ofF (puF 10 62 (s.dropWhile (· == 48))).1 31 else []) = (match decF (s.dropWhile (· == 48)) 2147483647 with | some n => ofF n 31 | none => []) := by
        unfold decF
        split <;> simp
      rw [eq] at e
      simp only [hz, if_false] at e ⊢
      refine ⟨h', c18 good2.step rfl rfl gd0 ?_ (by simp)⟩
      by_cases hne : s = []
      · have hT : (s = []) = True := by simp [hne]
        simp only [t18_0, e1, q100, W, spanK_u, decide_eq_true_eq, Bool.not_eq_true', decide_eq_false_iff_not, Bool.false_eq_true, Bool.not_true, Bool.not_false, decide_true, decide_false, not_true_eq_false, not_false_eq_true, and_true, true_and, and_false, false_and, ne_eq, Nat.zero_add, Nat.add_zero, cond_true, cond_false, ↓reduceIte, reduceCtorEq, Nat.reduceAdd, Int.reduceEq, Int.reduceNe, Int.reduceLT, Int.reduceLE, Int.reduceAdd, Int.reduceSub, Int.reduceMul, Int.reduceNeg, Nat.reduceMul, List.getElem?_cons_zero, List.getElem?_cons_succ, eL, sv0, eadd, eD, hT]
        exact e
      · have ha : ¬ s.all (· == 48) = true := fun h => hz ⟨hne, h⟩
        simp only [t18_0, e1, q100, W, spanK_u, decide_eq_true_eq, Bool.not_eq_true', decide_eq_false_iff_not, Bool.false_eq_true, Bool.not_true, Bool.not_false, decide_true, decide_false, not_true_eq_false, not_false_eq_true, and_true, true_and, and_false, false_and, ne_eq, Nat.zero_add, Nat.add_zero, cond_true, cond_false, ↓reduceIte, reduceCtorEq, Nat.reduceAdd, Int.reduceEq, Int.reduceNe, Int.reduceLT, Int.reduceLE, Int.reduceAdd, Int.reduceSub, Int.reduceMul, Int.reduceNeg, Nat.reduceMul, List.getElem?_cons_zero, List.getElem?_cons_succ, eL, sv0, eadd, eD, hne, eT, trim_nil, ha]
        exact e
  by_cases b2 : base = 98
  · have q100 : (((base.toNat : Nat) : Int) = 100) = False := by rw [u100]; simp [b1]
    have q98 : (((base.toNat : Nat) : Int) = 98) = True := by rw [u98]; simp [b2]
    simp only [b2, show ¬ ((98 : UInt8) = 100) by decide, if_true, if_false]
    rw [← b2]
    have eC : CL tab2 32 [sv s] h1 = .ok (.int .i64 (if checkM s = true then 0 else 10)) h1 := call1 (A := dS) (a := s) rfl rfl h1
    have eT : CL tab2 31 [sv s, .str ⟨4, 2054697264⟩] h1 = .ok (sv ((trimR isV s).dropWhile isV)) h1 := call2 (A := dS) (B := dS) (a := s) (b := [48, 49, 120, 122]) rfl (by unfold trimF; rw [if_pos (by omega), if_neg (by decide), if_pos rfl]) h1
    refine ⟨h1, c18 good2.step rfl rfl gd0 ?_ (by simp)⟩
    have n100 : ¬ base = 100 := b1
    have hall : checkM s = true → s.all isV = true := by simp [checkM]
    have hno : s.length ≤ 256 → checkM s = false → (if s.all isV = true then s else []) = [] := by
      intro h1 h2
      split
      · rename_i h3
        simp [checkM, h3] at h2
        exact List.eq_nil_of_length_eq_zero (by omega)
      · rfl
    cases hcm : checkM s with
    | true =>
      simp only [hcm, if_true] at eC
      simp only [t18_0, e1, q100, q98, W, spanK_u, decide_eq_true_eq, Bool.not_eq_true', decide_eq_false_iff_not, Bool.false_eq_true, Bool.not_true, Bool.not_false, decide_true, decide_false, not_true_eq_false, not_false_eq_true, and_true, true_and, and_false, false_and, ne_eq, Nat.zero_add, Nat.add_zero, cond_true, cond_false, ↓reduceIte, reduceCtorEq, Nat.reduceAdd, Int.reduceEq, Int.reduceNe, Int.reduceLT, Int.reduceLE, Int.reduceAdd, Int.reduceSub, Int.reduceMul, Int.reduceNeg, Nat.reduceMul, List.getElem?_cons_zero, List.getElem?_cons_succ, eC, eT, sv0, trim_nil, hall hcm]
    | false =>
      simp only [hcm, Bool.false_eq_true, if_false] at eC
      by_cases hl : ((s.length : Nat) : Int) ≤ 256
      · simp only [t18_0, e1, q100, q98, W, spanK_u, decide_eq_true_eq, Bool.not_eq_true', decide_eq_false_iff_not, Bool.false_eq_true, Bool.not_true, Bool.not_false, decide_true, decide_false, not_true_eq_false, not_false_eq_true, and_true, true_and, and_false, false_and, ne_eq, Nat.zero_add, Nat.add_zero, cond_true, cond_false, ↓reduceIte, reduceCtorEq, Nat.reduceAdd, Int.reduceEq, Int.reduceNe, Int.reduceLT, Int.reduceLE, Int.reduceAdd, Int.reduceSub, Int.reduceMul, Int.reduceNeg, Nat.reduceMul, List.getElem?_cons_zero, List.getElem?_cons_succ, eC, hl, hno (by omega) hcm]
        rfl
      · by_cases ha : s.all isV = true
        · simp only [t18_0, e1, q100, q98, W, spanK_u, decide_eq_true_eq, Bool.not_eq_true', decide_eq_false_iff_not, Bool.false_eq_true, Bool.not_true, Bool.not_false, decide_true, decide_false, not_true_eq_false, not_false_eq_true, and_true, true_and, and_false, false_and, ne_eq, Nat.zero_add, Nat.add_zero, cond_true, cond_false, ↓reduceIte, reduceCtorEq, Nat.reduceAdd, Int.reduceEq, Int.reduceNe, Int.reduceLT, Int.reduceLE, Int.reduceAdd, Int.reduceSub, Int.reduceMul, Int.reduceNeg, Nat.reduceMul, List.getElem?_cons_zero, List.getElem?_cons_succ, eC, hl, eT, sv0, trim_nil, ha]
        · simp only [t18_0, e1, q100, q98, W, spanK_u, decide_eq_true_eq, Bool.not_eq_true', decide_eq_false_iff_not, Bool.false_eq_true, Bool.not_true, Bool.not_false, decide_true, decide_false, not_true_eq_false, not_false_eq_true, and_true, true_and, and_false, false_and, ne_eq, Nat.zero_add, Nat.add_zero, cond_true, cond_false, ↓reduceIte, reduceCtorEq, Nat.reduceAdd, Int.reduceEq, Int.reduceNe, Int.reduceLT, Int.reduceLE, Int.reduceAdd, Int.reduceSub, Int.reduceMul, Int.reduceNeg, Nat.reduceMul, List.getElem?_cons_zero, List.getElem?_cons_succ, eC, hl, eT, sv0, trim_nil, ha]
  by_cases b3 : base = 104
  · have q100 : (((base.toNat : Nat) : Int) = 100) = False := by rw [u100]; simp [b1]
    have q98 : (((base.toNat : Nat) : Int) = 98) = False := by rw [u98]; simp [b2]
    have q104 : (((base.toNat : Nat) : Int) = 104) = True := by rw [u104]; simp [b3]
    obtain ⟨h', e⟩ := hex_loop s hs s.length 0 h1 [] (by omega) x (by simp)
    simp only [b1, b2, b3, if_true, if_false]
    refine ⟨h', c18 good2.step rfl rfl gd0 ?_ (by simp)⟩
    have er : (hexF s).getD [] = (match hexF (s.drop 0) with | some m => [] ++ m | none => []) := by
      rw [List.drop_zero]
      cases hexF s <;> rfl
    have n100 : ¬ ((104 : UInt8) = 100) := by decide
    have n98 : ¬ ((104 : UInt8) = 98) := by decide
    simp only [n100, n98, if_false, er]
    rw [← b3]
    simp only [t18_0, e1, q100, q98, q104, W, spanK_u, decide_eq_true_eq, Bool.not_eq_true', decide_eq_false_iff_not, Bool.false_eq_true, Bool.not_true, Bool.not_false, decide_true, decide_false, not_true_eq_false, not_false_eq_true, and_true, true_and, and_false, false_and, ne_eq, Nat.zero_add, Nat.add_zero, cond_true, cond_false, ↓reduceIte, reduceCtorEq, Nat.reduceAdd, Int.reduceEq, Int.reduceNe, Int.reduceLT, Int.reduceLE, Int.reduceAdd, Int.reduceSub, Int.reduceMul, Int.reduceNeg, Nat.reduceMul, List.getElem?_cons_zero, List.getElem?_cons_succ, Int.ofNat_zero]
    exact e
  · have q100 : (((base.toNat : Nat) : Int) = 100) = False := by rw [u100]; simp [b1]
    have q98 : (((base.toNat : Nat) : Int) = 98) = False := by rw [u98]; simp [b2]
    have q104 : (((base.toNat : Nat) : Int) = 104) = False := by rw [u104]; simp [b3]
    obtain ⟨h', e, _⟩ := builderString bt2 x (by simp)
    simp only [b1, b2, b3, if_false]
    refine ⟨h', c18 good2.step rfl rfl gd0 ?_ (by simp)⟩
    simp only [t18_0, e1, q100, q98, q104, W, spanK_u, decide_eq_true_eq, Bool.not_eq_true', decide_eq_false_iff_not, Bool.false_eq_true, Bool.not_true, Bool.not_false, decide_true, decide_false, not_true_eq_false, not_false_eq_true, and_true, true_and, and_false, false_and, ne_eq, Nat.zero_add, Nat.add_zero, cond_true, cond_false, ↓reduceIte, reduceCtorEq, Nat.reduceAdd, Int.reduceEq, Int.reduceNe, Int.reduceLT, Int.reduceLE, Int.reduceAdd, Int.reduceSub, Int.reduceMul, Int.reduceNeg, Nat.reduceMul, List.getElem?_cons_zero, List.getElem?_cons_succ]
    refine e18_1 ?_ (by simp)
    simp only [t18_1, W, spanK_u, decide_eq_true_eq, Bool.not_eq_true', decide_eq_false_iff_not, Bool.false_eq_true, Bool.not_true, Bool.not_false, decide_true, decide_false, not_true_eq_false, not_false_eq_true, and_true, true_and, and_false, false_and, ne_eq, Nat.zero_add, Nat.add_zero, cond_true, cond_false, ↓reduceIte, reduceCtorEq, Nat.reduceAdd, Int.reduceEq, Int.reduceNe, Int.reduceLT, Int.reduceLE, Int.reduceAdd, Int.reduceSub, Int.reduceMul, Int.reduceNeg, Nat.reduceMul, List.getElem?_cons_zero, List.getElem?_cons_succ, e]

end Go.Proofs.YtfegkjmghbdogaaDoor

namespace Go.Proofs.YtfegkjmghbdogaaDoor
open Go I
set_option maxRecDepth 100000
set_option linter.unusedVariables false
set_option linter.unusedSimpArgs false

noncomputable def tab3 : Tab := tab2.add 18 (pureF (fn2 dU dS bitsV))
theorem good3 : GoodT Tryd.prog EP tab3 := good2.also envK mixed noNum good2 tBits

/-- digits in a width: cut, or widened by x, z or noughts -/
def padF (d : Bs) (n : Nat) : Bs :=
  if n ≤ d.length then d.drop (d.length - n)
  else List.replicate (n - d.length) (if d.head? = some 120 ∨ d.head? = some 122 then d.headD 48 else 48) ++ d
def fitF (d : Bs) (n : Nat) : Bs × Bool × Int := if d.isEmpty = true then ([], false, 21) else (padF d n, false, 0)
def numberF (s : Bs) : Bs × Bool × Int :=
  match (if plainF (cutL 39 s).1 = true then decF (cutL 39 s).1 (if (cutL 39 s).2.2 = true then 256 else 4294967295) else none) with
  | none => ([], false, 21)
  | some n => if (cutL 39 s).2.2 = false then (ofF n 32, true, 0)
    else if n < 1 ∨ (cutL 39 s).2.1 = [] then ([], false, 21)
    else fitF (bitsF ((cutL 39 s).2.1.headD 0) (cutL 39 s).2.1.tail) n
def numI (x : Bs × Bool × Int) : IV := .tup [sv x.1, .bool x.2.1, .int .i64 x.2.2]
theorem rep_one (c : UInt8) : ∀ n, Lib.repeatL [c] n = List.replicate n c
  | 0 => rfl
  | n + 1 => by simp only [Lib.repeatL, rep_one c n, List.replicate_succ, List.singleton_append]
theorem rep3 {h : H} (c : UInt8) (n : Nat) (hn : n ≤ 4096) : CL tab3 19 [sv [c], .int .i64 (n : Nat)] h = .ok (sv (List.replicate n c)) h :=
  call2 (A := dS) (B := dI) (a := [c]) (b := (n : Int)) rfl (by unfold repF; rw [if_pos ⟨by omega, by omega, by simp; omega⟩, Int.toNat_natCast, rep_one]) h
theorem of3 {h : H} (n w : Nat) (hn : n < 9223372036854775808) (h1 : 1 ≤ w) (h2 : w ≤ 256) : CL tab3 17 [.int .i64 (n : Nat), .int .i64 (w : Nat)] h = .ok (.tup [sv (ofF n w), .int .i64 0]) h :=
  call2 (A := dI) (B := dI) (a := (n : Int)) (b := (w : Int)) rfl (by unfold ofV; rw [if_pos ⟨by omega, by omega, by omega, by omega⟩]; rfl) h
theorem cut3 {h : H} (s : Bs) (hs : s.length < 4294967281) : CL tab3 14 [sv s, .str ⟨1, 39⟩] h = .ok (.tup [sv (cutL 39 s).1, sv (cutL 39 s).2.1, .bool (cutL 39 s).2.2]) h :=
  call2 (A := dS) (B := dS) (a := s) (b := [39]) rfl (by unfold cutF; simp only; rw [if_pos hs]) h
theorem plain3 {h : H} (s : Bs) : CL tab3 15 [sv s] h = .ok (.bool (plainF s)) h := call1 (A := dS) (a := s) rfl rfl h
theorem dec3 {h : H} (l : Bs) (m : Int) (hl : l.length ≤ 1099511627776) : CL tab3 16 [sv l, .int .i64 m] h = .ok (.tup [.int .i64 ((puF 10 62 l).1 : Nat), .bool (decF l m).isSome]) h :=
  call2 (A := dS) (B := dI) (a := l) (b := m) rfl (by unfold decV; rw [if_pos hl]) h
theorem bits3 {h : H} (b : UInt8) (s : Bs) (hs : s.length ≤ 137438953472) : CL tab3 18 [.int .u8 (b.toNat : Nat), sv s] h = .ok (sv (bitsF b s)) h :=
  call2 (A := dU) (B := dS) (a := b) (b := s) rfl (by unfold bitsV; rw [if_pos hs]) h
theorem decF_some {s : Bs} {m : Int} {n : Nat} (h : decF s m = some n) : (puF 10 62 s).1 = n ∧ (n : Int) ≤ m := by
  unfold decF at h
  split at h
  · rename_i hc
    injection h with h; subst h
    exact ⟨rfl, hc.2⟩
  · cases h
theorem cutL_len (c : UInt8) : ∀ l : Bs, (cutL c l).1.length ≤ l.length ∧ (cutL c l).2.1.length ≤ l.length
  | [] => ⟨Nat.le_refl _, Nat.le_refl _⟩
  | x :: l => by
    have := cutL_len c l
    unfold cutL
    split
    · simp
    · simp only [List.length_cons]; omega
theorem hexF_len : ∀ (s r : Bs), hexF s = some r → r.length ≤ 4 * s.length
  | [], r, h => by simp only [hexF] at h; injection h with h; subst h; simp
  | c :: l, r, h => by
    simp only [hexF] at h
    split at h
    · rename_i m r' h1 h2
      injection h with h; subst h
      have := hexF_len l r' h2
      simp only [List.length_append, List.length_cons, hexC_len h1]; omega
    · cases h
theorem bitsF_len (b : UInt8) (s : Bs) : (bitsF b s).length ≤ 4 * s.length + 31 := by
  unfold bitsF
  split
  · split
    · rw [ofF_len]; omega
    · simp
  · split
    · split
      · omega
      · simp
    · split
      · cases h : hexF s with
        | none => simp
        | some r => have := hexF_len s r h; simp only [Option.getD_some]; omega
      · simp
theorem tNumber : PureT Tryd.prog (CL tab3) 8 (fn1 dS fun s => if s.length < 1073741824 then some (numI (numberF s)) else none) := pure1 Tryd.func8 rfl fun s v e => by
  split at e
  rotate_left
  · cases e
  rename_i hs
  injection e with e; subst e
  refine ⟨rfl, H0, ?_⟩
  show CL tab3 8 [sv s] H0 = _
  refine c8 good3.step rfl rfl gd0 ?_ (by simp [numI])
  have hcl := cutL_len 39 s
  unfold numberF
  simp only [t8_0, cut3 s (by omega), W, spanK_u, decide_eq_true_eq, Bool.not_eq_true', decide_eq_false_iff_not, Bool.false_eq_true, Bool.not_true, Bool.not_false, decide_true, decide_false, not_true_eq_false, not_false_eq_true, and_true, true_and, and_false, false_and, ne_eq, Nat.zero_add, Nat.add_zero, cond_true, cond_false, ↓reduceIte, reduceCtorEq, Nat.reduceAdd, Int.reduceEq, Int.reduceNe, Int.reduceLT, Int.reduceLE, Int.reduceAdd, Int.reduceSub, Int.reduceMul, Int.reduceNeg, Nat.reduceMul, List.getElem?_cons_zero, List.getElem?_cons_succ]
  generalize (cutL 39 s).1 = size at hcl ⊢
  generalize (cutL 39 s).2.1 = rest at hcl ⊢
  generalize (cutL 39 s).2.2 = based
  -- the number of bits or the number itself
  have two : ∀ (n : Int), J8 tab3 2 [sv rest, .bool based, .int .i64 n, .bool false] H0 = .ok (numI ([], false, 21)) H0 := by
    intro n
    refine e8_2 ?_ (by simp)
    simp only [t8_2, W, spanK_u, decide_eq_true_eq, Bool.not_eq_true', decide_eq_false_iff_not, Bool.false_eq_true, Bool.not_true, Bool.not_false, decide_true, decide_false, not_true_eq_false, not_false_eq_true, and_true, true_and, and_false, false_and, ne_eq, Nat.zero_add, Nat.add_zero, cond_true, cond_false, ↓reduceIte, reduceCtorEq, Nat.reduceAdd, Int.reduceEq, Int.reduceNe, Int.reduceLT, Int.reduceLE, Int.reduceAdd, Int.reduceSub, Int.reduceMul, Int.reduceNeg, Nat.reduceMul, List.getElem?_cons_zero, List.getElem?_cons_succ]
    rfl
  have bad : ∀ {n : Nat}, based = true → (n < 1 ∨ rest = []) → J8 tab3 2 [sv rest, .bool based, .int .i64 (n : Nat), .bool true] H0 = .ok (numI ([], false, 21)) H0 := by
    rintro n rfl hb
    refine e8_2 ?_ (by simp)
    by_cases h1 : ((n : Nat) : Int) < 1
    · simp only [t8_2, W, spanK_u, decide_eq_true_eq, Bool.not_eq_true', decide_eq_false_iff_not, Bool.false_eq_true, Bool.not_true, Bool.not_false, decide_true, decide_false, not_true_eq_false, not_false_eq_true, and_true, true_and, and_false, false_and, ne_eq, Nat.zero_add, Nat.add_zero, cond_true, cond_false, ↓reduceIte, reduceCtorEq, Nat.reduceAdd, Int.reduceEq, Int.reduceNe, Int.reduceLT, Int.reduceLE, Int.reduceAdd, Int.reduceSub, Int.reduceMul, Int.reduceNeg, Nat.reduceMul, List.getElem?_cons_zero, List.getElem?_cons_succ, h1]
      rfl
    · have h2 : rest = [] := hb.resolve_left (by omega)
      have h2' : (rest = []) = True := by simp [h2]
      simp only [t8_2, W, spanK_u, decide_eq_true_eq, Bool.not_eq_true', decide_eq_false_iff_not, Bool.false_eq_true, Bool.not_true, Bool.not_false, decide_true, decide_false, not_true_eq_false, not_false_eq_true, and_true, true_and, and_false, false_and, ne_eq, Nat.zero_add, Nat.add_zero, cond_true, cond_false, ↓reduceIte, reduceCtorEq, Nat.reduceAdd, Int.reduceEq, Int.reduceNe, Int.reduceLT, Int.reduceLE, Int.reduceAdd, Int.reduceSub, Int.reduceMul, Int.reduceNeg, Nat.reduceMul, List.getElem?_cons_zero, List.getElem?_cons_succ, h1, sv0, h2']
      rfl
  have good : ∀ {n : Nat}, (based = true → n ≤ 256) → n ≤ 4294967295 → (based = true → 1 ≤ n ∧ rest ≠ []) → J8 tab3 2 [sv rest, .bool based, .int .i64 (n : Nat), .bool true] H0
      = .ok (numI (if based = false then (ofF n 32, true, 0) else fitF (bitsF (rest.headD 0) rest.tail) n)) H0 := by
    intro n hn1 hn2 hb
    refine e8_2 ?_ (by simp [numI])
    cases based with
    | false =>
      have e17 := of3 (h := H0) n 32 (by omega) (by omega) (by omega)
      simp only [Int.cast_ofNat_Int] at e17
      simp only [t8_2, W, spanK_u, decide_eq_true_eq, Bool.not_eq_true', decide_eq_false_iff_not, Bool.false_eq_true, Bool.not_true, Bool.not_false, decide_true, decide_false, not_true_eq_false, not_false_eq_true, and_true, true_and, and_false, false_and, ne_eq, Nat.zero_add, Nat.add_zero, cond_true, cond_false, ↓reduceIte, reduceCtorEq, Nat.reduceAdd, Int.reduceEq, Int.reduceNe, Int.reduceLT, Int.reduceLE, Int.reduceAdd, Int.reduceSub, Int.reduceMul, Int.reduceNeg, Nat.reduceMul, List.getElem?_cons_zero, List.getElem?_cons_succ, e17, numI]
    | true =>
      obtain ⟨h1, h2⟩ := hb rfl
      have hn := hn1 rfl
      obtain ⟨c, l, rfl⟩ := List.exists_cons_of_ne_nil h2
      simp only [List.length_cons] at hcl
      have h1' : ¬ ((n : Nat) : Int) < 1 := by omega
      have h2' : ((c :: l) = []) = False := by simp
      have hbl := bitsF_len c l
      have e18 := bits3 (h := H0) c l (by omega)
      simp only [List.headD_cons, List.tail_cons]
      generalize bitsF c l = d at e18 hbl ⊢
      by_cases hd : d = []
      · have hd' : (d = []) = True := by simp [hd]
        have hd2 : d.isEmpty = true := by rw [hd]; rfl
        simp only [fitF, hd2, if_true, Bool.true_eq_false, if_false]
        simp only [t8_2, W, spanK_u, decide_eq_true_eq, Bool.not_eq_true', decide_eq_false_iff_not, Bool.false_eq_true, Bool.not_true, Bool.not_false, decide_true, decide_false, not_true_eq_false, not_false_eq_true, and_true, true_and, and_false, false_and, ne_eq, Nat.zero_add, Nat.add_zero, cond_true, cond_false, ↓reduceIte, reduceCtorEq, Nat.reduceAdd, Int.reduceEq, Int.reduceNe, Int.reduceLT, Int.reduceLE, Int.reduceAdd, Int.reduceSub, Int.reduceMul, Int.reduceNeg, Nat.reduceMul, List.getElem?_cons_zero, List.getElem?_cons_succ, h1', h2', sv0]
        rw [ixStr_sv _ _ (by omega) (by simp)]
        simp only [W, spanK_u, decide_eq_true_eq, Bool.not_eq_true', decide_eq_false_iff_not, Bool.false_eq_true, Bool.not_true, Bool.not_false, decide_true, decide_false, not_true_eq_false, not_false_eq_true, and_true, true_and, and_false, false_and, ne_eq, Nat.zero_add, Nat.add_zero, cond_true, cond_false, ↓reduceIte, reduceCtorEq, Nat.reduceAdd, Int.reduceEq, Int.reduceNe, Int.reduceLT, Int.reduceLE, Int.reduceAdd, Int.reduceSub, Int.reduceMul, Int.reduceNeg, Nat.reduceMul, List.getElem?_cons_zero, List.getElem?_cons_succ]
        rw [slcStr_from _ _ (by omega) (by simp; omega)]
        simp only [W, spanK_u, decide_eq_true_eq, Bool.not_eq_true', decide_eq_false_iff_not, Bool.false_eq_true, Bool.not_true, Bool.not_false, decide_true, decide_false, not_true_eq_false, not_false_eq_true, and_true, true_and, and_false, false_and, ne_eq, Nat.zero_add, Nat.add_zero, cond_true, cond_false, ↓reduceIte, reduceCtorEq, Nat.reduceAdd, Int.reduceEq, Int.reduceNe, Int.reduceLT, Int.reduceLE, Int.reduceAdd, Int.reduceSub, Int.reduceMul, Int.reduceNeg, Nat.reduceMul, List.getElem?_cons_zero, List.getElem?_cons_succ, Int.toNat_zero, List.getElem_cons_zero, show (Int.toNat 1) = 1 from rfl, List.drop_succ_cons, List.drop_zero, e18, hd', numI]
      · have hd' : (d = []) = False := by simp [hd]
        have hfin : ∀ r : CRes, r ≠ .fail → t8_2 (CL tab3) (J8 tab3) (sv (c :: l)) (.bool true) (.int .i64 (n : Nat)) (.bool true) H0 = .ok (numI (padF d n, false, 0)) H0 → True := fun _ _ _ => trivial
        obtain ⟨x, m, rfl⟩ := List.exists_cons_of_ne_nil hd
        simp only [fitF, List.isEmpty_cons, Bool.true_eq_false, Bool.false_eq_true, if_false]
        by_cases hle : ((n : Nat) : Int) ≤ ((List.length (x :: m) : Nat) : Int)
        · have hle' : n ≤ (x :: m).length := by omega
          simp only [t8_2, W, spanK_u, decide_eq_true_eq, Bool.not_eq_true', decide_eq_false_iff_not, Bool.false_eq_true, Bool.not_true, Bool.not_false, decide_true, decide_false, not_true_eq_false, not_false_eq_true, and_true, true_and, and_false, false_and, ne_eq, Nat.zero_add, Nat.add_zero, cond_true, cond_false, ↓reduceIte, reduceCtorEq, Nat.reduceAdd, Int.reduceEq, Int.reduceNe, Int.reduceLT, Int.reduceLE, Int.reduceAdd, Int.reduceSub, Int.reduceMul, Int.reduceNeg, Nat.reduceMul, List.getElem?_cons_zero, List.getElem?_cons_succ, h1', h2', sv0]
          rw [ixStr_sv _ _ (by omega) (by simp)]
          simp only [W, spanK_u, decide_eq_true_eq, Bool.not_eq_true', decide_eq_false_iff_not, Bool.false_eq_true, Bool.not_true, Bool.not_false, decide_true, decide_false, not_true_eq_false, not_false_eq_true, and_true, true_and, and_false, false_and, ne_eq, Nat.zero_add, Nat.add_zero, cond_true, cond_false, ↓reduceIte, reduceCtorEq, Nat.reduceAdd, Int.reduceEq, Int.reduceNe, Int.reduceLT, Int.reduceLE, Int.reduceAdd, Int.reduceSub, Int.reduceMul, Int.reduceNeg, Nat.reduceMul, List.getElem?_cons_zero, List.getElem?_cons_succ]
          rw [slcStr_from _ _ (by omega) (by simp; omega)]
          simp only [W, spanK_u, decide_eq_true_eq, Bool.not_eq_true', decide_eq_false_iff_not, Bool.false_eq_true, Bool.not_true, Bool.not_false, decide_true, decide_false, not_true_eq_false, not_false_eq_true, and_true, true_and, and_false, false_and, ne_eq, Nat.zero_add, Nat.add_zero, cond_true, cond_false, ↓reduceIte, reduceCtorEq, Nat.reduceAdd, Int.reduceEq, Int.reduceNe, Int.reduceLT, Int.reduceLE, Int.reduceAdd, Int.reduceSub, Int.reduceMul, Int.reduceNeg, Nat.reduceMul, List.getElem?_cons_zero, List.getElem?_cons_succ, Int.toNat_zero, List.getElem_cons_zero, show (Int.toNat 1) = 1 from rfl, List.drop_succ_cons, List.drop_zero, e18, hd', hle]
          rw [wr_i64 (by omega) (by omega), slcStr_from _ _ (by omega) (by omega)]
          have : (((List.length (x :: m) : Nat) : Int) - ((n : Nat) : Int)).toNat = (x :: m).length - n := by omega
          simp only [W, spanK_u, decide_eq_true_eq, Bool.not_eq_true', decide_eq_false_iff_not, Bool.false_eq_true, Bool.not_true, Bool.not_false, decide_true, decide_false, not_true_eq_false, not_false_eq_true, and_true, true_and, and_false, false_and, ne_eq, Nat.zero_add, Nat.add_zero, cond_true, cond_false, ↓reduceIte, reduceCtorEq, Nat.reduceAdd, Int.reduceEq, Int.reduceNe, Int.reduceLT, Int.reduceLE, Int.reduceAdd, Int.reduceSub, Int.reduceMul, Int.reduceNeg, Nat.reduceMul, List.getElem?_cons_zero, List.getElem?_cons_succ, this, numI, padF, hle', if_true]
        · have hle' : ¬ n ≤ (x :: m).length := by omega
          have hsub : wr .i64 (((n : Nat) : Int) - ((List.length (x :: m) : Nat) : Int)) = ((n - (x :: m).length : Nat) : Int) := by rw [wr_i64 (by omega) (by omega)]; omega
          have u120 : (((x.toNat : Nat) : Int) = 120) = (x = 120) := u8_eq x 120 (by decide)
          have u122 : (((x.toNat : Nat) : Int) = 122) = (x = 122) := u8_eq x 122 (by decide)
          have hix : ixStr (sv (x :: m)) (.int .i64 0) = some (.int .u8 (x.toNat : Nat)) := ixStr_sv _ _ (by omega) (by simp)
          have h10 : slcStr (sv (x :: m)) none (some (.int .i64 1)) = some (sv [x]) := by
            rw [slcStr_to _ _ (by omega) (by simp; omega)]; rfl
          have add : ∀ c : UInt8, binS .add (sv (List.replicate (n - (x :: m).length) c)) (sv (x :: m)) = some (sv (List.replicate (n - (x :: m).length) c ++ x :: m)) := fun c => binS_add _ _ (by simp only [List.length_replicate]; omega)
          have r1 := rep3 (h := H0) x (n - (x :: m).length) (by omega)
          have r2 := rep3 (h := H0) 48 (n - (x :: m).length) (by omega)
          simp only [t8_2, W, spanK_u, decide_eq_true_eq, Bool.not_eq_true', decide_eq_false_iff_not, Bool.false_eq_true, Bool.not_true, Bool.not_false, decide_true, decide_false, not_true_eq_false, not_false_eq_true, and_true, true_and, and_false, false_and, ne_eq, Nat.zero_add, Nat.add_zero, cond_true, cond_false, ↓reduceIte, reduceCtorEq, Nat.reduceAdd, Int.reduceEq, Int.reduceNe, Int.reduceLT, Int.reduceLE, Int.reduceAdd, Int.reduceSub, Int.reduceMul, Int.reduceNeg, Nat.reduceMul, List.getElem?_cons_zero, List.getElem?_cons_succ, h1', h2', sv0]
          rw [ixStr_sv _ _ (by omega) (by simp)]
          simp only [W, spanK_u, decide_eq_true_eq, Bool.not_eq_true', decide_eq_false_iff_not, Bool.false_eq_true, Bool.not_true, Bool.not_false, decide_true, decide_false, not_true_eq_false, not_false_eq_true, and_true, true_and, and_false, false_and, ne_eq, Nat.zero_add, Nat.add_zero, cond_true, cond_false, ↓reduceIte, reduceCtorEq, Nat.reduceAdd, Int.reduceEq, Int.reduceNe, Int.reduceLT, Int.reduceLE, Int.reduceAdd, Int.reduceSub, Int.reduceMul, Int.reduceNeg, Nat.reduceMul, List.getElem?_cons_zero, List.getElem?_cons_succ]
          rw [slcStr_from _ _ (by omega) (by simp; omega)]
          simp only [W, spanK_u, decide_eq_true_eq, Bool.not_eq_true', decide_eq_false_iff_not, Bool.false_eq_true, Bool.not_true, Bool.not_false, decide_true, decide_false, not_true_eq_false, not_false_eq_true, and_true, true_and, and_false, false_and, ne_eq, Nat.zero_add, Nat.add_zero, cond_true, cond_false, ↓reduceIte, reduceCtorEq, Nat.reduceAdd, Int.reduceEq, Int.reduceNe, Int.reduceLT, Int.reduceLE, Int.reduceAdd, Int.reduceSub, Int.reduceMul, Int.reduceNeg, Nat.reduceMul, List.getElem?_cons_zero, List.getElem?_cons_succ, Int.toNat_zero, List.getElem_cons_zero, show (Int.toNat 1) = 1 from rfl, List.drop_succ_cons, List.drop_zero, e18, hd', hle, hix, u120, u122, h10, hsub, str48, numI, padF, hle', if_false, List.head?_cons, Option.some.injEq, List.headD_cons]
          by_cases q1 : x = 120
          · have q1' : (x = 120) = True := by simp [q1]
            simp only [q1', W, spanK_u, decide_eq_true_eq, Bool.not_eq_true', decide_eq_false_iff_not, Bool.false_eq_true, Bool.not_true, Bool.not_false, decide_true, decide_false, not_true_eq_false, not_false_eq_true, and_true, true_and, and_false, false_and, ne_eq, Nat.zero_add, Nat.add_zero, cond_true, cond_false, ↓reduceIte, reduceCtorEq, Nat.reduceAdd, Int.reduceEq, Int.reduceNe, Int.reduceLT, Int.reduceLE, Int.reduceAdd, Int.reduceSub, Int.reduceMul, Int.reduceNeg, Nat.reduceMul, List.getElem?_cons_zero, List.getElem?_cons_succ, true_or, r1, add]
          · have q1' : (x = 120) = False := by simp [q1]
            by_cases q2 : x = 122
            · have q2' : (x = 122) = True := by simp [q2]
              simp only [q1', q2', W, spanK_u, decide_eq_true_eq, Bool.not_eq_true', decide_eq_false_iff_not, Bool.false_eq_true, Bool.not_true, Bool.not_false, decide_true, decide_false, not_true_eq_false, not_false_eq_true, and_true, true_and, and_false, false_and, ne_eq, Nat.zero_add, Nat.add_zero, cond_true, cond_false, ↓reduceIte, reduceCtorEq, Nat.reduceAdd, Int.reduceEq, Int.reduceNe, Int.reduceLT, Int.reduceLE, Int.reduceAdd, Int.reduceSub, Int.reduceMul, Int.reduceNeg, Nat.reduceMul, List.getElem?_cons_zero, List.getElem?_cons_succ, or_true, r1, add]
            · have q2' : (x = 122) = False := by simp [q2]
              simp only [q1', q2', W, spanK_u, decide_eq_true_eq, Bool.not_eq_true', decide_eq_false_iff_not, Bool.false_eq_true, Bool.not_true, Bool.not_false, decide_true, decide_false, not_true_eq_false, not_false_eq_true, and_true, true_and, and_false, false_and, ne_eq, Nat.zero_add, Nat.add_zero, cond_true, cond_false, ↓reduceIte, reduceCtorEq, Nat.reduceAdd, Int.reduceEq, Int.reduceNe, Int.reduceLT, Int.reduceLE, Int.reduceAdd, Int.reduceSub, Int.reduceMul, Int.reduceNeg, Nat.reduceMul, List.getElem?_cons_zero, List.getElem?_cons_succ, or_self, r2, add]
  -- the size
  have one : ∀ most : Int, (most = if based = true then 256 else 4294967295) → J8 tab3 1 [sv size, sv rest, .bool based, .int .i64 most] H0 = .ok (numI (match (if plainF size = true then decF size most else none) with
      | none => ([], false, 21)
      | some n => if based = false then (ofF n 32, true, 0) else if n < 1 ∨ rest = [] then ([], false, 21) else fitF (bitsF (rest.headD 0) rest.tail) n)) H0 := by
    intro most hm
    refine e8_1 ?_ (by simp [numI])
    cases hp : plainF size with
    | false =>
      simp only [t8_1, plain3, hp, W, spanK_u, decide_eq_true_eq, Bool.not_eq_true', decide_eq_false_iff_not, Bool.false_eq_true, Bool.not_true, Bool.not_false, decide_true, decide_false, not_true_eq_false, not_false_eq_true, and_true, true_and, and_false, false_and, ne_eq, Nat.zero_add, Nat.add_zero, cond_true, cond_false, ↓reduceIte, reduceCtorEq, Nat.reduceAdd, Int.reduceEq, Int.reduceNe, Int.reduceLT, Int.reduceLE, Int.reduceAdd, Int.reduceSub, Int.reduceMul, Int.reduceNeg, Nat.reduceMul, List.getElem?_cons_zero, List.getElem?_cons_succ]
      exact two 0
    | true =>
      simp only [t8_1, plain3, hp, W, spanK_u, decide_eq_true_eq, Bool.not_eq_true', decide_eq_false_iff_not, Bool.false_eq_true, Bool.not_true, Bool.not_false, decide_true, decide_false, not_true_eq_false, not_false_eq_true, and_true, true_and, and_false, false_and, ne_eq, Nat.zero_add, Nat.add_zero, cond_true, cond_false, ↓reduceIte, reduceCtorEq, Nat.reduceAdd, Int.reduceEq, Int.reduceNe, Int.reduceLT, Int.reduceLE, Int.reduceAdd, Int.reduceSub, Int.reduceMul, Int.reduceNeg, Nat.reduceMul, List.getElem?_cons_zero, List.getElem?_cons_succ, dec3 size most (by omega)]
      cases hd : decF size most with
      | none => exact two _
      | some n =>
        obtain ⟨h1, h2⟩ := decF_some hd
        rw [h1]
        simp only [Option.isSome_some]
        have hn : n ≤ 4294967295 := by
          cases based <;> simp at hm <;> omega
        have hn2 : based = true → n ≤ 256 := by
          rintro rfl
          simp at hm; omega
        cases based with
        | false =>
          have := good (n := n) hn2 hn (by simp)
          simp only [if_true] at this ⊢
          exact this
        | true =>
          simp only [Bool.true_eq_false, if_false]
          by_cases hb : n < 1 ∨ rest = []
          · rw [if_pos hb]; exact bad rfl hb
          · rw [if_neg hb]
            have := good (n := n) hn2 hn (fun _ => ⟨by omega, fun h => hb (.inr h)⟩)
            simp only [Bool.true_eq_false, if_false] at this
            exact this
  cases based with
  | true => simp only [W, spanK_u, decide_eq_true_eq, Bool.not_eq_true', decide_eq_false_iff_not, Bool.false_eq_true, Bool.not_true, Bool.not_false, decide_true, decide_false, not_true_eq_false, not_false_eq_true, and_true, true_and, and_false, false_and, ne_eq, Nat.zero_add, Nat.add_zero, cond_true, cond_false, ↓reduceIte, reduceCtorEq, Nat.reduceAdd, Int.reduceEq, Int.reduceNe, Int.reduceLT, Int.reduceLE, Int.reduceAdd, Int.reduceSub, Int.reduceMul, Int.reduceNeg, Nat.reduceMul, List.getElem?_cons_zero, List.getElem?_cons_succ]; exact one 256 rfl
  | false => simp only [W, spanK_u, decide_eq_true_eq, Bool.not_eq_true', decide_eq_false_iff_not, Bool.false_eq_true, Bool.not_true, Bool.not_false, decide_true, decide_false, not_true_eq_false, not_false_eq_true, and_true, true_and, and_false, false_and, ne_eq, Nat.zero_add, Nat.add_zero, cond_true, cond_false, ↓reduceIte, reduceCtorEq, Nat.reduceAdd, Int.reduceEq, Int.reduceNe, Int.reduceLT, Int.reduceLE, Int.reduceAdd, Int.reduceSub, Int.reduceMul, Int.reduceNeg, Nat.reduceMul, List.getElem?_cons_zero, List.getElem?_cons_succ]; exact one 4294967295 rfl

end Go.Proofs.YtfegkjmghbdogaaDoor

namespace Go.Proofs.YtfegkjmghbdogaaDoor
open Go
set_option maxRecDepth 100000

theorem err_of {W : World} {n : String} {d : DataW Unit} {g : Nat} (hm : Tryd.prog.globalNamed n = some g) (ht : (Tryd.prog.globals[g]?).map (·.type) = some 58) {name : String} {d' : DataW Unit} (hd : d = .iface name d') (h : Lib.VarReads Tryd.prog W n d) : ∃ v, W.cell? ⟨g, 0, none⟩ = some v ∧ isErr v := by
  subst hd
  obtain ⟨g', t, cs, fuel, p, e1, e2, e3, e4⟩ := h
  rw [hm] at e1
  injection e1 with e1
  subst e1
  rw [ht] at e2
  injection e2 with e2
  subst e2
  obtain ⟨_, u, v, hc, _⟩ := iface_of_trod Tryd.underlying58 e4
  refine ⟨.iface u v, ?_, .inr ⟨u, v, rfl⟩⟩
  unfold World.var? at e3
  rw [hm] at e3
  simp only [Option.bind_some] at e3
  split at e3
  · rename_i c t' fr hh
    injection e3 with e3
    subst e3
    have h0 : c[0]? = some (.iface u v) := by rw [← Array.getElem?_toList, hc]; rfl
    simp only [World.cell?, hh, h0]
    rfl
  · cases e3
theorem ep_of {laid : List (String × DataW Unit)} (h1 : ("strconv.ErrSyntax", Rows.laid_strconv_ErrSyntax) ∈ laid) (h2 : ("strconv.ErrRange", Rows.laid_strconv_ErrRange) ∈ laid) (hp : (laid.all fun x => x.2.handleName?.isNone) = true)
    {W : World} (hs : W.ShapedOpen Tryd.prog) (hl : laidMetH Tryd.prog laid W) {S : I.Sc} (hS : ∀ k, ¬ S.wr k) : EP W S := by
  rw [MakeChecks.laidMetH_plain _ _ _ hp] at hl
  exact ⟨lay219.s1_3 W hs, err_of lay17.m0 (by kernel_rfl) rfl (Lib.laidMet.reads hl h1), err_of lay17.m1 (by kernel_rfl) rfl (Lib.laidMet.reads hl h2), hS _, hS _, hS _⟩

end Go.Proofs.YtfegkjmghbdogaaDoor
