import Derived.Test.YtdccdfmbakbikaaGreatDoorM4
import Derived.Test.YtdccdfmbakbikaaGreatDoorM3
import Derived.Shelf.Strings.Search2
import Derived.Shelf.Strings.Split
import Derived.Shelf.Strconv.Itoa3
set_option linter.unusedVariables false
set_option linter.unusedSimpArgs false
set_option maxRecDepth 1000000
namespace Go.Proofs.YtdccdfmbakbikaaGreatDoor
open Go I
open Go.RowKit (Below)
abbrev gMax : Nat := lay219_ren.g 1
noncomputable abbrev gPow : Nat := (Tryz.prog.globalNamed "internal/strconv.uint64pow10").getD 0
structure EP (w : World) (S : Sc) : Prop where
  max : ∃ m, w.cell? ⟨gMax, 0, none⟩ = some (.int .i64 m)
  pow : Lib.TabIs Tryz.prog w "internal/strconv.uint64pow10" .u64 Lib.pow10Tab
  n1 : ¬ S.wr gMax
  n2 : ¬ S.wr gPow
theorem cell_lt {w : World} {k : Nat} {v : Value} (hc : w.cell? ⟨k, 0, none⟩ = some v) : k < w.heap.size := by
  rcases Nat.lt_or_ge k w.heap.size with h | h
  · exact h
  · simp only [World.cell?, Array.getElem?_eq_none h] at hc; cases hc
theorem cell_keep {w w' : World} {k : Nat} {v : Value} (hc : w.cell? ⟨k, 0, none⟩ = some v) (h : k < w.heap.size → w'.heap[k]? = w.heap[k]?) : w'.cell? ⟨k, 0, none⟩ = some v := by
  rw [← hc]
  simp only [World.cell?, h (cell_lt hc)]
theorem named_pow : Tryz.prog.globalNamed "internal/strconv.uint64pow10" = some gPow := by kernel_rfl
theorem tab_lt {w : World} (h : Lib.TabIs Tryz.prog w "internal/strconv.uint64pow10" .u64 Lib.pow10Tab) : gPow < w.heap.size := by
  unfold Lib.TabIs World.var? at h
  rw [named_pow] at h
  simp only [Option.bind_some] at h
  rcases Nat.lt_or_ge gPow w.heap.size with h' | h'
  · exact h'
  · rw [Array.getElem?_eq_none h'] at h; cases h
theorem tab_keep {w w' : World} (h : Lib.TabIs Tryz.prog w "internal/strconv.uint64pow10" .u64 Lib.pow10Tab) (hk : w'.heap[gPow]? = w.heap[gPow]?) : Lib.TabIs Tryz.prog w' "internal/strconv.uint64pow10" .u64 Lib.pow10Tab := by
  unfold Lib.TabIs World.var? at h ⊢
  rw [named_pow] at h ⊢
  simp only [Option.bind_some] at h ⊢
  rw [hk]; exact h
theorem envK : EnvK EP := by
  rintro w₀ S w₁ S₁ k ⟨⟨m, h1⟩, h2, n1, n2⟩
  exact ⟨⟨m, cell_keep h1 fun hk => (k.keep _ hk n1).2⟩, tab_keep h2 (k.keep _ (tab_lt h2) n2).2, (k.keep _ (cell_lt h1) n1).1, (k.keep _ (tab_lt h2) n2).1⟩
def idxF (a b : Bs) : Option IV := if a.length < 4294967281 then some (.int .i64 (Lib.index a b)) else none
theorem idx_S (w₀ : World) (S : Sc) (es : EP w₀ S) (args : List IV) (h : H) (μ : Mu) (w : World) (cargs : Array Value) (r : Rel w₀ S μ h w) (hv : VRs μ args cargs.toList) : CallR Tryz.prog w₀ S μ 78 cargs w (pureF (fn2 dS dS idxF) args h) := by
  refine pureF_C noNum Tryz.func78 rfl (fun args v e => ?_) (fun args v w cargs e k hv => ?_) args h μ w cargs r hv
  · obtain ⟨l, n, rfl, e2⟩ := fn2_inv e
    unfold idxF at e2
    split at e2
    · injection e2 with e2; subst e2; exact ⟨rfl, rfl⟩
    · cases e2
  · obtain ⟨l, n, rfl, e2⟩ := fn2_inv e
    unfold idxF at e2
    split at e2
    · rename_i hc
      injection e2 with e2; subst e2
      obtain ⟨v1, vs, e1, q1, v2, vs2, rfl, q2, q3⟩ := hv
      simp only [VRs] at q3; subst q3
      obtain ⟨b, rfl, rfl⟩ := VR_sv q1
      obtain ⟨c, rfl, rfl⟩ := VR_sv q2
      obtain rfl : cargs = #[.string b, .string c] := Array.toList_inj.1 e1
      have hb : b.data.toList.length = b.size := by rw [Array.length_toList]; rfl
      obtain ⟨m, hm⟩ := (envK _ _ _ _ k es).max
      refine (Any.stringslite_Index { lay219 with } b c m w (by omega) hm).mono ?_
      rintro e w' ⟨rfl, rfl⟩
      exact ⟨_, rfl, rfl, Below.refl _ _⟩
    · cases e2
def cntF (a b : Bs) : Option IV := if a.length < 4294967281 ∧ b ≠ [] then some (.int .i64 (Lib.count a b : Nat)) else none
theorem cnt_S (w₀ : World) (S : Sc) (es : EP w₀ S) (args : List IV) (h : H) (μ : Mu) (w : World) (cargs : Array Value) (r : Rel w₀ S μ h w) (hv : VRs μ args cargs.toList) : CallR Tryz.prog w₀ S μ 57 cargs w (pureF (fn2 dS dS cntF) args h) := by
  refine pureF_C noNum Tryz.func57 rfl (fun args v e => ?_) (fun args v w cargs e k hv => ?_) args h μ w cargs r hv
  · obtain ⟨l, n, rfl, e2⟩ := fn2_inv e
    unfold cntF at e2
    split at e2
    · injection e2 with e2; subst e2; exact ⟨rfl, rfl⟩
    · cases e2
  · obtain ⟨l, n, rfl, e2⟩ := fn2_inv e
    unfold cntF at e2
    split at e2
    · rename_i hc
      injection e2 with e2; subst e2
      obtain ⟨v1, vs, e1, q1, v2, vs2, rfl, q2, q3⟩ := hv
      simp only [VRs] at q3; subst q3
      obtain ⟨b, rfl, rfl⟩ := VR_sv q1
      obtain ⟨c, rfl, rfl⟩ := VR_sv q2
      obtain rfl : cargs = #[.string b, .string c] := Array.toList_inj.1 e1
      have hb : b.data.toList.length = b.size := by rw [Array.length_toList]; rfl
      have hb2 : c.data.toList.length = c.size := by rw [Array.length_toList]; rfl
      have hc2 : c.data.toList.length ≠ 0 := fun h => hc.2 (List.eq_nil_of_length_eq_zero h)
      obtain ⟨m, hm⟩ := (envK _ _ _ _ k es).max
      refine Calls.mono (f := 57) (Any.strings_Count_any lay138 b c m w (by omega) hm (by omega)) ?_
      rintro e w' ⟨rfl, rfl⟩
      exact ⟨_, rfl, rfl, Below.refl _ _⟩
    · cases e2
def digU : Nat → Nat → Bs
  | 0, _ => []
  | f + 1, u => if u < 10 then [UInt8.ofNat (48 + u)] else digU f (u / 10) ++ [UInt8.ofNat (48 + u % 10)]
theorem digU_eq : ∀ (f u : Nat), u < 10 ^ f → 0 < f → digU f u = Lib.decDigits u
  | 0, u, h, h0 => by omega
  | f + 1, u, h, _ => by
    rw [Lib.decDigits]
    simp only [digU]
    by_cases hu : u < 10
    · rw [if_pos hu, dif_pos hu]
    · rw [if_neg hu, dif_neg hu]
      have h2 : u / 10 < 10 ^ f := by rw [Nat.pow_succ] at h; omega
      have h3 : 0 < f := by
        rcases Nat.eq_zero_or_pos f with rfl | h
        · simp at h; omega
        · exact h
      rw [digU_eq f _ h2 h3]
def itoaF (n : Int) : Bs := if n < 0 then 45 :: digU 20 n.natAbs else digU 20 n.toNat
def itoaV (n : Int) : Option IV := if -9223372036854775808 ≤ n ∧ n ≤ 9223372036854775807 then some (sv (itoaF n)) else none
theorem itoaF_eq {n : Int} (h : -9223372036854775808 ≤ n ∧ n ≤ 9223372036854775807) : itoaF n = Lib.itoa n := by
  have e : (10 : Nat) ^ 20 = 100000000000000000000 := by decide
  unfold itoaF Lib.itoa
  split
  · rw [digU_eq _ _ (by rw [e]; omega) (by decide)]
  · rw [digU_eq _ _ (by rw [e]; omega) (by decide)]
theorem below_grow (w : World) (k : Nat) (os : Array Go.Obj) : Below w.heap.size w (Sort.grow (w.drewN k) os) :=
  ⟨rfl, rfl, rfl, by simp [Sort.grow, World.drewN], fun j hj => by simp only [Sort.grow, World.drewN]; rw [Array.getElem?_append_left hj]⟩
theorem itoa_S (w₀ : World) (S : Sc) (es : EP w₀ S) (args : List IV) (h : H) (μ : Mu) (w : World) (cargs : Array Value) (r : Rel w₀ S μ h w) (hv : VRs μ args cargs.toList) : CallR Tryz.prog w₀ S μ 15 cargs w (pureF (fn1 dI itoaV) args h) := by
  refine pureF_C noNum Tryz.func15 rfl (fun args v e => ?_) (fun args v w cargs e k hv => ?_) args h μ w cargs r hv
  · obtain ⟨n, rfl, e2⟩ := fn1_inv e
    unfold itoaV at e2
    split at e2
    · injection e2 with e2; subst e2; exact ⟨rfl, rfl⟩
    · cases e2
  · obtain ⟨n, rfl, e2⟩ := fn1_inv e
    unfold itoaV at e2
    split at e2
    · rename_i hc
      injection e2 with e2; subst e2
      obtain ⟨v1, vs, e1, q1, q3⟩ := hv
      simp only [VRs] at q3; subst q3
      have q1 : v1 = .int .i64 n := q1
      subst q1
      obtain rfl : cargs = #[.int .i64 n] := Array.toList_inj.1 e1
      refine Calls.mono (f := 15) (Any.strconv_Itoa lay171 n hc.1 hc.2 w (envK _ _ _ _ k es).pow) ?_
      rintro e w' ⟨rfl, k, os, rfl⟩
      refine ⟨_, rfl, ?_, below_grow _ _ _⟩
      rw [itoaF_eq hc]
      exact VR_str _
    · cases e2
def pol (f : FuncId) : Bool := !(Nat.beq f 20 || Nat.beq f 37)
noncomputable def tab0 : Tab := (((((Tab.none pol).add 104 indexByteI).add 54 noEscapeI).add 57 (pureF (fn2 dS dS cntF))).add 78 (pureF (fn2 dS dS idxF))).add 15 (pureF (fn1 dI itoaV))
theorem good0 : GoodT Tryz.prog EP tab0 :=
  (((((GoodT.none pol).put (fun w₀ S _ args h μ w cargs r hv => indexByte_S Tryz.func104 (by kernel_rfl) (by kernel_rfl) (by kernel_rfl) (by kernel_rfl) args h μ w cargs r hv) indexByteI_step).put
    (fun w₀ S _ args h μ w cargs r hv => noEscape_S Tryz.func54 (by kernel_rfl) (by kernel_rfl) (by kernel_rfl) (by kernel_rfl) args h μ w cargs r hv) noEscapeI_step).put
    cnt_S (pureF_step _)).put idx_S (pureF_step _)).put itoa_S (pureF_step _)
theorem sv0 : IV.str ⟨0, 0⟩ = sv [] := rfl
def cutL (c : UInt8) : Bs → Bs × Bs × Bool
  | [] => ([], [], false)
  | x :: l => if x = c then ([], l, true) else (x :: (cutL c l).1, (cutL c l).2)
theorem index_one (c : UInt8) : ∀ l : Bs, Lib.index l [c] = if (cutL c l).2.2 = true then (((cutL c l).1.length : Nat) : Int) else -1
  | [] => by simp [Lib.index, cutL]
  | x :: l => by
    have hp : [c].isPrefixOf (x :: l) = (c == x) := by simp [List.isPrefixOf]
    unfold Lib.index cutL
    rw [hp, index_one c l]
    by_cases h : x = c
    · subst h; simp
    · have : (c == x) = false := beq_eq_false_iff_ne.2 fun e => h e.symm
      rw [this]
      simp only [h, if_false, Bool.false_eq_true]
      by_cases h2 : (cutL c l).2.2 = true
      · simp only [h2, if_true, List.length_cons]
        rw [if_neg (by simp)]
        omega
      · simp only [h2, if_false]
        rfl
theorem cutL_true (c : UInt8) : ∀ l : Bs, (cutL c l).2.2 = true → l = (cutL c l).1 ++ c :: (cutL c l).2.1
  | [], h => by cases h
  | x :: l, h => by
    unfold cutL at h ⊢
    by_cases e : x = c
    · subst e; simp
    · simp only [e, if_false] at h ⊢
      have := cutL_true c l h
      rw [List.cons_append, ← this]
theorem cutL_false (c : UInt8) : ∀ l : Bs, (cutL c l).2.2 = false → (cutL c l).1 = l ∧ (cutL c l).2.1 = [] ∧ ∀ x ∈ l, x ≠ c
  | [], _ => by simp [cutL]
  | x :: l, h => by
    unfold cutL at h ⊢
    by_cases e : x = c
    · subst e; simp at h
    · simp only [e, if_false] at h ⊢
      obtain ⟨h1, h2, h3⟩ := cutL_false c l h
      refine ⟨by rw [h1], h2, fun y hy => ?_⟩
      rcases List.mem_cons.1 hy with rfl | hy
      · exact e
      · exact h3 y hy
theorem idx {h : H} (a b : Bs) (ha : a.length < 4294967281) : CL tab0 78 [sv a, sv b] h = .ok (.int .i64 (Lib.index a b)) h := call2 (A := dS) (B := dS) rfl (by simp only [idxF, ha, if_true]) h
theorem cut {h : H} (g : Gd h) (s : Bs) (c : UInt8) (hs : s.length < 4294967281) : CL tab0 47 [sv s, sv [c]] h = .ok (.tup [sv (cutL c s).1, sv (cutL c s).2.1, .bool (cutL c s).2.2]) h := by
  have h2 : CL tab0 59 [sv s, sv [c]] h = .ok (.tup [sv (cutL c s).1, sv (cutL c s).2.1, .bool (cutL c s).2.2]) h := by
    refine c59 good0.step rfl rfl g ?_ (by simp)
    simp only [t59_0, idx s [c] hs, W, spanK_u, decide_eq_true_eq, Bool.not_eq_true', decide_eq_false_iff_not, Bool.false_eq_true, Bool.not_true, Bool.not_false, decide_true, decide_false, not_true_eq_false, not_false_eq_true, and_true, true_and, and_false, false_and, ne_eq, Nat.zero_add, Nat.add_zero, cond_true, cond_false, ↓reduceIte, reduceCtorEq, Nat.reduceAdd, Int.reduceEq, Int.reduceNe, Int.reduceLT, Int.reduceLE, Int.reduceAdd, Int.reduceSub, Int.reduceMul, Int.reduceNeg, Nat.reduceMul, List.getElem?_cons_zero, List.getElem?_cons_succ, index_one]
    cases hb : (cutL c s).2.2 with
    | true =>
      have e := cutL_true c s hb
      generalize hr : cutL c s = r at e hb ⊢
      obtain ⟨A, B, b⟩ := r
      simp only at e hb ⊢
      clear hr
      subst e
      have h0 : (0 : Int) ≤ (A.length : Nat) := by omega
      simp only [List.length_append, List.length_cons] at hs
      simp only [W, spanK_u, decide_eq_true_eq, Bool.not_eq_true', decide_eq_false_iff_not, Bool.false_eq_true, Bool.not_true, Bool.not_false, decide_true, decide_false, not_true_eq_false, not_false_eq_true, and_true, true_and, and_false, false_and, ne_eq, Nat.zero_add, Nat.add_zero, cond_true, cond_false, ↓reduceIte, reduceCtorEq, Nat.reduceAdd, Int.reduceEq, Int.reduceNe, Int.reduceLT, Int.reduceLE, Int.reduceAdd, Int.reduceSub, Int.reduceMul, Int.reduceNeg, Nat.reduceMul, List.getElem?_cons_zero, List.getElem?_cons_succ, h0]
      rw [slcStr_to _ _ h0 (by simp; omega)]
      simp only [W, spanK_u, decide_eq_true_eq, Bool.not_eq_true', decide_eq_false_iff_not, Bool.false_eq_true, Bool.not_true, Bool.not_false, decide_true, decide_false, not_true_eq_false, not_false_eq_true, and_true, true_and, and_false, false_and, ne_eq, Nat.zero_add, Nat.add_zero, cond_true, cond_false, ↓reduceIte, reduceCtorEq, Nat.reduceAdd, Int.reduceEq, Int.reduceNe, Int.reduceLT, Int.reduceLE, Int.reduceAdd, Int.reduceSub, Int.reduceMul, Int.reduceNeg, Nat.reduceMul, List.getElem?_cons_zero, List.getElem?_cons_succ, List.length_cons, List.length_nil, Int.toNat_natCast]
      rw [wr_i64 (by omega) (by omega), slcStr_from _ _ (by omega) (by simp; omega)]
      have e2 : (A ++ c :: B).drop (((A.length : Nat) : Int) + ((1 : Nat) : Int)).toNat = B := by
        rw [show (((A.length : Nat) : Int) + ((1 : Nat) : Int)).toNat = A.length + 1 by omega, List.drop_append]
        simp
      simp only [W, spanK_u, decide_eq_true_eq, Bool.not_eq_true', decide_eq_false_iff_not, Bool.false_eq_true, Bool.not_true, Bool.not_false, decide_true, decide_false, not_true_eq_false, not_false_eq_true, and_true, true_and, and_false, false_and, ne_eq, Nat.zero_add, Nat.add_zero, cond_true, cond_false, ↓reduceIte, reduceCtorEq, Nat.reduceAdd, Int.reduceEq, Int.reduceNe, Int.reduceLT, Int.reduceLE, Int.reduceAdd, Int.reduceSub, Int.reduceMul, Int.reduceNeg, Nat.reduceMul, List.getElem?_cons_zero, List.getElem?_cons_succ, List.take_left', e2, hb]
    | false =>
      obtain ⟨e1, e2, _⟩ := cutL_false c s hb
      simp only [W, spanK_u, decide_eq_true_eq, Bool.not_eq_true', decide_eq_false_iff_not, Bool.false_eq_true, Bool.not_true, Bool.not_false, decide_true, decide_false, not_true_eq_false, not_false_eq_true, and_true, true_and, and_false, false_and, ne_eq, Nat.zero_add, Nat.add_zero, cond_true, cond_false, ↓reduceIte, reduceCtorEq, Nat.reduceAdd, Int.reduceEq, Int.reduceNe, Int.reduceLT, Int.reduceLE, Int.reduceAdd, Int.reduceSub, Int.reduceMul, Int.reduceNeg, Nat.reduceMul, List.getElem?_cons_zero, List.getElem?_cons_succ, e1, e2]
      rfl
  exact c47 good0.step rfl rfl g (by simp only [t47_0, h2, W, spanK_u, decide_eq_true_eq, Bool.not_eq_true', decide_eq_false_iff_not, Bool.false_eq_true, Bool.not_true, Bool.not_false, decide_true, decide_false, not_true_eq_false, not_false_eq_true, and_true, true_and, and_false, false_and, ne_eq, Nat.zero_add, Nat.add_zero, cond_true, cond_false, ↓reduceIte, reduceCtorEq, Nat.reduceAdd, Int.reduceEq, Int.reduceNe, Int.reduceLT, Int.reduceLE, Int.reduceAdd, Int.reduceSub, Int.reduceMul, Int.reduceNeg, Nat.reduceMul, List.getElem?_cons_zero, List.getElem?_cons_succ]) (by simp)
def cutF (s p : Bs) : Option IV :=
  match p with
  | [c] => if s.length < 4294967281 then some (.tup [sv (cutL c s).1, sv (cutL c s).2.1, .bool (cutL c s).2.2]) else none
  | _ => none
theorem tCut : PureT Tryz.prog (CL tab0) 47 (fn2 dS dS cutF) := pure2 Tryz.func47 rfl fun s p v e => by
  unfold cutF at e
  split at e
  · split at e
    · rename_i hs
      injection e with e; subst e
      exact ⟨rfl, _, cut gd0 s _ hs⟩
    · cases e
  · cases e
theorem u8_eqv (a b : UInt8) : (((a.toNat : Nat) : Int) = ((b.toNat : Nat) : Int)) = (a = b) := propext ⟨fun h => UInt8.toNat_inj.1 (by omega), fun h => by rw [h]⟩
theorem leftByte {h : H} (c : UInt8) : ∀ (l : Bs), l.length ≤ 1099511627776 → J63 tab0 1 [sv l, .int .u8 (c.toNat : Nat)] h = .ok (sv (l.dropWhile (· == c))) h := by
  intro l
  induction l with
  | nil =>
    intro _
    refine e63_1 ?_ (by simp)
    simp only [t63_1, W, spanK_u, decide_eq_true_eq, Bool.not_eq_true', decide_eq_false_iff_not, Bool.false_eq_true, Bool.not_true, Bool.not_false, decide_true, decide_false, not_true_eq_false, not_false_eq_true, and_true, true_and, and_false, false_and, ne_eq, Nat.zero_add, Nat.add_zero, cond_true, cond_false, ↓reduceIte, reduceCtorEq, Nat.reduceAdd, Int.reduceEq, Int.reduceNe, Int.reduceLT, Int.reduceLE, Int.reduceAdd, Int.reduceSub, Int.reduceMul, Int.reduceNeg, Nat.reduceMul, List.getElem?_cons_zero, List.getElem?_cons_succ, List.length_nil, Int.ofNat_zero, Int.lt_irrefl]
    rfl
  | cons x l ih =>
    intro hl
    simp only [List.length_cons] at hl
    refine e63_1 ?_ (by simp)
    have h0 : (0 : Int) < ((l.length + 1 : Nat) : Int) := by omega
    simp only [t63_1, W, spanK_u, decide_eq_true_eq, Bool.not_eq_true', decide_eq_false_iff_not, Bool.false_eq_true, Bool.not_true, Bool.not_false, decide_true, decide_false, not_true_eq_false, not_false_eq_true, and_true, true_and, and_false, false_and, ne_eq, Nat.zero_add, Nat.add_zero, cond_true, cond_false, ↓reduceIte, reduceCtorEq, Nat.reduceAdd, Int.reduceEq, Int.reduceNe, Int.reduceLT, Int.reduceLE, Int.reduceAdd, Int.reduceSub, Int.reduceMul, Int.reduceNeg, Nat.reduceMul, List.getElem?_cons_zero, List.getElem?_cons_succ, List.length_cons, h0]
    rw [ixStr_sv _ _ (by omega) (by simp)]
    simp only [W, spanK_u, decide_eq_true_eq, Bool.not_eq_true', decide_eq_false_iff_not, Bool.false_eq_true, Bool.not_true, Bool.not_false, decide_true, decide_false, not_true_eq_false, not_false_eq_true, and_true, true_and, and_false, false_and, ne_eq, Nat.zero_add, Nat.add_zero, cond_true, cond_false, ↓reduceIte, reduceCtorEq, Nat.reduceAdd, Int.reduceEq, Int.reduceNe, Int.reduceLT, Int.reduceLE, Int.reduceAdd, Int.reduceSub, Int.reduceMul, Int.reduceNeg, Nat.reduceMul, List.getElem?_cons_zero, List.getElem?_cons_succ, Int.toNat_zero, List.getElem_cons_zero, u8_eqv, List.dropWhile_cons]
    by_cases hx : x = c
    · simp only [hx, W, spanK_u, decide_eq_true_eq, Bool.not_eq_true', decide_eq_false_iff_not, Bool.false_eq_true, Bool.not_true, Bool.not_false, decide_true, decide_false, not_true_eq_false, not_false_eq_true, and_true, true_and, and_false, false_and, ne_eq, Nat.zero_add, Nat.add_zero, cond_true, cond_false, ↓reduceIte, reduceCtorEq, Nat.reduceAdd, Int.reduceEq, Int.reduceNe, Int.reduceLT, Int.reduceLE, Int.reduceAdd, Int.reduceSub, Int.reduceMul, Int.reduceNeg, Nat.reduceMul, List.getElem?_cons_zero, List.getElem?_cons_succ, BEq.rfl]
      rw [slcStr_from _ _ (by omega) (by simp; omega)]
      simp only [W, spanK_u, decide_eq_true_eq, Bool.not_eq_true', decide_eq_false_iff_not, Bool.false_eq_true, Bool.not_true, Bool.not_false, decide_true, decide_false, not_true_eq_false, not_false_eq_true, and_true, true_and, and_false, false_and, ne_eq, Nat.zero_add, Nat.add_zero, cond_true, cond_false, ↓reduceIte, reduceCtorEq, Nat.reduceAdd, Int.reduceEq, Int.reduceNe, Int.reduceLT, Int.reduceLE, Int.reduceAdd, Int.reduceSub, Int.reduceMul, Int.reduceNeg, Nat.reduceMul, List.getElem?_cons_zero, List.getElem?_cons_succ]
      exact ih (by omega)
    · simp only [hx, W, spanK_u, decide_eq_true_eq, Bool.not_eq_true', decide_eq_false_iff_not, Bool.false_eq_true, Bool.not_true, Bool.not_false, decide_true, decide_false, not_true_eq_false, not_false_eq_true, and_true, true_and, and_false, false_and, ne_eq, Nat.zero_add, Nat.add_zero, cond_true, cond_false, ↓reduceIte, reduceCtorEq, Nat.reduceAdd, Int.reduceEq, Int.reduceNe, Int.reduceLT, Int.reduceLE, Int.reduceAdd, Int.reduceSub, Int.reduceMul, Int.reduceNeg, Nat.reduceMul, List.getElem?_cons_zero, List.getElem?_cons_succ, beq_iff_eq]
theorem trimLB {h : H} (g : Gd h) (c : UInt8) (l : Bs) (hl : l.length ≤ 1099511627776) : CL tab0 63 [sv l, .int .u8 (c.toNat : Nat)] h = .ok (sv (l.dropWhile (· == c))) h :=
  c63 good0.step rfl rfl g (by simp only [t63_0]; exact leftByte c l hl) (by simp)
def trimR (p : UInt8 → Bool) (l : Bs) : Bs := (l.reverse.dropWhile p).reverse
theorem trimR_snoc {p : UInt8 → Bool} (l : Bs) (c : UInt8) : trimR p (l ++ [c]) = if p c = true then trimR p l else l ++ [c] := by
  unfold trimR
  rw [List.reverse_append]
  simp only [List.reverse_cons, List.reverse_nil, List.nil_append, List.singleton_append, List.dropWhile_cons]
  split <;> simp
theorem trimR_len {p : UInt8 → Bool} (l : Bs) : (trimR p l).length ≤ l.length := by
  unfold trimR
  rw [List.length_reverse]
  have := (List.dropWhile_sublist (p := p) (l := l.reverse)).length_le
  simpa using this
theorem dropWhile_nil {p : UInt8 → Bool} : ∀ l : Bs, l.dropWhile p = [] ↔ ∀ x ∈ l, p x = true
  | [] => by simp
  | x :: l => by
    rw [List.dropWhile_cons]
    by_cases h : p x = true
    · rw [if_pos h, dropWhile_nil l]; simp [h]
    · rw [if_neg h]; simp [h]
theorem trim_nil {p : UInt8 → Bool} (l : Bs) : (trimR p l).dropWhile p = [] ↔ l.all p = true := by
  unfold trimR
  rw [dropWhile_nil]
  simp only [List.mem_reverse, List.all_eq_true]
  constructor
  · intro h x hx
    have : l.reverse.takeWhile p ++ l.reverse.dropWhile p = l.reverse := List.takeWhile_append_dropWhile
    have hx' : x ∈ l.reverse := by simpa using hx
    rw [← this] at hx'
    rcases List.mem_append.1 hx' with h1 | h1
    · exact List.all_eq_true.1 (List.all_takeWhile (p := p)) x h1
    · exact h x h1
  · intro h x hx
    exact h x (by simpa using (List.dropWhile_sublist (p := p) (l := l.reverse)).subset hx)
theorem rightByte {h : H} (c : UInt8) : ∀ (n : Nat) (l : Bs), l.length = n → l.length ≤ 1099511627776 → J64 tab0 1 [sv l, .int .u8 (c.toNat : Nat)] h = .ok (sv (trimR (· == c) l)) h := by
  intro n
  induction n with
  | zero =>
    intro l hl _
    have : l = [] := by simpa using hl
    subst this
    refine e64_1 ?_ (by simp)
    simp only [t64_1, W, spanK_u, decide_eq_true_eq, Bool.not_eq_true', decide_eq_false_iff_not, Bool.false_eq_true, Bool.not_true, Bool.not_false, decide_true, decide_false, not_true_eq_false, not_false_eq_true, and_true, true_and, and_false, false_and, ne_eq, Nat.zero_add, Nat.add_zero, cond_true, cond_false, ↓reduceIte, reduceCtorEq, Nat.reduceAdd, Int.reduceEq, Int.reduceNe, Int.reduceLT, Int.reduceLE, Int.reduceAdd, Int.reduceSub, Int.reduceMul, Int.reduceNeg, Nat.reduceMul, List.getElem?_cons_zero, List.getElem?_cons_succ, List.length_nil, Int.ofNat_zero, Int.lt_irrefl]
    rfl
  | succ n ih =>
    intro l hl hb
    rcases List.eq_nil_or_concat l with rfl | ⟨l', x, rfl⟩
    · simp at hl
    · simp only [List.concat_eq_append, List.length_append, List.length_singleton] at hl hb ⊢
      refine e64_1 ?_ (by simp)
      have e1 : ((l'.length + 1 : Nat) : Int) - 1 = (l'.length : Nat) := by omega
      have h0 : (0 : Int) < ((l'.length + 1 : Nat) : Int) := by omega
      simp (disch := omega) only [t64_1, W, spanK_u, decide_eq_true_eq, Bool.not_eq_true', decide_eq_false_iff_not, Bool.false_eq_true, Bool.not_true, Bool.not_false, decide_true, decide_false, not_true_eq_false, not_false_eq_true, and_true, true_and, and_false, false_and, ne_eq, Nat.zero_add, Nat.add_zero, cond_true, cond_false, ↓reduceIte, reduceCtorEq, Nat.reduceAdd, Int.reduceEq, Int.reduceNe, Int.reduceLT, Int.reduceLE, Int.reduceAdd, Int.reduceSub, Int.reduceMul, Int.reduceNeg, Nat.reduceMul, List.getElem?_cons_zero, List.getElem?_cons_succ, List.length_append, List.length_singleton, wr_i64, e1, h0]
      rw [ixStr_nat _ _ (by simp)]
      simp only [W, spanK_u, decide_eq_true_eq, Bool.not_eq_true', decide_eq_false_iff_not, Bool.false_eq_true, Bool.not_true, Bool.not_false, decide_true, decide_false, not_true_eq_false, not_false_eq_true, and_true, true_and, and_false, false_and, ne_eq, Nat.zero_add, Nat.add_zero, cond_true, cond_false, ↓reduceIte, reduceCtorEq, Nat.reduceAdd, Int.reduceEq, Int.reduceNe, Int.reduceLT, Int.reduceLE, Int.reduceAdd, Int.reduceSub, Int.reduceMul, Int.reduceNeg, Nat.reduceMul, List.getElem?_cons_zero, List.getElem?_cons_succ, List.getElem_append_right (Nat.le_refl _), Nat.sub_self, List.getElem_cons_zero, u8_eqv]
      rw [trimR_snoc]
      by_cases hx : x = c
      · simp only [hx, W, spanK_u, decide_eq_true_eq, Bool.not_eq_true', decide_eq_false_iff_not, Bool.false_eq_true, Bool.not_true, Bool.not_false, decide_true, decide_false, not_true_eq_false, not_false_eq_true, and_true, true_and, and_false, false_and, ne_eq, Nat.zero_add, Nat.add_zero, cond_true, cond_false, ↓reduceIte, reduceCtorEq, Nat.reduceAdd, Int.reduceEq, Int.reduceNe, Int.reduceLT, Int.reduceLE, Int.reduceAdd, Int.reduceSub, Int.reduceMul, Int.reduceNeg, Nat.reduceMul, List.getElem?_cons_zero, List.getElem?_cons_succ, BEq.rfl]
        rw [slcStr_to _ _ (by omega) (by simp; omega)]
        simp only [W, spanK_u, decide_eq_true_eq, Bool.not_eq_true', decide_eq_false_iff_not, Bool.false_eq_true, Bool.not_true, Bool.not_false, decide_true, decide_false, not_true_eq_false, not_false_eq_true, and_true, true_and, and_false, false_and, ne_eq, Nat.zero_add, Nat.add_zero, cond_true, cond_false, ↓reduceIte, reduceCtorEq, Nat.reduceAdd, Int.reduceEq, Int.reduceNe, Int.reduceLT, Int.reduceLE, Int.reduceAdd, Int.reduceSub, Int.reduceMul, Int.reduceNeg, Nat.reduceMul, List.getElem?_cons_zero, List.getElem?_cons_succ, Int.toNat_natCast, List.take_left']
        exact ih l' (by omega) (by omega)
      · simp only [hx, W, spanK_u, decide_eq_true_eq, Bool.not_eq_true', decide_eq_false_iff_not, Bool.false_eq_true, Bool.not_true, Bool.not_false, decide_true, decide_false, not_true_eq_false, not_false_eq_true, and_true, true_and, and_false, false_and, ne_eq, Nat.zero_add, Nat.add_zero, cond_true, cond_false, ↓reduceIte, reduceCtorEq, Nat.reduceAdd, Int.reduceEq, Int.reduceNe, Int.reduceLT, Int.reduceLE, Int.reduceAdd, Int.reduceSub, Int.reduceMul, Int.reduceNeg, Nat.reduceMul, List.getElem?_cons_zero, List.getElem?_cons_succ, beq_iff_eq]
theorem trimRB {h : H} (g : Gd h) (c : UInt8) (l : Bs) (hl : l.length ≤ 1099511627776) : CL tab0 64 [sv l, .int .u8 (c.toNat : Nat)] h = .ok (sv (trimR (· == c) l)) h :=
  c64 good0.step rfl rfl g (by simp only [t64_0]; exact rightByte c _ l rfl hl) (by simp)
theorem ix48 : ixStr (sv [48]) (.int .i64 0) = some (.int .u8 (((48 : UInt8).toNat : Nat) : Int)) := ixStr_sv [48] 0 (by omega) (by simp)
theorem u48 : ((((48 : UInt8).toNat : Nat) : Int) < 128) = True := by decide
theorem trim0 {h : H} (g : Gd h) (l : Bs) (hl : l.length ≤ 1099511627776) : CL tab0 51 [sv l, sv [48]] h = .ok (sv ((trimR (· == 48) l).dropWhile (· == 48))) h := by
  refine c51 good0.step rfl rfl g ?_ (by simp)
  by_cases h0 : l = []
  · subst h0
    simp only [t51_0, sv0, W, spanK_u, decide_eq_true_eq, Bool.not_eq_true', decide_eq_false_iff_not, Bool.false_eq_true, Bool.not_true, Bool.not_false, decide_true, decide_false, not_true_eq_false, not_false_eq_true, and_true, true_and, and_false, false_and, ne_eq, Nat.zero_add, Nat.add_zero, cond_true, cond_false, ↓reduceIte, reduceCtorEq, Nat.reduceAdd, Int.reduceEq, Int.reduceNe, Int.reduceLT, Int.reduceLE, Int.reduceAdd, Int.reduceSub, Int.reduceMul, Int.reduceNeg, Nat.reduceMul, List.getElem?_cons_zero, List.getElem?_cons_succ]
    rfl
  · simp only [t51_0, sv0, W, spanK_u, decide_eq_true_eq, Bool.not_eq_true', decide_eq_false_iff_not, Bool.false_eq_true, Bool.not_true, Bool.not_false, decide_true, decide_false, not_true_eq_false, not_false_eq_true, and_true, true_and, and_false, false_and, ne_eq, Nat.zero_add, Nat.add_zero, cond_true, cond_false, ↓reduceIte, reduceCtorEq, Nat.reduceAdd, Int.reduceEq, Int.reduceNe, Int.reduceLT, Int.reduceLE, Int.reduceAdd, Int.reduceSub, Int.reduceMul, Int.reduceNeg, Nat.reduceMul, List.getElem?_cons_zero, List.getElem?_cons_succ, h0, List.length_cons, List.length_nil, ix48, u48, trimRB g 48 l hl, trimLB g 48 _ (Nat.le_trans (trimR_len l) hl), Int.ofNat_eq_natCast, Int.natCast_add, Int.cast_ofNat_Int]
def setL (p : UInt8 → Bool) : List IV := (List.range 256).map fun i => .bool (p (UInt8.ofNat i))
theorem setL_len (p : UInt8 → Bool) : (setL p).length = 256 := by simp [setL]
theorem setL_get (p : UInt8 → Bool) (c : UInt8) : (setL p)[c.toNat]? = some (.bool (p c)) := by
  have hc := c.toNat_lt
  simp only [setL, List.getElem?_map, List.getElem?_range hc, Option.map_some, UInt8.ofNat_toNat]
theorem setL_scalar (p : UInt8 → Bool) : allScalar (setL p) = true := by
  unfold setL
  generalize List.range 256 = l
  induction l with
  | nil => rfl
  | cons x l ih => simp only [List.map_cons, allScalar, ih, IV.scalar, Bool.and_self]
theorem z6_set : z6 = setL fun _ => false := by kernel_rfl
theorem contains {p : UInt8 → Bool} {h : H} {b : Nat} (c : Cs h b true false (setL p)) (g : Gd h) (x : UInt8) : CL tab0 84 [.ptr b 0, .int .u8 (x.toNat : Nat)] h = .ok (.bool (p x)) h := by
  have hx := x.toNat_lt
  refine c84 good0.step rfl rfl g ?_ (by simp)
  simp only [t84_0, nilI_ptr, obind_some, ixA]
  rw [if_pos (by omega)]
  simp only [obind_some, c.ld0]
  simp only [Int.toNat_natCast, Nat.mul_one, Nat.zero_add, setL_get, obind_some]
def isV (c : UInt8) : Bool := c == 48 || c == 49 || c == 120 || c == 122
def cut4 : IV := .str ⟨4, 2054697264⟩
theorem makeV : ∃ h', CL tab0 65 [cut4] H0 = .ok (.tup [.agg (setL isV), .bool true]) h' := closed_val (m := 300) (n := 20) (by kernel_rfl)
theorem trimRight {p : UInt8 → Bool} {h : H} {b : Nat} (c : Cs h b true false (setL p)) (g : Gd h) : ∀ (n : Nat) (l : Bs), l.length = n → l.length ≤ 1099511627776 → J67 tab0 2 [sv l, .ptr b 0] h = .ok (sv (trimR p l)) h := by
  intro n
  induction n with
  | zero =>
    intro l hl _
    have : l = [] := by simpa using hl
    subst this
    refine e67_2 ?_ (by simp)
    simp only [t67_2, W, spanK_u, decide_eq_true_eq, Bool.not_eq_true', decide_eq_false_iff_not, Bool.false_eq_true, Bool.not_true, Bool.not_false, decide_true, decide_false, not_true_eq_false, not_false_eq_true, and_true, true_and, and_false, false_and, ne_eq, Nat.zero_add, Nat.add_zero, cond_true, cond_false, ↓reduceIte, reduceCtorEq, Nat.reduceAdd, Int.reduceEq, Int.reduceNe, Int.reduceLT, Int.reduceLE, Int.reduceAdd, Int.reduceSub, Int.reduceMul, Int.reduceNeg, Nat.reduceMul, List.getElem?_cons_zero, List.getElem?_cons_succ, List.length_nil, Int.ofNat_zero, Int.lt_irrefl]
    refine e67_1 ?_ (by simp)
    rfl
  | succ n ih =>
    intro l hl hb
    rcases List.eq_nil_or_concat l with rfl | ⟨l', x, rfl⟩
    · simp at hl
    · simp only [List.concat_eq_append, List.length_append, List.length_singleton] at hl hb ⊢
      refine e67_2 ?_ (by simp)
      have e1 : ((l'.length + 1 : Nat) : Int) - 1 = (l'.length : Nat) := by omega
      simp (disch := omega) only [t67_2, W, spanK_u, decide_eq_true_eq, Bool.not_eq_true', decide_eq_false_iff_not, Bool.false_eq_true, Bool.not_true, Bool.not_false, decide_true, decide_false, not_true_eq_false, not_false_eq_true, and_true, true_and, and_false, false_and, ne_eq, Nat.zero_add, Nat.add_zero, cond_true, cond_false, ↓reduceIte, reduceCtorEq, Nat.reduceAdd, Int.reduceEq, Int.reduceNe, Int.reduceLT, Int.reduceLE, Int.reduceAdd, Int.reduceSub, Int.reduceMul, Int.reduceNeg, Nat.reduceMul, List.getElem?_cons_zero, List.getElem?_cons_succ, List.length_append, List.length_singleton, wr_i64, e1]
      rw [if_pos (by omega), ixStr_nat _ _ (by simp)]
      simp only [W, spanK_u, decide_eq_true_eq, Bool.not_eq_true', decide_eq_false_iff_not, Bool.false_eq_true, Bool.not_true, Bool.not_false, decide_true, decide_false, not_true_eq_false, not_false_eq_true, and_true, true_and, and_false, false_and, ne_eq, Nat.zero_add, Nat.add_zero, cond_true, cond_false, ↓reduceIte, reduceCtorEq, Nat.reduceAdd, Int.reduceEq, Int.reduceNe, Int.reduceLT, Int.reduceLE, Int.reduceAdd, Int.reduceSub, Int.reduceMul, Int.reduceNeg, Nat.reduceMul, List.getElem?_cons_zero, List.getElem?_cons_succ, List.getElem_append_right (Nat.le_refl _), Nat.sub_self, List.getElem_cons_zero]
      rw [contains c g x]
      simp only [W, spanK_u, decide_eq_true_eq, Bool.not_eq_true', decide_eq_false_iff_not, Bool.false_eq_true, Bool.not_true, Bool.not_false, decide_true, decide_false, not_true_eq_false, not_false_eq_true, and_true, true_and, and_false, false_and, ne_eq, Nat.zero_add, Nat.add_zero, cond_true, cond_false, ↓reduceIte, reduceCtorEq, Nat.reduceAdd, Int.reduceEq, Int.reduceNe, Int.reduceLT, Int.reduceLE, Int.reduceAdd, Int.reduceSub, Int.reduceMul, Int.reduceNeg, Nat.reduceMul, List.getElem?_cons_zero, List.getElem?_cons_succ]
      rw [trimR_snoc]
      cases hx : p x with
      | false =>
        simp only [W, spanK_u, decide_eq_true_eq, Bool.not_eq_true', decide_eq_false_iff_not, Bool.false_eq_true, Bool.not_true, Bool.not_false, decide_true, decide_false, not_true_eq_false, not_false_eq_true, and_true, true_and, and_false, false_and, ne_eq, Nat.zero_add, Nat.add_zero, cond_true, cond_false, ↓reduceIte, reduceCtorEq, Nat.reduceAdd, Int.reduceEq, Int.reduceNe, Int.reduceLT, Int.reduceLE, Int.reduceAdd, Int.reduceSub, Int.reduceMul, Int.reduceNeg, Nat.reduceMul, List.getElem?_cons_zero, List.getElem?_cons_succ]
        exact e67_1 rfl (by simp)
      | true =>
        simp only [W, spanK_u, decide_eq_true_eq, Bool.not_eq_true', decide_eq_false_iff_not, Bool.false_eq_true, Bool.not_true, Bool.not_false, decide_true, decide_false, not_true_eq_false, not_false_eq_true, and_true, true_and, and_false, false_and, ne_eq, Nat.zero_add, Nat.add_zero, cond_true, cond_false, ↓reduceIte, reduceCtorEq, Nat.reduceAdd, Int.reduceEq, Int.reduceNe, Int.reduceLT, Int.reduceLE, Int.reduceAdd, Int.reduceSub, Int.reduceMul, Int.reduceNeg, Nat.reduceMul, List.getElem?_cons_zero, List.getElem?_cons_succ]
        rw [slcStr_to _ _ (by omega) (by simp; omega)]
        simp only [W, spanK_u, decide_eq_true_eq, Bool.not_eq_true', decide_eq_false_iff_not, Bool.false_eq_true, Bool.not_true, Bool.not_false, decide_true, decide_false, not_true_eq_false, not_false_eq_true, and_true, true_and, and_false, false_and, ne_eq, Nat.zero_add, Nat.add_zero, cond_true, cond_false, ↓reduceIte, reduceCtorEq, Nat.reduceAdd, Int.reduceEq, Int.reduceNe, Int.reduceLT, Int.reduceLE, Int.reduceAdd, Int.reduceSub, Int.reduceMul, Int.reduceNeg, Nat.reduceMul, List.getElem?_cons_zero, List.getElem?_cons_succ, Int.toNat_natCast, List.take_left']
        exact ih l' (by omega) (by omega)
theorem trimLeft {p : UInt8 → Bool} {h : H} {b : Nat} (c : Cs h b true false (setL p)) (g : Gd h) : ∀ (l : Bs), l.length ≤ 1099511627776 → J66 tab0 2 [sv l, .ptr b 0] h = .ok (sv (l.dropWhile p)) h := by
  intro l
  induction l with
  | nil =>
    intro _
    refine e66_2 ?_ (by simp)
    simp only [t66_2, W, spanK_u, decide_eq_true_eq, Bool.not_eq_true', decide_eq_false_iff_not, Bool.false_eq_true, Bool.not_true, Bool.not_false, decide_true, decide_false, not_true_eq_false, not_false_eq_true, and_true, true_and, and_false, false_and, ne_eq, Nat.zero_add, Nat.add_zero, cond_true, cond_false, ↓reduceIte, reduceCtorEq, Nat.reduceAdd, Int.reduceEq, Int.reduceNe, Int.reduceLT, Int.reduceLE, Int.reduceAdd, Int.reduceSub, Int.reduceMul, Int.reduceNeg, Nat.reduceMul, List.getElem?_cons_zero, List.getElem?_cons_succ, List.length_nil, Int.ofNat_zero, Int.lt_irrefl]
    exact e66_1 rfl (by simp)
  | cons x l ih =>
    intro hb
    simp only [List.length_cons] at hb
    refine e66_2 ?_ (by simp)
    simp only [t66_2, W, spanK_u, decide_eq_true_eq, Bool.not_eq_true', decide_eq_false_iff_not, Bool.false_eq_true, Bool.not_true, Bool.not_false, decide_true, decide_false, not_true_eq_false, not_false_eq_true, and_true, true_and, and_false, false_and, ne_eq, Nat.zero_add, Nat.add_zero, cond_true, cond_false, ↓reduceIte, reduceCtorEq, Nat.reduceAdd, Int.reduceEq, Int.reduceNe, Int.reduceLT, Int.reduceLE, Int.reduceAdd, Int.reduceSub, Int.reduceMul, Int.reduceNeg, Nat.reduceMul, List.getElem?_cons_zero, List.getElem?_cons_succ, List.length_cons]
    rw [if_pos (by omega), ixStr_sv _ _ (by omega) (by simp)]
    simp only [W, spanK_u, decide_eq_true_eq, Bool.not_eq_true', decide_eq_false_iff_not, Bool.false_eq_true, Bool.not_true, Bool.not_false, decide_true, decide_false, not_true_eq_false, not_false_eq_true, and_true, true_and, and_false, false_and, ne_eq, Nat.zero_add, Nat.add_zero, cond_true, cond_false, ↓reduceIte, reduceCtorEq, Nat.reduceAdd, Int.reduceEq, Int.reduceNe, Int.reduceLT, Int.reduceLE, Int.reduceAdd, Int.reduceSub, Int.reduceMul, Int.reduceNeg, Nat.reduceMul, List.getElem?_cons_zero, List.getElem?_cons_succ, Int.toNat_zero, List.getElem_cons_zero]
    rw [contains c g x]
    simp only [W, spanK_u, decide_eq_true_eq, Bool.not_eq_true', decide_eq_false_iff_not, Bool.false_eq_true, Bool.not_true, Bool.not_false, decide_true, decide_false, not_true_eq_false, not_false_eq_true, and_true, true_and, and_false, false_and, ne_eq, Nat.zero_add, Nat.add_zero, cond_true, cond_false, ↓reduceIte, reduceCtorEq, Nat.reduceAdd, Int.reduceEq, Int.reduceNe, Int.reduceLT, Int.reduceLE, Int.reduceAdd, Int.reduceSub, Int.reduceMul, Int.reduceNeg, Nat.reduceMul, List.getElem?_cons_zero, List.getElem?_cons_succ, List.dropWhile_cons]
    cases hx : p x with
    | false => simp only [W, spanK_u, decide_eq_true_eq, Bool.not_eq_true', decide_eq_false_iff_not, Bool.false_eq_true, Bool.not_true, Bool.not_false, decide_true, decide_false, not_true_eq_false, not_false_eq_true, and_true, true_and, and_false, false_and, ne_eq, Nat.zero_add, Nat.add_zero, cond_true, cond_false, ↓reduceIte, reduceCtorEq, Nat.reduceAdd, Int.reduceEq, Int.reduceNe, Int.reduceLT, Int.reduceLE, Int.reduceAdd, Int.reduceSub, Int.reduceMul, Int.reduceNeg, Nat.reduceMul, List.getElem?_cons_zero, List.getElem?_cons_succ]; exact e66_1 rfl (by simp)
    | true =>
      simp only [W, spanK_u, decide_eq_true_eq, Bool.not_eq_true', decide_eq_false_iff_not, Bool.false_eq_true, Bool.not_true, Bool.not_false, decide_true, decide_false, not_true_eq_false, not_false_eq_true, and_true, true_and, and_false, false_and, ne_eq, Nat.zero_add, Nat.add_zero, cond_true, cond_false, ↓reduceIte, reduceCtorEq, Nat.reduceAdd, Int.reduceEq, Int.reduceNe, Int.reduceLT, Int.reduceLE, Int.reduceAdd, Int.reduceSub, Int.reduceMul, Int.reduceNeg, Nat.reduceMul, List.getElem?_cons_zero, List.getElem?_cons_succ]
      rw [slcStr_from _ _ (by omega) (by simp; omega)]
      simp only [W, spanK_u, decide_eq_true_eq, Bool.not_eq_true', decide_eq_false_iff_not, Bool.false_eq_true, Bool.not_true, Bool.not_false, decide_true, decide_false, not_true_eq_false, not_false_eq_true, and_true, true_and, and_false, false_and, ne_eq, Nat.zero_add, Nat.add_zero, cond_true, cond_false, ↓reduceIte, reduceCtorEq, Nat.reduceAdd, Int.reduceEq, Int.reduceNe, Int.reduceLT, Int.reduceLE, Int.reduceAdd, Int.reduceSub, Int.reduceMul, Int.reduceNeg, Nat.reduceMul, List.getElem?_cons_zero, List.getElem?_cons_succ]
      exact ih (by omega)
theorem cut_sv : cut4 = sv [48, 49, 120, 122] := rfl
theorem trim (l : Bs) (hl : l.length ≤ 1099511627776) : ∃ h', CL tab0 51 [sv l, cut4] H0 = .ok (sv ((trimR isV l).dropWhile isV)) h' := by
  by_cases h0 : l = []
  · subst h0
    refine ⟨H0, c51 good0.step rfl rfl gd0 ?_ (by simp)⟩
    simp only [t51_0, sv0, W, spanK_u, decide_eq_true_eq, Bool.not_eq_true', decide_eq_false_iff_not, Bool.false_eq_true, Bool.not_true, Bool.not_false, decide_true, decide_false, not_true_eq_false, not_false_eq_true, and_true, true_and, and_false, false_and, ne_eq, Nat.zero_add, Nat.add_zero, cond_true, cond_false, ↓reduceIte, reduceCtorEq, Nat.reduceAdd, Int.reduceEq, Int.reduceNe, Int.reduceLT, Int.reduceLE, Int.reduceAdd, Int.reduceSub, Int.reduceMul, Int.reduceNeg, Nat.reduceMul, List.getElem?_cons_zero, List.getElem?_cons_succ]
    rfl
  · obtain ⟨h1, e1⟩ := makeV
    obtain ⟨g1, x1⟩ := call_ok good0.step e1 gd0
    obtain ⟨h2, e2, x2, c2⟩ := newI_ex g1 (cs := z6) (by rw [z6_set]; exact setL_scalar _)
    rw [z6_set] at c2
    obtain ⟨o, e3, c3, ho⟩ := c2.st (n := 256) (off := 0) (v := .agg (setL isV)) (setL_len _) (setL_scalar _) (by simp [setL_len])
    have g3 : Gd (h2.put h1.next o) := by
      obtain ⟨t, q, _⟩ := c2
      have := Step.put (o := o) q (fun fz size cs hh => by cases hh) x2.gd.wf
      exact ⟨this.1, this.2.pol.trans x2.gd.pol⟩
    have c4 : Cs (h2.put h1.next o) h1.next true false (setL isV) := by
      have : placeL (setL fun _ => false) 0 (IV.agg (setL isV)).cells = setL isV := by
        apply List.ext_getElem?
        intro i
        rw [placeL_get _ _ _ _ (by simp [IV.cells, setL_len])]
        simp only [IV.cells, Nat.zero_le, true_and, Nat.zero_add, Nat.sub_zero, setL_len]
        split
        · rfl
        · rw [List.getElem?_eq_none (by rw [setL_len]; omega), List.getElem?_eq_none (by rw [setL_len]; omega)]
      rw [this] at c3; exact c3
    have r1 : CL tab0 67 [sv l, .ptr h1.next 0] (h2.put h1.next o) = .ok (sv (trimR isV l)) (h2.put h1.next o) :=
      c67 good0.step rfl rfl g3 (by simp only [t67_0]; exact trimRight c4 g3 _ l rfl hl) (by simp)
    have r2 : CL tab0 66 [sv (trimR isV l), .ptr h1.next 0] (h2.put h1.next o) = .ok (sv ((trimR isV l).dropWhile isV)) (h2.put h1.next o) :=
      c66 good0.step rfl rfl g3 (by simp only [t66_0]; exact trimLeft c4 g3 _ (Nat.le_trans (trimR_len l) hl)) (by simp)
    refine ⟨h2.put h1.next o, c51 good0.step rfl rfl gd0 ?_ (by simp)⟩
    simp only [t51_0, sv0, cut_sv, W, spanK_u, decide_eq_true_eq, Bool.not_eq_true', decide_eq_false_iff_not, Bool.false_eq_true, Bool.not_true, Bool.not_false, decide_true, decide_false, not_true_eq_false, not_false_eq_true, and_true, true_and, and_false, false_and, ne_eq, Nat.zero_add, Nat.add_zero, cond_true, cond_false, ↓reduceIte, reduceCtorEq, Nat.reduceAdd, Int.reduceEq, Int.reduceNe, Int.reduceLT, Int.reduceLE, Int.reduceAdd, Int.reduceSub, Int.reduceMul, Int.reduceNeg, Nat.reduceMul, List.getElem?_cons_zero, List.getElem?_cons_succ, h0, List.length_cons, List.length_nil, reduceCtorEq]
    rw [← cut_sv, e1]
    simp only [W, spanK_u, decide_eq_true_eq, Bool.not_eq_true', decide_eq_false_iff_not, Bool.false_eq_true, Bool.not_true, Bool.not_false, decide_true, decide_false, not_true_eq_false, not_false_eq_true, and_true, true_and, and_false, false_and, ne_eq, Nat.zero_add, Nat.add_zero, cond_true, cond_false, ↓reduceIte, reduceCtorEq, Nat.reduceAdd, Int.reduceEq, Int.reduceNe, Int.reduceLT, Int.reduceLE, Int.reduceAdd, Int.reduceSub, Int.reduceMul, Int.reduceNeg, Nat.reduceMul, List.getElem?_cons_zero, List.getElem?_cons_succ, e2, e3, r1, r2, Int.ofNat_eq_natCast]
    rfl
def trimF (l p : Bs) : Option IV :=
  if l.length ≤ 1099511627776 then (if p = [48] then some (sv ((trimR (· == 48) l).dropWhile (· == 48))) else if p = [48, 49, 120, 122] then some (sv ((trimR isV l).dropWhile isV)) else none) else none
theorem tTrim : PureT Tryz.prog (CL tab0) 51 (fn2 dS dS trimF) := pure2 Tryz.func51 rfl fun l p v e => by
  unfold trimF at e
  split at e
  · rename_i hl
    split at e
    · rename_i hp
      subst hp
      injection e with e; subst e
      exact ⟨rfl, _, trim0 gd0 l hl⟩
    · split at e
      · rename_i hp
        subst hp
        injection e with e; subst e
        exact ⟨rfl, trim l hl⟩
      · cases e
  · cases e
theorem mixed : Tryz.prog.follows .mixedOrders = true := Tryz.checked.mixed
noncomputable def tab1 : Tab := (tab0.add 51 (pureF (fn2 dS dS trimF))).add 47 (pureF (fn2 dS dS cutF))
theorem good1 : GoodT Tryz.prog EP tab1 := good0.also envK mixed noNum (good0.also envK mixed noNum good0 tTrim) tCut
def checkM (l : Bs) : Bool := decide (1 ≤ l.length) && decide (l.length ≤ 256) && l.all isV
def checkF (l : Bs) : Option IV := some (.int .i64 (if checkM l = true then 0 else 10))
theorem tr4 {h : H} (l : Bs) (hl : l.length ≤ 1099511627776) : CL tab1 51 [sv l, .str ⟨4, 2054697264⟩] h = .ok (sv ((trimR isV l).dropWhile isV)) h :=
  call2 (A := dS) (B := dS) (a := l) (b := [48, 49, 120, 122]) rfl (by unfold trimF; rw [if_pos hl, if_neg (by decide), if_pos rfl]) h
theorem tCheck : PureT Tryz.prog (CL tab1) 36 (fn1 dS checkF) := pure1 Tryz.func36 rfl fun l v hv => by
  injection hv with hv; subst hv
  refine ⟨rfl, H0, ?_⟩
  show CL tab1 36 [sv l] H0 = _
  by_cases h1 : (l.length : Int) < 1
  · refine c36 good1.step rfl rfl gd0 ?_ (by simp)
    have : checkM l = false := by simp [checkM]; omega
    simp only [t36_0, W, spanK_u, decide_eq_true_eq, Bool.not_eq_true', decide_eq_false_iff_not, Bool.false_eq_true, Bool.not_true, Bool.not_false, decide_true, decide_false, not_true_eq_false, not_false_eq_true, and_true, true_and, and_false, false_and, ne_eq, Nat.zero_add, Nat.add_zero, cond_true, cond_false, ↓reduceIte, reduceCtorEq, Nat.reduceAdd, Int.reduceEq, Int.reduceNe, Int.reduceLT, Int.reduceLE, Int.reduceAdd, Int.reduceSub, Int.reduceMul, Int.reduceNeg, Nat.reduceMul, List.getElem?_cons_zero, List.getElem?_cons_succ, this, h1]
  · by_cases h2 : 256 < (l.length : Int)
    · refine c36 good1.step rfl rfl gd0 ?_ (by simp)
      have : checkM l = false := by simp [checkM]; omega
      simp only [t36_0, W, spanK_u, decide_eq_true_eq, Bool.not_eq_true', decide_eq_false_iff_not, Bool.false_eq_true, Bool.not_true, Bool.not_false, decide_true, decide_false, not_true_eq_false, not_false_eq_true, and_true, true_and, and_false, false_and, ne_eq, Nat.zero_add, Nat.add_zero, cond_true, cond_false, ↓reduceIte, reduceCtorEq, Nat.reduceAdd, Int.reduceEq, Int.reduceNe, Int.reduceLT, Int.reduceLE, Int.reduceAdd, Int.reduceSub, Int.reduceMul, Int.reduceNeg, Nat.reduceMul, List.getElem?_cons_zero, List.getElem?_cons_succ, this, h1, h2]
    · refine c36 good1.step rfl rfl gd0 ?_ (by simp)
      have h3 : checkM l = l.all isV := by simp [checkM]; omega
      simp only [t36_0, W, spanK_u, decide_eq_true_eq, Bool.not_eq_true', decide_eq_false_iff_not, Bool.false_eq_true, Bool.not_true, Bool.not_false, decide_true, decide_false, not_true_eq_false, not_false_eq_true, and_true, true_and, and_false, false_and, ne_eq, Nat.zero_add, Nat.add_zero, cond_true, cond_false, ↓reduceIte, reduceCtorEq, Nat.reduceAdd, Int.reduceEq, Int.reduceNe, Int.reduceLT, Int.reduceLE, Int.reduceAdd, Int.reduceSub, Int.reduceMul, Int.reduceNeg, Nat.reduceMul, List.getElem?_cons_zero, List.getElem?_cons_succ, h1, h2, tr4 l (by omega), sv0, trim_nil, h3]
      cases l.all isV <;> simp only [W, spanK_u, decide_eq_true_eq, Bool.not_eq_true', decide_eq_false_iff_not, Bool.false_eq_true, Bool.not_true, Bool.not_false, decide_true, decide_false, not_true_eq_false, not_false_eq_true, and_true, true_and, and_false, false_and, ne_eq, Nat.zero_add, Nat.add_zero, cond_true, cond_false, ↓reduceIte, reduceCtorEq, Nat.reduceAdd, Int.reduceEq, Int.reduceNe, Int.reduceLT, Int.reduceLE, Int.reduceAdd, Int.reduceSub, Int.reduceMul, Int.reduceNeg, Nat.reduceMul, List.getElem?_cons_zero, List.getElem?_cons_succ]
abbrev tyB : Nat := 44
abbrev tyU : Nat := 5
structure BT (T : Tab) : Prop where
  step : OvStep T
  cc : T.ov 39 = none
  ws : T.ov 14 = none
  st : T.ov 19 = none
  ne : T.ov 54 = some noEscapeI
  p1 : T.pol 39 = true
  p2 : T.pol 14 = true
  p3 : T.pol 19 = true
structure BL (h₀ h : H) (b : Nat) (l : Bs) : Prop where
  ky : Ky h₀ h
  at_ : h₀.next ≤ b
  ty : h.tys.get b = some (tyB, 2)
  cell : ∃ addr buf, Cs h b true false [addr, buf] ∧ (addr = .nilPtr ∨ addr = .ptr b 0) ∧ GB tyU h₀ h l buf
theorem BL.lt {h₀ h : H} {b : Nat} {l : Bs} (x : BL h₀ h b l) : b < h.next := by
  obtain ⟨addr, buf, c, _⟩ := x.cell
  exact c.lt x.ky.gd.wf
theorem BL.mono {h₀ h h' : H} {b : Nat} {l : Bs} (x : BL h₀ h b l) (y : Ky h h') : BL h₀ h' b l := by
  obtain ⟨addr, buf, c, ha, gb⟩ := x.cell
  exact ⟨x.ky.trans y, x.at_, (y.ty b x.lt).trans x.ty, addr, buf, c.ky x.ky.gd.wf y, ha, gb.ky x.ky.gd.wf y⟩
theorem newB_bl {h : H} (g : Gd h) : ∃ h', newB h [.nilPtr, .nilSlice] tyB = some (.ptr h.next 0, h') ∧ BL h h' h.next [] := by
  obtain ⟨h1, e1, x1, c1, _, _⟩ := (Ky.refl g).newI (cs := [.nilPtr, .nilSlice]) rfl
  refine ⟨h1.tag h.next tyB 2, by unfold newB; rw [e1]; rfl, x1.tag (Nat.le_refl _), Nat.le_refl _, ?_, .nilPtr, .nilSlice, c1, .inl rfl, .inl ⟨rfl, rfl⟩⟩
  simp only [H.tag, I.T.get_set, if_true]
theorem convTo {h : H} {b : Nat} {fz : Bool} {x y : IV} (c : Cs h b true fz [x, y]) : convI Tryz.prog h 42 86 (.ptr b 0) = some (.ptr b 0, h) := by
  obtain ⟨t, q, _⟩ := c
  have hs : sizeT Tryz.prog 44 = some 2 := by kernel_rfl
  simp only [convI, Tryz.underlying42, Tryz.underlying86, hs, q, List.length_cons, List.length_nil]
  rfl
theorem convFrom {h : H} {b : Nat} (c : h.tys.get b = some (tyB, 2)) : convI Tryz.prog h 86 42 (.ptr b 0) = some (.ptr b 0, h) := by
  have hs : sizeT Tryz.prog 44 = some 2 := by kernel_rfl
  have hl : liesAt Tryz.prog Tryz.prog.depth tyB (2 / Tryz.prog.cellsOf tyB) 0 44 1 = true := by kernel_rfl
  simp only [convI, Tryz.underlying42, Tryz.underlying86, hs, c, hl]
  rfl
theorem eqP_self {h : H} {b : Nat} {cs : List IV} (c : Cs h b true false cs) : eqP .neq h (.ptr b 0) (.ptr b 0) = some (.bool false) := by
  obtain ⟨t, q, _⟩ := c
  simp only [eqP, eqPv, if_true, q, decide_true]
  rfl
theorem bl_set {h₀ h h' : H} {b : Nat} {l m : Bs} {addr buf addr' buf' : IV} (x : BL h₀ h b l) (c : Cs h' b true false [addr, buf]) (k : Ky h₀ h') (ht : h'.tys.get b = some (tyB, 2)) {off : Nat} {v : IV} (hv : v.scalar = true) (hoff : off + 1 ≤ 2) (hp : placeL [addr, buf] off v.cells = [addr', buf'])
    (ha : addr' = .nilPtr ∨ addr' = .ptr b 0) (gb : GB tyU h₀ h' m buf') : ∃ h'', stA 1 h' (.ptr b off) v = some h'' ∧ BL h₀ h'' b m ∧ ∀ q, q ≠ b → h''.get q = h'.get q := by
  have hc : v.cells = [v] := by cases v <;> first | rfl | (simp [IV.scalar] at hv)
  obtain ⟨o, s1, s2, _⟩ := c.st (n := 1) (off := off) (v := v) (by rw [hc]; rfl) (by rw [hc]; simp [allScalar, hv]) hoff
  rw [hp] at s2
  have hb := x.at_
  obtain ⟨t, q, _⟩ := c
  have k' : Ky h₀ (h'.put b o) := k.put hb q fun fz size cs hh => by cases hh
  refine ⟨h'.put b o, s1, ⟨k', hb, ht, addr', buf', s2, ha, ?_⟩, fun q hq => by rw [H.get_put, if_neg hq]⟩
  rcases gb with h1 | ⟨bb, n, h1, ⟨t2, q2, q3⟩, h2, h3, h4, h5⟩
  · exact .inl h1
  · refine .inr ⟨bb, n, h1, ⟨t2, ?_, q3⟩, h2, h3, h4, h5⟩
    rw [H.get_put, if_neg, q2]
    rintro rfl
    rw [q] at q2; cases q2
theorem copyCheck {T : Tab} (t : BT T) {h₀ h : H} {b : Nat} {l : Bs} (x : BL h₀ h b l) : ∃ h', CL T 39 [.ptr b 0] h = .ok (.tup []) h' ∧ BL h₀ h' b l ∧ ∀ q, q ≠ b → h'.get q = h.get q := by
  obtain ⟨addr, buf, c, ha, gb⟩ := x.cell
  have l0 := c.ld0 0
  rcases ha with rfl | rfl
  · obtain ⟨h', e, y, ys⟩ := bl_set (addr' := .ptr b 0) (buf' := buf) x c x.ky x.ty (off := 0) (v := .ptr b 0) rfl (by omega) rfl (.inr rfl) gb
    have hne : CL T 54 [.ptr b 0] h = .ok (.ptr b 0) h := call_tab t.ne rfl (by simp)
    refine ⟨h', c39 t.step t.cc t.p1 x.ky.gd ?_ (by simp), y, ys⟩
    simp only [List.getElem?_cons_zero] at l0
    simp only [t39_0, W, spanK_u, decide_eq_true_eq, Bool.not_eq_true', decide_eq_false_iff_not, Bool.false_eq_true, Bool.not_true, Bool.not_false, decide_true, decide_false, not_true_eq_false, not_false_eq_true, and_true, true_and, and_false, false_and, ne_eq, Nat.zero_add, Nat.add_zero, cond_true, cond_false, ↓reduceIte, reduceCtorEq, Nat.reduceAdd, Int.reduceEq, Int.reduceNe, Int.reduceLT, Int.reduceLE, Int.reduceAdd, Int.reduceSub, Int.reduceMul, Int.reduceNeg, Nat.reduceMul, List.getElem?_cons_zero, List.getElem?_cons_succ, l0, convTo c, hne, convFrom x.ty, e]
  · refine ⟨h, c39 t.step t.cc t.p1 x.ky.gd ?_ (by simp), x, fun _ _ => rfl⟩
    simp only [List.getElem?_cons_zero] at l0
    simp only [t39_0, W, spanK_u, decide_eq_true_eq, Bool.not_eq_true', decide_eq_false_iff_not, Bool.false_eq_true, Bool.not_true, Bool.not_false, decide_true, decide_false, not_true_eq_false, not_false_eq_true, and_true, true_and, and_false, false_and, ne_eq, Nat.zero_add, Nat.add_zero, cond_true, cond_false, ↓reduceIte, reduceCtorEq, Nat.reduceAdd, Int.reduceEq, Int.reduceNe, Int.reduceLT, Int.reduceLE, Int.reduceAdd, Int.reduceSub, Int.reduceMul, Int.reduceNeg, Nat.reduceMul, List.getElem?_cons_zero, List.getElem?_cons_succ, l0, eqP_self c]
theorem writeString {T : Tab} (t : BT T) {h₀ h : H} {b : Nat} {l : Bs} (x : BL h₀ h b l) (m : Bs) (hroom : l.length + m.length ≤ 1099511627776) : ∃ h', CL T 14 [.ptr b 0, sv m] h = .ok (.tup [.int .i64 (m.length : Nat), .nilIface]) h' ∧ BL h₀ h' b (l ++ m) ∧ ∀ q fz cs, q ≠ b → Cs h q true fz cs → Cs h' q true fz cs := by
  obtain ⟨h1, e1, x1, s1⟩ := copyCheck t x
  obtain ⟨addr, buf, c, ha, gb⟩ := x1.cell
  obtain ⟨s', h2, e2, k2, gb2, same⟩ := gb.app x1.ky hroom
  have hne : ∀ k, buf ≠ .slice b 0 k 1 := by
    rintro k rfl
    rcases gb with ⟨_, hh⟩ | ⟨bb, n, hh, ⟨t2, q2, q3⟩, _⟩
    · cases hh
    · injection hh with hh _ _ _
      subst hh
      obtain ⟨t3, q4, _⟩ := c
      rw [q2] at q4; cases q4
  obtain ⟨g1, g2⟩ := same b x1.lt hne
  obtain ⟨h3, e3, x3, s3⟩ := bl_set (addr' := addr) (buf' := s') x1 (c.of_get g1) k2 (g2.trans x1.ty) (off := 1) (v := s') gb2.scalar (by omega) (by
    have : s'.cells = [s'] := by
      have hv := gb2.scalar
      cases s' <;> first | rfl | (simp [IV.scalar] at hv)
    rw [this]; rfl) ha gb2
  have l1 := c.ld0 1
  have keep : ∀ q fz cs, q ≠ b → Cs h q true fz cs → Cs h3 q true fz cs := by
    intro q fz cs hq cq
    have cq1 := cq.of_get (s1 q hq)
    have hq2 : ∀ k, buf ≠ .slice q 0 k 1 := by
      rintro k rfl
      rcases gb with ⟨_, hh⟩ | ⟨bb, n, hh, ⟨t2, q2, q3⟩, _⟩
      · cases hh
      · injection hh with hh _ _ _
        subst hh
        obtain ⟨t3, q4, _⟩ := cq1
        rw [q2] at q4; cases q4
    obtain ⟨g3, _⟩ := same q (cq1.lt x1.ky.gd.wf) hq2
    exact (cq1.of_get g3).of_get (s3 q hq)
  refine ⟨h3, c14 t.step t.ws t.p2 x.ky.gd ?_ (by simp), x3, keep⟩
  simp only [List.getElem?_cons_zero, List.getElem?_cons_succ] at l1
  simp only [t14_0, W, spanK_u, decide_eq_true_eq, Bool.not_eq_true', decide_eq_false_iff_not, Bool.false_eq_true, Bool.not_true, Bool.not_false, decide_true, decide_false, not_true_eq_false, not_false_eq_true, and_true, true_and, and_false, false_and, ne_eq, Nat.zero_add, Nat.add_zero, cond_true, cond_false, ↓reduceIte, reduceCtorEq, Nat.reduceAdd, Int.reduceEq, Int.reduceNe, Int.reduceLT, Int.reduceLE, Int.reduceAdd, Int.reduceSub, Int.reduceMul, Int.reduceNeg, Nat.reduceMul, List.getElem?_cons_zero, List.getElem?_cons_succ, e1, l1, e2, e3]
theorem builderString {T : Tab} (t : BT T) {h₀ h : H} {b : Nat} {l : Bs} (x : BL h₀ h b l) (hl : l.length ≤ 1099511627776) : ∃ h', CL T 19 [.ptr b 0] h = .ok (sv l) h' ∧ Ky h₀ h' := by
  obtain ⟨addr, buf, c, ha, gb⟩ := x.cell
  obtain ⟨p, n, h', e1, e2, e3, k⟩ := gb.str x.ky hl
  have l1 := c.ld0 1
  refine ⟨h', c19 t.step t.st t.p3 x.ky.gd ?_ (by simp), k⟩
  simp only [List.getElem?_cons_zero, List.getElem?_cons_succ] at l1
  simp only [t19_0, W, spanK_u, decide_eq_true_eq, Bool.not_eq_true', decide_eq_false_iff_not, Bool.false_eq_true, Bool.not_true, Bool.not_false, decide_true, decide_false, not_true_eq_false, not_false_eq_true, and_true, true_and, and_false, false_and, ne_eq, Nat.zero_add, Nat.add_zero, cond_true, cond_false, ↓reduceIte, reduceCtorEq, Nat.reduceAdd, Int.reduceEq, Int.reduceNe, Int.reduceLT, Int.reduceLE, Int.reduceAdd, Int.reduceSub, Int.reduceMul, Int.reduceNeg, Nat.reduceMul, List.getElem?_cons_zero, List.getElem?_cons_succ, l1, e1, e2, e3]
def okC (c : UInt8) : Bool := decide (33 ≤ c.toNat) && decide (c.toNat ≤ 126)
theorem decode_high (t : ByteArray) (i : Nat) (hi : i < t.size) (h : 128 ≤ (t[i]).toNat) : 128 ≤ (Utf8.decode t i).1 := by
  have hg : t.get! (i + 0) = t[i] := by
    show t.data[i + 0]! = t.data[i]
    rw [Nat.add_zero, getElem!_pos]
  unfold Utf8.decode
  simp only [hg]
  rw [if_neg (by omega)]
  repeat' split
  all_goals first
    | (show 128 ≤ Utf8.runeError; decide)
    | (rename_i hh; simp only [ge_iff_le, Bool.and_eq_true, decide_eq_true_eq] at hh; simp only; omega)
def bA (l : Bs) : ByteArray := ⟨l.toArray⟩
theorem bA_size (l : Bs) : (bA l).size = l.length := rfl
theorem odd32 {T : Tab} (t : OvStep T) (ho : T.ov 34 = none) (hp : T.pol 34 = true) {h : H} (g : Gd h) (r : Nat) : CL T 34 [.int .i32 (r : Nat)] h = .ok (.bool (!(decide (33 ≤ r) && decide (r ≤ 126)))) h := by
  refine c34 t ho hp g ?_ (by simp)
  by_cases h1 : ((r : Nat) : Int) < 33
  · have h2 : ¬ 33 ≤ r := by omega
    simp only [t34_0, W, spanK_u, decide_eq_true_eq, Bool.not_eq_true', decide_eq_false_iff_not, Bool.false_eq_true, Bool.not_true, Bool.not_false, decide_true, decide_false, not_true_eq_false, not_false_eq_true, and_true, true_and, and_false, false_and, ne_eq, Nat.zero_add, Nat.add_zero, cond_true, cond_false, ↓reduceIte, reduceCtorEq, Nat.reduceAdd, Int.reduceEq, Int.reduceNe, Int.reduceLT, Int.reduceLE, Int.reduceAdd, Int.reduceSub, Int.reduceMul, Int.reduceNeg, Nat.reduceMul, List.getElem?_cons_zero, List.getElem?_cons_succ, h1, h2, decide_false, Bool.false_and, Bool.not_false]
  · have h2 : 33 ≤ r := by omega
    by_cases h3 : (126 : Int) < ((r : Nat) : Int)
    · have h4 : ¬ r ≤ 126 := by omega
      simp only [t34_0, W, spanK_u, decide_eq_true_eq, Bool.not_eq_true', decide_eq_false_iff_not, Bool.false_eq_true, Bool.not_true, Bool.not_false, decide_true, decide_false, not_true_eq_false, not_false_eq_true, and_true, true_and, and_false, false_and, ne_eq, Nat.zero_add, Nat.add_zero, cond_true, cond_false, ↓reduceIte, reduceCtorEq, Nat.reduceAdd, Int.reduceEq, Int.reduceNe, Int.reduceLT, Int.reduceLE, Int.reduceAdd, Int.reduceSub, Int.reduceMul, Int.reduceNeg, Nat.reduceMul, List.getElem?_cons_zero, List.getElem?_cons_succ, h1, h2, h3, h4, decide_false, Bool.and_false, Bool.not_false]
    · have h4 : r ≤ 126 := by omega
      simp only [t34_0, W, spanK_u, decide_eq_true_eq, Bool.not_eq_true', decide_eq_false_iff_not, Bool.false_eq_true, Bool.not_true, Bool.not_false, decide_true, decide_false, not_true_eq_false, not_false_eq_true, and_true, true_and, and_false, false_and, ne_eq, Nat.zero_add, Nat.add_zero, cond_true, cond_false, ↓reduceIte, reduceCtorEq, Nat.reduceAdd, Int.reduceEq, Int.reduceNe, Int.reduceLT, Int.reduceLE, Int.reduceAdd, Int.reduceSub, Int.reduceMul, Int.reduceNeg, Nat.reduceMul, List.getElem?_cons_zero, List.getElem?_cons_succ, h1, h2, h3, h4, decide_true, Bool.and_true, Bool.not_true]
theorem idx_loop (l : Bs) (b : Nat) : ∀ (n i : Nat) (h : H), i + n = l.length → Gd h → h.get b = some (.siter (pack (bA l)) i) →
    ∃ h' v, J62 tab1 1 [.func 34 [], .bool true, .ptr b 0] h = .ok (.int .i64 v) h' ∧ decide (0 ≤ v) = !((l.drop i).all okC) := by
  intro n
  induction n with
  | zero =>
    intro i h hi g hb
    have en : nextI h (.ptr b 0) true = some (.tup [.bool false], h) := by
      have : ¬ i < (pack (bA l)).len := by rw [pack_len, bA_size]; omega
      simp only [nextI, hb, this, if_false]
    refine ⟨h, -1, e62_1 ?_ (by simp), ?_⟩
    · simp only [t62_1, W, spanK_u, decide_eq_true_eq, Bool.not_eq_true', decide_eq_false_iff_not, Bool.false_eq_true, Bool.not_true, Bool.not_false, decide_true, decide_false, not_true_eq_false, not_false_eq_true, and_true, true_and, and_false, false_and, ne_eq, Nat.zero_add, Nat.add_zero, cond_true, cond_false, ↓reduceIte, reduceCtorEq, Nat.reduceAdd, Int.reduceEq, Int.reduceNe, Int.reduceLT, Int.reduceLE, Int.reduceAdd, Int.reduceSub, Int.reduceMul, Int.reduceNeg, Nat.reduceMul, List.getElem?_cons_zero, List.getElem?_cons_succ, en]
    · rw [List.drop_of_length_le (by omega)]; rfl
  | succ n ih =>
    intro i h hi g hb
    have hil : i < l.length := by omega
    have hlen : i < (pack (bA l)).len := by rw [pack_len, bA_size]; omega
    have hat : (pack (bA l)).at i = (l[i]).toNat := pack_at (bA l) i hil
    have hd := List.drop_eq_getElem_cons hil
    have hlt := (l[i]).toNat_lt
    by_cases ha : (l[i]).toNat < 128
    · have en : nextI h (.ptr b 0) true = some (.tup [.bool true, .int .i64 (i : Nat), .int .i32 ((l[i]).toNat : Nat)], h.put b (.siter (pack (bA l)) (i + 1))) := by
        have ha' : (pack (bA l)).at i < 128 := by rw [hat]; exact ha
        simp only [nextI, hb, hlen, if_true, ha, hat]
      have k := (Ky.refl g).put (b := b) (o := .siter (pack (bA l)) (i + 1)) (q := .siter (pack (bA l)) i)
      have g4 : Gd (h.put b (.siter (pack (bA l)) (i + 1))) := by
        have := Step.put (o := .siter (pack (bA l)) (i + 1)) hb (fun fz size cs hh => by cases hh) g.wf
        exact ⟨this.1, this.2.pol.trans g.pol⟩
      have ec := odd32 (T := tab1) good1.step rfl rfl g4 (l[i]).toNat
      by_cases hok : okC l[i] = true
      · obtain ⟨h', v, e, hv⟩ := ih (i + 1) _ (by omega) g4 (by rw [H.get_put, if_pos rfl])
        refine ⟨h', v, e62_1 ?_ (by simp), ?_⟩
        · have hok' : (decide (33 ≤ (l[i]).toNat) && decide ((l[i]).toNat ≤ 126)) = true := hok
          rw [hok'] at ec
          simp only [t62_1, W, spanK_u, decide_eq_true_eq, Bool.not_eq_true', decide_eq_false_iff_not, Bool.false_eq_true, Bool.not_true, Bool.not_false, decide_true, decide_false, not_true_eq_false, not_false_eq_true, and_true, true_and, and_false, false_and, ne_eq, Nat.zero_add, Nat.add_zero, cond_true, cond_false, ↓reduceIte, reduceCtorEq, Nat.reduceAdd, Int.reduceEq, Int.reduceNe, Int.reduceLT, Int.reduceLE, Int.reduceAdd, Int.reduceSub, Int.reduceMul, Int.reduceNeg, Nat.reduceMul, List.getElem?_cons_zero, List.getElem?_cons_succ, en, funK, List.append_nil, ec]
          exact e
        · have e2 : (okC l[i] && (l.drop (i + 1)).all okC) = (l.drop (i + 1)).all okC := by rw [hok, Bool.true_and]
          rw [hv, hd, List.all_cons]
          exact (congrArg (!·) e2).symm
      · have hok : okC l[i] = false := by simpa using hok
        refine ⟨h.put b (.siter (pack (bA l)) (i + 1)), (i : Nat), e62_1 ?_ (by simp), ?_⟩
        · have hok' : (decide (33 ≤ (l[i]).toNat) && decide ((l[i]).toNat ≤ 126)) = false := hok
          rw [hok'] at ec
          simp only [t62_1, W, spanK_u, decide_eq_true_eq, Bool.not_eq_true', decide_eq_false_iff_not, Bool.false_eq_true, Bool.not_true, Bool.not_false, decide_true, decide_false, not_true_eq_false, not_false_eq_true, and_true, true_and, and_false, false_and, ne_eq, Nat.zero_add, Nat.add_zero, cond_true, cond_false, ↓reduceIte, reduceCtorEq, Nat.reduceAdd, Int.reduceEq, Int.reduceNe, Int.reduceLT, Int.reduceLE, Int.reduceAdd, Int.reduceSub, Int.reduceMul, Int.reduceNeg, Nat.reduceMul, List.getElem?_cons_zero, List.getElem?_cons_succ, en, funK, List.append_nil, ec]
          rfl
        · have e2 : (okC l[i] && (l.drop (i + 1)).all okC) = false := by rw [hok, Bool.false_and]
          rw [hd, List.all_cons]
          exact (decide_eq_true (by omega)).trans (congrArg (!·) e2).symm
    · have hdec := decode_high (bA l) i hil (by show 128 ≤ (l[i]).toNat; omega)
      have en : nextI h (.ptr b 0) true = some (.tup [.bool true, .int .i64 (i : Nat), .int .i32 ((Utf8.decode (bA l) i).1 : Nat)], h.put b (.siter (pack (bA l)) (i + (Utf8.decode (bA l) i).2))) := by
        have ha' : ¬ (pack (bA l)).at i < 128 := by rw [hat]; exact ha
        simp only [nextI, hb, hlen, if_true, ha, hat, if_false, pack_bytes]
      have g4 : Gd (h.put b (.siter (pack (bA l)) (i + (Utf8.decode (bA l) i).2))) := by
        have := Step.put (o := .siter (pack (bA l)) (i + (Utf8.decode (bA l) i).2)) hb (fun fz size cs hh => by cases hh) g.wf
        exact ⟨this.1, this.2.pol.trans g.pol⟩
      generalize h.put b (.siter (pack (bA l)) (i + (Utf8.decode (bA l) i).2)) = h4 at g4 en
      generalize (Utf8.decode (bA l) i).1 = rr at hdec en
      have ec := odd32 (T := tab1) good1.step rfl rfl g4 rr
      have hok' : (decide (33 ≤ rr) && decide (rr ≤ 126)) = false := by
        have : ¬ rr ≤ 126 := by omega
        simp [this]
      rw [hok'] at ec
      have hok : okC l[i] = false := by
        unfold okC
        have : ¬ (l[i]).toNat ≤ 126 := by omega
        simp [this]
      refine ⟨h4, (i : Nat), e62_1 ?_ (by simp), ?_⟩
      · simp only [t62_1, W, spanK_u, decide_eq_true_eq, Bool.not_eq_true', decide_eq_false_iff_not, Bool.false_eq_true, Bool.not_true, Bool.not_false, decide_true, decide_false, not_true_eq_false, not_false_eq_true, and_true, true_and, and_false, false_and, ne_eq, Nat.zero_add, Nat.add_zero, cond_true, cond_false, ↓reduceIte, reduceCtorEq, Nat.reduceAdd, Int.reduceEq, Int.reduceNe, Int.reduceLT, Int.reduceLE, Int.reduceAdd, Int.reduceSub, Int.reduceMul, Int.reduceNeg, Nat.reduceMul, List.getElem?_cons_zero, List.getElem?_cons_succ, en, funK, List.append_nil, ec]
        rfl
      · have e2 : (okC l[i] && (l.drop (i + 1)).all okC) = false := by rw [hok, Bool.false_and]
        rw [hd, List.all_cons]
        exact (decide_eq_true (by omega)).trans (congrArg (!·) e2).symm
theorem containsFunc (l : Bs) : ∃ h', CL tab1 35 [sv l, .func 34 []] H0 = .ok (.bool (!(l.all okC))) h' := by
  have er : rngS H0 (sv l) = some (.ptr H0.next 0, H0.push (.siter (pack (bA l)) 0)) := rfl
  have g1 : Gd (H0.push (.siter (pack (bA l)) 0)) := ((Ky.refl gd0).push _).gd
  obtain ⟨h', v, e, hv⟩ := idx_loop l H0.next l.length 0 _ (by omega) g1 (by rw [H.get_push]; simp)
  rw [List.drop_zero] at hv
  refine ⟨h', c35 good1.step rfl rfl gd0 ?_ (by simp)⟩
  have e42 : CL tab1 50 [sv l, .func 34 []] H0 = .ok (.int .i64 v) h' := by
    refine c50 good1.step rfl rfl gd0 ?_ (by simp)
    have e54 : CL tab1 62 [sv l, .func 34 [], .bool true] H0 = .ok (.int .i64 v) h' := by
      refine c62 good1.step rfl rfl gd0 ?_ (by simp)
      simp only [t62_0, er, obind2]
      exact e
    simp only [t50_0, e54, W, spanK_u, decide_eq_true_eq, Bool.not_eq_true', decide_eq_false_iff_not, Bool.false_eq_true, Bool.not_true, Bool.not_false, decide_true, decide_false, not_true_eq_false, not_false_eq_true, and_true, true_and, and_false, false_and, ne_eq, Nat.zero_add, Nat.add_zero, cond_true, cond_false, ↓reduceIte, reduceCtorEq, Nat.reduceAdd, Int.reduceEq, Int.reduceNe, Int.reduceLT, Int.reduceLE, Int.reduceAdd, Int.reduceSub, Int.reduceMul, Int.reduceNeg, Nat.reduceMul, List.getElem?_cons_zero, List.getElem?_cons_succ]
  rw [← hv]
  simp only [t35_0, e42, W, spanK_u, decide_eq_true_eq, Bool.not_eq_true', decide_eq_false_iff_not, Bool.false_eq_true, Bool.not_true, Bool.not_false, decide_true, decide_false, not_true_eq_false, not_false_eq_true, and_true, true_and, and_false, false_and, ne_eq, Nat.zero_add, Nat.add_zero, cond_true, cond_false, ↓reduceIte, reduceCtorEq, Nat.reduceAdd, Int.reduceEq, Int.reduceNe, Int.reduceLT, Int.reduceLE, Int.reduceAdd, Int.reduceSub, Int.reduceMul, Int.reduceNeg, Nat.reduceMul, List.getElem?_cons_zero, List.getElem?_cons_succ]
def chr (n : Nat) : UInt8 := UInt8.ofNat (33 + n)
theorem chr_nat (n : Nat) (h : n < 94) : (chr n).toNat = 33 + n := by
  exact UInt8.toNat_ofNat_of_lt' (by show 33 + n < 256; omega)
def codeF (n : Nat) : Bs := if n < 94 then [chr n] else [chr (n % 94), chr (n / 94 - 1)]
theorem rem94 (k : Nat) (hk : k < 9223372036854775808) : binN .rem (.int .i64 (k : Nat)) (.int .i64 94) = some (.int .i64 ((k % 94 : Nat) : Int)) := by rw [binN_rem _ _ _ (by omega)]; congr 2
theorem quo94 (k : Nat) (hk : k < 9223372036854775808) : binN .quo (.int .i64 (k : Nat)) (.int .i64 94) = some (.int .i64 ((k / 94 : Nat) : Int)) := by
  rw [binN_quo _ _ _ (by omega)]
  have : Int.tdiv ((k : Nat) : Int) 94 = ((k / 94 : Nat) : Int) := rfl
  rw [this, wr_i64 (by omega) (by omega)]
theorem wr33 (n : Nat) (h : n < 94) : wr .i64 (33 + ((n : Nat) : Int)) = ((33 + n : Nat) : Int) := by rw [wr_i64 (by omega) (by omega)]; omega
theorem cv33 (n : Nat) (h : n < 94) : wr .u8 ((33 + n : Nat) : Int) = (((chr n).toNat : Nat) : Int) := by rw [chr_nat n h, wr_u8 (by omega) (by omega)]
theorem quo_sub (n : Nat) (h : n < 9223372036854775808) : wr .i64 (((n / 94 : Nat) : Int) - 1) = ((n / 94 : Nat) : Int) - 1 := wr_i64 (by omega) (by omega)
theorem code_step {T : Tab} {h : H} (g : Gd h) (n : Nat) (hn : n < 9223372036854775808) {l : Bs} {s : IV} (gl : GL h 1 (bys l) s) (hl : l.length ≤ 1000) :
    ∃ s' h', Gd h' ∧ GL h' 1 (bys (l ++ [chr (n % 94)])) s' ∧ ∀ r, r ≠ .fail → J16 T 1 [.int .i64 (((n / 94 : Nat) : Int) - 1), s'] h' = r → J16 T 1 [.int .i64 (n : Nat), s] h = r := by
  obtain ⟨h1, e1, k1, c1⟩ := lit_bys g [chr (n % 94)]
  obtain ⟨s', h2, e2, x2, gl2⟩ := appB_row k1.gd (e := 5) (gl.ky g.wf k1) c1 (List.cons_ne_nil _ _) (by simp; omega)
  refine ⟨s', h2, x2.gd, gl2, fun r hr e => e16_1 ?_ hr⟩
  have hge : (0 : Int) ≤ ((n : Nat) : Int) := by omega
  have hm : n % 94 < 94 := Nat.mod_lt _ (by decide)
  have e1' : bslK true 1 [.int .u8 0] 1 [(0, .int .u8 ((chr (n % 94)).toNat : Nat))] h = some (.slice h.next 0 1 1, h1) := e1
  simp only [t16_1, W, spanK_u, decide_eq_true_eq, Bool.not_eq_true', decide_eq_false_iff_not, Bool.false_eq_true, Bool.not_true, Bool.not_false, decide_true, decide_false, not_true_eq_false, not_false_eq_true, and_true, true_and, and_false, false_and, ne_eq, Nat.zero_add, Nat.add_zero, cond_true, cond_false, ↓reduceIte, reduceCtorEq, Nat.reduceAdd, Int.reduceEq, Int.reduceNe, Int.reduceLT, Int.reduceLE, Int.reduceAdd, Int.reduceSub, Int.reduceMul, Int.reduceNeg, Nat.reduceMul, List.getElem?_cons_zero, List.getElem?_cons_succ, hge, rem94 n hn, wr33 _ hm, cv33 _ hm, e1', quo94 n hn, quo_sub n hn]
  have e2' : appB 5 1 1 h1 s (.slice h.next 0 1 1) = some (s', h2) := e2
  simp only [e2', obind2]
  exact e
theorem code_end {T : Tab} {h : H} {l : Bs} {s : IV} (gl : GL h 1 (bys l) s) : J16 T 1 [.int .i64 (-1), s] h = .ok (sv l) h := by
  refine e16_1 ?_ (by simp)
  have hge : ¬ (0 : Int) ≤ -1 := by omega
  simp only [t16_1, W, spanK_u, decide_eq_true_eq, Bool.not_eq_true', decide_eq_false_iff_not, Bool.false_eq_true, Bool.not_true, Bool.not_false, decide_true, decide_false, not_true_eq_false, not_false_eq_true, and_true, true_and, and_false, false_and, ne_eq, Nat.zero_add, Nat.add_zero, cond_true, cond_false, ↓reduceIte, reduceCtorEq, Nat.reduceAdd, Int.reduceEq, Int.reduceNe, Int.reduceLT, Int.reduceLE, Int.reduceAdd, Int.reduceSub, Int.reduceMul, Int.reduceNeg, Nat.reduceMul, List.getElem?_cons_zero, List.getElem?_cons_succ, hge, gl.text]
theorem code_end' {T : Tab} {h : H} {n : Nat} (hn : n = 0) {l : Bs} {s : IV} (gl : GL h 1 (bys l) s) : J16 T 1 [.int .i64 (((n : Nat) : Int) - 1), s] h = .ok (sv l) h := by
  subst hn
  exact code_end gl
theorem code18 (n : Nat) (hn : n < 8836) : ∃ h', CL tab0 16 [.int .i64 (n : Nat)] H0 = .ok (sv (codeF n)) h' := by
  obtain ⟨s1, h1, g1, gl1, r1⟩ := code_step (T := tab0) gd0 n (by omega) (l := []) (s := .nilSlice) (.inl ⟨rfl, rfl⟩) (by simp)
  rw [List.nil_append] at gl1
  unfold codeF
  by_cases h94 : n < 94
  · rw [if_pos h94]
    rw [Nat.mod_eq_of_lt h94] at gl1
    refine ⟨h1, c16 good0.step rfl rfl gd0 ?_ (by simp)⟩
    simp only [t16_0]
    exact r1 _ (by simp) (code_end' (by omega) gl1)
  · rw [if_neg h94]
    obtain ⟨s2, h2, g2, gl2, r2⟩ := code_step (T := tab0) g1 (n / 94 - 1) (by omega) gl1 (by simp)
    refine ⟨h2, c16 good0.step rfl rfl gd0 ?_ (by simp)⟩
    simp only [t16_0]
    refine r1 _ (by simp) ?_
    rw [show ((n / 94 : Nat) : Int) - 1 = ((n / 94 - 1 : Nat) : Int) by omega]
    have hm : (n / 94 - 1) % 94 = n / 94 - 1 := Nat.mod_eq_of_lt (by omega)
    rw [hm] at gl2
    exact r2 _ (by simp) (code_end' (by omega) gl2)
def dF : Dec Nat where
  dec v := match v with
    | .func f [] => some f
    | _ => none
  enc f := .func f []
  law v a e := by
    split at e
    · injection e with e; subst e; rfl
    · cases e
  ret a := rfl
  fl a := rfl
def contV (l : Bs) (f : Nat) : Option IV := if f = 34 then some (.bool (!(l.all okC))) else none
theorem tCont : PureT Tryz.prog (CL tab1) 35 (fn2 dS dF contV) := pure2 Tryz.func35 rfl fun l f v e => by
  unfold contV at e
  split at e
  · rename_i hc
    subst hc
    injection e with e; subst e
    exact ⟨rfl, containsFunc l⟩
  · cases e
def codeV (n : Int) : Option IV := if 0 ≤ n ∧ n < 8836 then some (sv (codeF n.toNat)) else none
theorem tCode : PureT Tryz.prog (CL tab0) 16 (fn1 dI codeV) := pure1 Tryz.func16 rfl fun n v e => by
  unfold codeV at e
  split at e
  · rename_i hc
    injection e with e; subst e
    obtain ⟨k, rfl⟩ := Int.eq_ofNat_of_zero_le hc.1
    exact ⟨rfl, code18 k (by omega)⟩
  · cases e
noncomputable def tab2 : Tab := ((tab1.add 36 (pureF (fn1 dS checkF))).add 35 (pureF (fn2 dS dF contV))).add 16 (pureF (fn1 dI codeV))
theorem good2 : GoodT Tryz.prog EP tab2 := good0.also envK mixed noNum (good1.also envK mixed noNum (good1.also envK mixed noNum good1 tCheck) tCont) tCode
structure Chg where
  time : Int
  net : Int
  val : Bs
structure Wv where
  names : List Bs
  wides : List Int
  first : List Bs
  list : List Chg
def RS (b : Bs) (c : List IV) : Prop := c = [sv b]
def RI (n : Int) (c : List IV) : Prop := c = [.int .i64 n]
def chgC (c : Chg) : List IV := [.int .i64 c.time, .int .i64 c.net, sv c.val]
def RC (x : Chg) (c : List IV) : Prop := c = chgC x
def LW (h : H) (l : List Int) (v : IV) : Prop := LR h 1 RI l v ∨ ∃ b fz, v = .slice b 0 l.length 1 ∧ Cs h b true fz (l.map fun n => .int .i64 n)
structure WR (h : H) (n wd f l : IV) (w : Wv) : Prop where
  names : LR h 1 RS w.names n
  wides : LW h w.wides wd
  first : LR h 1 RS w.first f
  list : LR h 3 RC w.list l
theorem Ci.ky {h h' : H} {b : Nat} {cs : List IV} (c : Ci h b cs) (w : WF h) (x : Ky h h') : Ci h' b cs := by
  obtain ⟨fz, c⟩ := c; exact ⟨fz, c.ky w x⟩
theorem LR.ky {α : Type} {h h' : H} {es : Nat} {R : α → List IV → Prop} {l : List α} {v : IV} (r : LR h es R l v) (w : WF h) (x : Ky h h') : LR h' es R l v := by
  rcases r with r | ⟨b, off, cs, h1, h2, h3, h4⟩
  · exact .inl r
  · exact .inr ⟨b, off, cs, h1, Ci.ky h2 w x, h3, h4⟩
theorem LW.ky {h h' : H} {l : List Int} {v : IV} (r : LW h l v) (w : WF h) (x : Ky h h') : LW h' l v := by
  rcases r with r | ⟨b, fz, h1, c⟩
  · exact .inl (LR.ky r w x)
  · exact .inr ⟨b, fz, h1, c.ky w x⟩
theorem LW.len {h : H} {l : List Int} {v : IV} (r : LW h l v) : lenS v = some (.int .i64 l.length) := by
  rcases r with r | ⟨b, fz, rfl, c⟩
  · exact r.len
  · rfl
theorem LW.scalar {h : H} {l : List Int} {v : IV} (r : LW h l v) : v.scalar = true := by
  rcases r with r | ⟨b, fz, rfl, c⟩
  · exact r.scalar
  · rfl
theorem WR.ky {h h' : H} {n wd f l : IV} {w : Wv} (r : WR h n wd f l w) (x : WF h) (y : Ky h h') : WR h' n wd f l w := ⟨LR.ky r.names x y, LW.ky r.wides x y, LR.ky r.first x y, LR.ky r.list x y⟩
theorem WR.scalar {h : H} {n wd f l : IV} {w : Wv} (r : WR h n wd f l w) : allScalar [n, wd, f, l] = true := by
  simp only [allScalar, r.names.scalar, r.wides.scalar, r.first.scalar, r.list.scalar, Bool.and_self]
theorem LR.str {h : H} {l : List Bs} {v : IV} (r : LR h 1 RS l v) {i : Nat} {x : Bs} (hx : l[i]? = some x) : ∃ p, ixS 1 v (.int .i64 (i : Nat)) = some p ∧ ld0 h p = some (sv x) := by
  obtain ⟨p, c, e1, e2, e3, e4, e5, b, off, rfl⟩ := r.ix hx
  refine ⟨_, e1 .i64, ?_⟩
  have := e5 0 (by omega) b off rfl
  rw [Nat.add_zero] at this
  rw [this, e3]; rfl
theorem LR.int {h : H} {l : List Int} {v : IV} (r : LR h 1 RI l v) {i : Nat} {x : Int} (hx : l[i]? = some x) : ∃ p, ixS 1 v (.int .i64 (i : Nat)) = some p ∧ ld0 h p = some (.int .i64 x) := by
  obtain ⟨p, c, e1, e2, e3, e4, e5, b, off, rfl⟩ := r.ix hx
  refine ⟨_, e1 .i64, ?_⟩
  have := e5 0 (by omega) b off rfl
  rw [Nat.add_zero] at this
  rw [this, e3]; rfl
theorem LW.int {h : H} {l : List Int} {v : IV} (r : LW h l v) {i : Nat} {x : Int} (hx : l[i]? = some x) : ∃ p, ixS 1 v (.int .i64 (i : Nat)) = some p ∧ ld0 h p = some (.int .i64 x) := by
  rcases r with r | ⟨b, fz, rfl, c⟩
  · exact LR.int r hx
  · refine ⟨.ptr b i, ixS_byte (List.getElem?_eq_some_iff.1 hx).1, ?_⟩
    rw [c.ld0, List.getElem?_map, hx]; rfl
theorem LR.chg {h : H} {l : List Chg} {v : IV} (r : LR h 3 RC l v) {i : Nat} {x : Chg} (hx : l[i]? = some x) : ∃ b off, ixS 3 v (.int .i64 (i : Nat)) = some (.ptr b off) ∧ ldA 3 h (.ptr b off) = some (.agg (chgC x)) ∧ ld0 h (.ptr b off) = some (.int .i64 x.time) := by
  obtain ⟨p, c, e1, e2, e3, e4, e5, b, off, rfl⟩ := r.ix hx
  refine ⟨b, off, e1 .i64, by rw [e2, e3], ?_⟩
  have := e5 0 (by omega) b off rfl
  rw [Nat.add_zero] at this
  rw [this, e3]; rfl
theorem Ch.texts : ∀ {l : List Bs} {X : List IV}, Ch RS 1 l X → X = l.map sv
  | [], X, h => h
  | x :: l, X, ⟨a, d, h1, h2, h3, h4⟩ => by
    subst h1
    rw [show a = [sv x] from h3, Ch.texts h4]; rfl
theorem allScalar_sv : ∀ l : List Bs, allScalar (l.map sv) = true
  | [] => rfl
  | x :: l => by simp only [List.map_cons, allScalar, allScalar_sv l]; rfl
theorem clone {Y : Tab} (t : OvStep Y) (ho : Y.ov 37 = none) (hp : Y.pol 37 = false) {h : H} (g : Gd h) {l : List Bs} {v : IV} (r : LR h 1 RS l v) (hl : l.length ≤ 65536) : ∃ v' h', CL Y 37 [v] h = .ok v' h' ∧ Ky h h' ∧
    (l ≠ [] → ∃ fz, v' = .slice (h.next + 1) 0 l.length 1 ∧ Cs h' (h.next + 1) true fz (l.map sv)) := by
  have hpol : (h.setPol false).setPol true = h := by
    show H.mk h.next h.objs true h.tys = h
    rw [← g.pol]
  have nolow : ∀ {o : I.Obj} {b : Nat}, b < h.next → ((h.setPol false).push o).get b = h.get b := fun hb => by
    rw [H.get_push, if_neg (by show ¬ _ = h.next; omega)]; rfl
  have e1 : bslK false 1 [(.str ⟨0, 0⟩)] 0 [] (h.setPol false) = some (.slice h.next 0 0 1, (h.setPol false).push (.cells true false 0 (T.arr []))) :=
    bslK_all (w := false) (es := 1) (z := [(.str ⟨0, 0⟩)]) (vs := []) rfl (by simp) rfl (h.setPol false)
  rcases r with ⟨rfl, rfl | ⟨b, off, rfl⟩⟩ | ⟨b, off, cs, rfl, ci, h3, h4⟩
  · have e : CL Y 37 [.nilSlice] h = (CRes.ok .nilSlice (h.setPol false)).setPol true := c37 t ho hp g (by simp only [t37_0, W, spanK_u, decide_eq_true_eq, Bool.not_eq_true', decide_eq_false_iff_not, Bool.false_eq_true, Bool.not_true, Bool.not_false, decide_true, decide_false, not_true_eq_false, not_false_eq_true, and_true, true_and, and_false, false_and, ne_eq, Nat.zero_add, Nat.add_zero, cond_true, cond_false, ↓reduceIte, reduceCtorEq, Nat.reduceAdd, Int.reduceEq, Int.reduceNe, Int.reduceLT, Int.reduceLE, Int.reduceAdd, Int.reduceSub, Int.reduceMul, Int.reduceNeg, Nat.reduceMul, List.getElem?_cons_zero, List.getElem?_cons_succ]) (by simp)
    rw [CRes.setPol, hpol] at e
    exact ⟨_, h, e, .refl g, fun h => absurd rfl h⟩
  · have e2 : appK 1 16 ((h.setPol false).push (.cells true false 0 (T.arr []))) (.slice h.next 0 0 1) (.slice b off 0 1) = some (.slice h.next 0 0 1, (h.setPol false).push (.cells true false 0 (T.arr []))) := by
      simp only [appK, sourceI, if_true, allScalar, Bool.true_eq_false, if_false, ne_eq, not_true_eq_false]
    have e := c37 t ho hp g (a0 := .slice b off 0 1) (r := .ok (.slice h.next 0 0 1) ((h.setPol false).push (.cells true false 0 (T.arr [])))) (by simp only [t37_0, W, spanK_u, decide_eq_true_eq, Bool.not_eq_true', decide_eq_false_iff_not, Bool.false_eq_true, Bool.not_true, Bool.not_false, decide_true, decide_false, not_true_eq_false, not_false_eq_true, and_true, true_and, and_false, false_and, ne_eq, Nat.zero_add, Nat.add_zero, cond_true, cond_false, ↓reduceIte, reduceCtorEq, Nat.reduceAdd, Int.reduceEq, Int.reduceNe, Int.reduceLT, Int.reduceLE, Int.reduceAdd, Int.reduceSub, Int.reduceMul, Int.reduceNeg, Nat.reduceMul, List.getElem?_cons_zero, List.getElem?_cons_succ, e1, e2]) (by simp)
    rw [CRes.setPol] at e
    refine ⟨_, _, e, ⟨(call_ok t e g).1, ?_, fun b hb => nolow hb, fun b hb => rfl⟩, fun h => absurd rfl h⟩
    show h.next ≤ h.next + 1; omega
  · have hX := Ch.texts h4
    have hbn : b < h.next := by
      obtain ⟨fz, t, q1, q2⟩ := ci
      rcases Nat.lt_or_ge b h.next with hh | hh
      · exact hh
      · rw [g.wf b hh] at q1; cases q1
    by_cases hz : l.length = 0
    · have hl0 : l = [] := List.eq_nil_of_length_eq_zero hz
      subst hl0
      have e2 : appK 1 16 ((h.setPol false).push (.cells true false 0 (T.arr []))) (.slice h.next 0 0 1) (.slice b off ([] : List Bs).length 1) = some (.slice h.next 0 0 1, (h.setPol false).push (.cells true false 0 (T.arr []))) := by
        simp only [appK, sourceI, List.length_nil, if_true, allScalar, Bool.true_eq_false, if_false, ne_eq, not_true_eq_false]
      have e := c37 t ho hp g (a0 := .slice b off ([] : List Bs).length 1) (r := .ok (.slice h.next 0 0 1) ((h.setPol false).push (.cells true false 0 (T.arr [])))) (by simp only [t37_0, W, spanK_u, decide_eq_true_eq, Bool.not_eq_true', decide_eq_false_iff_not, Bool.false_eq_true, Bool.not_true, Bool.not_false, decide_true, decide_false, not_true_eq_false, not_false_eq_true, and_true, true_and, and_false, false_and, ne_eq, Nat.zero_add, Nat.add_zero, cond_true, cond_false, ↓reduceIte, reduceCtorEq, Nat.reduceAdd, Int.reduceEq, Int.reduceNe, Int.reduceLT, Int.reduceLE, Int.reduceAdd, Int.reduceSub, Int.reduceMul, Int.reduceNeg, Nat.reduceMul, List.getElem?_cons_zero, List.getElem?_cons_succ, e1, e2]) (by simp)
      rw [CRes.setPol] at e
      refine ⟨_, _, e, ⟨(call_ok t e g).1, ?_, fun b hb => nolow hb, fun b hb => rfl⟩, fun h => absurd rfl h⟩
      show h.next ≤ h.next + 1; omega
    · have ci2 : Ci ((h.setPol false).push (.cells true false 0 (T.arr []))) b cs := by
        obtain ⟨fz, t, q1, q2⟩ := ci
        exact ⟨fz, t, (nolow hbn).trans q1, q2⟩
      have es := ci2.source (n := l.length) (es := 1) h3 hz
      rw [hX] at es
      have hlen : (l.map sv).length = l.length := List.length_map _
      have hget : ((h.setPol false).push (.cells true false 0 (T.arr []))).get h.next = some (.cells true false 0 (T.arr [])) := by
        rw [H.get_push]; exact if_pos rfl
      have e2 : appK 1 16 ((h.setPol false).push (.cells true false 0 (T.arr []))) (.slice h.next 0 0 1) (.slice b off l.length 1) = some (.slice (h.next + 1) 0 (0 + l.length) 1, (((h.setPol false).push (.cells true false 0 (T.arr []))).drop h.next).push (.cells true false ((0 + l.length) * 1) (setList (T.arr []) (0 * 1) (l.map sv)))) := by
        have hc : True ∧ 0 * 1 ≤ 0 ∧ (2 * (0 + l.length) + 2000) * 16 ≤ 2 ^ 46 := ⟨trivial, by omega, by omega⟩
        simp only [appK, es, allScalar_sv, Bool.true_eq_false, if_false, ne_eq, not_true_eq_false, if_neg hz, hget]
        rw [if_pos hc]
        rfl
      have e := c37 t ho hp g (a0 := .slice b off l.length 1) (r := .ok (.slice (h.next + 1) 0 (0 + l.length) 1) ((((h.setPol false).push (.cells true false 0 (T.arr []))).drop h.next).push (.cells true false ((0 + l.length) * 1) (setList (T.arr []) (0 * 1) (l.map sv))))) (by simp only [t37_0, W, spanK_u, decide_eq_true_eq, Bool.not_eq_true', decide_eq_false_iff_not, Bool.false_eq_true, Bool.not_true, Bool.not_false, decide_true, decide_false, not_true_eq_false, not_false_eq_true, and_true, true_and, and_false, false_and, ne_eq, Nat.zero_add, Nat.add_zero, cond_true, cond_false, ↓reduceIte, reduceCtorEq, Nat.reduceAdd, Int.reduceEq, Int.reduceNe, Int.reduceLT, Int.reduceLE, Int.reduceAdd, Int.reduceSub, Int.reduceMul, Int.reduceNeg, Nat.reduceMul, List.getElem?_cons_zero, List.getElem?_cons_succ, e1, e2]) (by simp)
      rw [CRes.setPol] at e
      have hlow : ∀ {o : I.Obj} {b : Nat}, b < h.next → ((((h.setPol false).push (.cells true false 0 (T.arr []))).drop h.next).push o).get b = h.get b := fun {o b} hb => by
        rw [H.get_push, if_neg (by show ¬ b = h.next + 1; omega), H.get_drop, if_neg (by omega), nolow hb]
      refine ⟨_, _, e, ⟨(call_ok t e g).1, ?_, fun b hb => hlow hb, fun b hb => rfl⟩, fun _ => ⟨false, by rw [Nat.zero_add], ?_⟩⟩
      · show h.next ≤ h.next + 1 + 1; omega
      · refine ⟨setList (T.arr []) (0 * 1) (l.map sv), ?_, fun i hi => ?_⟩
        · show H.get ((((h.setPol false).push (.cells true false 0 (T.arr []))).drop h.next).push (.cells true false ((0 + l.length) * 1) (setList (T.arr []) (0 * 1) (l.map sv)))) (h.next + 1) = _
          rw [H.get_push, hlen, Nat.zero_add, Nat.mul_one]
          exact if_pos rfl
        · rw [get_setList, if_pos (by omega)]
          rw [Nat.zero_mul, Nat.sub_zero]
def dC : Dec Chg where
  dec v := match v with
    | .agg [.int .i64 t, .int .i64 n, x] => (dS.dec x).map fun s => ⟨t, n, s⟩
    | _ => none
  enc c := .agg (chgC c)
  law v a e := by
    split at e
    · rename_i t n x
      cases hx : dS.dec x with
      | none => rw [hx] at e; cases e
      | some s =>
        rw [hx] at e
        injection e with e; subst e
        have := dS.law x s hx
        subst this
        rfl
    · cases e
  ret a := by
    show (dS.dec (dS.enc a.val)).map _ = _
    rw [dS.ret]; rfl
  fl a := rfl
def cmpF (a b : Int) : Int := if a < b then -1 else if b < a then 1 else 0
theorem compare0 {h : H} (g : Gd h) (a b : Int) : CL tab0 53 [.int .i64 a, .int .i64 b] h = .ok (.int .i64 (cmpF a b)) h := by
  have nan : ∀ x : Int, CL tab0 70 [.int .i64 x] h = .ok (.bool false) h := fun x =>
    c70 good0.step rfl rfl g (by simp only [t70_0, W, spanK_u, decide_eq_true_eq, Bool.not_eq_true', decide_eq_false_iff_not, Bool.false_eq_true, Bool.not_true, Bool.not_false, decide_true, decide_false, not_true_eq_false, not_false_eq_true, and_true, true_and, and_false, false_and, ne_eq, Nat.zero_add, Nat.add_zero, cond_true, cond_false, ↓reduceIte, reduceCtorEq, Nat.reduceAdd, Int.reduceEq, Int.reduceNe, Int.reduceLT, Int.reduceLE, Int.reduceAdd, Int.reduceSub, Int.reduceMul, Int.reduceNeg, Nat.reduceMul, List.getElem?_cons_zero, List.getElem?_cons_succ, decide_false, not_true_eq_false]) (by simp)
  refine c53 good0.step rfl rfl g ?_ (by simp)
  unfold cmpF
  by_cases h1 : a < b
  · simp only [t53_0, W, spanK_u, decide_eq_true_eq, Bool.not_eq_true', decide_eq_false_iff_not, Bool.false_eq_true, Bool.not_true, Bool.not_false, decide_true, decide_false, not_true_eq_false, not_false_eq_true, and_true, true_and, and_false, false_and, ne_eq, Nat.zero_add, Nat.add_zero, cond_true, cond_false, ↓reduceIte, reduceCtorEq, Nat.reduceAdd, Int.reduceEq, Int.reduceNe, Int.reduceLT, Int.reduceLE, Int.reduceAdd, Int.reduceSub, Int.reduceMul, Int.reduceNeg, Nat.reduceMul, List.getElem?_cons_zero, List.getElem?_cons_succ, nan, h1]
  · by_cases h2 : b < a
    · simp only [t53_0, W, spanK_u, decide_eq_true_eq, Bool.not_eq_true', decide_eq_false_iff_not, Bool.false_eq_true, Bool.not_true, Bool.not_false, decide_true, decide_false, not_true_eq_false, not_false_eq_true, and_true, true_and, and_false, false_and, ne_eq, Nat.zero_add, Nat.add_zero, cond_true, cond_false, ↓reduceIte, reduceCtorEq, Nat.reduceAdd, Int.reduceEq, Int.reduceNe, Int.reduceLT, Int.reduceLE, Int.reduceAdd, Int.reduceSub, Int.reduceMul, Int.reduceNeg, Nat.reduceMul, List.getElem?_cons_zero, List.getElem?_cons_succ, nan, h1, h2]
    · simp only [t53_0, W, spanK_u, decide_eq_true_eq, Bool.not_eq_true', decide_eq_false_iff_not, Bool.false_eq_true, Bool.not_true, Bool.not_false, decide_true, decide_false, not_true_eq_false, not_false_eq_true, and_true, true_and, and_false, false_and, ne_eq, Nat.zero_add, Nat.add_zero, cond_true, cond_false, ↓reduceIte, reduceCtorEq, Nat.reduceAdd, Int.reduceEq, Int.reduceNe, Int.reduceLT, Int.reduceLE, Int.reduceAdd, Int.reduceSub, Int.reduceMul, Int.reduceNeg, Nat.reduceMul, List.getElem?_cons_zero, List.getElem?_cons_succ, nan, h1, h2]
def aheadI (a b : Chg) : Int := if cmpF a.time b.time ≠ 0 then cmpF a.time b.time else cmpF a.net b.net
def row2 (x y : Int) : List IV := [.int .i64 x, .int .i64 y]
theorem or0 {h : H} (g : Gd h) {b : Nat} {rw fz : Bool} (x y : Int) (c : Cs h b rw fz (row2 x y)) : CL tab0 52 [.slice b 0 2 1] h = .ok (.int .i64 (if x ≠ 0 then x else y)) h := by
  refine c52 good0.step rfl rfl g ?_ (by split <;> simp)
  simp only [t52_0, W, spanK_u, decide_eq_true_eq, Bool.not_eq_true', decide_eq_false_iff_not, Bool.false_eq_true, Bool.not_true, Bool.not_false, decide_true, decide_false, not_true_eq_false, not_false_eq_true, and_true, true_and, and_false, false_and, ne_eq, Nat.zero_add, Nat.add_zero, cond_true, cond_false, ↓reduceIte, reduceCtorEq, Nat.reduceAdd, Int.reduceEq, Int.reduceNe, Int.reduceLT, Int.reduceLE, Int.reduceAdd, Int.reduceSub, Int.reduceMul, Int.reduceNeg, Nat.reduceMul, List.getElem?_cons_zero, List.getElem?_cons_succ, lenS]
  have x0 : ixS 1 (.slice b 0 2 1) (.int .i64 0) = some (.ptr b 0) := ixS_at (i := 0) (by omega)
  have x1 : ixS 1 (.slice b 0 2 1) (.int .i64 1) = some (.ptr b 1) := ixS_at (i := 1) (by omega)
  have l0 : I.ld0 h (.ptr b 0) = some (.int .i64 x) := by rw [c.ld0]; rfl
  have l1 : I.ld0 h (.ptr b 1) = some (.int .i64 y) := by rw [c.ld0]; rfl
  refine e52_1 ?_ (by split <;> simp)
  have h02 : (0 : Int) < 2 := by decide
  have h12 : (1 : Int) < 2 := by decide
  have w1 : wr .i64 1 = 1 := rfl
  have w2 : wr .i64 2 = 2 := rfl
  have a1 : (0 : Int) + 1 = 1 := rfl
  have a2 : (1 : Int) + 1 = 2 := rfl
  by_cases hx : x = 0
  · subst hx
    simp only [t52_1, W, spanK_u, decide_eq_true_eq, Bool.not_eq_true', decide_eq_false_iff_not, Bool.false_eq_true, Bool.not_true, Bool.not_false, decide_true, decide_false, not_true_eq_false, not_false_eq_true, and_true, true_and, and_false, false_and, ne_eq, Nat.zero_add, Nat.add_zero, cond_true, cond_false, ↓reduceIte, reduceCtorEq, Nat.reduceAdd, Int.reduceEq, Int.reduceNe, Int.reduceLT, Int.reduceLE, Int.reduceAdd, Int.reduceSub, Int.reduceMul, Int.reduceNeg, Nat.reduceMul, List.getElem?_cons_zero, List.getElem?_cons_succ, Int.ofNat_eq_natCast, Int.cast_ofNat_Int, h02, x0, l0, a1, w1, ne_eq, not_true_eq_false, if_false]
    refine e52_1 ?_ (by simp)
    by_cases hy : y = 0
    · subst hy
      simp only [t52_1, W, spanK_u, decide_eq_true_eq, Bool.not_eq_true', decide_eq_false_iff_not, Bool.false_eq_true, Bool.not_true, Bool.not_false, decide_true, decide_false, not_true_eq_false, not_false_eq_true, and_true, true_and, and_false, false_and, ne_eq, Nat.zero_add, Nat.add_zero, cond_true, cond_false, ↓reduceIte, reduceCtorEq, Nat.reduceAdd, Int.reduceEq, Int.reduceNe, Int.reduceLT, Int.reduceLE, Int.reduceAdd, Int.reduceSub, Int.reduceMul, Int.reduceNeg, Nat.reduceMul, List.getElem?_cons_zero, List.getElem?_cons_succ, h12, x1, l1, a2, w2]
      refine e52_1 ?_ (by simp)
      simp only [t52_1, W, spanK_u, decide_eq_true_eq, Bool.not_eq_true', decide_eq_false_iff_not, Bool.false_eq_true, Bool.not_true, Bool.not_false, decide_true, decide_false, not_true_eq_false, not_false_eq_true, and_true, true_and, and_false, false_and, ne_eq, Nat.zero_add, Nat.add_zero, cond_true, cond_false, ↓reduceIte, reduceCtorEq, Nat.reduceAdd, Int.reduceEq, Int.reduceNe, Int.reduceLT, Int.reduceLE, Int.reduceAdd, Int.reduceSub, Int.reduceMul, Int.reduceNeg, Nat.reduceMul, List.getElem?_cons_zero, List.getElem?_cons_succ, Int.lt_irrefl]
    · simp only [t52_1, W, spanK_u, decide_eq_true_eq, Bool.not_eq_true', decide_eq_false_iff_not, Bool.false_eq_true, Bool.not_true, Bool.not_false, decide_true, decide_false, not_true_eq_false, not_false_eq_true, and_true, true_and, and_false, false_and, ne_eq, Nat.zero_add, Nat.add_zero, cond_true, cond_false, ↓reduceIte, reduceCtorEq, Nat.reduceAdd, Int.reduceEq, Int.reduceNe, Int.reduceLT, Int.reduceLE, Int.reduceAdd, Int.reduceSub, Int.reduceMul, Int.reduceNeg, Nat.reduceMul, List.getElem?_cons_zero, List.getElem?_cons_succ, h12, x1, l1, eq_false hy]
  · rw [if_pos hx]
    simp only [t52_1, W, spanK_u, decide_eq_true_eq, Bool.not_eq_true', decide_eq_false_iff_not, Bool.false_eq_true, Bool.not_true, Bool.not_false, decide_true, decide_false, not_true_eq_false, not_false_eq_true, and_true, true_and, and_false, false_and, ne_eq, Nat.zero_add, Nat.add_zero, cond_true, cond_false, ↓reduceIte, reduceCtorEq, Nat.reduceAdd, Int.reduceEq, Int.reduceNe, Int.reduceLT, Int.reduceLE, Int.reduceAdd, Int.reduceSub, Int.reduceMul, Int.reduceNeg, Nat.reduceMul, List.getElem?_cons_zero, List.getElem?_cons_succ, Int.ofNat_eq_natCast, Int.cast_ofNat_Int, h02, x0, l0, eq_false hx]
theorem ahead0 {h : H} (g : Gd h) (a b : Chg) : ∃ h', CL tab0 38 [.agg (chgC a), .agg (chgC b)] h = .ok (.int .i64 (aheadI a b)) h' := by
  obtain ⟨h1, e1, k1, c1, _, _⟩ := (Ky.refl g).newI (cs := chgC a) rfl
  obtain ⟨h2, e2, k2, c2, _, _⟩ := (Ky.refl k1.gd).newI (cs := chgC b) rfl
  have c1' := c1.ky k1.gd.wf k2
  obtain ⟨h3, e3, k3, c3⟩ : ∃ h', bslK true 1 [(.int .i64 0)] 2 [(0, .int .i64 (cmpF a.time b.time)), (1, .int .i64 (cmpF a.net b.net))] h2 = some (.slice h2.next 0 2 1, h') ∧ Ky h2 h' ∧ Cs h' h2.next true false (row2 (cmpF a.time b.time) (cmpF a.net b.net)) := by
    have e := bslK_all (w := true) (es := 1) (z := [.int .i64 0]) (vs := row2 (cmpF a.time b.time) (cmpF a.net b.net)) rfl (fun v hv => by
      simp only [row2, List.mem_cons, List.not_mem_nil, or_false] at hv
      rcases hv with rfl | rfl <;> rfl) rfl h2
    rw [Bool.not_true, Bool.and_false, Bool.not_false] at e
    exact ⟨_, e, (Ky.refl k2.gd).push _, Cs.push (h := h2) (rw := true) (fz := false) (row2 (cmpF a.time b.time) (cmpF a.net b.net))⟩
  have ec := compare0 k2.gd a.time b.time
  have ec2 := compare0 k2.gd a.net b.net
  have eo := or0 k3.gd _ _ c3
  have q0 : I.ld0 h2 (.ptr h.next 0) = some (.int .i64 a.time) := by rw [c1'.ld0]; rfl
  have q1 : I.ld0 h2 (.ptr h.next 1) = some (.int .i64 a.net) := by rw [c1'.ld0]; rfl
  have r0 : I.ld0 h2 (.ptr h1.next 0) = some (.int .i64 b.time) := by rw [c2.ld0]; rfl
  have r1 : I.ld0 h2 (.ptr h1.next 1) = some (.int .i64 b.net) := by rw [c2.ld0]; rfl
  refine ⟨h3, c38 good0.step rfl rfl g ?_ (by simp)⟩
  simp only [t38_0, IV.cells, e1, e2, W, spanK_u, decide_eq_true_eq, Bool.not_eq_true', decide_eq_false_iff_not, Bool.false_eq_true, Bool.not_true, Bool.not_false, decide_true, decide_false, not_true_eq_false, not_false_eq_true, and_true, true_and, and_false, false_and, ne_eq, Nat.zero_add, Nat.add_zero, cond_true, cond_false, ↓reduceIte, reduceCtorEq, Nat.reduceAdd, Int.reduceEq, Int.reduceNe, Int.reduceLT, Int.reduceLE, Int.reduceAdd, Int.reduceSub, Int.reduceMul, Int.reduceNeg, Nat.reduceMul, List.getElem?_cons_zero, List.getElem?_cons_succ, q0, q1, r0, r1, ec, beq_refl, cond_true, ec2, e3, eo]
  rfl
def aheadV (a b : Chg) : Option IV := some (.int .i64 (aheadI a b))
theorem tAhead : PureT Tryz.prog (CL tab0) 38 (fn2 dC dC aheadV) := pure2 Tryz.func38 rfl fun a b v e => by
  injection e with e; subst e
  exact ⟨rfl, ahead0 gd0 a b⟩
theorem m23 {cf cf' : CallF} {R R' : Rec} (hc : ∀ f l h, le (cf f l h) (cf' f l h)) (hR : ∀ i l h, le (R i l h) (R' i l h)) :
  (∀ (a0 a1 a2 : IV) (h : H), le (t23_0 cf R a0 a1 a2 h) (t23_0 cf' R' a0 a1 a2 h)) ∧
  (∀ (a0 a1 : IV) (h : H), le (t23_1 cf R a0 a1 h) (t23_1 cf' R' a0 a1 h)) := by
  refine ⟨?_, ?_⟩
  all_goals intros
  all_goals first | unfold t23_0 | unfold t23_1
  all_goals
  with_reducible repeat' first
    | refine le_obind fun _ => ?_
    | refine le_callP ?_ (fun _ _ => ?_) (fun _ _ => ?_)
    | refine le_condK ?_ ?_
    | exact hR _ _ _
    | refine le_obind2 fun _ _ => ?_
    | refine le_obindH fun _ => ?_
    | refine le_spanK (fun _ _ _ => ?_) (fun _ _ => ?_)
    | exact hc _ _ _
    | refine le_bif ?_ ?_
    | refine le_guardK ?_ ?_ ?_
    | refine le_mapK fun _ _ => ?_
    | refine le_panK fun _ _ => ?_
    | refine le_funK fun _ _ => ?_
    | exact le_refl _
    | apply_assumption
noncomputable def b23 (cf : CallF) (R : Rec) : Rec := fun i l h =>
 br3 i 0 l (fun a0 a1 a2 => t23_0 cf R a0 a1 a2 h) <|
 br2 i 1 l (fun a0 a1 => t23_1 cf R a0 a1 h) <|
 .fail
theorem r23 {T : Tab} {cf : CallF} (hc : leC cf (CL T)) (n : Nat) : leR (recN (b23 cf) n) (J23 T) := recN_le (fun R hR i l h => by
  unfold b23
  refine le_br3 (J := fun i l => J23 T i l h) (fun _ a0 a1 a2 => le_e (fun hn => e23_0 rfl hn) ((m23 hc hR).1 a0 a1 a2 h)) ?_
  refine le_br2 (J := fun i l => J23 T i l h) (fun _ a0 a1 => le_e (fun hn => e23_1 rfl hn) ((m23 hc hR).2 a0 a1 h)) ?_
  exact le_fail _) n
noncomputable def L23 (cf : CallF) (l : List IV) (st : I.Mode) (h : H) : Option (I.Mode × H) :=
 match l with
 | [a0, a1] => lvM st (lvK (t23_0 cf (recN (b23 cf) 1000000) a0 a1 (recV st) h))
 | _ => none
theorem lle23 {T : Tab} {cf : CallF} (hc : leC cf (CL T)) (l : List IV) (st : I.Mode) (h : H) : leO (L23 cf l st h) (LV Tryz.prog (CL T) 23 l st h) := by
  unfold L23
  split
  · exact lvM_le fun hst => lvK_le ((m23 hc (r23 hc _)).1 _ _ _ h) fun v h' e => l23 hst e
  · intro z hz; cases hz
theorem m6 {cf cf' : CallF} {R R' : Rec} (hc : ∀ f l h, le (cf f l h) (cf' f l h)) (hR : ∀ i l h, le (R i l h) (R' i l h)) :
  (∀ (a0 : IV) (h : H), le (t6_0 cf R a0 h) (t6_0 cf' R' a0 h)) ∧
  (∀ (a1 a4 a16 a17 a18 : IV) (h : H), le (t6_1 cf R a1 a4 a16 a17 a18 h) (t6_1 cf' R' a1 a4 a16 a17 a18 h)) ∧
  (∀ (a1 a4 a5 a6 a16 a17 a18 : IV) (h : H), le (t6_2 cf R a1 a4 a5 a6 a16 a17 a18 h) (t6_2 cf' R' a1 a4 a5 a6 a16 a17 a18 h)) ∧
  (∀ (a1 a4 a47 a48 a49 : IV) (h : H), le (t6_3 cf R a1 a4 a47 a48 a49 h) (t6_3 cf' R' a1 a4 a47 a48 a49 h)) ∧
  (∀ (a1 a4 a61 a62 a63 : IV) (h : H), le (t6_4 cf R a1 a4 a61 a62 a63 h) (t6_4 cf' R' a1 a4 a61 a62 a63 h)) ∧
  (∀ (a1 a4 a10 a61 a62 a63 a81 : IV) (h : H), le (t6_6 cf R a1 a4 a10 a61 a62 a63 a81 h) (t6_6 cf' R' a1 a4 a10 a61 a62 a63 a81 h)) ∧
  (∀ (a1 a4 a10 a61 a62 a63 : IV) (h : H), le (t6_5 cf R a1 a4 a10 a61 a62 a63 h) (t6_5 cf' R' a1 a4 a10 a61 a62 a63 h)) := by
  refine ⟨?_, ?_, ?_, ?_, ?_, ?_, ?_⟩
  all_goals intros
  all_goals first | unfold t6_0 | unfold t6_1 | unfold t6_2 | unfold t6_3 | unfold t6_4 | unfold t6_6 | unfold t6_5
  all_goals
  with_reducible repeat' first
    | refine le_obind fun _ => ?_
    | refine le_callP ?_ (fun _ _ => ?_) (fun _ _ => ?_)
    | refine le_condK ?_ ?_
    | exact hR _ _ _
    | refine le_obind2 fun _ _ => ?_
    | refine le_obindH fun _ => ?_
    | refine le_spanK (fun _ _ _ => ?_) (fun _ _ => ?_)
    | exact hc _ _ _
    | refine le_bif ?_ ?_
    | refine le_guardK ?_ ?_ ?_
    | refine le_mapK fun _ _ => ?_
    | refine le_panK fun _ _ => ?_
    | refine le_funK fun _ _ => ?_
    | exact le_refl _
    | apply_assumption
noncomputable def b6 (cf : CallF) (R : Rec) : Rec := fun i l h =>
 br1 i 0 l (fun a0 => t6_0 cf R a0 h) <|
 br5 i 1 l (fun a1 a4 a16 a17 a18 => t6_1 cf R a1 a4 a16 a17 a18 h) <|
 br7 i 2 l (fun a1 a4 a5 a6 a16 a17 a18 => t6_2 cf R a1 a4 a5 a6 a16 a17 a18 h) <|
 br5 i 3 l (fun a1 a4 a47 a48 a49 => t6_3 cf R a1 a4 a47 a48 a49 h) <|
 br5 i 4 l (fun a1 a4 a61 a62 a63 => t6_4 cf R a1 a4 a61 a62 a63 h) <|
 br7 i 6 l (fun a1 a4 a10 a61 a62 a63 a81 => t6_6 cf R a1 a4 a10 a61 a62 a63 a81 h) <|
 br6 i 5 l (fun a1 a4 a10 a61 a62 a63 => t6_5 cf R a1 a4 a10 a61 a62 a63 h) <|
 .fail
theorem r6 {T : Tab} {cf : CallF} (hc : leC cf (CL T)) (n : Nat) : leR (recN (b6 cf) n) (J6 T) := recN_le (fun R hR i l h => by
  unfold b6
  refine le_br1 (J := fun i l => J6 T i l h) (fun _ a0 => le_e (fun hn => e6_0 rfl hn) ((m6 hc hR).1 a0 h)) ?_
  refine le_br5 (J := fun i l => J6 T i l h) (fun _ a1 a4 a16 a17 a18 => le_e (fun hn => e6_1 rfl hn) ((m6 hc hR).2.1 a1 a4 a16 a17 a18 h)) ?_
  refine le_br7 (J := fun i l => J6 T i l h) (fun _ a1 a4 a5 a6 a16 a17 a18 => le_e (fun hn => e6_2 rfl hn) ((m6 hc hR).2.2.1 a1 a4 a5 a6 a16 a17 a18 h)) ?_
  refine le_br5 (J := fun i l => J6 T i l h) (fun _ a1 a4 a47 a48 a49 => le_e (fun hn => e6_3 rfl hn) ((m6 hc hR).2.2.2.1 a1 a4 a47 a48 a49 h)) ?_
  refine le_br5 (J := fun i l => J6 T i l h) (fun _ a1 a4 a61 a62 a63 => le_e (fun hn => e6_4 rfl hn) ((m6 hc hR).2.2.2.2.1 a1 a4 a61 a62 a63 h)) ?_
  refine le_br7 (J := fun i l => J6 T i l h) (fun _ a1 a4 a10 a61 a62 a63 a81 => le_e (fun hn => e6_6 rfl hn) ((m6 hc hR).2.2.2.2.2.1 a1 a4 a10 a61 a62 a63 a81 h)) ?_
  refine le_br6 (J := fun i l => J6 T i l h) (fun _ a1 a4 a10 a61 a62 a63 => le_e (fun hn => e6_5 rfl hn) ((m6 hc hR).2.2.2.2.2.2 a1 a4 a10 a61 a62 a63 h)) ?_
  exact le_fail _) n
theorem m8 {cf cf' : CallF} {R R' : Rec} (hc : ∀ f l h, le (cf f l h) (cf' f l h)) (hR : ∀ i l h, le (R i l h) (R' i l h)) : (∀ (h : H), le (t8_0 cf R h) (t8_0 cf' R' h)) := by
  intros
  unfold t8_0
  with_reducible repeat' first
    | refine le_obind fun _ => ?_
    | refine le_callP ?_ (fun _ _ => ?_) (fun _ _ => ?_)
    | refine le_condK ?_ ?_
    | exact hR _ _ _
    | refine le_obind2 fun _ _ => ?_
    | refine le_obindH fun _ => ?_
    | refine le_spanK (fun _ _ _ => ?_) (fun _ _ => ?_)
    | exact hc _ _ _
    | refine le_bif ?_ ?_
    | refine le_guardK ?_ ?_ ?_
    | refine le_mapK fun _ _ => ?_
    | refine le_panK fun _ _ => ?_
    | refine le_funK fun _ _ => ?_
    | exact le_refl _
    | apply_assumption
noncomputable def b8 (cf : CallF) (R : Rec) : Rec := fun i l h =>
 br0 i 0 l (t8_0 cf R h) <|
 .fail
theorem r8 {T : Tab} {cf : CallF} (hc : leC cf (CL T)) (n : Nat) : leR (recN (b8 cf) n) (J8 T) := recN_le (fun R hR i l h => by
  unfold b8
  refine le_br0 (J := fun i l => J8 T i l h) (fun _ => le_e (fun hn => e8_0 rfl hn) ((m8 hc hR) h)) ?_
  exact le_fail _) n
noncomputable def u9_0 (cf : CallF) (L : List IV → I.Mode → H → Option (I.Mode × H)) (D : List IV → Rec) (R : Rec) (a0 : IV) (h : H) : CRes :=
 obind2 (newI h z0) fun x1 h2 =>
 obind2 (newI h2 [(.int .i64 0)]) fun x3 h4 =>
 obind (lenStr a0) fun x5 =>
 obind (binN .gtr x5 (.int .i64 1048576)) fun x6 =>
 condK x6
 (obind (bldK z0 p1 []) fun x7 =>
 obindH (stA 4 h4 x1 x7) fun h8 =>
 obindH (stA 1 h8 x3 (.int .i64 4)) fun h9 =>
 obind (ldA 4 h9 x1) fun x10 =>
 obind (ld0 h9 x3) fun x11 =>
 .ok (.tup [x10, x11]) h9)
 (callP (cf 24 [a0, (.str ⟨1, 10⟩)] h4) (dfP (L [x1, x3]) fun h12 =>
 obind (ldA 4 h12 x1) fun x13 =>
 obind (ld0 h12 x3) fun x14 =>
 .ok (.tup [x13, x14]) h12) fun x15 h16 =>
 mapK h16 fun x18 h17 =>
 obind (bldK z4 p5 [(0, x15), (1, x18)]) fun x19 =>
 obind2 (newI h17 (IV.cells x19)) fun x20 h21 =>
 callP (cf 25 [x20] h21) (dfP (L [x1, x3]) fun h22 =>
 obind (ldA 4 h22 x1) fun x23 =>
 obind (ld0 h22 x3) fun x24 =>
 .ok (.tup [x23, x24]) h22) fun x25 h26 =>
 obind (nilI x20) fun x27 =>
 obind (fadK 2 x27) fun x28 =>
 obind (fadK 0 x28) fun x29 =>
 obind (ld0 h26 x29) fun x30 =>
 obind (lenS x30) fun x31 =>
 D [x1, x3] 1 [a0, x1, x3, x20, x31, (.int .i64 0)] h26)
noncomputable def u9_1d (cf : CallF) (L : List IV → I.Mode → H → Option (I.Mode × H)) (D : List IV → Rec) (R : Rec) (d0 d1 a0 a2 a3 a4 a30 a31 : IV) (h : H) : CRes :=
 obind (binN .lss a31 a30) fun x32 =>
 condK x32
 (callP (cf 27 [a4] h) (dfP (L [d0, d1]) fun h33 =>
 obind (ldA 4 h33 a2) fun x34 =>
 obind (ld0 h33 a3) fun x35 =>
 .ok (.tup [x34, x35]) h33) fun x36 h37 =>
 callP (cf 26 [a4, x36] h37) (dfP (L [d0, d1]) fun h38 =>
 obind (ldA 4 h38 a2) fun x39 =>
 obind (ld0 h38 a3) fun x40 =>
 .ok (.tup [x39, x40]) h38) fun x41 h42 =>
 obind (extractI x41 0) fun x43 =>
 obind (extractI x41 1) fun x44 =>
 obind (nilI a4) fun x45 =>
 obind (fadK 2 x45) fun x46 =>
 obind (fadK 2 x46) fun x47 =>
 obind (ld0 h42 x47) fun x48 =>
 obind2 (bslK false 1 [(.str ⟨0, 0⟩)] 1 [(0, x44)] h42) fun x49 h50 =>
 obind2 (appK 1 16 h50 x48 x49) fun x51 h52 =>
 obind (nilI a4) fun x53 =>
 obind (fadK 2 x53) fun x54 =>
 obind (fadK 2 x54) fun x55 =>
 obindH (stA 1 h52 x55 x51) fun h56 =>
 obind (binN .add a31 (.int .i64 1)) fun x57 =>
 R 1 [a0, a2, a3, a4, a30, x57] h56)
 (callP (cf 27 [a4] h) (dfP (L [d0, d1]) fun h58 =>
 obind (ldA 4 h58 a2) fun x59 =>
 obind (ld0 h58 a3) fun x60 =>
 .ok (.tup [x59, x60]) h58) fun x61 h62 =>
 obind (binS .eql x61 (.str ⟨4, 1684956452⟩)) fun x63 =>
 callP (cf 28 [x63] h62) (dfP (L [d0, d1]) fun h64 =>
 obind (ldA 4 h64 a2) fun x65 =>
 obind (ld0 h64 a3) fun x66 =>
 .ok (.tup [x65, x66]) h64) fun x67 h68 =>
 callP (cf 27 [a4] h68) (dfP (L [d0, d1]) fun h69 =>
 obind (ldA 4 h69 a2) fun x70 =>
 obind (ld0 h69 a3) fun x71 =>
 .ok (.tup [x70, x71]) h69) fun x72 h73 =>
 R 2 [a0, a2, a3, a4, (.int .i64 (-1)), x72] h73)
noncomputable def u9_2d (cf : CallF) (L : List IV → I.Mode → H → Option (I.Mode × H)) (D : List IV → Rec) (R : Rec) (d0 d1 a0 a2 a3 a4 a7 a8 : IV) (h : H) : CRes :=
 obind (binS .neq a8 (.str ⟨0, 0⟩)) fun x74 =>
 condK x74
 (obind (ixStr a8 (.int .i64 0)) fun x75 =>
 obind (binN .eql x75 (.int .u8 35)) fun x76 =>
 condK x76
 (obind (slcStr a8 (some (.int .i64 1)) none) fun x77 =>
 callP (cf 29 [x77] h) (dfP (L [d0, d1]) fun h78 =>
 obind (ldA 4 h78 a2) fun x79 =>
 obind (ld0 h78 a3) fun x80 =>
 .ok (.tup [x79, x80]) h78) fun x81 h82 =>
 R 3 [a0, a2, a3, a4, x81] h82)
 (callP (cf 26 [a4, a8] h) (dfP (L [d0, d1]) fun h83 =>
 obind (ldA 4 h83 a2) fun x84 =>
 obind (ld0 h83 a3) fun x85 =>
 .ok (.tup [x84, x85]) h83) fun x86 h87 =>
 obind (extractI x86 0) fun x88 =>
 obind (extractI x86 1) fun x89 =>
 obind (nilI a4) fun x90 =>
 obind (fadK 2 x90) fun x91 =>
 obind (fadK 3 x91) fun x92 =>
 obind (ld0 h87 x92) fun x93 =>
 obind (bldK z2 p3 [(0, a7), (1, x88), (2, x89)]) fun x94 =>
 obind2 (bslK false 3 z2 1 [(0, x94)] h87) fun x95 h96 =>
 obind2 (appK 3 32 h96 x93 x95) fun x97 h98 =>
 obind (nilI a4) fun x99 =>
 obind (fadK 2 x99) fun x100 =>
 obind (fadK 3 x100) fun x101 =>
 obindH (stA 1 h98 x101 x97) fun h102 =>
 R 3 [a0, a2, a3, a4, a7] h102))
 (obind (nilI a4) fun x103 =>
 obind (fadK 2 x103) fun x104 =>
 obind (ldA 4 h x104) fun x105 =>
 callP (cf 6 [x105] h) (dfP (L [d0, d1]) fun h106 =>
 obind (ldA 4 h106 a2) fun x107 =>
 obind (ld0 h106 a3) fun x108 =>
 .ok (.tup [x107, x108]) h106) fun x109 h110 =>
 obind (extractI x109 0) fun x111 =>
 obind (extractI x109 1) fun x112 =>
 obind (binN .eql x112 (.int .i64 0)) fun x113 =>
 spanK x113 true h110 (fun k114 =>
 obind (binS .eql x111 a0) fun x117 =>
 k114 x117 h110) fun x115 h116 =>
 obind (pickI x113 (some x115) (some (.bool false))) fun x118 =>
 callP (cf 28 [x118] h116) (dfP (L [d0, d1]) fun h119 =>
 obind (ldA 4 h119 a2) fun x120 =>
 obind (ld0 h119 a3) fun x121 =>
 .ok (.tup [x120, x121]) h119) fun x122 h123 =>
 obind (nilI a4) fun x124 =>
 obind (fadK 2 x124) fun x125 =>
 obind (ldA 4 h123 x125) fun x126 =>
 obindH (stA 4 h123 a2 x126) fun h127 =>
 obindH (stA 1 h127 a3 (.int .i64 0)) fun h128 =>
 dfK (L [d0, d1] .ret h128) fun h129 =>
 obind (ldA 4 h129 a2) fun x130 =>
 obind (ld0 h129 a3) fun x131 =>
 .ok (.tup [x130, x131]) h129)
noncomputable def u9_3d (cf : CallF) (L : List IV → I.Mode → H → Option (I.Mode × H)) (D : List IV → Rec) (R : Rec) (d0 d1 a0 a2 a3 a4 a7 : IV) (h : H) : CRes :=
 callP (cf 27 [a4] h) (dfP (L [d0, d1]) fun h132 =>
 obind (ldA 4 h132 a2) fun x133 =>
 obind (ld0 h132 a3) fun x134 =>
 .ok (.tup [x133, x134]) h132) fun x135 h136 =>
 R 2 [a0, a2, a3, a4, a7, x135] h136
theorem m9 {cf cf' : CallF} {L L' : List IV → I.Mode → H → Option (I.Mode × H)} {D D' : List IV → Rec} {R R' : Rec} (hc : ∀ f l h, le (cf f l h) (cf' f l h)) (hL : ∀ l st h, leO (L l st h) (L' l st h)) (hD : ∀ l i x h, le (D l i x h) (D' l i x h)) (hR : ∀ i l h, le (R i l h) (R' i l h)) :
  (∀ (a0 : IV) (h : H), le (u9_0 cf L D R a0 h) (u9_0 cf' L' D' R' a0 h)) ∧
  (∀ (d0 d1 a0 a2 a3 a4 a30 a31 : IV) (h : H), le (u9_1d cf L D R d0 d1 a0 a2 a3 a4 a30 a31 h) (u9_1d cf' L' D' R' d0 d1 a0 a2 a3 a4 a30 a31 h)) ∧
  (∀ (d0 d1 a0 a2 a3 a4 a7 a8 : IV) (h : H), le (u9_2d cf L D R d0 d1 a0 a2 a3 a4 a7 a8 h) (u9_2d cf' L' D' R' d0 d1 a0 a2 a3 a4 a7 a8 h)) ∧
  (∀ (d0 d1 a0 a2 a3 a4 a7 : IV) (h : H), le (u9_3d cf L D R d0 d1 a0 a2 a3 a4 a7 h) (u9_3d cf' L' D' R' d0 d1 a0 a2 a3 a4 a7 h)) := by
  refine ⟨?_, ?_, ?_, ?_⟩
  all_goals intros
  all_goals first | unfold u9_0 | unfold u9_1d | unfold u9_2d | unfold u9_3d
  all_goals
  with_reducible repeat' first
    | refine le_obind fun _ => ?_
    | refine le_callP ?_ (fun _ _ => ?_) (fun _ _ => ?_)
    | refine le_condK ?_ ?_
    | exact hR _ _ _
    | refine le_obind2 fun _ _ => ?_
    | refine le_obindH fun _ => ?_
    | refine le_spanK (fun _ _ _ => ?_) (fun _ _ => ?_)
    | exact hc _ _ _
    | refine le_bif ?_ ?_
    | refine le_guardK ?_ ?_ ?_
    | refine le_mapK fun _ _ => ?_
    | refine le_panK fun _ _ => ?_
    | refine le_funK fun _ _ => ?_
    | exact hD _ _ _ _
    | refine le_dfP (hL _) (fun _ => ?_)
    | refine le_dfK (hL _ _ _) (fun _ => ?_)
    | exact le_refl _
    | apply_assumption
noncomputable def bd9 (cf : CallF) (d0 d1 : IV) (R : Rec) : Rec := fun i l h =>
 br6 i 1 l (fun a0 a2 a3 a4 a30 a31 => u9_1d cf (L23 cf) (fun _ _ _ _ => .fail) R d0 d1 a0 a2 a3 a4 a30 a31 h) <|
 br6 i 2 l (fun a0 a2 a3 a4 a7 a8 => u9_2d cf (L23 cf) (fun _ _ _ _ => .fail) R d0 d1 a0 a2 a3 a4 a7 a8 h) <|
 br5 i 3 l (fun a0 a2 a3 a4 a7 => u9_3d cf (L23 cf) (fun _ _ _ _ => .fail) R d0 d1 a0 a2 a3 a4 a7 h) <|
 .fail
theorem rd9 {T : Tab} {cf : CallF} (hc : leC cf (CL T)) (d0 d1 : IV) (n : Nat) : leR (recN (bd9 cf d0 d1) n) (J9d T d0 d1) := recN_le (fun R hR i l h => by
  unfold bd9
  refine le_br6 (J := fun i l => J9d T d0 d1 i l h) (fun _ a0 a2 a3 a4 a30 a31 => le_e (fun hn => e9_1d (r := u9_1d (CL T) (fun l => LV Tryz.prog (CL T) 23 l) (fun l => fj1 Tryz.prog (CL T) Tryz.f9 js9 23 l) (J9d T d0 d1) d0 d1 a0 a2 a3 a4 a30 a31 h) rfl hn) ((m9 hc (lle23 hc) (fun _ _ _ _ => le_fail _) hR).2.1 d0 d1 a0 a2 a3 a4 a30 a31 h)) ?_
  refine le_br6 (J := fun i l => J9d T d0 d1 i l h) (fun _ a0 a2 a3 a4 a7 a8 => le_e (fun hn => e9_2d (r := u9_2d (CL T) (fun l => LV Tryz.prog (CL T) 23 l) (fun l => fj1 Tryz.prog (CL T) Tryz.f9 js9 23 l) (J9d T d0 d1) d0 d1 a0 a2 a3 a4 a7 a8 h) rfl hn) ((m9 hc (lle23 hc) (fun _ _ _ _ => le_fail _) hR).2.2.1 d0 d1 a0 a2 a3 a4 a7 a8 h)) ?_
  refine le_br5 (J := fun i l => J9d T d0 d1 i l h) (fun _ a0 a2 a3 a4 a7 => le_e (fun hn => e9_3d (r := u9_3d (CL T) (fun l => LV Tryz.prog (CL T) 23 l) (fun l => fj1 Tryz.prog (CL T) Tryz.f9 js9 23 l) (J9d T d0 d1) d0 d1 a0 a2 a3 a4 a7 h) rfl hn) ((m9 hc (lle23 hc) (fun _ _ _ _ => le_fail _) hR).2.2.2 d0 d1 a0 a2 a3 a4 a7 h)) ?_
  exact le_fail _) n
noncomputable def D9 (cf : CallF) (l : List IV) : Rec :=
 match l with
 | [d0, d1] => recN (bd9 cf d0 d1) 1000000
 | _ => fun _ _ _ => .fail
theorem dle9 {T : Tab} {cf : CallF} (hc : leC cf (CL T)) (l : List IV) (i : Nat) (x : List IV) (h : H) : le (D9 cf l i x h) (fj1 Tryz.prog (CL T) Tryz.f9 js9 23 l i x h) := by
  unfold D9
  split
  · exact rd9 hc _ _ _ i x h
  · exact le_fail _
noncomputable def b9 (cf : CallF) (R : Rec) : Rec := fun i l h =>
 br1 i 0 l (fun a0 => u9_0 cf (L23 cf) (D9 cf) R a0 h) <|
 .fail
theorem r9 {T : Tab} {cf : CallF} (hc : leC cf (CL T)) (n : Nat) : leR (recN (b9 cf) n) (J9 T) := recN_le (fun R hR i l h => by
  unfold b9
  refine le_br1 (J := fun i l => J9 T i l h) (fun _ a0 => le_e (fun hn => e9_0 (r := u9_0 (CL T) (fun l => LV Tryz.prog (CL T) 23 l) (fun l => fj1 Tryz.prog (CL T) Tryz.f9 js9 23 l) (J9 T) a0 h) rfl hn) ((m9 hc (lle23 hc) (dle9 hc) hR).1 a0 h)) ?_
  exact le_fail _) n
theorem m11 {cf cf' : CallF} {R R' : Rec} (hc : ∀ f l h, le (cf f l h) (cf' f l h)) (hR : ∀ i l h, le (R i l h) (R' i l h)) :
  (∀ (a0 a1 a2 : IV) (h : H), le (t11_0 cf R a0 a1 a2 h) (t11_0 cf' R' a0 a1 a2 h)) ∧
  (∀ (a2 a3 a4 a7 : IV) (h : H), le (t11_1 cf R a2 a3 a4 a7 h) (t11_1 cf' R' a2 a3 a4 a7 h)) ∧
  (∀ (a2 a3 a4 a8 : IV) (h : H), le (t11_2 cf R a2 a3 a4 a8 h) (t11_2 cf' R' a2 a3 a4 a8 h)) ∧
  (∀ (a2 a3 a4 a9 : IV) (h : H), le (t11_3 cf R a2 a3 a4 a9 h) (t11_3 cf' R' a2 a3 a4 a9 h)) ∧
  (∀ (a3 a4 a10 : IV) (h : H), le (t11_4 cf R a3 a4 a10 h) (t11_4 cf' R' a3 a4 a10 h)) := by
  refine ⟨?_, ?_, ?_, ?_, ?_⟩
  all_goals intros
  all_goals first | unfold t11_0 | unfold t11_1 | unfold t11_2 | unfold t11_3 | unfold t11_4
  all_goals
  with_reducible repeat' first
    | refine le_obind fun _ => ?_
    | refine le_callP ?_ (fun _ _ => ?_) (fun _ _ => ?_)
    | refine le_condK ?_ ?_
    | exact hR _ _ _
    | refine le_obind2 fun _ _ => ?_
    | refine le_obindH fun _ => ?_
    | refine le_spanK (fun _ _ _ => ?_) (fun _ _ => ?_)
    | exact hc _ _ _
    | refine le_bif ?_ ?_
    | refine le_guardK ?_ ?_ ?_
    | refine le_mapK fun _ _ => ?_
    | refine le_panK fun _ _ => ?_
    | refine le_funK fun _ _ => ?_
    | exact le_refl _
    | apply_assumption
noncomputable def b11 (cf : CallF) (R : Rec) : Rec := fun i l h =>
 br3 i 0 l (fun a0 a1 a2 => t11_0 cf R a0 a1 a2 h) <|
 br4 i 1 l (fun a2 a3 a4 a7 => t11_1 cf R a2 a3 a4 a7 h) <|
 br4 i 2 l (fun a2 a3 a4 a8 => t11_2 cf R a2 a3 a4 a8 h) <|
 br4 i 3 l (fun a2 a3 a4 a9 => t11_3 cf R a2 a3 a4 a9 h) <|
 br3 i 4 l (fun a3 a4 a10 => t11_4 cf R a3 a4 a10 h) <|
 .fail
theorem r11 {T : Tab} {cf : CallF} (hc : leC cf (CL T)) (n : Nat) : leR (recN (b11 cf) n) (J11 T) := recN_le (fun R hR i l h => by
  unfold b11
  refine le_br3 (J := fun i l => J11 T i l h) (fun _ a0 a1 a2 => le_e (fun hn => e11_0 rfl hn) ((m11 hc hR).1 a0 a1 a2 h)) ?_
  refine le_br4 (J := fun i l => J11 T i l h) (fun _ a2 a3 a4 a7 => le_e (fun hn => e11_1 rfl hn) ((m11 hc hR).2.1 a2 a3 a4 a7 h)) ?_
  refine le_br4 (J := fun i l => J11 T i l h) (fun _ a2 a3 a4 a8 => le_e (fun hn => e11_2 rfl hn) ((m11 hc hR).2.2.1 a2 a3 a4 a8 h)) ?_
  refine le_br4 (J := fun i l => J11 T i l h) (fun _ a2 a3 a4 a9 => le_e (fun hn => e11_3 rfl hn) ((m11 hc hR).2.2.2.1 a2 a3 a4 a9 h)) ?_
  refine le_br3 (J := fun i l => J11 T i l h) (fun _ a3 a4 a10 => le_e (fun hn => e11_4 rfl hn) ((m11 hc hR).2.2.2.2 a3 a4 a10 h)) ?_
  exact le_fail _) n
theorem m13 {cf cf' : CallF} {R R' : Rec} (hc : ∀ f l h, le (cf f l h) (cf' f l h)) (hR : ∀ i l h, le (R i l h) (R' i l h)) :
  (∀ (a0 : IV) (h : H), le (t13_0 cf R a0 h) (t13_0 cf' R' a0 h)) ∧
  (∀ (a1 a3 a28 a29 : IV) (h : H), le (t13_1 cf R a1 a3 a28 a29 h) (t13_1 cf' R' a1 a3 a28 a29 h)) ∧
  (∀ (a1 a3 a28 a29 a70 : IV) (h : H), le (t13_2 cf R a1 a3 a28 a29 a70 h) (t13_2 cf' R' a1 a3 a28 a29 a70 h)) ∧
  (∀ (a1 a3 a6 a76 a77 a78 : IV) (h : H), le (t13_3 cf R a1 a3 a6 a76 a77 a78 h) (t13_3 cf' R' a1 a3 a6 a76 a77 a78 h)) ∧
  (∀ (a1 a3 a6 a8 a76 a77 a78 a116 : IV) (h : H), le (t13_4 cf R a1 a3 a6 a8 a76 a77 a78 a116 h) (t13_4 cf' R' a1 a3 a6 a8 a76 a77 a78 a116 h)) ∧
  (∀ (a1 a3 a6 a8 a76 a77 a78 a142 : IV) (h : H), le (t13_5 cf R a1 a3 a6 a8 a76 a77 a78 a142 h) (t13_5 cf' R' a1 a3 a6 a8 a76 a77 a78 a142 h)) := by
  refine ⟨?_, ?_, ?_, ?_, ?_, ?_⟩
  all_goals intros
  all_goals first | unfold t13_0 | unfold t13_1 | unfold t13_2 | unfold t13_3 | unfold t13_4 | unfold t13_5
  all_goals
  with_reducible repeat' first
    | refine le_obind fun _ => ?_
    | refine le_callP ?_ (fun _ _ => ?_) (fun _ _ => ?_)
    | refine le_condK ?_ ?_
    | exact hR _ _ _
    | refine le_obind2 fun _ _ => ?_
    | refine le_obindH fun _ => ?_
    | refine le_spanK (fun _ _ _ => ?_) (fun _ _ => ?_)
    | exact hc _ _ _
    | refine le_bif ?_ ?_
    | refine le_guardK ?_ ?_ ?_
    | refine le_mapK fun _ _ => ?_
    | refine le_panK fun _ _ => ?_
    | refine le_funK fun _ _ => ?_
    | exact le_refl _
    | apply_assumption
noncomputable def b13 (cf : CallF) (R : Rec) : Rec := fun i l h =>
 br1 i 0 l (fun a0 => t13_0 cf R a0 h) <|
 br4 i 1 l (fun a1 a3 a28 a29 => t13_1 cf R a1 a3 a28 a29 h) <|
 br5 i 2 l (fun a1 a3 a28 a29 a70 => t13_2 cf R a1 a3 a28 a29 a70 h) <|
 br6 i 3 l (fun a1 a3 a6 a76 a77 a78 => t13_3 cf R a1 a3 a6 a76 a77 a78 h) <|
 br8 i 4 l (fun a1 a3 a6 a8 a76 a77 a78 a116 => t13_4 cf R a1 a3 a6 a8 a76 a77 a78 a116 h) <|
 br8 i 5 l (fun a1 a3 a6 a8 a76 a77 a78 a142 => t13_5 cf R a1 a3 a6 a8 a76 a77 a78 a142 h) <|
 .fail
theorem r13 {T : Tab} {cf : CallF} (hc : leC cf (CL T)) (n : Nat) : leR (recN (b13 cf) n) (J13 T) := recN_le (fun R hR i l h => by
  unfold b13
  refine le_br1 (J := fun i l => J13 T i l h) (fun _ a0 => le_e (fun hn => e13_0 rfl hn) ((m13 hc hR).1 a0 h)) ?_
  refine le_br4 (J := fun i l => J13 T i l h) (fun _ a1 a3 a28 a29 => le_e (fun hn => e13_1 rfl hn) ((m13 hc hR).2.1 a1 a3 a28 a29 h)) ?_
  refine le_br5 (J := fun i l => J13 T i l h) (fun _ a1 a3 a28 a29 a70 => le_e (fun hn => e13_2 rfl hn) ((m13 hc hR).2.2.1 a1 a3 a28 a29 a70 h)) ?_
  refine le_br6 (J := fun i l => J13 T i l h) (fun _ a1 a3 a6 a76 a77 a78 => le_e (fun hn => e13_3 rfl hn) ((m13 hc hR).2.2.2.1 a1 a3 a6 a76 a77 a78 h)) ?_
  refine le_br8 (J := fun i l => J13 T i l h) (fun _ a1 a3 a6 a8 a76 a77 a78 a116 => le_e (fun hn => e13_4 rfl hn) ((m13 hc hR).2.2.2.2.1 a1 a3 a6 a8 a76 a77 a78 a116 h)) ?_
  refine le_br8 (J := fun i l => J13 T i l h) (fun _ a1 a3 a6 a8 a76 a77 a78 a142 => le_e (fun hn => e13_5 rfl hn) ((m13 hc hR).2.2.2.2.2 a1 a3 a6 a8 a76 a77 a78 a142 h)) ?_
  exact le_fail _) n
theorem m14 {cf cf' : CallF} {R R' : Rec} (hc : ∀ f l h, le (cf f l h) (cf' f l h)) (hR : ∀ i l h, le (R i l h) (R' i l h)) : (∀ (a0 a1 : IV) (h : H), le (t14_0 cf R a0 a1 h) (t14_0 cf' R' a0 a1 h)) := by
  intros
  unfold t14_0
  with_reducible repeat' first
    | refine le_obind fun _ => ?_
    | refine le_callP ?_ (fun _ _ => ?_) (fun _ _ => ?_)
    | refine le_condK ?_ ?_
    | exact hR _ _ _
    | refine le_obind2 fun _ _ => ?_
    | refine le_obindH fun _ => ?_
    | refine le_spanK (fun _ _ _ => ?_) (fun _ _ => ?_)
    | exact hc _ _ _
    | refine le_bif ?_ ?_
    | refine le_guardK ?_ ?_ ?_
    | refine le_mapK fun _ _ => ?_
    | refine le_panK fun _ _ => ?_
    | refine le_funK fun _ _ => ?_
    | exact le_refl _
    | apply_assumption
noncomputable def b14 (cf : CallF) (R : Rec) : Rec := fun i l h =>
 br2 i 0 l (fun a0 a1 => t14_0 cf R a0 a1 h) <|
 .fail
theorem r14 {T : Tab} {cf : CallF} (hc : leC cf (CL T)) (n : Nat) : leR (recN (b14 cf) n) (J14 T) := recN_le (fun R hR i l h => by
  unfold b14
  refine le_br2 (J := fun i l => J14 T i l h) (fun _ a0 a1 => le_e (fun hn => e14_0 rfl hn) ((m14 hc hR) a0 a1 h)) ?_
  exact le_fail _) n
theorem m17 {cf cf' : CallF} {R R' : Rec} (hc : ∀ f l h, le (cf f l h) (cf' f l h)) (hR : ∀ i l h, le (R i l h) (R' i l h)) : (∀ (a0 a1 : IV) (h : H), le (t17_0 cf R a0 a1 h) (t17_0 cf' R' a0 a1 h)) := by
  intros
  unfold t17_0
  with_reducible repeat' first
    | refine le_obind fun _ => ?_
    | refine le_callP ?_ (fun _ _ => ?_) (fun _ _ => ?_)
    | refine le_condK ?_ ?_
    | exact hR _ _ _
    | refine le_obind2 fun _ _ => ?_
    | refine le_obindH fun _ => ?_
    | refine le_spanK (fun _ _ _ => ?_) (fun _ _ => ?_)
    | exact hc _ _ _
    | refine le_bif ?_ ?_
    | refine le_guardK ?_ ?_ ?_
    | refine le_mapK fun _ _ => ?_
    | refine le_panK fun _ _ => ?_
    | refine le_funK fun _ _ => ?_
    | exact le_refl _
    | apply_assumption
noncomputable def b17 (cf : CallF) (R : Rec) : Rec := fun i l h =>
 br2 i 0 l (fun a0 a1 => t17_0 cf R a0 a1 h) <|
 .fail
theorem r17 {T : Tab} {cf : CallF} (hc : leC cf (CL T)) (n : Nat) : leR (recN (b17 cf) n) (J17 T) := recN_le (fun R hR i l h => by
  unfold b17
  refine le_br2 (J := fun i l => J17 T i l h) (fun _ a0 a1 => le_e (fun hn => e17_0 rfl hn) ((m17 hc hR) a0 a1 h)) ?_
  exact le_fail _) n
theorem m18 {cf cf' : CallF} {R R' : Rec} (hc : ∀ f l h, le (cf f l h) (cf' f l h)) (hR : ∀ i l h, le (R i l h) (R' i l h)) : (∀ (a0 : IV) (h : H), le (t18_0 cf R a0 h) (t18_0 cf' R' a0 h)) := by
  intros
  unfold t18_0
  with_reducible repeat' first
    | refine le_obind fun _ => ?_
    | refine le_callP ?_ (fun _ _ => ?_) (fun _ _ => ?_)
    | refine le_condK ?_ ?_
    | exact hR _ _ _
    | refine le_obind2 fun _ _ => ?_
    | refine le_obindH fun _ => ?_
    | refine le_spanK (fun _ _ _ => ?_) (fun _ _ => ?_)
    | exact hc _ _ _
    | refine le_bif ?_ ?_
    | refine le_guardK ?_ ?_ ?_
    | refine le_mapK fun _ _ => ?_
    | refine le_panK fun _ _ => ?_
    | refine le_funK fun _ _ => ?_
    | exact le_refl _
    | apply_assumption
noncomputable def b18 (cf : CallF) (R : Rec) : Rec := fun i l h =>
 br1 i 0 l (fun a0 => t18_0 cf R a0 h) <|
 .fail
theorem r18 {T : Tab} {cf : CallF} (hc : leC cf (CL T)) (n : Nat) : leR (recN (b18 cf) n) (J18 T) := recN_le (fun R hR i l h => by
  unfold b18
  refine le_br1 (J := fun i l => J18 T i l h) (fun _ a0 => le_e (fun hn => e18_0 rfl hn) ((m18 hc hR) a0 h)) ?_
  exact le_fail _) n
theorem m19 {cf cf' : CallF} {R R' : Rec} (hc : ∀ f l h, le (cf f l h) (cf' f l h)) (hR : ∀ i l h, le (R i l h) (R' i l h)) : (∀ (a0 : IV) (h : H), le (t19_0 cf R a0 h) (t19_0 cf' R' a0 h)) := by
  intros
  unfold t19_0
  with_reducible repeat' first
    | refine le_obind fun _ => ?_
    | refine le_callP ?_ (fun _ _ => ?_) (fun _ _ => ?_)
    | refine le_condK ?_ ?_
    | exact hR _ _ _
    | refine le_obind2 fun _ _ => ?_
    | refine le_obindH fun _ => ?_
    | refine le_spanK (fun _ _ _ => ?_) (fun _ _ => ?_)
    | exact hc _ _ _
    | refine le_bif ?_ ?_
    | refine le_guardK ?_ ?_ ?_
    | refine le_mapK fun _ _ => ?_
    | refine le_panK fun _ _ => ?_
    | refine le_funK fun _ _ => ?_
    | exact le_refl _
    | apply_assumption
noncomputable def b19 (cf : CallF) (R : Rec) : Rec := fun i l h =>
 br1 i 0 l (fun a0 => t19_0 cf R a0 h) <|
 .fail
theorem r19 {T : Tab} {cf : CallF} (hc : leC cf (CL T)) (n : Nat) : leR (recN (b19 cf) n) (J19 T) := recN_le (fun R hR i l h => by
  unfold b19
  refine le_br1 (J := fun i l => J19 T i l h) (fun _ a0 => le_e (fun hn => e19_0 rfl hn) ((m19 hc hR) a0 h)) ?_
  exact le_fail _) n
theorem m22 {cf cf' : CallF} {R R' : Rec} (hc : ∀ f l h, le (cf f l h) (cf' f l h)) (hR : ∀ i l h, le (R i l h) (R' i l h)) : (∀ (a0 : IV) (h : H), le (t22_0 cf R a0 h) (t22_0 cf' R' a0 h)) := by
  intros
  unfold t22_0
  with_reducible repeat' first
    | refine le_obind fun _ => ?_
    | refine le_callP ?_ (fun _ _ => ?_) (fun _ _ => ?_)
    | refine le_condK ?_ ?_
    | exact hR _ _ _
    | refine le_obind2 fun _ _ => ?_
    | refine le_obindH fun _ => ?_
    | refine le_spanK (fun _ _ _ => ?_) (fun _ _ => ?_)
    | exact hc _ _ _
    | refine le_bif ?_ ?_
    | refine le_guardK ?_ ?_ ?_
    | refine le_mapK fun _ _ => ?_
    | refine le_panK fun _ _ => ?_
    | refine le_funK fun _ _ => ?_
    | exact le_refl _
    | apply_assumption
noncomputable def b22 (cf : CallF) (R : Rec) : Rec := fun i l h =>
 br1 i 0 l (fun a0 => t22_0 cf R a0 h) <|
 .fail
theorem r22 {T : Tab} {cf : CallF} (hc : leC cf (CL T)) (n : Nat) : leR (recN (b22 cf) n) (J22 T) := recN_le (fun R hR i l h => by
  unfold b22
  refine le_br1 (J := fun i l => J22 T i l h) (fun _ a0 => le_e (fun hn => e22_0 rfl hn) ((m22 hc hR) a0 h)) ?_
  exact le_fail _) n
theorem m24 {cf cf' : CallF} {R R' : Rec} (hc : ∀ f l h, le (cf f l h) (cf' f l h)) (hR : ∀ i l h, le (R i l h) (R' i l h)) : (∀ (a0 a1 : IV) (h : H), le (t24_0 cf R a0 a1 h) (t24_0 cf' R' a0 a1 h)) := by
  intros
  unfold t24_0
  with_reducible repeat' first
    | refine le_obind fun _ => ?_
    | refine le_callP ?_ (fun _ _ => ?_) (fun _ _ => ?_)
    | refine le_condK ?_ ?_
    | exact hR _ _ _
    | refine le_obind2 fun _ _ => ?_
    | refine le_obindH fun _ => ?_
    | refine le_spanK (fun _ _ _ => ?_) (fun _ _ => ?_)
    | exact hc _ _ _
    | refine le_bif ?_ ?_
    | refine le_guardK ?_ ?_ ?_
    | refine le_mapK fun _ _ => ?_
    | refine le_panK fun _ _ => ?_
    | refine le_funK fun _ _ => ?_
    | exact le_refl _
    | apply_assumption
noncomputable def b24 (cf : CallF) (R : Rec) : Rec := fun i l h =>
 br2 i 0 l (fun a0 a1 => t24_0 cf R a0 a1 h) <|
 .fail
theorem r24 {T : Tab} {cf : CallF} (hc : leC cf (CL T)) (n : Nat) : leR (recN (b24 cf) n) (J24 T) := recN_le (fun R hR i l h => by
  unfold b24
  refine le_br2 (J := fun i l => J24 T i l h) (fun _ a0 a1 => le_e (fun hn => e24_0 rfl hn) ((m24 hc hR) a0 a1 h)) ?_
  exact le_fail _) n
theorem m25 {cf cf' : CallF} {R R' : Rec} (hc : ∀ f l h, le (cf f l h) (cf' f l h)) (hR : ∀ i l h, le (R i l h) (R' i l h)) :
  (∀ (a0 : IV) (h : H), le (t25_0 cf R a0 h) (t25_0 cf' R' a0 h)) ∧
  (∀ (a0 a2 : IV) (h : H), le (t25_1 cf R a0 a2 h) (t25_1 cf' R' a0 a2 h)) ∧
  (∀ (a0 a3 : IV) (h : H), le (t25_2 cf R a0 a3 h) (t25_2 cf' R' a0 a3 h)) := by
  refine ⟨?_, ?_, ?_⟩
  all_goals intros
  all_goals first | unfold t25_0 | unfold t25_1 | unfold t25_2
  all_goals
  with_reducible repeat' first
    | refine le_obind fun _ => ?_
    | refine le_callP ?_ (fun _ _ => ?_) (fun _ _ => ?_)
    | refine le_condK ?_ ?_
    | exact hR _ _ _
    | refine le_obind2 fun _ _ => ?_
    | refine le_obindH fun _ => ?_
    | refine le_spanK (fun _ _ _ => ?_) (fun _ _ => ?_)
    | exact hc _ _ _
    | refine le_bif ?_ ?_
    | refine le_guardK ?_ ?_ ?_
    | refine le_mapK fun _ _ => ?_
    | refine le_panK fun _ _ => ?_
    | refine le_funK fun _ _ => ?_
    | exact le_refl _
    | apply_assumption
noncomputable def b25 (cf : CallF) (R : Rec) : Rec := fun i l h =>
 br1 i 0 l (fun a0 => t25_0 cf R a0 h) <|
 br2 i 1 l (fun a0 a2 => t25_1 cf R a0 a2 h) <|
 br2 i 2 l (fun a0 a3 => t25_2 cf R a0 a3 h) <|
 .fail
theorem r25 {T : Tab} {cf : CallF} (hc : leC cf (CL T)) (n : Nat) : leR (recN (b25 cf) n) (J25 T) := recN_le (fun R hR i l h => by
  unfold b25
  refine le_br1 (J := fun i l => J25 T i l h) (fun _ a0 => le_e (fun hn => e25_0 rfl hn) ((m25 hc hR).1 a0 h)) ?_
  refine le_br2 (J := fun i l => J25 T i l h) (fun _ a0 a2 => le_e (fun hn => e25_1 rfl hn) ((m25 hc hR).2.1 a0 a2 h)) ?_
  refine le_br2 (J := fun i l => J25 T i l h) (fun _ a0 a3 => le_e (fun hn => e25_2 rfl hn) ((m25 hc hR).2.2 a0 a3 h)) ?_
  exact le_fail _) n
theorem m26 {cf cf' : CallF} {R R' : Rec} (hc : ∀ f l h, le (cf f l h) (cf' f l h)) (hR : ∀ i l h, le (R i l h) (R' i l h)) :
  (∀ (a0 a1 : IV) (h : H), le (t26_0 cf R a0 a1 h) (t26_0 cf' R' a0 a1 h)) ∧
  (∀ (a0 a5 a6 : IV) (h : H), le (t26_1 cf R a0 a5 a6 h) (t26_1 cf' R' a0 a5 a6 h)) := by
  refine ⟨?_, ?_⟩
  all_goals intros
  all_goals first | unfold t26_0 | unfold t26_1
  all_goals
  with_reducible repeat' first
    | refine le_obind fun _ => ?_
    | refine le_callP ?_ (fun _ _ => ?_) (fun _ _ => ?_)
    | refine le_condK ?_ ?_
    | exact hR _ _ _
    | refine le_obind2 fun _ _ => ?_
    | refine le_obindH fun _ => ?_
    | refine le_spanK (fun _ _ _ => ?_) (fun _ _ => ?_)
    | exact hc _ _ _
    | refine le_bif ?_ ?_
    | refine le_guardK ?_ ?_ ?_
    | refine le_mapK fun _ _ => ?_
    | refine le_panK fun _ _ => ?_
    | refine le_funK fun _ _ => ?_
    | exact le_refl _
    | apply_assumption
noncomputable def b26 (cf : CallF) (R : Rec) : Rec := fun i l h =>
 br2 i 0 l (fun a0 a1 => t26_0 cf R a0 a1 h) <|
 br3 i 1 l (fun a0 a5 a6 => t26_1 cf R a0 a5 a6 h) <|
 .fail
theorem r26 {T : Tab} {cf : CallF} (hc : leC cf (CL T)) (n : Nat) : leR (recN (b26 cf) n) (J26 T) := recN_le (fun R hR i l h => by
  unfold b26
  refine le_br2 (J := fun i l => J26 T i l h) (fun _ a0 a1 => le_e (fun hn => e26_0 rfl hn) ((m26 hc hR).1 a0 a1 h)) ?_
  refine le_br3 (J := fun i l => J26 T i l h) (fun _ a0 a5 a6 => le_e (fun hn => e26_1 rfl hn) ((m26 hc hR).2 a0 a5 a6 h)) ?_
  exact le_fail _) n
theorem m27 {cf cf' : CallF} {R R' : Rec} (hc : ∀ f l h, le (cf f l h) (cf' f l h)) (hR : ∀ i l h, le (R i l h) (R' i l h)) : (∀ (a0 : IV) (h : H), le (t27_0 cf R a0 h) (t27_0 cf' R' a0 h)) := by
  intros
  unfold t27_0
  with_reducible repeat' first
    | refine le_obind fun _ => ?_
    | refine le_callP ?_ (fun _ _ => ?_) (fun _ _ => ?_)
    | refine le_condK ?_ ?_
    | exact hR _ _ _
    | refine le_obind2 fun _ _ => ?_
    | refine le_obindH fun _ => ?_
    | refine le_spanK (fun _ _ _ => ?_) (fun _ _ => ?_)
    | exact hc _ _ _
    | refine le_bif ?_ ?_
    | refine le_guardK ?_ ?_ ?_
    | refine le_mapK fun _ _ => ?_
    | refine le_panK fun _ _ => ?_
    | refine le_funK fun _ _ => ?_
    | exact le_refl _
    | apply_assumption
noncomputable def b27 (cf : CallF) (R : Rec) : Rec := fun i l h =>
 br1 i 0 l (fun a0 => t27_0 cf R a0 h) <|
 .fail
theorem r27 {T : Tab} {cf : CallF} (hc : leC cf (CL T)) (n : Nat) : leR (recN (b27 cf) n) (J27 T) := recN_le (fun R hR i l h => by
  unfold b27
  refine le_br1 (J := fun i l => J27 T i l h) (fun _ a0 => le_e (fun hn => e27_0 rfl hn) ((m27 hc hR) a0 h)) ?_
  exact le_fail _) n
theorem m28 {cf cf' : CallF} {R R' : Rec} (hc : ∀ f l h, le (cf f l h) (cf' f l h)) (hR : ∀ i l h, le (R i l h) (R' i l h)) : (∀ (a0 : IV) (h : H), le (t28_0 cf R a0 h) (t28_0 cf' R' a0 h)) := by
  intros
  unfold t28_0
  with_reducible repeat' first
    | refine le_obind fun _ => ?_
    | refine le_callP ?_ (fun _ _ => ?_) (fun _ _ => ?_)
    | refine le_condK ?_ ?_
    | exact hR _ _ _
    | refine le_obind2 fun _ _ => ?_
    | refine le_obindH fun _ => ?_
    | refine le_spanK (fun _ _ _ => ?_) (fun _ _ => ?_)
    | exact hc _ _ _
    | refine le_bif ?_ ?_
    | refine le_guardK ?_ ?_ ?_
    | refine le_mapK fun _ _ => ?_
    | refine le_panK fun _ _ => ?_
    | refine le_funK fun _ _ => ?_
    | exact le_refl _
    | apply_assumption
noncomputable def b28 (cf : CallF) (R : Rec) : Rec := fun i l h =>
 br1 i 0 l (fun a0 => t28_0 cf R a0 h) <|
 .fail
theorem r28 {T : Tab} {cf : CallF} (hc : leC cf (CL T)) (n : Nat) : leR (recN (b28 cf) n) (J28 T) := recN_le (fun R hR i l h => by
  unfold b28
  refine le_br1 (J := fun i l => J28 T i l h) (fun _ a0 => le_e (fun hn => e28_0 rfl hn) ((m28 hc hR) a0 h)) ?_
  exact le_fail _) n
theorem m29 {cf cf' : CallF} {R R' : Rec} (hc : ∀ f l h, le (cf f l h) (cf' f l h)) (hR : ∀ i l h, le (R i l h) (R' i l h)) : (∀ (a0 : IV) (h : H), le (t29_0 cf R a0 h) (t29_0 cf' R' a0 h)) := by
  intros
  unfold t29_0
  with_reducible repeat' first
    | refine le_obind fun _ => ?_
    | refine le_callP ?_ (fun _ _ => ?_) (fun _ _ => ?_)
    | refine le_condK ?_ ?_
    | exact hR _ _ _
    | refine le_obind2 fun _ _ => ?_
    | refine le_obindH fun _ => ?_
    | refine le_spanK (fun _ _ _ => ?_) (fun _ _ => ?_)
    | exact hc _ _ _
    | refine le_bif ?_ ?_
    | refine le_guardK ?_ ?_ ?_
    | refine le_mapK fun _ _ => ?_
    | refine le_panK fun _ _ => ?_
    | refine le_funK fun _ _ => ?_
    | exact le_refl _
    | apply_assumption
noncomputable def b29 (cf : CallF) (R : Rec) : Rec := fun i l h =>
 br1 i 0 l (fun a0 => t29_0 cf R a0 h) <|
 .fail
theorem r29 {T : Tab} {cf : CallF} (hc : leC cf (CL T)) (n : Nat) : leR (recN (b29 cf) n) (J29 T) := recN_le (fun R hR i l h => by
  unfold b29
  refine le_br1 (J := fun i l => J29 T i l h) (fun _ a0 => le_e (fun hn => e29_0 rfl hn) ((m29 hc hR) a0 h)) ?_
  exact le_fail _) n
theorem m37 {cf cf' : CallF} {R R' : Rec} (hc : ∀ f l h, le (cf f l h) (cf' f l h)) (hR : ∀ i l h, le (R i l h) (R' i l h)) : (∀ (a0 : IV) (h : H), le (t37_0 cf R a0 h) (t37_0 cf' R' a0 h)) := by
  intros
  unfold t37_0
  with_reducible repeat' first
    | refine le_obind fun _ => ?_
    | refine le_callP ?_ (fun _ _ => ?_) (fun _ _ => ?_)
    | refine le_condK ?_ ?_
    | exact hR _ _ _
    | refine le_obind2 fun _ _ => ?_
    | refine le_obindH fun _ => ?_
    | refine le_spanK (fun _ _ _ => ?_) (fun _ _ => ?_)
    | exact hc _ _ _
    | refine le_bif ?_ ?_
    | refine le_guardK ?_ ?_ ?_
    | refine le_mapK fun _ _ => ?_
    | refine le_panK fun _ _ => ?_
    | refine le_funK fun _ _ => ?_
    | exact le_refl _
    | apply_assumption
noncomputable def b37 (cf : CallF) (R : Rec) : Rec := fun i l h =>
 br1 i 0 l (fun a0 => t37_0 cf R a0 h) <|
 .fail
theorem r37 {T : Tab} {cf : CallF} (hc : leC cf (CL T)) (n : Nat) : leR (recN (b37 cf) n) (J37 T) := recN_le (fun R hR i l h => by
  unfold b37
  refine le_br1 (J := fun i l => J37 T i l h) (fun _ a0 => le_e (fun hn => e37_0 rfl hn) ((m37 hc hR) a0 h)) ?_
  exact le_fail _) n
theorem m39 {cf cf' : CallF} {R R' : Rec} (hc : ∀ f l h, le (cf f l h) (cf' f l h)) (hR : ∀ i l h, le (R i l h) (R' i l h)) : (∀ (a0 : IV) (h : H), le (t39_0 cf R a0 h) (t39_0 cf' R' a0 h)) := by
  intros
  unfold t39_0
  with_reducible repeat' first
    | refine le_obind fun _ => ?_
    | refine le_callP ?_ (fun _ _ => ?_) (fun _ _ => ?_)
    | refine le_condK ?_ ?_
    | exact hR _ _ _
    | refine le_obind2 fun _ _ => ?_
    | refine le_obindH fun _ => ?_
    | refine le_spanK (fun _ _ _ => ?_) (fun _ _ => ?_)
    | exact hc _ _ _
    | refine le_bif ?_ ?_
    | refine le_guardK ?_ ?_ ?_
    | refine le_mapK fun _ _ => ?_
    | refine le_panK fun _ _ => ?_
    | refine le_funK fun _ _ => ?_
    | exact le_refl _
    | apply_assumption
noncomputable def b39 (cf : CallF) (R : Rec) : Rec := fun i l h =>
 br1 i 0 l (fun a0 => t39_0 cf R a0 h) <|
 .fail
theorem r39 {T : Tab} {cf : CallF} (hc : leC cf (CL T)) (n : Nat) : leR (recN (b39 cf) n) (J39 T) := recN_le (fun R hR i l h => by
  unfold b39
  refine le_br1 (J := fun i l => J39 T i l h) (fun _ a0 => le_e (fun hn => e39_0 rfl hn) ((m39 hc hR) a0 h)) ?_
  exact le_fail _) n
theorem m46 {cf cf' : CallF} {R R' : Rec} (hc : ∀ f l h, le (cf f l h) (cf' f l h)) (hR : ∀ i l h, le (R i l h) (R' i l h)) :
  (∀ (a0 a1 a2 a3 : IV) (h : H), le (t46_0 cf R a0 a1 a2 a3 h) (t46_0 cf' R' a0 a1 a2 a3 h)) ∧
  (∀ (a0 a1 a2 a3 : IV) (h : H), le (t46_1 cf R a0 a1 a2 a3 h) (t46_1 cf' R' a0 a1 a2 a3 h)) ∧
  (∀ (a0 a1 a2 a3 a9 a10 : IV) (h : H), le (t46_3 cf R a0 a1 a2 a3 a9 a10 h) (t46_3 cf' R' a0 a1 a2 a3 a9 a10 h)) ∧
  (∀ (a0 a9 a10 : IV) (h : H), le (t46_2 cf R a0 a9 a10 h) (t46_2 cf' R' a0 a9 a10 h)) := by
  refine ⟨?_, ?_, ?_, ?_⟩
  all_goals intros
  all_goals first | unfold t46_0 | unfold t46_1 | unfold t46_3 | unfold t46_2
  all_goals
  with_reducible repeat' first
    | refine le_obind fun _ => ?_
    | refine le_callP ?_ (fun _ _ => ?_) (fun _ _ => ?_)
    | refine le_condK ?_ ?_
    | exact hR _ _ _
    | refine le_obind2 fun _ _ => ?_
    | refine le_obindH fun _ => ?_
    | refine le_spanK (fun _ _ _ => ?_) (fun _ _ => ?_)
    | exact hc _ _ _
    | refine le_bif ?_ ?_
    | refine le_guardK ?_ ?_ ?_
    | refine le_mapK fun _ _ => ?_
    | refine le_panK fun _ _ => ?_
    | refine le_funK fun _ _ => ?_
    | exact le_refl _
    | apply_assumption
noncomputable def b46 (cf : CallF) (R : Rec) : Rec := fun i l h =>
 br4 i 0 l (fun a0 a1 a2 a3 => t46_0 cf R a0 a1 a2 a3 h) <|
 br4 i 1 l (fun a0 a1 a2 a3 => t46_1 cf R a0 a1 a2 a3 h) <|
 br6 i 3 l (fun a0 a1 a2 a3 a9 a10 => t46_3 cf R a0 a1 a2 a3 a9 a10 h) <|
 br3 i 2 l (fun a0 a9 a10 => t46_2 cf R a0 a9 a10 h) <|
 .fail
theorem r46 {T : Tab} {cf : CallF} (hc : leC cf (CL T)) (n : Nat) : leR (recN (b46 cf) n) (J46 T) := recN_le (fun R hR i l h => by
  unfold b46
  refine le_br4 (J := fun i l => J46 T i l h) (fun _ a0 a1 a2 a3 => le_e (fun hn => e46_0 rfl hn) ((m46 hc hR).1 a0 a1 a2 a3 h)) ?_
  refine le_br4 (J := fun i l => J46 T i l h) (fun _ a0 a1 a2 a3 => le_e (fun hn => e46_1 rfl hn) ((m46 hc hR).2.1 a0 a1 a2 a3 h)) ?_
  refine le_br6 (J := fun i l => J46 T i l h) (fun _ a0 a1 a2 a3 a9 a10 => le_e (fun hn => e46_3 rfl hn) ((m46 hc hR).2.2.1 a0 a1 a2 a3 a9 a10 h)) ?_
  refine le_br3 (J := fun i l => J46 T i l h) (fun _ a0 a9 a10 => le_e (fun hn => e46_2 rfl hn) ((m46 hc hR).2.2.2 a0 a9 a10 h)) ?_
  exact le_fail _) n
theorem m48 {cf cf' : CallF} {R R' : Rec} (hc : ∀ f l h, le (cf f l h) (cf' f l h)) (hR : ∀ i l h, le (R i l h) (R' i l h)) : (∀ (a0 : IV) (h : H), le (t48_0 cf R a0 h) (t48_0 cf' R' a0 h)) := by
  intros
  unfold t48_0
  with_reducible repeat' first
    | refine le_obind fun _ => ?_
    | refine le_callP ?_ (fun _ _ => ?_) (fun _ _ => ?_)
    | refine le_condK ?_ ?_
    | exact hR _ _ _
    | refine le_obind2 fun _ _ => ?_
    | refine le_obindH fun _ => ?_
    | refine le_spanK (fun _ _ _ => ?_) (fun _ _ => ?_)
    | exact hc _ _ _
    | refine le_bif ?_ ?_
    | refine le_guardK ?_ ?_ ?_
    | refine le_mapK fun _ _ => ?_
    | refine le_panK fun _ _ => ?_
    | refine le_funK fun _ _ => ?_
    | exact le_refl _
    | apply_assumption
noncomputable def b48 (cf : CallF) (R : Rec) : Rec := fun i l h =>
 br1 i 0 l (fun a0 => t48_0 cf R a0 h) <|
 .fail
theorem r48 {T : Tab} {cf : CallF} (hc : leC cf (CL T)) (n : Nat) : leR (recN (b48 cf) n) (J48 T) := recN_le (fun R hR i l h => by
  unfold b48
  refine le_br1 (J := fun i l => J48 T i l h) (fun _ a0 => le_e (fun hn => e48_0 rfl hn) ((m48 hc hR) a0 h)) ?_
  exact le_fail _) n
theorem m58 {cf cf' : CallF} {R R' : Rec} (hc : ∀ f l h, le (cf f l h) (cf' f l h)) (hR : ∀ i l h, le (R i l h) (R' i l h)) : (∀ (a0 a1 : IV) (h : H), le (t58_0 cf R a0 a1 h) (t58_0 cf' R' a0 a1 h)) := by
  intros
  unfold t58_0
  with_reducible repeat' first
    | refine le_obind fun _ => ?_
    | refine le_callP ?_ (fun _ _ => ?_) (fun _ _ => ?_)
    | refine le_condK ?_ ?_
    | exact hR _ _ _
    | refine le_obind2 fun _ _ => ?_
    | refine le_obindH fun _ => ?_
    | refine le_spanK (fun _ _ _ => ?_) (fun _ _ => ?_)
    | exact hc _ _ _
    | refine le_bif ?_ ?_
    | refine le_guardK ?_ ?_ ?_
    | refine le_mapK fun _ _ => ?_
    | refine le_panK fun _ _ => ?_
    | refine le_funK fun _ _ => ?_
    | exact le_refl _
    | apply_assumption
noncomputable def b58 (cf : CallF) (R : Rec) : Rec := fun i l h =>
 br2 i 0 l (fun a0 a1 => t58_0 cf R a0 a1 h) <|
 .fail
theorem r58 {T : Tab} {cf : CallF} (hc : leC cf (CL T)) (n : Nat) : leR (recN (b58 cf) n) (J58 T) := recN_le (fun R hR i l h => by
  unfold b58
  refine le_br2 (J := fun i l => J58 T i l h) (fun _ a0 a1 => le_e (fun hn => e58_0 rfl hn) ((m58 hc hR) a0 a1 h)) ?_
  exact le_fail _) n
theorem m60 {cf cf' : CallF} {R R' : Rec} (hc : ∀ f l h, le (cf f l h) (cf' f l h)) (hR : ∀ i l h, le (R i l h) (R' i l h)) :
  (∀ (a0 : IV) (h : H), le (t60_0 cf R a0 h) (t60_0 cf' R' a0 h)) ∧
  (∀ (a0 a5 : IV) (h : H), le (t60_1 cf R a0 a5 h) (t60_1 cf' R' a0 a5 h)) ∧
  (∀ (a5 a6 a47 a48 a49 : IV) (h : H), le (t60_2 cf R a5 a6 a47 a48 a49 h) (t60_2 cf' R' a5 a6 a47 a48 a49 h)) ∧
  (∀ (a6 : IV) (h : H), le (t60_3 cf R a6 h) (t60_3 cf' R' a6 h)) := by
  refine ⟨?_, ?_, ?_, ?_⟩
  all_goals intros
  all_goals first | unfold t60_0 | unfold t60_1 | unfold t60_2 | unfold t60_3
  all_goals
  with_reducible repeat' first
    | refine le_obind fun _ => ?_
    | refine le_callP ?_ (fun _ _ => ?_) (fun _ _ => ?_)
    | refine le_condK ?_ ?_
    | exact hR _ _ _
    | refine le_obind2 fun _ _ => ?_
    | refine le_obindH fun _ => ?_
    | refine le_spanK (fun _ _ _ => ?_) (fun _ _ => ?_)
    | exact hc _ _ _
    | refine le_bif ?_ ?_
    | refine le_guardK ?_ ?_ ?_
    | refine le_mapK fun _ _ => ?_
    | refine le_panK fun _ _ => ?_
    | refine le_funK fun _ _ => ?_
    | exact le_refl _
    | apply_assumption
noncomputable def b60 (cf : CallF) (R : Rec) : Rec := fun i l h =>
 br1 i 0 l (fun a0 => t60_0 cf R a0 h) <|
 br2 i 1 l (fun a0 a5 => t60_1 cf R a0 a5 h) <|
 br5 i 2 l (fun a5 a6 a47 a48 a49 => t60_2 cf R a5 a6 a47 a48 a49 h) <|
 br1 i 3 l (fun a6 => t60_3 cf R a6 h) <|
 .fail
theorem r60 {T : Tab} {cf : CallF} (hc : leC cf (CL T)) (n : Nat) : leR (recN (b60 cf) n) (J60 T) := recN_le (fun R hR i l h => by
  unfold b60
  refine le_br1 (J := fun i l => J60 T i l h) (fun _ a0 => le_e (fun hn => e60_0 rfl hn) ((m60 hc hR).1 a0 h)) ?_
  refine le_br2 (J := fun i l => J60 T i l h) (fun _ a0 a5 => le_e (fun hn => e60_1 rfl hn) ((m60 hc hR).2.1 a0 a5 h)) ?_
  refine le_br5 (J := fun i l => J60 T i l h) (fun _ a5 a6 a47 a48 a49 => le_e (fun hn => e60_2 rfl hn) ((m60 hc hR).2.2.1 a5 a6 a47 a48 a49 h)) ?_
  refine le_br1 (J := fun i l => J60 T i l h) (fun _ a6 => le_e (fun hn => e60_3 rfl hn) ((m60 hc hR).2.2.2 a6 h)) ?_
  exact le_fail _) n
def tabB (f : FuncId) : Bool := [15, 54, 57, 78, 104, 77, 36, 35, 16, 38, 47, 51, 41, 42, 43, 44].any fun x => Nat.beq f x
noncomputable def cfB (T : Tab) (cf : CallF) : CallF := fun f l h =>
 @Bool.rec (fun _ => CRes) (@Bool.rec (fun _ => CRes) (@Bool.rec (fun _ => CRes) (@Bool.rec (fun _ => CRes) (@Bool.rec (fun _ => CRes) (brQ1 f 6 l (fun a0 => QsP (recN (b6 cf) 1000000 0 [a0] ⟨h.next, h.objs, T.pol 6, h.tys⟩) h.pol) .fail) (brQ0 f 8 l (QsP (recN (b8 cf) 1000000 0 [] ⟨h.next, h.objs, T.pol 8, h.tys⟩) h.pol) .fail) (Nat.ble 8 f)) (@Bool.rec (fun _ => CRes) (brQ1 f 9 l (fun a0 => QsP (recN (b9 cf) 1000000 0 [a0] ⟨h.next, h.objs, T.pol 9, h.tys⟩) h.pol) .fail) (brQ3 f 11 l (fun a0 a1 a2 => QsP (recN (b11 cf) 1000000 0 [a0, a1, a2] ⟨h.next, h.objs, T.pol 11, h.tys⟩) h.pol) .fail) (Nat.ble 11 f)) (Nat.ble 9 f)) (@Bool.rec (fun _ => CRes) (@Bool.rec (fun _ => CRes) (brQ1 f 13 l (fun a0 => QsP (recN (b13 cf) 1000000 0 [a0] ⟨h.next, h.objs, T.pol 13, h.tys⟩) h.pol) .fail) (brQ2 f 14 l (fun a0 a1 => QsP (recN (b14 cf) 1000000 0 [a0, a1] ⟨h.next, h.objs, T.pol 14, h.tys⟩) h.pol) .fail) (Nat.ble 14 f)) (@Bool.rec (fun _ => CRes) (brQ1 f 15 l (fun a0 => ovK (T.ov 15) [a0] h (CRes.fail)) .fail) (@Bool.rec (fun _ => CRes) (brQ1 f 16 l (fun a0 => ovK (T.ov 16) [a0] h (CRes.fail)) .fail) (brQ2 f 17 l (fun a0 a1 => QsP (recN (b17 cf) 1000000 0 [a0, a1] ⟨h.next, h.objs, T.pol 17, h.tys⟩) h.pol) .fail) (Nat.ble 17 f)) (Nat.ble 16 f)) (Nat.ble 15 f)) (Nat.ble 13 f)) (@Bool.rec (fun _ => CRes) (@Bool.rec (fun _ => CRes) (@Bool.rec (fun _ => CRes) (brQ1 f 18 l (fun a0 => QsP (recN (b18 cf) 1000000 0 [a0] ⟨h.next, h.objs, T.pol 18, h.tys⟩) h.pol) .fail) (brQ1 f 19 l (fun a0 => QsP (recN (b19 cf) 1000000 0 [a0] ⟨h.next, h.objs, T.pol 19, h.tys⟩) h.pol) .fail) (Nat.ble 19 f)) (@Bool.rec (fun _ => CRes) (brQ1 f 22 l (fun a0 => QsP (recN (b22 cf) 1000000 0 [a0] ⟨h.next, h.objs, T.pol 22, h.tys⟩) h.pol) .fail) (@Bool.rec (fun _ => CRes) (brQ2 f 24 l (fun a0 a1 => QsP (recN (b24 cf) 1000000 0 [a0, a1] ⟨h.next, h.objs, T.pol 24, h.tys⟩) h.pol) .fail) (brQ1 f 25 l (fun a0 => QsP (recN (b25 cf) 1000000 0 [a0] ⟨h.next, h.objs, T.pol 25, h.tys⟩) h.pol) .fail) (Nat.ble 25 f)) (Nat.ble 24 f)) (Nat.ble 22 f)) (@Bool.rec (fun _ => CRes) (@Bool.rec (fun _ => CRes) (brQ2 f 26 l (fun a0 a1 => QsP (recN (b26 cf) 1000000 0 [a0, a1] ⟨h.next, h.objs, T.pol 26, h.tys⟩) h.pol) .fail) (brQ1 f 27 l (fun a0 => QsP (recN (b27 cf) 1000000 0 [a0] ⟨h.next, h.objs, T.pol 27, h.tys⟩) h.pol) .fail) (Nat.ble 27 f)) (@Bool.rec (fun _ => CRes) (brQ1 f 28 l (fun a0 => QsP (recN (b28 cf) 1000000 0 [a0] ⟨h.next, h.objs, T.pol 28, h.tys⟩) h.pol) .fail) (@Bool.rec (fun _ => CRes) (brQ1 f 29 l (fun a0 => QsP (recN (b29 cf) 1000000 0 [a0] ⟨h.next, h.objs, T.pol 29, h.tys⟩) h.pol) .fail) (brQ2 f 35 l (fun a0 a1 => ovK (T.ov 35) [a0, a1] h (CRes.fail)) .fail) (Nat.ble 35 f)) (Nat.ble 29 f)) (Nat.ble 28 f)) (Nat.ble 26 f)) (Nat.ble 18 f)) (@Bool.rec (fun _ => CRes) (@Bool.rec (fun _ => CRes) (@Bool.rec (fun _ => CRes) (@Bool.rec (fun _ => CRes) (brQ1 f 36 l (fun a0 => ovK (T.ov 36) [a0] h (CRes.fail)) .fail) (brQ1 f 37 l (fun a0 => QsP (recN (b37 cf) 1000000 0 [a0] ⟨h.next, h.objs, T.pol 37, h.tys⟩) h.pol) .fail) (Nat.ble 37 f)) (@Bool.rec (fun _ => CRes) (brQ2 f 38 l (fun a0 a1 => ovK (T.ov 38) [a0, a1] h (CRes.fail)) .fail) (brQ1 f 39 l (fun a0 => QsP (recN (b39 cf) 1000000 0 [a0] ⟨h.next, h.objs, T.pol 39, h.tys⟩) h.pol) .fail) (Nat.ble 39 f)) (Nat.ble 38 f)) (@Bool.rec (fun _ => CRes) (@Bool.rec (fun _ => CRes) (brQ1 f 41 l (fun a0 => ovK (T.ov 41) [a0] h (CRes.fail)) .fail) (brQ1 f 42 l (fun a0 => ovK (T.ov 42) [a0] h (CRes.fail)) .fail) (Nat.ble 42 f)) (@Bool.rec (fun _ => CRes) (brQ2 f 43 l (fun a0 a1 => ovK (T.ov 43) [a0, a1] h (CRes.fail)) .fail) (@Bool.rec (fun _ => CRes) (brQ1 f 44 l (fun a0 => ovK (T.ov 44) [a0] h (CRes.fail)) .fail) (brQ4 f 46 l (fun a0 a1 a2 a3 => QsP (recN (b46 cf) 1000000 0 [a0, a1, a2, a3] ⟨h.next, h.objs, T.pol 46, h.tys⟩) h.pol) .fail) (Nat.ble 46 f)) (Nat.ble 44 f)) (Nat.ble 43 f)) (Nat.ble 41 f)) (@Bool.rec (fun _ => CRes) (@Bool.rec (fun _ => CRes) (@Bool.rec (fun _ => CRes) (brQ2 f 47 l (fun a0 a1 => ovK (T.ov 47) [a0, a1] h (CRes.fail)) .fail) (brQ1 f 48 l (fun a0 => QsP (recN (b48 cf) 1000000 0 [a0] ⟨h.next, h.objs, T.pol 48, h.tys⟩) h.pol) .fail) (Nat.ble 48 f)) (@Bool.rec (fun _ => CRes) (brQ2 f 51 l (fun a0 a1 => ovK (T.ov 51) [a0, a1] h (CRes.fail)) .fail) (@Bool.rec (fun _ => CRes) (brQ1 f 54 l (fun a0 => ovK (T.ov 54) [a0] h (CRes.fail)) .fail) (brQ2 f 57 l (fun a0 a1 => ovK (T.ov 57) [a0, a1] h (CRes.fail)) .fail) (Nat.ble 57 f)) (Nat.ble 54 f)) (Nat.ble 51 f)) (@Bool.rec (fun _ => CRes) (@Bool.rec (fun _ => CRes) (brQ2 f 58 l (fun a0 a1 => QsP (recN (b58 cf) 1000000 0 [a0, a1] ⟨h.next, h.objs, T.pol 58, h.tys⟩) h.pol) .fail) (brQ1 f 60 l (fun a0 => QsP (recN (b60 cf) 1000000 0 [a0] ⟨h.next, h.objs, T.pol 60, h.tys⟩) h.pol) .fail) (Nat.ble 60 f)) (@Bool.rec (fun _ => CRes) (brQ2 f 77 l (fun a0 a1 => ovK (T.ov 77) [a0, a1] h (CRes.fail)) .fail) (@Bool.rec (fun _ => CRes) (brQ2 f 78 l (fun a0 a1 => ovK (T.ov 78) [a0, a1] h (CRes.fail)) .fail) (brQ2 f 104 l (fun a0 a1 => ovK (T.ov 104) [a0, a1] h (CRes.fail)) .fail) (Nat.ble 104 f)) (Nat.ble 78 f)) (Nat.ble 77 f)) (Nat.ble 58 f)) (Nat.ble 47 f)) (Nat.ble 36 f)
theorem cfB_le {T : Tab} (hN : ∀ f, tabB f = false → T.ov f = none) (cf : CallF) (hc : leC cf (CL T)) (f : FuncId) (l : List IV) (h : H) : le (cfB T cf f l h) (CL T f l h) := by
  unfold cfB
  simp only [QsP_eq, brQ0_eq, brQ1_eq, brQ2_eq, brQ3_eq, brQ4_eq]
  refine le_brec ?_ ?_
  · refine le_brec ?_ ?_
    · refine le_brec ?_ ?_
      · refine le_brec ?_ ?_
        · refine le_brec ?_ ?_
          · refine le_brec ?_ ?_
            · exact le_br2 (J := fun f l => CL T f l h) (fun e a0 a1 => le_ovK fun _ => le_fail _) (le_fail _)
            · exact le_br2 (J := fun f l => CL T f l h) (fun e a0 a1 => le_ovK fun _ => le_fail _) (le_fail _)
          · exact le_br2 (J := fun f l => CL T f l h) (fun e a0 a1 => le_ovK fun _ => le_fail _) (le_fail _)
        · refine le_brec ?_ ?_
          · exact le_br1 (J := fun f l => CL T f l h) (fun e a0 => call_le (hN 60 rfl) Tryz.func60 rfl rfl rfl (r60 hc _ 0 _ _)) (le_fail _)
          · exact le_br2 (J := fun f l => CL T f l h) (fun e a0 a1 => call_le (hN 58 rfl) Tryz.func58 rfl rfl rfl (r58 hc _ 0 _ _)) (le_fail _)
      · refine le_brec ?_ ?_
        · refine le_brec ?_ ?_
          · refine le_brec ?_ ?_
            · exact le_br2 (J := fun f l => CL T f l h) (fun e a0 a1 => le_ovK fun _ => le_fail _) (le_fail _)
            · exact le_br1 (J := fun f l => CL T f l h) (fun e a0 => le_ovK fun _ => le_fail _) (le_fail _)
          · exact le_br2 (J := fun f l => CL T f l h) (fun e a0 a1 => le_ovK fun _ => le_fail _) (le_fail _)
        · refine le_brec ?_ ?_
          · exact le_br1 (J := fun f l => CL T f l h) (fun e a0 => call_le (hN 48 rfl) Tryz.func48 rfl rfl rfl (r48 hc _ 0 _ _)) (le_fail _)
          · exact le_br2 (J := fun f l => CL T f l h) (fun e a0 a1 => le_ovK fun _ => le_fail _) (le_fail _)
    · refine le_brec ?_ ?_
      · refine le_brec ?_ ?_
        · refine le_brec ?_ ?_
          · refine le_brec ?_ ?_
            · exact le_br4 (J := fun f l => CL T f l h) (fun e a0 a1 a2 a3 => call_le (hN 46 rfl) Tryz.func46 rfl rfl rfl (r46 hc _ 0 _ _)) (le_fail _)
            · exact le_br1 (J := fun f l => CL T f l h) (fun e a0 => le_ovK fun _ => le_fail _) (le_fail _)
          · exact le_br2 (J := fun f l => CL T f l h) (fun e a0 a1 => le_ovK fun _ => le_fail _) (le_fail _)
        · refine le_brec ?_ ?_
          · exact le_br1 (J := fun f l => CL T f l h) (fun e a0 => le_ovK fun _ => le_fail _) (le_fail _)
          · exact le_br1 (J := fun f l => CL T f l h) (fun e a0 => le_ovK fun _ => le_fail _) (le_fail _)
      · refine le_brec ?_ ?_
        · refine le_brec ?_ ?_
          · exact le_br1 (J := fun f l => CL T f l h) (fun e a0 => call_le (hN 39 rfl) Tryz.func39 rfl rfl rfl (r39 hc _ 0 _ _)) (le_fail _)
          · exact le_br2 (J := fun f l => CL T f l h) (fun e a0 a1 => le_ovK fun _ => le_fail _) (le_fail _)
        · refine le_brec ?_ ?_
          · exact le_br1 (J := fun f l => CL T f l h) (fun e a0 => call_le (hN 37 rfl) Tryz.func37 rfl rfl rfl (r37 hc _ 0 _ _)) (le_fail _)
          · exact le_br1 (J := fun f l => CL T f l h) (fun e a0 => le_ovK fun _ => le_fail _) (le_fail _)
  · refine le_brec ?_ ?_
    · refine le_brec ?_ ?_
      · refine le_brec ?_ ?_
        · refine le_brec ?_ ?_
          · refine le_brec ?_ ?_
            · exact le_br2 (J := fun f l => CL T f l h) (fun e a0 a1 => le_ovK fun _ => le_fail _) (le_fail _)
            · exact le_br1 (J := fun f l => CL T f l h) (fun e a0 => call_le (hN 29 rfl) Tryz.func29 rfl rfl rfl (r29 hc _ 0 _ _)) (le_fail _)
          · exact le_br1 (J := fun f l => CL T f l h) (fun e a0 => call_le (hN 28 rfl) Tryz.func28 rfl rfl rfl (r28 hc _ 0 _ _)) (le_fail _)
        · refine le_brec ?_ ?_
          · exact le_br1 (J := fun f l => CL T f l h) (fun e a0 => call_le (hN 27 rfl) Tryz.func27 rfl rfl rfl (r27 hc _ 0 _ _)) (le_fail _)
          · exact le_br2 (J := fun f l => CL T f l h) (fun e a0 a1 => call_le (hN 26 rfl) Tryz.func26 rfl rfl rfl (r26 hc _ 0 _ _)) (le_fail _)
      · refine le_brec ?_ ?_
        · refine le_brec ?_ ?_
          · refine le_brec ?_ ?_
            · exact le_br1 (J := fun f l => CL T f l h) (fun e a0 => call_le (hN 25 rfl) Tryz.func25 rfl rfl rfl (r25 hc _ 0 _ _)) (le_fail _)
            · exact le_br2 (J := fun f l => CL T f l h) (fun e a0 a1 => call_le (hN 24 rfl) Tryz.func24 rfl rfl rfl (r24 hc _ 0 _ _)) (le_fail _)
          · exact le_br1 (J := fun f l => CL T f l h) (fun e a0 => call_le (hN 22 rfl) Tryz.func22 rfl rfl rfl (r22 hc _ 0 _ _)) (le_fail _)
        · refine le_brec ?_ ?_
          · exact le_br1 (J := fun f l => CL T f l h) (fun e a0 => call_le (hN 19 rfl) Tryz.func19 rfl rfl rfl (r19 hc _ 0 _ _)) (le_fail _)
          · exact le_br1 (J := fun f l => CL T f l h) (fun e a0 => call_le (hN 18 rfl) Tryz.func18 rfl rfl rfl (r18 hc _ 0 _ _)) (le_fail _)
    · refine le_brec ?_ ?_
      · refine le_brec ?_ ?_
        · refine le_brec ?_ ?_
          · refine le_brec ?_ ?_
            · exact le_br2 (J := fun f l => CL T f l h) (fun e a0 a1 => call_le (hN 17 rfl) Tryz.func17 rfl rfl rfl (r17 hc _ 0 _ _)) (le_fail _)
            · exact le_br1 (J := fun f l => CL T f l h) (fun e a0 => le_ovK fun _ => le_fail _) (le_fail _)
          · exact le_br1 (J := fun f l => CL T f l h) (fun e a0 => le_ovK fun _ => le_fail _) (le_fail _)
        · refine le_brec ?_ ?_
          · exact le_br2 (J := fun f l => CL T f l h) (fun e a0 a1 => call_le (hN 14 rfl) Tryz.func14 rfl rfl rfl (r14 hc _ 0 _ _)) (le_fail _)
          · exact le_br1 (J := fun f l => CL T f l h) (fun e a0 => call_le (hN 13 rfl) Tryz.func13 rfl rfl rfl (r13 hc _ 0 _ _)) (le_fail _)
      · refine le_brec ?_ ?_
        · refine le_brec ?_ ?_
          · exact le_br3 (J := fun f l => CL T f l h) (fun e a0 a1 a2 => call_le (hN 11 rfl) Tryz.func11 rfl rfl rfl (r11 hc _ 0 _ _)) (le_fail _)
          · exact le_br1 (J := fun f l => CL T f l h) (fun e a0 => call_le (hN 9 rfl) Tryz.func9 rfl rfl rfl (r9 hc _ 0 _ _)) (le_fail _)
        · refine le_brec ?_ ?_
          · exact le_br0 (J := fun f l => CL T f l h) (fun e => call_le (hN 8 rfl) Tryz.func8 rfl rfl rfl (r8 hc _ 0 _ _)) (le_fail _)
          · exact le_br1 (J := fun f l => CL T f l h) (fun e a0 => call_le (hN 6 rfl) Tryz.func6 rfl rfl rfl (r6 hc _ 0 _ _)) (le_fail _)
noncomputable def CN (T : Tab) (n : Nat) : CallF := @Nat.rec (fun _ => CallF) (fun _ _ _ => .fail) (fun _ cf => cfB T cf) n
theorem CN_le {T : Tab} (hN : ∀ f, tabB f = false → T.ov f = none) (n : Nat) : leC (CN T n) (CL T) := by
  induction n with
  | zero => exact fun _ _ _ => le_fail _
  | succ n ih => exact fun f l h => cfB_le hN _ ih f l h
theorem CN_val {T : Tab} (hN : ∀ f, tabB f = false → T.ov f = none) {n : Nat} {f : FuncId} {args : List IV} {h : H} {v : IV} (e : (CN T n f args h).val = some v) : ∃ h', CL T f args h = .ok v h' := run_val (CN_le hN n) e
end Go.Proofs.YtdccdfmbakbikaaGreatDoor
