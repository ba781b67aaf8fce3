/- M6: Law19: what is known of the world; the tables of the functions that contracts tell. Law19: what the rows' premises tell of the package variables. Law19: awake; codes. Law19: codes (VcdCodes). -/
import Derived.Test.YtdccdfmbakbikaaDoorM5
import Derived.Test.YtdccdfmbakbikaaDoorM4
import Derived.Test.YtdccdfmbakbikaaDoorM3
import Derived.Shelf.Strings.Search2
import Derived.Shelf.Strings.Split
import Derived.Shelf.Strconv.Itoa3
import Derived.Test.YtdccdfmbakbikaaDoorRows
import Derived.Lib.LaidU8
import Derived.LaidLaws
import Derived.MakeChecks
namespace Go.Proofs.YtdccdfmbakbikaaDoor
open Go I
open Go.RowKit (Below)
set_option maxRecDepth 100000
set_option linter.unusedVariables false
set_option linter.unusedSimpArgs false

abbrev gMax : Nat := lay219_ren.g 1
noncomputable abbrev gPow : Nat := (Tryd.prog.globalNamed "internal/strconv.uint64pow10").getD 0
structure EP (w : World) (S : Sc) : Prop where
  max : ∃ m, w.cell? ⟨gMax, 0, none⟩ = some (.int .i64 m)
  pow : Lib.TabIs Tryd.prog w "internal/strconv.uint64pow10" .u64 Lib.pow10Tab
  n1 : ¬ S.wr gMax
  n2 : ¬ S.wr gPow
theorem cell_lt {w : World} {k : Nat} {v : Value} (hc : w.cell? ⟨k, 0, none⟩ = some v) : k < w.heap.size := by
  rcases Nat.lt_or_ge k w.heap.size with h | h
  · exact h
  · simp only [World.cell?, Array.getElem?_eq_none h] at hc; cases hc
theorem cell_keep {w w' : World} {k : Nat} {v : Value} (hc : w.cell? ⟨k, 0, none⟩ = some v) (h : k < w.heap.size → w'.heap[k]? = w.heap[k]?) : w'.cell? ⟨k, 0, none⟩ = some v := by
  rw [← hc]
  simp only [World.cell?, h (cell_lt hc)]
theorem named_pow : Tryd.prog.globalNamed "internal/strconv.uint64pow10" = some gPow := by kernel_rfl
theorem tab_lt {w : World} (h : Lib.TabIs Tryd.prog w "internal/strconv.uint64pow10" .u64 Lib.pow10Tab) : gPow < w.heap.size := by
  unfold Lib.TabIs World.var? at h
  rw [named_pow] at h
  simp only [Option.bind_some] at h
  rcases Nat.lt_or_ge gPow w.heap.size with h' | h'
  · exact h'
  · rw [Array.getElem?_eq_none h'] at h; cases h
theorem tab_keep {w w' : World} (h : Lib.TabIs Tryd.prog w "internal/strconv.uint64pow10" .u64 Lib.pow10Tab) (hk : w'.heap[gPow]? = w.heap[gPow]?) : Lib.TabIs Tryd.prog w' "internal/strconv.uint64pow10" .u64 Lib.pow10Tab := by
  unfold Lib.TabIs World.var? at h ⊢
  rw [named_pow] at h ⊢
  simp only [Option.bind_some] at h ⊢
  rw [hk]; exact h
theorem envK : EnvK EP := by
  rintro w₀ S w₁ S₁ k ⟨⟨m, h1⟩, h2, n1, n2⟩
  exact ⟨⟨m, cell_keep h1 fun hk => (k.keep _ hk n1).2⟩, tab_keep h2 (k.keep _ (tab_lt h2) n2).2, (k.keep _ (cell_lt h1) n1).1, (k.keep _ (tab_lt h2) n2).1⟩

/-! ### stringslite.Index, strings.Count -/
def idxF (a b : Bs) : Option IV := if a.length < 4294967281 then some (.int .i64 (Lib.index a b)) else none
theorem idx_S (w₀ : World) (S : Sc) (es : EP w₀ S) (args : List IV) (h : H) (μ : Mu) (w : World) (cargs : Array Value) (r : Rel w₀ S μ h w) (hv : VRs μ args cargs.toList) : CallR Tryd.prog w₀ S μ 70 cargs w (pureF (fn2 dS dS idxF) args h) := by
  refine pureF_C noNum Tryd.func70 rfl (fun args v e => ?_) (fun args v w cargs e k hv => ?_) args h μ w cargs r hv
  · obtain ⟨l, n, rfl, e2⟩ := fn2_inv e
    unfold idxF at e2
    split at e2
    · injection e2 with e2; subst e2; exact ⟨rfl, rfl⟩
    · cases e2
  · obtain ⟨l, n, rfl, e2⟩ := fn2_inv e
    unfold idxF at e2
    split at e2
    · rename_i hc
      injection e2 with e2; subst e2
      obtain ⟨v1, vs, e1, q1, v2, vs2, rfl, q2, q3⟩ := hv
      simp only [VRs] at q3; subst q3
      obtain ⟨b, rfl, rfl⟩ := VR_sv q1
      obtain ⟨c, rfl, rfl⟩ := VR_sv q2
      obtain rfl : cargs = #[.string b, .string c] := Array.toList_inj.1 e1
      have hb : b.data.toList.length = b.size := by rw [Array.length_toList]; rfl
      obtain ⟨m, hm⟩ := (envK _ _ _ _ k es).max
      refine (Any.stringslite_Index { lay219 with } b c m w (by omega) hm).mono ?_
      rintro e w' ⟨rfl, rfl⟩
      exact ⟨_, rfl, rfl, Below.refl _ _⟩
    · cases e2
def cntF (a b : Bs) : Option IV := if a.length < 4294967281 ∧ b ≠ [] then some (.int .i64 (Lib.count a b : Nat)) else none
theorem cnt_S (w₀ : World) (S : Sc) (es : EP w₀ S) (args : List IV) (h : H) (μ : Mu) (w : World) (cargs : Array Value) (r : Rel w₀ S μ h w) (hv : VRs μ args cargs.toList) : CallR Tryd.prog w₀ S μ 49 cargs w (pureF (fn2 dS dS cntF) args h) := by
  refine pureF_C noNum Tryd.func49 rfl (fun args v e => ?_) (fun args v w cargs e k hv => ?_) args h μ w cargs r hv
  · obtain ⟨l, n, rfl, e2⟩ := fn2_inv e
    unfold cntF at e2
    split at e2
    · injection e2 with e2; subst e2; exact ⟨rfl, rfl⟩
    · cases e2
  · obtain ⟨l, n, rfl, e2⟩ := fn2_inv e
    unfold cntF at e2
    split at e2
    · rename_i hc
      injection e2 with e2; subst e2
      obtain ⟨v1, vs, e1, q1, v2, vs2, rfl, q2, q3⟩ := hv
      simp only [VRs] at q3; subst q3
      obtain ⟨b, rfl, rfl⟩ := VR_sv q1
      obtain ⟨c, rfl, rfl⟩ := VR_sv q2
      obtain rfl : cargs = #[.string b, .string c] := Array.toList_inj.1 e1
      have hb : b.data.toList.length = b.size := by rw [Array.length_toList]; rfl
      have hb2 : c.data.toList.length = c.size := by rw [Array.length_toList]; rfl
      have hc2 : c.data.toList.length ≠ 0 := fun h => hc.2 (List.eq_nil_of_length_eq_zero h)
      obtain ⟨m, hm⟩ := (envK _ _ _ _ k es).max
      refine Calls.mono (f := 49) (Any.strings_Count_any lay138 b c m w (by omega) hm (by omega)) ?_
      rintro e w' ⟨rfl, rfl⟩
      exact ⟨_, rfl, rfl, Below.refl _ _⟩
    · cases e2

/-! ### strconv.Itoa -/
def digU : Nat → Nat → Bs
  | 0, _ => []
  | f + 1, u => if u < 10 then [UInt8.ofNat (48 + u)] else digU f (u / 10) ++ [UInt8.ofNat (48 + u % 10)]
theorem digU_eq : ∀ (f u : Nat), u < 10 ^ f → 0 < f → digU f u = Lib.decDigits u
  | 0, u, h, h0 => by omega
  | f + 1, u, h, _ => by
    rw [Lib.decDigits]
    simp only [digU]
    by_cases hu : u < 10
    · rw [if_pos hu, dif_pos hu]
    · rw [if_neg hu, dif_neg hu]
      have h2 : u / 10 < 10 ^ f := by rw [Nat.pow_succ] at h; omega
      have h3 : 0 < f := by
        rcases Nat.eq_zero_or_pos f with rfl | h
        · simp at h; omega
        · exact h
      rw [digU_eq f _ h2 h3]
def itoaF (n : Int) : Bs := if n < 0 then 45 :: digU 20 n.natAbs else digU 20 n.toNat
def itoaV (n : Int) : Option IV := if -9223372036854775808 ≤ n ∧ n ≤ 9223372036854775807 then some (sv (itoaF n)) else none
theorem itoaF_eq {n : Int} (h : -9223372036854775808 ≤ n ∧ n ≤ 9223372036854775807) : itoaF n = Lib.itoa n := by
  have e : (10 : Nat) ^ 20 = 100000000000000000000 := by decide
  unfold itoaF Lib.itoa
  split
  · rw [digU_eq _ _ (by rw [e]; omega) (by decide)]
  · rw [digU_eq _ _ (by rw [e]; omega) (by decide)]
theorem below_grow (w : World) (k : Nat) (os : Array Go.Obj) : Below w.heap.size w (Sort.grow (w.drewN k) os) :=
  ⟨rfl, rfl, rfl, by simp [Sort.grow, World.drewN], fun j hj => by simp only [Sort.grow, World.drewN]; rw [Array.getElem?_append_left hj]⟩
theorem itoa_S (w₀ : World) (S : Sc) (es : EP w₀ S) (args : List IV) (h : H) (μ : Mu) (w : World) (cargs : Array Value) (r : Rel w₀ S μ h w) (hv : VRs μ args cargs.toList) : CallR Tryd.prog w₀ S μ 17 cargs w (pureF (fn1 dI itoaV) args h) := by
  refine pureF_C noNum Tryd.func17 rfl (fun args v e => ?_) (fun args v w cargs e k hv => ?_) args h μ w cargs r hv
  · obtain ⟨n, rfl, e2⟩ := fn1_inv e
    unfold itoaV at e2
    split at e2
    · injection e2 with e2; subst e2; exact ⟨rfl, rfl⟩
    · cases e2
  · obtain ⟨n, rfl, e2⟩ := fn1_inv e
    unfold itoaV at e2
    split at e2
    · rename_i hc
      injection e2 with e2; subst e2
      obtain ⟨v1, vs, e1, q1, q3⟩ := hv
      simp only [VRs] at q3; subst q3
      have q1 : v1 = .int .i64 n := q1
      subst q1
      obtain rfl : cargs = #[.int .i64 n] := Array.toList_inj.1 e1
      refine Calls.mono (f := 17) (Any.strconv_Itoa lay171 n hc.1 hc.2 w (envK _ _ _ _ k es).pow) ?_
      rintro e w' ⟨rfl, k, os, rfl⟩
      refine ⟨_, rfl, ?_, below_grow _ _ _⟩
      rw [itoaF_eq hc]
      exact VR_str _
    · cases e2

/-! ### the first tables -/
def pol (f : FuncId) : Bool := !(Nat.beq f 10 || Nat.beq f 15 || Nat.beq f 35)
noncomputable def tab0 : Tab := (((((Tab.none pol).add 96 indexByteI).add 46 noEscapeI).add 49 (pureF (fn2 dS dS cntF))).add 70 (pureF (fn2 dS dS idxF))).add 17 (pureF (fn1 dI itoaV))
theorem good0 : GoodT Tryd.prog EP tab0 :=
  (((((GoodT.none pol).put (fun w₀ S _ args h μ w cargs r hv => indexByte_S Tryd.func96 (by kernel_rfl) (by kernel_rfl) (by kernel_rfl) (by kernel_rfl) args h μ w cargs r hv) indexByteI_step).put
    (fun w₀ S _ args h μ w cargs r hv => noEscape_S Tryd.func46 (by kernel_rfl) (by kernel_rfl) (by kernel_rfl) (by kernel_rfl) args h μ w cargs r hv) noEscapeI_step).put
    cnt_S (pureF_step _)).put idx_S (pureF_step _)).put itoa_S (pureF_step _)

end Go.Proofs.YtdccdfmbakbikaaDoor

namespace Go.Proofs.YtdccdfmbakbikaaDoor
open Go
set_option maxRecDepth 100000

noncomputable abbrev tPow : Nat := ((Tryd.prog.globals[gPow]?).map (·.type)).getD 0
theorem tab_of {W : World} (h : Lib.VarReads Tryd.prog W "internal/strconv.uint64pow10" Rows.laid_internal_strconv_uint64pow10) : Lib.TabIs Tryd.prog W "internal/strconv.uint64pow10" .u64 Lib.pow10Tab := by
  obtain ⟨g', t, cs, fuel, p, e1, e2, e3, e4⟩ := h
  rw [named_pow] at e1
  injection e1 with e1
  subst e1
  rw [show (Tryd.prog.globals[gPow]?).map (·.type) = some tPow by kernel_rfl] at e2
  injection e2 with e2
  subst e2
  have ed : (Rows.laid_internal_strconv_uint64pow10 : DataW Unit) = Lib.tabData .u64 Lib.pow10Tab := by kernel_rfl
  rw [ed] at e4
  unfold Lib.TabIs
  rw [e3, ← Lib.cells_of_tab (P := Tryd.prog) (t := tPow) (e := lay171_ren.t 53) (n := 20) (by kernel_rfl) (by kernel_rfl) (by kernel_rfl) (by kernel_rfl) e4]
theorem ep_of {laid : List (String × DataW Unit)} (h1 : ("internal/strconv.uint64pow10", Rows.laid_internal_strconv_uint64pow10) ∈ laid) (h2 : ("strconv.ErrRange", Rows.laid_strconv_ErrRange) ∈ laid) (hp : (laid.all fun x => x.2.handleName?.isNone) = true)
    {W : World} (hs : W.ShapedOpen Tryd.prog) (hl : laidMetH Tryd.prog laid W) {S : I.Sc} (hS : ∀ k, ¬ S.wr k) : EP W S := by
  rw [MakeChecks.laidMetH_plain _ _ _ hp] at hl
  exact ⟨lay219.s1_3 W hs, tab_of (Lib.laidMet.reads hl h1), hS _, hS _⟩

end Go.Proofs.YtdccdfmbakbikaaDoor

namespace Go.Proofs.YtdccdfmbakbikaaDoor
open Go I
set_option maxRecDepth 1000000
set_option linter.unusedVariables false
set_option linter.unusedSimpArgs false

theorem hN0 : ∀ f, tabB f = false → tab0.ov f = none := by
  intro f h
  simp only [tabB, List.any_cons, List.any_nil, Bool.or_false, Bool.or_eq_false_iff] at h
  simp only [tab0, Tab.add, Tab.none, h, cond_false]
theorem awake_run : (CN tab0 12 12 [] H0).val = some (.bool true) := by kernel_rfl
theorem awake0 : ∃ h', CL tab0 12 [] H0 = .ok (.bool true) h' := CN_val hN0 awake_run
theorem tAwake : PureT Tryd.prog (CL tab0) 12 (fn0 (.bool true)) := pure0 Tryd.func12 rfl rfl awake0

/-! ### codes -/
def chr (n : Nat) : UInt8 := UInt8.ofNat (33 + n)
theorem chr_nat (n : Nat) (h : n < 94) : (chr n).toNat = 33 + n := by
  exact UInt8.toNat_ofNat_of_lt' (by show 33 + n < 256; omega)
def codeF (n : Nat) : Bs := if n < 94 then [chr n] else [chr (n % 94), chr (n / 94 - 1)]
theorem rem94 (k : Nat) (hk : k < 9223372036854775808) : binN .rem (.int .i64 (k : Nat)) (.int .i64 94) = some (.int .i64 ((k % 94 : Nat) : Int)) := by rw [binN_rem _ _ _ (by omega)]; congr 2
theorem quo94 (k : Nat) (hk : k < 9223372036854775808) : binN .quo (.int .i64 (k : Nat)) (.int .i64 94) = some (.int .i64 ((k / 94 : Nat) : Int)) := by
  rw [binN_quo _ _ _ (by omega)]
  have : Int.tdiv ((k : Nat) : Int) 94 = ((k / 94 : Nat) : Int) := rfl
  rw [this, wr_i64 (by omega) (by omega)]
theorem wr33 (n : Nat) (h : n < 94) : wr .i64 (33 + ((n : Nat) : Int)) = ((33 + n : Nat) : Int) := by rw [wr_i64 (by omega) (by omega)]; omega
theorem cv33 (n : Nat) (h : n < 94) : wr .u8 ((33 + n : Nat) : Int) = (((chr n).toNat : Nat) : Int) := by rw [chr_nat n h, wr_u8 (by omega) (by omega)]
theorem quo_sub (n : Nat) (h : n < 9223372036854775808) : wr .i64 (((n / 94 : Nat) : Int) - 1) = ((n / 94 : Nat) : Int) - 1 := wr_i64 (by omega) (by omega)
theorem code_step {T : Tab} {h : H} (g : Gd h) (n : Nat) (hn : n < 9223372036854775808) {l : Bs} {s : IV} (gl : GL h 1 (bys l) s) (hl : l.length ≤ 1000) :
    ∃ s' h', Gd h' ∧ GL h' 1 (bys (l ++ [chr (n % 94)])) s' ∧ ∀ r, r ≠ .fail → J18 T 1 [.int .i64 (((n / 94 : Nat) : Int) - 1), s'] h' = r → J18 T 1 [.int .i64 (n : Nat), s] h = r := by
  obtain ⟨h1, e1, k1, c1⟩ := lit_bys g [chr (n % 94)]
  obtain ⟨s', h2, e2, x2, gl2⟩ := appB_row k1.gd (e := 5) (gl.ky g.wf k1) c1 (List.cons_ne_nil _ _) (by simp; omega)
  refine ⟨s', h2, x2.gd, gl2, fun r hr e => e18_1 ?_ hr⟩
  have hge : (0 : Int) ≤ ((n : Nat) : Int) := by omega
  have hm : n % 94 < 94 := Nat.mod_lt _ (by decide)
  have e1' : bslK true 1 [.int .u8 0] 1 [(0, .int .u8 ((chr (n % 94)).toNat : Nat))] h = some (.slice h.next 0 1 1, h1) := e1
  simp only [t18_1, W, spanK_u, decide_eq_true_eq, Bool.not_eq_true', decide_eq_false_iff_not, Bool.false_eq_true, Bool.not_true, Bool.not_false, decide_true, decide_false, not_true_eq_false, not_false_eq_true, and_true, true_and, and_false, false_and, ne_eq, Nat.zero_add, Nat.add_zero, cond_true, cond_false, ↓reduceIte, reduceCtorEq, Nat.reduceAdd, Int.reduceEq, Int.reduceNe, Int.reduceLT, Int.reduceLE, Int.reduceAdd, Int.reduceSub, Int.reduceMul, Int.reduceNeg, Nat.reduceMul, List.getElem?_cons_zero, List.getElem?_cons_succ, hge, rem94 n hn, wr33 _ hm, cv33 _ hm, e1', quo94 n hn, quo_sub n hn]
  have e2' : appB 5 1 1 h1 s (.slice h.next 0 1 1) = some (s', h2) := e2
  simp only [e2', obind2]
  exact e
theorem code_end {T : Tab} {h : H} {l : Bs} {s : IV} (gl : GL h 1 (bys l) s) : J18 T 1 [.int .i64 (-1), s] h = .ok (sv l) h := by
  refine e18_1 ?_ (by simp)
  have hge : ¬ (0 : Int) ≤ -1 := by omega
  simp only [t18_1, W, spanK_u, decide_eq_true_eq, Bool.not_eq_true', decide_eq_false_iff_not, Bool.false_eq_true, Bool.not_true, Bool.not_false, decide_true, decide_false, not_true_eq_false, not_false_eq_true, and_true, true_and, and_false, false_and, ne_eq, Nat.zero_add, Nat.add_zero, cond_true, cond_false, ↓reduceIte, reduceCtorEq, Nat.reduceAdd, Int.reduceEq, Int.reduceNe, Int.reduceLT, Int.reduceLE, Int.reduceAdd, Int.reduceSub, Int.reduceMul, Int.reduceNeg, Nat.reduceMul, List.getElem?_cons_zero, List.getElem?_cons_succ, hge, gl.text]
theorem code_end' {T : Tab} {h : H} {n : Nat} (hn : n = 0) {l : Bs} {s : IV} (gl : GL h 1 (bys l) s) : J18 T 1 [.int .i64 (((n : Nat) : Int) - 1), s] h = .ok (sv l) h := by
  subst hn
  exact code_end gl
theorem code18 (n : Nat) (hn : n < 8836) : ∃ h', CL tab0 18 [.int .i64 (n : Nat)] H0 = .ok (sv (codeF n)) h' := by
  obtain ⟨s1, h1, g1, gl1, r1⟩ := code_step (T := tab0) gd0 n (by omega) (l := []) (s := .nilSlice) (.inl ⟨rfl, rfl⟩) (by simp)
  rw [List.nil_append] at gl1
  unfold codeF
  by_cases h94 : n < 94
  · rw [if_pos h94]
    rw [Nat.mod_eq_of_lt h94] at gl1
    refine ⟨h1, c18 good0.step rfl rfl gd0 ?_ (by simp)⟩
    simp only [t18_0]
    exact r1 _ (by simp) (code_end' (by omega) gl1)
  · rw [if_neg h94]
    obtain ⟨s2, h2, g2, gl2, r2⟩ := code_step (T := tab0) g1 (n / 94 - 1) (by omega) gl1 (by simp)
    refine ⟨h2, c18 good0.step rfl rfl gd0 ?_ (by simp)⟩
    simp only [t18_0]
    refine r1 _ (by simp) ?_
    rw [show ((n / 94 : Nat) : Int) - 1 = ((n / 94 - 1 : Nat) : Int) by omega]
    have hm : (n / 94 - 1) % 94 = n / 94 - 1 := Nat.mod_eq_of_lt (by omega)
    rw [hm] at gl2
    exact r2 _ (by simp) (code_end' (by omega) gl2)

end Go.Proofs.YtdccdfmbakbikaaDoor

namespace Go.Proofs.YtdccdfmbakbikaaDoor
open Go I
set_option maxRecDepth 100000
set_option linter.unusedVariables false
set_option linter.unusedSimpArgs false

theorem rcode_step {T : Tab} {h : H} (g : Gd h) (n : Nat) (hn : n < 9223372036854775808) {l : Bs} {s : IV} (gl : GL h 1 (bys l) s) (hl : l.length ≤ 1000) :
    ∃ s' h', Gd h' ∧ GL h' 1 (bys (l ++ [chr (n % 94)])) s' ∧ ∀ r, r ≠ .fail → J14 T 1 [.int .i64 (((n / 94 : Nat) : Int) - 1), s'] h' = r → J14 T 1 [.int .i64 (n : Nat), s] h = r := by
  obtain ⟨h1, e1, k1, c1⟩ := lit_bys g [chr (n % 94)]
  obtain ⟨s', h2, e2, x2, gl2⟩ := appB_row k1.gd (e := 5) (gl.ky g.wf k1) c1 (List.cons_ne_nil _ _) (by simp; omega)
  refine ⟨s', h2, x2.gd, gl2, fun r hr e => e14_1 ?_ hr⟩
  have hge : (0 : Int) ≤ ((n : Nat) : Int) := by omega
  have hm : n % 94 < 94 := Nat.mod_lt _ (by decide)
  have e1' : bslK true 1 [.int .u8 0] 1 [(0, .int .u8 ((chr (n % 94)).toNat : Nat))] h = some (.slice h.next 0 1 1, h1) := e1
  simp only [t14_1, W, spanK_u, decide_eq_true_eq, Bool.not_eq_true', decide_eq_false_iff_not, Bool.false_eq_true, Bool.not_true, Bool.not_false, decide_true, decide_false, not_true_eq_false, not_false_eq_true, and_true, true_and, and_false, false_and, ne_eq, Nat.zero_add, Nat.add_zero, cond_true, cond_false, ↓reduceIte, reduceCtorEq, Nat.reduceAdd, Int.reduceEq, Int.reduceNe, Int.reduceLT, Int.reduceLE, Int.reduceAdd, Int.reduceSub, Int.reduceMul, Int.reduceNeg, Nat.reduceMul, List.getElem?_cons_zero, List.getElem?_cons_succ, hge, rem94 n hn, wr33 _ hm, cv33 _ hm, e1', quo94 n hn, quo_sub n hn]
  have e2' : appB 5 1 1 h1 s (.slice h.next 0 1 1) = some (s', h2) := e2
  simp only [e2', obind2]
  exact e
theorem rcode_end {T : Tab} {h : H} {l : Bs} {s : IV} (gl : GL h 1 (bys l) s) : J14 T 1 [.int .i64 (-1), s] h = .ok (sv l) h := by
  refine e14_1 ?_ (by simp)
  have hge : ¬ (0 : Int) ≤ -1 := by omega
  simp only [t14_1, W, spanK_u, decide_eq_true_eq, Bool.not_eq_true', decide_eq_false_iff_not, Bool.false_eq_true, Bool.not_true, Bool.not_false, decide_true, decide_false, not_true_eq_false, not_false_eq_true, and_true, true_and, and_false, false_and, ne_eq, Nat.zero_add, Nat.add_zero, cond_true, cond_false, ↓reduceIte, reduceCtorEq, Nat.reduceAdd, Int.reduceEq, Int.reduceNe, Int.reduceLT, Int.reduceLE, Int.reduceAdd, Int.reduceSub, Int.reduceMul, Int.reduceNeg, Nat.reduceMul, List.getElem?_cons_zero, List.getElem?_cons_succ, hge, gl.text]
theorem rcode_end' {T : Tab} {h : H} {n : Nat} (hn : n = 0) {l : Bs} {s : IV} (gl : GL h 1 (bys l) s) : J14 T 1 [.int .i64 (((n : Nat) : Int) - 1), s] h = .ok (sv l) h := by
  subst hn
  exact rcode_end gl
theorem code14 (n : Nat) (hn : n < 8836) : ∃ h', CL tab0 14 [.int .i64 (n : Nat)] H0 = .ok (sv (codeF n)) h' := by
  obtain ⟨s1, h1, g1, gl1, r1⟩ := rcode_step (T := tab0) gd0 n (by omega) (l := []) (s := .nilSlice) (.inl ⟨rfl, rfl⟩) (by simp)
  rw [List.nil_append] at gl1
  unfold codeF
  by_cases h94 : n < 94
  · rw [if_pos h94]
    rw [Nat.mod_eq_of_lt h94] at gl1
    refine ⟨h1, c14 good0.step rfl rfl gd0 ?_ (by simp)⟩
    simp only [t14_0]
    exact r1 _ (by simp) (rcode_end' (by omega) gl1)
  · rw [if_neg h94]
    obtain ⟨s2, h2, g2, gl2, r2⟩ := rcode_step (T := tab0) g1 (n / 94 - 1) (by omega) gl1 (by simp)
    refine ⟨h2, c14 good0.step rfl rfl gd0 ?_ (by simp)⟩
    simp only [t14_0]
    refine r1 _ (by simp) ?_
    rw [show ((n / 94 : Nat) : Int) - 1 = ((n / 94 - 1 : Nat) : Int) by omega]
    have hm : (n / 94 - 1) % 94 = n / 94 - 1 := Nat.mod_eq_of_lt (by omega)
    rw [hm] at gl2
    exact r2 _ (by simp) (rcode_end' (by omega) gl2)


theorem mixed : Tryd.prog.follows .mixedOrders = true := Tryd.checked.mixed
def codeV (n : Int) : Option IV := if 0 ≤ n ∧ n < 8836 then some (sv (codeF n.toNat)) else none
theorem tCode : PureT Tryd.prog (CL tab0) 18 (fn1 dI codeV) := pure1 Tryd.func18 rfl fun n v e => by
  unfold codeV at e
  split at e
  · rename_i hc
    injection e with e; subst e
    obtain ⟨k, rfl⟩ := Int.eq_ofNat_of_zero_le hc.1
    exact ⟨rfl, code18 k (by omega)⟩
  · cases e
theorem tRCode : PureT Tryd.prog (CL tab0) 14 (fn1 dI codeV) := pure1 Tryd.func14 rfl fun n v e => by
  unfold codeV at e
  split at e
  · rename_i hc
    injection e with e; subst e
    obtain ⟨k, rfl⟩ := Int.eq_ofNat_of_zero_le hc.1
    exact ⟨rfl, code14 k (by omega)⟩
  · cases e
noncomputable def tab1 : Tab := ((tab0.add 18 (pureF (fn1 dI codeV))).add 14 (pureF (fn1 dI codeV))).add 12 (pureF (fn0 (.bool true)))
theorem good1 : GoodT Tryd.prog EP tab1 := good0.also envK mixed noNum (good0.also envK mixed noNum (good0.also envK mixed noNum good0 tCode) tRCode) tAwake
theorem codeF_inj {n m : Nat} (hn : n < 8836) (hm : m < 8836) : (codeF n = codeF m) = (n = m) := by
  apply propext
  refine ⟨fun h => ?_, fun h => by rw [h]⟩
  have key : ∀ a b, a < 94 → b < 94 → chr a = chr b → a = b := by
    intro a b ha hb h
    have := congrArg UInt8.toNat h
    rw [chr_nat a ha, chr_nat b hb] at this
    omega
  unfold codeF at h
  by_cases h1 : n < 94
  · by_cases h2 : m < 94
    · rw [if_pos h1, if_pos h2] at h
      injection h with h
      exact key _ _ h1 h2 h
    · rw [if_pos h1, if_neg h2] at h
      injection h with h h'
      cases h'
  · by_cases h2 : m < 94
    · rw [if_neg h1, if_pos h2] at h
      injection h with h h'
      cases h'
    · rw [if_neg h1, if_neg h2] at h
      injection h with h h'
      injection h' with h' _
      have e1 := key _ _ (Nat.mod_lt _ (by decide)) (Nat.mod_lt _ (by decide)) h
      have e2 := key _ _ (by omega) (by omega) h'
      omega
def codeT (n : Int) : IV := if 0 ≤ n ∧ n < 4096 then .tup [sv (codeF n.toNat), .int .i64 0] else .tup [sv [], .int .i64 1]
theorem call13 {h : H} (g : Gd h) (n : Int) : CL tab1 13 [.int .i64 n] h = .ok (codeT n) h := by
  refine c13 good1.step rfl rfl g ?_ (by unfold codeT; split <;> simp)
  have s0 : IV.str ⟨0, 0⟩ = sv [] := rfl
  unfold codeT
  by_cases h0 : 0 ≤ n
  · have n0 : ¬ n < 0 := by omega
    by_cases h1 : n < 4096
    · have n1 : ¬ 4096 ≤ n := by omega
      have ec : CL tab1 18 [.int .i64 n] h = .ok (sv (codeF n.toNat)) h := call1 (A := dI) (a := n) rfl (by unfold codeV; rw [if_pos ⟨h0, by omega⟩]) h
      rw [if_pos ⟨h0, h1⟩]
      simp only [t13_0, W, spanK_u, decide_eq_true_eq, Bool.not_eq_true', decide_eq_false_iff_not, Bool.false_eq_true, Bool.not_true, Bool.not_false, decide_true, decide_false, not_true_eq_false, not_false_eq_true, and_true, true_and, and_false, false_and, ne_eq, Nat.zero_add, Nat.add_zero, cond_true, cond_false, ↓reduceIte, reduceCtorEq, Nat.reduceAdd, Int.reduceEq, Int.reduceNe, Int.reduceLT, Int.reduceLE, Int.reduceAdd, Int.reduceSub, Int.reduceMul, Int.reduceNeg, Nat.reduceMul, List.getElem?_cons_zero, List.getElem?_cons_succ, n0, n1, ec]
    · have n1 : 4096 ≤ n := by omega
      rw [if_neg (by omega)]
      simp only [t13_0, W, spanK_u, decide_eq_true_eq, Bool.not_eq_true', decide_eq_false_iff_not, Bool.false_eq_true, Bool.not_true, Bool.not_false, decide_true, decide_false, not_true_eq_false, not_false_eq_true, and_true, true_and, and_false, false_and, ne_eq, Nat.zero_add, Nat.add_zero, cond_true, cond_false, ↓reduceIte, reduceCtorEq, Nat.reduceAdd, Int.reduceEq, Int.reduceNe, Int.reduceLT, Int.reduceLE, Int.reduceAdd, Int.reduceSub, Int.reduceMul, Int.reduceNeg, Nat.reduceMul, List.getElem?_cons_zero, List.getElem?_cons_succ, n0, n1, s0]
  · have n0 : n < 0 := by omega
    rw [if_neg (by omega)]
    simp only [t13_0, W, spanK_u, decide_eq_true_eq, Bool.not_eq_true', decide_eq_false_iff_not, Bool.false_eq_true, Bool.not_true, Bool.not_false, decide_true, decide_false, not_true_eq_false, not_false_eq_true, and_true, true_and, and_false, false_and, ne_eq, Nat.zero_add, Nat.add_zero, cond_true, cond_false, ↓reduceIte, reduceCtorEq, Nat.reduceAdd, Int.reduceEq, Int.reduceNe, Int.reduceLT, Int.reduceLE, Int.reduceAdd, Int.reduceSub, Int.reduceMul, Int.reduceNeg, Nat.reduceMul, List.getElem?_cons_zero, List.getElem?_cons_succ, n0, s0]
theorem awake1 (h : H) : CL tab1 12 [] h = .ok (.bool true) h := call0 rfl h
theorem rcode1 {h : H} (n : Int) (h0 : 0 ≤ n) (h1 : n < 4096) : CL tab1 14 [.int .i64 n] h = .ok (sv (codeF n.toNat)) h := call1 (A := dI) (a := n) rfl (by unfold codeV; rw [if_pos ⟨h0, by omega⟩]) h
theorem vcdCodes (a b : Int) : ∃ h', CL tab1 4 [.int .i64 a, .int .i64 b] H0 = .ok (.bool true) h' := by
  refine ⟨H0, c4 good1.step rfl rfl gd0 ?_ (by simp)⟩
  have s0 : IV.str ⟨0, 0⟩ = sv [] := rfl
  have bt : (true == true) = true := rfl
  have bf : (false == false) = true := rfl
  have ea := call13 gd0 a
  have eb := call13 gd0 b
  unfold codeT at ea eb
  by_cases ha : 0 ≤ a ∧ a < 4096
  · rw [if_pos ha] at ea
    have er := rcode1 (h := H0) a ha.1 ha.2
    have n0 : ¬ a < 0 := by omega
    have n1 : ¬ 4096 ≤ a := by omega
    by_cases hb : 0 ≤ b ∧ b < 4096
    · rw [if_pos hb] at eb
      have m0 : ¬ b < 0 := by omega
      have m1 : ¬ 4096 ≤ b := by omega
      have inj := codeF_inj (n := a.toNat) (m := b.toNat) (by omega) (by omega)
      by_cases hab : a = b
      · subst hab
        simp only [t4_0, ea, eb, er, s0, W, spanK_u, decide_eq_true_eq, Bool.not_eq_true', decide_eq_false_iff_not, Bool.false_eq_true, Bool.not_true, Bool.not_false, decide_true, decide_false, not_true_eq_false, not_false_eq_true, and_true, true_and, and_false, false_and, ne_eq, Nat.zero_add, Nat.add_zero, cond_true, cond_false, ↓reduceIte, reduceCtorEq, Nat.reduceAdd, Int.reduceEq, Int.reduceNe, Int.reduceLT, Int.reduceLE, Int.reduceAdd, Int.reduceSub, Int.reduceMul, Int.reduceNeg, Nat.reduceMul, List.getElem?_cons_zero, List.getElem?_cons_succ, n0, n1, m0, m1, awake1, bt, if_true]
      · have hne : (codeF a.toNat = codeF b.toNat) = False := by
          rw [inj]; exact eq_false (by omega)
        simp only [t4_0, ea, eb, er, s0, W, spanK_u, decide_eq_true_eq, Bool.not_eq_true', decide_eq_false_iff_not, Bool.false_eq_true, Bool.not_true, Bool.not_false, decide_true, decide_false, not_true_eq_false, not_false_eq_true, and_true, true_and, and_false, false_and, ne_eq, Nat.zero_add, Nat.add_zero, cond_true, cond_false, ↓reduceIte, reduceCtorEq, Nat.reduceAdd, Int.reduceEq, Int.reduceNe, Int.reduceLT, Int.reduceLE, Int.reduceAdd, Int.reduceSub, Int.reduceMul, Int.reduceNeg, Nat.reduceMul, List.getElem?_cons_zero, List.getElem?_cons_succ, n0, n1, m0, m1, awake1, hne, hab, bf, if_true]
    · rw [if_neg hb] at eb
      by_cases m0 : b < 0
      · simp only [t4_0, ea, eb, er, s0, W, spanK_u, decide_eq_true_eq, Bool.not_eq_true', decide_eq_false_iff_not, Bool.false_eq_true, Bool.not_true, Bool.not_false, decide_true, decide_false, not_true_eq_false, not_false_eq_true, and_true, true_and, and_false, false_and, ne_eq, Nat.zero_add, Nat.add_zero, cond_true, cond_false, ↓reduceIte, reduceCtorEq, Nat.reduceAdd, Int.reduceEq, Int.reduceNe, Int.reduceLT, Int.reduceLE, Int.reduceAdd, Int.reduceSub, Int.reduceMul, Int.reduceNeg, Nat.reduceMul, List.getElem?_cons_zero, List.getElem?_cons_succ, n0, n1, m0, awake1]
      · have m1 : 4096 ≤ b := by omega
        simp only [t4_0, ea, eb, er, s0, W, spanK_u, decide_eq_true_eq, Bool.not_eq_true', decide_eq_false_iff_not, Bool.false_eq_true, Bool.not_true, Bool.not_false, decide_true, decide_false, not_true_eq_false, not_false_eq_true, and_true, true_and, and_false, false_and, ne_eq, Nat.zero_add, Nat.add_zero, cond_true, cond_false, ↓reduceIte, reduceCtorEq, Nat.reduceAdd, Int.reduceEq, Int.reduceNe, Int.reduceLT, Int.reduceLE, Int.reduceAdd, Int.reduceSub, Int.reduceMul, Int.reduceNeg, Nat.reduceMul, List.getElem?_cons_zero, List.getElem?_cons_succ, n0, n1, m0, m1, awake1]
  · rw [if_neg ha] at ea
    unfold codeT at *
    by_cases n0 : a < 0
    · split at eb <;> simp only [t4_0, ea, eb, s0, W, spanK_u, decide_eq_true_eq, Bool.not_eq_true', decide_eq_false_iff_not, Bool.false_eq_true, Bool.not_true, Bool.not_false, decide_true, decide_false, not_true_eq_false, not_false_eq_true, and_true, true_and, and_false, false_and, ne_eq, Nat.zero_add, Nat.add_zero, cond_true, cond_false, ↓reduceIte, reduceCtorEq, Nat.reduceAdd, Int.reduceEq, Int.reduceNe, Int.reduceLT, Int.reduceLE, Int.reduceAdd, Int.reduceSub, Int.reduceMul, Int.reduceNeg, Nat.reduceMul, List.getElem?_cons_zero, List.getElem?_cons_succ, n0, awake1]
    · have n1 : 4096 ≤ a := by omega
      split at eb <;> simp only [t4_0, ea, eb, s0, W, spanK_u, decide_eq_true_eq, Bool.not_eq_true', decide_eq_false_iff_not, Bool.false_eq_true, Bool.not_true, Bool.not_false, decide_true, decide_false, not_true_eq_false, not_false_eq_true, and_true, true_and, and_false, false_and, ne_eq, Nat.zero_add, Nat.add_zero, cond_true, cond_false, ↓reduceIte, reduceCtorEq, Nat.reduceAdd, Int.reduceEq, Int.reduceNe, Int.reduceLT, Int.reduceLE, Int.reduceAdd, Int.reduceSub, Int.reduceMul, Int.reduceNeg, Nat.reduceMul, List.getElem?_cons_zero, List.getElem?_cons_succ, n0, n1, awake1]
theorem sound1 : ∀ w₀ S, EP w₀ S → CallS Tryd.prog w₀ S (CL tab1) := good1.sound envK mixed noNum

end Go.Proofs.YtdccdfmbakbikaaDoor
