import Derived.Test.YtdccdfmbakbikaaDoorM4
import Derived.Test.YtdccdfmbakbikaaDoorM3
import Derived.Shelf.Strings.Search2
import Derived.Shelf.Strings.Split
import Derived.Shelf.Strconv.Itoa3
import Derived.Shelf.Strconv.AtoiAll
import Derived.Lib.AtoiErrMem
set_option linter.unusedVariables false
set_option linter.unusedSimpArgs false
set_option maxRecDepth 1000000
namespace Go.Proofs.YtdccdfmbakbikaaDoor
open Go I
open Go.RowKit (Below)
abbrev gMax : Nat := lay219_ren.g 1
noncomputable abbrev gPow : Nat := (Tryd.prog.globalNamed "internal/strconv.uint64pow10").getD 0
abbrev gSyn : Nat := lay172_ren.g 15
abbrev gRng : Nat := lay172_ren.g 16
def isErr (v : Value) : Prop := v = .nilIface ∨ ∃ te pe, v = .iface te pe
structure EP (w : World) (S : Sc) : Prop where
  max : ∃ m, w.cell? ⟨gMax, 0, none⟩ = some (.int .i64 m)
  pow : Lib.TabIs Tryd.prog w "internal/strconv.uint64pow10" .u64 Lib.pow10Tab
  n1 : ¬ S.wr gMax
  n2 : ¬ S.wr gPow
  syn : ∃ v, w.cell? ⟨gSyn, 0, none⟩ = some v ∧ isErr v
  rng : ∃ v, w.cell? ⟨gRng, 0, none⟩ = some v ∧ isErr v
  n3 : ¬ S.wr gSyn
  n4 : ¬ S.wr gRng
theorem cell_lt {w : World} {k : Nat} {v : Value} (hc : w.cell? ⟨k, 0, none⟩ = some v) : k < w.heap.size := by
  rcases Nat.lt_or_ge k w.heap.size with h | h
  · exact h
  · simp only [World.cell?, Array.getElem?_eq_none h] at hc; cases hc
theorem cell_keep {w w' : World} {k : Nat} {v : Value} (hc : w.cell? ⟨k, 0, none⟩ = some v) (h : k < w.heap.size → w'.heap[k]? = w.heap[k]?) : w'.cell? ⟨k, 0, none⟩ = some v := by
  rw [← hc]
  simp only [World.cell?, h (cell_lt hc)]
theorem named_pow : Tryd.prog.globalNamed "internal/strconv.uint64pow10" = some gPow := by kernel_rfl
theorem tab_lt {w : World} (h : Lib.TabIs Tryd.prog w "internal/strconv.uint64pow10" .u64 Lib.pow10Tab) : gPow < w.heap.size := by
  unfold Lib.TabIs World.var? at h
  rw [named_pow] at h
  simp only [Option.bind_some] at h
  rcases Nat.lt_or_ge gPow w.heap.size with h' | h'
  · exact h'
  · rw [Array.getElem?_eq_none h'] at h; cases h
theorem tab_keep {w w' : World} (h : Lib.TabIs Tryd.prog w "internal/strconv.uint64pow10" .u64 Lib.pow10Tab) (hk : w'.heap[gPow]? = w.heap[gPow]?) : Lib.TabIs Tryd.prog w' "internal/strconv.uint64pow10" .u64 Lib.pow10Tab := by
  unfold Lib.TabIs World.var? at h ⊢
  rw [named_pow] at h ⊢
  simp only [Option.bind_some] at h ⊢
  rw [hk]; exact h
theorem envK : EnvK EP := by
  rintro w₀ S w₁ S₁ k ⟨⟨m, h1⟩, h2, n1, n2, ⟨v3, h3, e3⟩, ⟨v4, h4, e4⟩, n3, n4⟩
  exact ⟨⟨m, cell_keep h1 fun hk => (k.keep _ hk n1).2⟩, tab_keep h2 (k.keep _ (tab_lt h2) n2).2, (k.keep _ (cell_lt h1) n1).1, (k.keep _ (tab_lt h2) n2).1,
    ⟨v3, cell_keep h3 fun hk => (k.keep _ hk n3).2, e3⟩, ⟨v4, cell_keep h4 fun hk => (k.keep _ hk n4).2, e4⟩, (k.keep _ (cell_lt h3) n3).1, (k.keep _ (cell_lt h4) n4).1⟩
def idxF (a b : Bs) : Option IV := if a.length < 4294967281 then some (.int .i64 (Lib.index a b)) else none
theorem idx_S (w₀ : World) (S : Sc) (es : EP w₀ S) (args : List IV) (h : H) (μ : Mu) (w : World) (cargs : Array Value) (r : Rel w₀ S μ h w) (hv : VRs μ args cargs.toList) : CallR Tryd.prog w₀ S μ 70 cargs w (pureF (fn2 dS dS idxF) args h) := by
  refine pureF_C noNum Tryd.func70 rfl (fun args v e => ?_) (fun args v w cargs e k hv => ?_) args h μ w cargs r hv
  · obtain ⟨l, n, rfl, e2⟩ := fn2_inv e
    unfold idxF at e2
    split at e2
    · injection e2 with e2; subst e2; exact ⟨rfl, rfl⟩
    · cases e2
  · obtain ⟨l, n, rfl, e2⟩ := fn2_inv e
    unfold idxF at e2
    split at e2
    · rename_i hc
      injection e2 with e2; subst e2
      obtain ⟨v1, vs, e1, q1, v2, vs2, rfl, q2, q3⟩ := hv
      simp only [VRs] at q3; subst q3
      obtain ⟨b, rfl, rfl⟩ := VR_sv q1
      obtain ⟨c, rfl, rfl⟩ := VR_sv q2
      obtain rfl : cargs = #[.string b, .string c] := Array.toList_inj.1 e1
      have hb : b.data.toList.length = b.size := by rw [Array.length_toList]; rfl
      obtain ⟨m, hm⟩ := (envK _ _ _ _ k es).max
      refine (Any.stringslite_Index { lay219 with } b c m w (by omega) hm).mono ?_
      rintro e w' ⟨rfl, rfl⟩
      exact ⟨_, rfl, rfl, Below.refl _ _⟩
    · cases e2
def cntF (a b : Bs) : Option IV := if a.length < 4294967281 ∧ b ≠ [] then some (.int .i64 (Lib.count a b : Nat)) else none
theorem cnt_S (w₀ : World) (S : Sc) (es : EP w₀ S) (args : List IV) (h : H) (μ : Mu) (w : World) (cargs : Array Value) (r : Rel w₀ S μ h w) (hv : VRs μ args cargs.toList) : CallR Tryd.prog w₀ S μ 49 cargs w (pureF (fn2 dS dS cntF) args h) := by
  refine pureF_C noNum Tryd.func49 rfl (fun args v e => ?_) (fun args v w cargs e k hv => ?_) args h μ w cargs r hv
  · obtain ⟨l, n, rfl, e2⟩ := fn2_inv e
    unfold cntF at e2
    split at e2
    · injection e2 with e2; subst e2; exact ⟨rfl, rfl⟩
    · cases e2
  · obtain ⟨l, n, rfl, e2⟩ := fn2_inv e
    unfold cntF at e2
    split at e2
    · rename_i hc
      injection e2 with e2; subst e2
      obtain ⟨v1, vs, e1, q1, v2, vs2, rfl, q2, q3⟩ := hv
      simp only [VRs] at q3; subst q3
      obtain ⟨b, rfl, rfl⟩ := VR_sv q1
      obtain ⟨c, rfl, rfl⟩ := VR_sv q2
      obtain rfl : cargs = #[.string b, .string c] := Array.toList_inj.1 e1
      have hb : b.data.toList.length = b.size := by rw [Array.length_toList]; rfl
      have hb2 : c.data.toList.length = c.size := by rw [Array.length_toList]; rfl
      have hc2 : c.data.toList.length ≠ 0 := fun h => hc.2 (List.eq_nil_of_length_eq_zero h)
      obtain ⟨m, hm⟩ := (envK _ _ _ _ k es).max
      refine Calls.mono (f := 49) (Any.strings_Count_any lay138 b c m w (by omega) hm (by omega)) ?_
      rintro e w' ⟨rfl, rfl⟩
      exact ⟨_, rfl, rfl, Below.refl _ _⟩
    · cases e2
def digU : Nat → Nat → Bs
  | 0, _ => []
  | f + 1, u => if u < 10 then [UInt8.ofNat (48 + u)] else digU f (u / 10) ++ [UInt8.ofNat (48 + u % 10)]
theorem digU_eq : ∀ (f u : Nat), u < 10 ^ f → 0 < f → digU f u = Lib.decDigits u
  | 0, u, h, h0 => by omega
  | f + 1, u, h, _ => by
    rw [Lib.decDigits]
    simp only [digU]
    by_cases hu : u < 10
    · rw [if_pos hu, dif_pos hu]
    · rw [if_neg hu, dif_neg hu]
      have h2 : u / 10 < 10 ^ f := by rw [Nat.pow_succ] at h; omega
      have h3 : 0 < f := by
        rcases Nat.eq_zero_or_pos f with rfl | h
        · simp at h; omega
        · exact h
      rw [digU_eq f _ h2 h3]
def itoaF (n : Int) : Bs := if n < 0 then 45 :: digU 20 n.natAbs else digU 20 n.toNat
def itoaV (n : Int) : Option IV := if -9223372036854775808 ≤ n ∧ n ≤ 9223372036854775807 then some (sv (itoaF n)) else none
theorem itoaF_eq {n : Int} (h : -9223372036854775808 ≤ n ∧ n ≤ 9223372036854775807) : itoaF n = Lib.itoa n := by
  have e : (10 : Nat) ^ 20 = 100000000000000000000 := by decide
  unfold itoaF Lib.itoa
  split
  · rw [digU_eq _ _ (by rw [e]; omega) (by decide)]
  · rw [digU_eq _ _ (by rw [e]; omega) (by decide)]
theorem below_grow (w : World) (k : Nat) (os : Array Go.Obj) : Below w.heap.size w (Sort.grow (w.drewN k) os) :=
  ⟨rfl, rfl, rfl, by simp [Sort.grow, World.drewN], fun j hj => by simp only [Sort.grow, World.drewN]; rw [Array.getElem?_append_left hj]⟩
theorem itoa_S (w₀ : World) (S : Sc) (es : EP w₀ S) (args : List IV) (h : H) (μ : Mu) (w : World) (cargs : Array Value) (r : Rel w₀ S μ h w) (hv : VRs μ args cargs.toList) : CallR Tryd.prog w₀ S μ 17 cargs w (pureF (fn1 dI itoaV) args h) := by
  refine pureF_C noNum Tryd.func17 rfl (fun args v e => ?_) (fun args v w cargs e k hv => ?_) args h μ w cargs r hv
  · obtain ⟨n, rfl, e2⟩ := fn1_inv e
    unfold itoaV at e2
    split at e2
    · injection e2 with e2; subst e2; exact ⟨rfl, rfl⟩
    · cases e2
  · obtain ⟨n, rfl, e2⟩ := fn1_inv e
    unfold itoaV at e2
    split at e2
    · rename_i hc
      injection e2 with e2; subst e2
      obtain ⟨v1, vs, e1, q1, q3⟩ := hv
      simp only [VRs] at q3; subst q3
      have q1 : v1 = .int .i64 n := q1
      subst q1
      obtain rfl : cargs = #[.int .i64 n] := Array.toList_inj.1 e1
      refine Calls.mono (f := 17) (Any.strconv_Itoa lay171 n hc.1 hc.2 w (envK _ _ _ _ k es).pow) ?_
      rintro e w' ⟨rfl, k, os, rfl⟩
      refine ⟨_, rfl, ?_, below_grow _ _ _⟩
      rw [itoaF_eq hc]
      exact VR_str _
    · cases e2
abbrev tyE : Nat := lay172_ren.t 168
def atoiI (args : List IV) (h : H) : CRes :=
  match args with
  | [x] => match dS.dec x with
    | some l => if l.length ≤ 281474976710656 then match Lib.atoiAll l with
        | .ok v => .ok (.tup [.int .i64 v, .nilIface]) h
        | .range => .ok (.tup [.int .i64 (Lib.atoiSat l), .iface tyE (.ptr h.next 0)]) h.skip
        | _ => .ok (.tup [.int .i64 0, .iface tyE (.ptr h.next 0)]) h.skip
      else .fail
    | none => .fail
  | _ => .fail
theorem atoiI_step (args : List IV) (h : H) : (atoiI args h).Steps h := by
  unfold atoiI
  split
  · split
    · split
      · split
        · exact Step.refl h
        · exact Step.skip h
        · exact Step.skip h
      · trivial
    · trivial
  · trivial
theorem atoi_S (w₀ : World) (S : Sc) (es : EP w₀ S) (args : List IV) (h : H) (μ : Mu) (w : World) (cargs : Array Value) (r : Rel w₀ S μ h w) (hv : VRs μ args cargs.toList) : CallR Tryd.prog w₀ S μ 41 cargs w (atoiI args h) := by
  unfold atoiI
  split
  · rename_i x
    split
    · rename_i l hx
      have := dS.law x l hx
      subst this
      split
      · rename_i hl
        obtain ⟨v1, vs, e1, q1, q3⟩ := hv
        simp only [VRs] at q3; subst q3
        obtain ⟨b, rfl, rfl⟩ := VR_sv q1
        obtain rfl : cargs = #[.string b] := Array.toList_inj.1 e1
        have hb : b.data.toList.length = b.size := by rw [Array.length_toList]; rfl
        have ew := envK _ _ _ _ r.wk es
        have ent : (callFunc 41 #[.string b]).run Tryd.prog w = .ok (.enter 41 #[.string b]) w := callFunc_enter (P := Tryd.prog) Tryd.func41 rfl (noNum _ _ Tryd.func41) _ w
        have fin : ∀ {n : Int} {ev : Value}, (Calls Tryd.prog 41 #[.string b] w fun e w' => ∃ N, e = .returned (.tuple #[.int .i64 n, .iface tyE (.pointer (some ⟨N, 0, none⟩))]) ∧ w.heap.size ≤ N ∧ w'.heap[N]? = some (.cells #[.string ⟨#[65, 116, 111, 105]⟩, .string b, ev] (lay172_ren.t 210) (0, 0)) ∧ Below w.heap.size w w') →
            CallR Tryd.prog w₀ S μ 41 #[.string b] w (.ok (.tup [.int .i64 n, .iface tyE (.ptr h.next 0)]) h.skip) := by
          intro n ev hc
          refine .inl ⟨ent, hc.mono ?_⟩
          rintro e' w' ⟨N, rfl, h1, h2, h3⟩
          have hN : N < w'.heap.size := by
            rcases Nat.lt_or_ge N w'.heap.size with h | h
            · exact h
            · rw [Array.getElem?_eq_none h] at h2; cases h2
          have hn := r.new h.next (Nat.le_refl _)
          exact ⟨_, μ.push h.next (N, 0, 0), rfl, Mu.le_push hn, r.skip h3 h1 hN, ⟨_, rfl, _, _, rfl, rfl, _, _, rfl, ⟨_, rfl, N, 0, 0, by simp [Mu.push], rfl⟩, rfl⟩⟩
        split
        · rename_i v hv
          refine .inl ⟨ent, Calls.mono (f := 41) (Any.strconv_Atoi_ok lay172 b (by omega) v hv w) ?_⟩
          rintro e w' ⟨rfl, hw⟩
          have hbl : Below w.heap.size w w' := by
            rcases hw with rfl | ⟨t, rfl⟩
            · exact Below.refl _ _
            · exact Lib.bytesWorld_below _ _ _
          exact ⟨_, μ, rfl, μ.le_refl, r.below hbl, ⟨_, rfl, _, _, rfl, rfl, _, _, rfl, rfl, rfl⟩⟩
        · rename_i hv
          obtain ⟨ev, hc, hev⟩ := ew.rng
          exact fin (Any.strconv_Atoi_range lay172 b (by omega) hv ev w hc hev)
        · rename_i h1 h2
          obtain ⟨ev, hc, hev⟩ := ew.syn
          refine fin (Any.strconv_Atoi_syntax lay172 b (by omega) ?_ ev w hc hev)
          cases hq : Lib.atoiAll b.data.toList with
          | ok v => exact absurd hq (h1 v)
          | range => exact absurd hq h2
          | _ => rfl
      · trivial
    · trivial
  · trivial
def pol (f : FuncId) : Bool := !(Nat.beq f 10 || Nat.beq f 35)
noncomputable def tab0 : Tab := ((((((Tab.none pol).add 96 indexByteI).add 46 noEscapeI).add 49 (pureF (fn2 dS dS cntF))).add 70 (pureF (fn2 dS dS idxF))).add 17 (pureF (fn1 dI itoaV))).add 41 atoiI
theorem good0 : GoodT Tryd.prog EP tab0 :=
  ((((((GoodT.none pol).put (fun w₀ S _ args h μ w cargs r hv => indexByte_S Tryd.func96 (by kernel_rfl) (by kernel_rfl) (by kernel_rfl) (by kernel_rfl) args h μ w cargs r hv) indexByteI_step).put
    (fun w₀ S _ args h μ w cargs r hv => noEscape_S Tryd.func46 (by kernel_rfl) (by kernel_rfl) (by kernel_rfl) (by kernel_rfl) args h μ w cargs r hv) noEscapeI_step).put
    cnt_S (pureF_step _)).put idx_S (pureF_step _)).put itoa_S (pureF_step _)).put atoi_S atoiI_step
theorem sv0 : IV.str ⟨0, 0⟩ = sv [] := rfl
def cutL (c : UInt8) : Bs → Bs × Bs × Bool
  | [] => ([], [], false)
  | x :: l => if x = c then ([], l, true) else (x :: (cutL c l).1, (cutL c l).2)
theorem index_one (c : UInt8) : ∀ l : Bs, Lib.index l [c] = if (cutL c l).2.2 = true then (((cutL c l).1.length : Nat) : Int) else -1
  | [] => by simp [Lib.index, cutL]
  | x :: l => by
    have hp : [c].isPrefixOf (x :: l) = (c == x) := by simp [List.isPrefixOf]
    unfold Lib.index cutL
    rw [hp, index_one c l]
    by_cases h : x = c
    · subst h; simp
    · have : (c == x) = false := beq_eq_false_iff_ne.2 fun e => h e.symm
      rw [this]
      simp only [h, if_false, Bool.false_eq_true]
      by_cases h2 : (cutL c l).2.2 = true
      · simp only [h2, if_true, List.length_cons]
        rw [if_neg (by simp)]
        omega
      · simp only [h2, if_false]
        rfl
theorem cutL_true (c : UInt8) : ∀ l : Bs, (cutL c l).2.2 = true → l = (cutL c l).1 ++ c :: (cutL c l).2.1
  | [], h => by cases h
  | x :: l, h => by
    unfold cutL at h ⊢
    by_cases e : x = c
    · subst e; simp
    · simp only [e, if_false] at h ⊢
      have := cutL_true c l h
      rw [List.cons_append, ← this]
theorem cutL_false (c : UInt8) : ∀ l : Bs, (cutL c l).2.2 = false → (cutL c l).1 = l ∧ (cutL c l).2.1 = [] ∧ ∀ x ∈ l, x ≠ c
  | [], _ => by simp [cutL]
  | x :: l, h => by
    unfold cutL at h ⊢
    by_cases e : x = c
    · subst e; simp at h
    · simp only [e, if_false] at h ⊢
      obtain ⟨h1, h2, h3⟩ := cutL_false c l h
      refine ⟨by rw [h1], h2, fun y hy => ?_⟩
      rcases List.mem_cons.1 hy with rfl | hy
      · exact e
      · exact h3 y hy
theorem idx {h : H} (a b : Bs) (ha : a.length < 4294967281) : CL tab0 70 [sv a, sv b] h = .ok (.int .i64 (Lib.index a b)) h := call2 (A := dS) (B := dS) rfl (by simp only [idxF, ha, if_true]) h
theorem cut {h : H} (g : Gd h) (s : Bs) (c : UInt8) (hs : s.length < 4294967281) : CL tab0 40 [sv s, sv [c]] h = .ok (.tup [sv (cutL c s).1, sv (cutL c s).2.1, .bool (cutL c s).2.2]) h := by
  have h2 : CL tab0 51 [sv s, sv [c]] h = .ok (.tup [sv (cutL c s).1, sv (cutL c s).2.1, .bool (cutL c s).2.2]) h := by
    refine c51 good0.step rfl rfl g ?_ (by simp)
    simp only [t51_0, idx s [c] hs, W, WW, ↓reduceIte, reduceCtorEq, Nat.reduceAdd, Int.reduceEq, Int.reduceNe, Int.reduceLT, Int.reduceLE, Int.reduceAdd, Int.reduceSub, Int.reduceMul, Int.reduceNeg, Nat.reduceMul, index_one]
    cases hb : (cutL c s).2.2 with
    | true =>
      have e := cutL_true c s hb
      generalize hr : cutL c s = r at e hb ⊢
      obtain ⟨A, B, b⟩ := r
      simp only at e hb ⊢
      clear hr
      subst e
      have h0 : (0 : Int) ≤ (A.length : Nat) := by omega
      simp only [List.length_append, List.length_cons] at hs
      simp only [W, WW, ↓reduceIte, reduceCtorEq, Nat.reduceAdd, Int.reduceEq, Int.reduceNe, Int.reduceLT, Int.reduceLE, Int.reduceAdd, Int.reduceSub, Int.reduceMul, Int.reduceNeg, Nat.reduceMul, h0]
      rw [slcStr_to _ _ h0 (by simp; omega)]
      simp only [W, WW, ↓reduceIte, reduceCtorEq, Nat.reduceAdd, Int.reduceEq, Int.reduceNe, Int.reduceLT, Int.reduceLE, Int.reduceAdd, Int.reduceSub, Int.reduceMul, Int.reduceNeg, Nat.reduceMul, List.length_cons, List.length_nil, Int.toNat_natCast]
      rw [wr_i64 (by omega) (by omega), slcStr_from _ _ (by omega) (by simp; omega)]
      have e2 : (A ++ c :: B).drop (((A.length : Nat) : Int) + ((1 : Nat) : Int)).toNat = B := by
        rw [show (((A.length : Nat) : Int) + ((1 : Nat) : Int)).toNat = A.length + 1 by omega, List.drop_append]
        simp
      simp only [W, WW, ↓reduceIte, reduceCtorEq, Nat.reduceAdd, Int.reduceEq, Int.reduceNe, Int.reduceLT, Int.reduceLE, Int.reduceAdd, Int.reduceSub, Int.reduceMul, Int.reduceNeg, Nat.reduceMul, List.take_left', e2, hb]
    | false =>
      obtain ⟨e1, e2, _⟩ := cutL_false c s hb
      simp only [W, WW, ↓reduceIte, reduceCtorEq, Nat.reduceAdd, Int.reduceEq, Int.reduceNe, Int.reduceLT, Int.reduceLE, Int.reduceAdd, Int.reduceSub, Int.reduceMul, Int.reduceNeg, Nat.reduceMul, e1, e2]
      rfl
  exact c40 good0.step rfl rfl g (by simp only [t40_0, h2, W, WW, ↓reduceIte, reduceCtorEq, Nat.reduceAdd, Int.reduceEq, Int.reduceNe, Int.reduceLT, Int.reduceLE, Int.reduceAdd, Int.reduceSub, Int.reduceMul, Int.reduceNeg, Nat.reduceMul]) (by simp)
def cutF (s p : Bs) : Option IV :=
  match p with
  | [c] => if s.length < 4294967281 then some (.tup [sv (cutL c s).1, sv (cutL c s).2.1, .bool (cutL c s).2.2]) else none
  | _ => none
theorem tCut : PureT Tryd.prog (CL tab0) 40 (fn2 dS dS cutF) := pure2 Tryd.func40 rfl fun s p v e => by
  unfold cutF at e
  split at e
  · split at e
    · rename_i hs
      injection e with e; subst e
      exact ⟨rfl, _, cut gd0 s _ hs⟩
    · cases e
  · cases e
theorem u8_eqv (a b : UInt8) : (((a.toNat : Nat) : Int) = ((b.toNat : Nat) : Int)) = (a = b) := propext ⟨fun h => UInt8.toNat_inj.1 (by omega), fun h => by rw [h]⟩
theorem leftByte {h : H} (c : UInt8) : ∀ (l : Bs), l.length ≤ 1099511627776 → J55 tab0 1 [sv l, .int .u8 (c.toNat : Nat)] h = .ok (sv (l.dropWhile (· == c))) h := by
  intro l
  induction l with
  | nil =>
    intro _
    refine e55_1 ?_ (by simp)
    simp only [t55_1, W, WW, ↓reduceIte, reduceCtorEq, Nat.reduceAdd, Int.reduceEq, Int.reduceNe, Int.reduceLT, Int.reduceLE, Int.reduceAdd, Int.reduceSub, Int.reduceMul, Int.reduceNeg, Nat.reduceMul, List.length_nil, Int.ofNat_zero, Int.lt_irrefl]
    rfl
  | cons x l ih =>
    intro hl
    simp only [List.length_cons] at hl
    refine e55_1 ?_ (by simp)
    have h0 : (0 : Int) < ((l.length + 1 : Nat) : Int) := by omega
    simp only [t55_1, W, WW, ↓reduceIte, reduceCtorEq, Nat.reduceAdd, Int.reduceEq, Int.reduceNe, Int.reduceLT, Int.reduceLE, Int.reduceAdd, Int.reduceSub, Int.reduceMul, Int.reduceNeg, Nat.reduceMul, List.length_cons, h0]
    rw [ixStr_sv _ _ (by omega) (by simp)]
    simp only [W, WW, ↓reduceIte, reduceCtorEq, Nat.reduceAdd, Int.reduceEq, Int.reduceNe, Int.reduceLT, Int.reduceLE, Int.reduceAdd, Int.reduceSub, Int.reduceMul, Int.reduceNeg, Nat.reduceMul, Int.toNat_zero, List.getElem_cons_zero, u8_eqv, List.dropWhile_cons]
    by_cases hx : x = c
    · simp only [hx, W, WW, ↓reduceIte, reduceCtorEq, Nat.reduceAdd, Int.reduceEq, Int.reduceNe, Int.reduceLT, Int.reduceLE, Int.reduceAdd, Int.reduceSub, Int.reduceMul, Int.reduceNeg, Nat.reduceMul, BEq.rfl]
      rw [slcStr_from _ _ (by omega) (by simp; omega)]
      simp only [W, WW, ↓reduceIte, reduceCtorEq, Nat.reduceAdd, Int.reduceEq, Int.reduceNe, Int.reduceLT, Int.reduceLE, Int.reduceAdd, Int.reduceSub, Int.reduceMul, Int.reduceNeg, Nat.reduceMul]
      exact ih (by omega)
    · simp only [hx, W, WW, ↓reduceIte, reduceCtorEq, Nat.reduceAdd, Int.reduceEq, Int.reduceNe, Int.reduceLT, Int.reduceLE, Int.reduceAdd, Int.reduceSub, Int.reduceMul, Int.reduceNeg, Nat.reduceMul, beq_iff_eq]
theorem trimLB {h : H} (g : Gd h) (c : UInt8) (l : Bs) (hl : l.length ≤ 1099511627776) : CL tab0 55 [sv l, .int .u8 (c.toNat : Nat)] h = .ok (sv (l.dropWhile (· == c))) h :=
  c55 good0.step rfl rfl g (by simp only [t55_0]; exact leftByte c l hl) (by simp)
def trimR (p : UInt8 → Bool) (l : Bs) : Bs := (l.reverse.dropWhile p).reverse
theorem trimR_snoc {p : UInt8 → Bool} (l : Bs) (c : UInt8) : trimR p (l ++ [c]) = if p c = true then trimR p l else l ++ [c] := by
  unfold trimR
  rw [List.reverse_append]
  simp only [List.reverse_cons, List.reverse_nil, List.nil_append, List.singleton_append, List.dropWhile_cons]
  split <;> simp
theorem trimR_len {p : UInt8 → Bool} (l : Bs) : (trimR p l).length ≤ l.length := by
  unfold trimR
  rw [List.length_reverse]
  have := (List.dropWhile_sublist (p := p) (l := l.reverse)).length_le
  simpa using this
theorem dropWhile_nil {p : UInt8 → Bool} : ∀ l : Bs, l.dropWhile p = [] ↔ ∀ x ∈ l, p x = true
  | [] => by simp
  | x :: l => by
    rw [List.dropWhile_cons]
    by_cases h : p x = true
    · rw [if_pos h, dropWhile_nil l]; simp [h]
    · rw [if_neg h]; simp [h]
theorem trim_nil {p : UInt8 → Bool} (l : Bs) : (trimR p l).dropWhile p = [] ↔ l.all p = true := by
  unfold trimR
  rw [dropWhile_nil]
  simp only [List.mem_reverse, List.all_eq_true]
  constructor
  · intro h x hx
    have : l.reverse.takeWhile p ++ l.reverse.dropWhile p = l.reverse := List.takeWhile_append_dropWhile
    have hx' : x ∈ l.reverse := by simpa using hx
    rw [← this] at hx'
    rcases List.mem_append.1 hx' with h1 | h1
    · exact List.all_eq_true.1 (List.all_takeWhile (p := p)) x h1
    · exact h x h1
  · intro h x hx
    exact h x (by simpa using (List.dropWhile_sublist (p := p) (l := l.reverse)).subset hx)
theorem rightByte {h : H} (c : UInt8) : ∀ (n : Nat) (l : Bs), l.length = n → l.length ≤ 1099511627776 → J56 tab0 1 [sv l, .int .u8 (c.toNat : Nat)] h = .ok (sv (trimR (· == c) l)) h := by
  intro n
  induction n with
  | zero =>
    intro l hl _
    have : l = [] := by simpa using hl
    subst this
    refine e56_1 ?_ (by simp)
    simp only [t56_1, W, WW, ↓reduceIte, reduceCtorEq, Nat.reduceAdd, Int.reduceEq, Int.reduceNe, Int.reduceLT, Int.reduceLE, Int.reduceAdd, Int.reduceSub, Int.reduceMul, Int.reduceNeg, Nat.reduceMul, List.length_nil, Int.ofNat_zero, Int.lt_irrefl]
    rfl
  | succ n ih =>
    intro l hl hb
    rcases List.eq_nil_or_concat l with rfl | ⟨l', x, rfl⟩
    · simp at hl
    · simp only [List.concat_eq_append, List.length_append, List.length_singleton] at hl hb ⊢
      refine e56_1 ?_ (by simp)
      have e1 : ((l'.length + 1 : Nat) : Int) - 1 = (l'.length : Nat) := by omega
      have h0 : (0 : Int) < ((l'.length + 1 : Nat) : Int) := by omega
      simp (disch := omega) only [t56_1, W, WW, ↓reduceIte, reduceCtorEq, Nat.reduceAdd, Int.reduceEq, Int.reduceNe, Int.reduceLT, Int.reduceLE, Int.reduceAdd, Int.reduceSub, Int.reduceMul, Int.reduceNeg, Nat.reduceMul, List.length_append, List.length_singleton, wr_i64, e1, h0]
      rw [ixStr_nat _ _ (by simp)]
      simp only [W, WW, ↓reduceIte, reduceCtorEq, Nat.reduceAdd, Int.reduceEq, Int.reduceNe, Int.reduceLT, Int.reduceLE, Int.reduceAdd, Int.reduceSub, Int.reduceMul, Int.reduceNeg, Nat.reduceMul, List.getElem_append_right (Nat.le_refl _), Nat.sub_self, List.getElem_cons_zero, u8_eqv]
      rw [trimR_snoc]
      by_cases hx : x = c
      · simp only [hx, W, WW, ↓reduceIte, reduceCtorEq, Nat.reduceAdd, Int.reduceEq, Int.reduceNe, Int.reduceLT, Int.reduceLE, Int.reduceAdd, Int.reduceSub, Int.reduceMul, Int.reduceNeg, Nat.reduceMul, BEq.rfl]
        rw [slcStr_to _ _ (by omega) (by simp; omega)]
        simp only [W, WW, ↓reduceIte, reduceCtorEq, Nat.reduceAdd, Int.reduceEq, Int.reduceNe, Int.reduceLT, Int.reduceLE, Int.reduceAdd, Int.reduceSub, Int.reduceMul, Int.reduceNeg, Nat.reduceMul, Int.toNat_natCast, List.take_left']
        exact ih l' (by omega) (by omega)
      · simp only [hx, W, WW, ↓reduceIte, reduceCtorEq, Nat.reduceAdd, Int.reduceEq, Int.reduceNe, Int.reduceLT, Int.reduceLE, Int.reduceAdd, Int.reduceSub, Int.reduceMul, Int.reduceNeg, Nat.reduceMul, beq_iff_eq]
theorem trimRB {h : H} (g : Gd h) (c : UInt8) (l : Bs) (hl : l.length ≤ 1099511627776) : CL tab0 56 [sv l, .int .u8 (c.toNat : Nat)] h = .ok (sv (trimR (· == c) l)) h :=
  c56 good0.step rfl rfl g (by simp only [t56_0]; exact rightByte c _ l rfl hl) (by simp)
theorem ix48 : ixStr (sv [48]) (.int .i64 0) = some (.int .u8 (((48 : UInt8).toNat : Nat) : Int)) := ixStr_sv [48] 0 (by omega) (by simp)
theorem u48 : ((((48 : UInt8).toNat : Nat) : Int) < 128) = True := by decide
theorem trim0 {h : H} (g : Gd h) (l : Bs) (hl : l.length ≤ 1099511627776) : CL tab0 43 [sv l, sv [48]] h = .ok (sv ((trimR (· == 48) l).dropWhile (· == 48))) h := by
  refine c43 good0.step rfl rfl g ?_ (by simp)
  by_cases h0 : l = []
  · subst h0
    simp only [t43_0, sv0, W, WW, ↓reduceIte, reduceCtorEq, Nat.reduceAdd, Int.reduceEq, Int.reduceNe, Int.reduceLT, Int.reduceLE, Int.reduceAdd, Int.reduceSub, Int.reduceMul, Int.reduceNeg, Nat.reduceMul]
    rfl
  · simp only [t43_0, sv0, W, WW, ↓reduceIte, reduceCtorEq, Nat.reduceAdd, Int.reduceEq, Int.reduceNe, Int.reduceLT, Int.reduceLE, Int.reduceAdd, Int.reduceSub, Int.reduceMul, Int.reduceNeg, Nat.reduceMul, h0, List.length_cons, List.length_nil, ix48, u48, trimRB g 48 l hl, trimLB g 48 _ (Nat.le_trans (trimR_len l) hl), Int.ofNat_eq_natCast, Int.natCast_add, Int.cast_ofNat_Int]
def setL (p : UInt8 → Bool) : List IV := (List.range 256).map fun i => .bool (p (UInt8.ofNat i))
theorem setL_len (p : UInt8 → Bool) : (setL p).length = 256 := by simp [setL]
theorem setL_get (p : UInt8 → Bool) (c : UInt8) : (setL p)[c.toNat]? = some (.bool (p c)) := by
  have hc := c.toNat_lt
  simp only [setL, List.getElem?_map, List.getElem?_range hc, Option.map_some, UInt8.ofNat_toNat]
theorem setL_scalar (p : UInt8 → Bool) : allScalar (setL p) = true := by
  unfold setL
  generalize List.range 256 = l
  induction l with
  | nil => rfl
  | cons x l ih => simp only [List.map_cons, allScalar, ih, IV.scalar, Bool.and_self]
theorem z6_set : z6 = setL fun _ => false := by kernel_rfl
theorem contains {p : UInt8 → Bool} {h : H} {b : Nat} (c : Cs h b true false (setL p)) (g : Gd h) (x : UInt8) : CL tab0 76 [.ptr b 0, .int .u8 (x.toNat : Nat)] h = .ok (.bool (p x)) h := by
  have hx := x.toNat_lt
  refine c76 good0.step rfl rfl g ?_ (by simp)
  simp only [t76_0, nilI_ptr, obind_some, ixA]
  rw [if_pos (by omega)]
  simp only [obind_some, c.ld0]
  simp only [Int.toNat_natCast, Nat.mul_one, Nat.zero_add, setL_get, obind_some]
def isV (c : UInt8) : Bool := c == 48 || c == 49 || c == 120 || c == 122
def cut4 : IV := .str ⟨4, 2054697264⟩
theorem makeV : ∃ h', CL tab0 57 [cut4] H0 = .ok (.tup [.agg (setL isV), .bool true]) h' := closed_val (m := 300) (n := 20) (by kernel_rfl)
theorem trimRight {p : UInt8 → Bool} {h : H} {b : Nat} (c : Cs h b true false (setL p)) (g : Gd h) : ∀ (n : Nat) (l : Bs), l.length = n → l.length ≤ 1099511627776 → J59 tab0 2 [sv l, .ptr b 0] h = .ok (sv (trimR p l)) h := by
  intro n
  induction n with
  | zero =>
    intro l hl _
    have : l = [] := by simpa using hl
    subst this
    refine e59_2 ?_ (by simp)
    simp only [t59_2, W, WW, ↓reduceIte, reduceCtorEq, Nat.reduceAdd, Int.reduceEq, Int.reduceNe, Int.reduceLT, Int.reduceLE, Int.reduceAdd, Int.reduceSub, Int.reduceMul, Int.reduceNeg, Nat.reduceMul, List.length_nil, Int.ofNat_zero, Int.lt_irrefl]
    refine e59_1 ?_ (by simp)
    rfl
  | succ n ih =>
    intro l hl hb
    rcases List.eq_nil_or_concat l with rfl | ⟨l', x, rfl⟩
    · simp at hl
    · simp only [List.concat_eq_append, List.length_append, List.length_singleton] at hl hb ⊢
      refine e59_2 ?_ (by simp)
      have e1 : ((l'.length + 1 : Nat) : Int) - 1 = (l'.length : Nat) := by omega
      simp (disch := omega) only [t59_2, W, WW, ↓reduceIte, reduceCtorEq, Nat.reduceAdd, Int.reduceEq, Int.reduceNe, Int.reduceLT, Int.reduceLE, Int.reduceAdd, Int.reduceSub, Int.reduceMul, Int.reduceNeg, Nat.reduceMul, List.length_append, List.length_singleton, wr_i64, e1]
      rw [if_pos (by omega), ixStr_nat _ _ (by simp)]
      simp only [W, WW, ↓reduceIte, reduceCtorEq, Nat.reduceAdd, Int.reduceEq, Int.reduceNe, Int.reduceLT, Int.reduceLE, Int.reduceAdd, Int.reduceSub, Int.reduceMul, Int.reduceNeg, Nat.reduceMul, List.getElem_append_right (Nat.le_refl _), Nat.sub_self, List.getElem_cons_zero]
      rw [contains c g x]
      simp only [W, WW, ↓reduceIte, reduceCtorEq, Nat.reduceAdd, Int.reduceEq, Int.reduceNe, Int.reduceLT, Int.reduceLE, Int.reduceAdd, Int.reduceSub, Int.reduceMul, Int.reduceNeg, Nat.reduceMul]
      rw [trimR_snoc]
      cases hx : p x with
      | false =>
        simp only [W, WW, ↓reduceIte, reduceCtorEq, Nat.reduceAdd, Int.reduceEq, Int.reduceNe, Int.reduceLT, Int.reduceLE, Int.reduceAdd, Int.reduceSub, Int.reduceMul, Int.reduceNeg, Nat.reduceMul]
        exact e59_1 rfl (by simp)
      | true =>
        simp only [W, WW, ↓reduceIte, reduceCtorEq, Nat.reduceAdd, Int.reduceEq, Int.reduceNe, Int.reduceLT, Int.reduceLE, Int.reduceAdd, Int.reduceSub, Int.reduceMul, Int.reduceNeg, Nat.reduceMul]
        rw [slcStr_to _ _ (by omega) (by simp; omega)]
        simp only [W, WW, ↓reduceIte, reduceCtorEq, Nat.reduceAdd, Int.reduceEq, Int.reduceNe, Int.reduceLT, Int.reduceLE, Int.reduceAdd, Int.reduceSub, Int.reduceMul, Int.reduceNeg, Nat.reduceMul, Int.toNat_natCast, List.take_left']
        exact ih l' (by omega) (by omega)
theorem trimLeft {p : UInt8 → Bool} {h : H} {b : Nat} (c : Cs h b true false (setL p)) (g : Gd h) : ∀ (l : Bs), l.length ≤ 1099511627776 → J58 tab0 2 [sv l, .ptr b 0] h = .ok (sv (l.dropWhile p)) h := by
  intro l
  induction l with
  | nil =>
    intro _
    refine e58_2 ?_ (by simp)
    simp only [t58_2, W, WW, ↓reduceIte, reduceCtorEq, Nat.reduceAdd, Int.reduceEq, Int.reduceNe, Int.reduceLT, Int.reduceLE, Int.reduceAdd, Int.reduceSub, Int.reduceMul, Int.reduceNeg, Nat.reduceMul, List.length_nil, Int.ofNat_zero, Int.lt_irrefl]
    exact e58_1 rfl (by simp)
  | cons x l ih =>
    intro hb
    simp only [List.length_cons] at hb
    refine e58_2 ?_ (by simp)
    simp only [t58_2, W, WW, ↓reduceIte, reduceCtorEq, Nat.reduceAdd, Int.reduceEq, Int.reduceNe, Int.reduceLT, Int.reduceLE, Int.reduceAdd, Int.reduceSub, Int.reduceMul, Int.reduceNeg, Nat.reduceMul, List.length_cons]
    rw [if_pos (by omega), ixStr_sv _ _ (by omega) (by simp)]
    simp only [W, WW, ↓reduceIte, reduceCtorEq, Nat.reduceAdd, Int.reduceEq, Int.reduceNe, Int.reduceLT, Int.reduceLE, Int.reduceAdd, Int.reduceSub, Int.reduceMul, Int.reduceNeg, Nat.reduceMul, Int.toNat_zero, List.getElem_cons_zero]
    rw [contains c g x]
    simp only [W, WW, ↓reduceIte, reduceCtorEq, Nat.reduceAdd, Int.reduceEq, Int.reduceNe, Int.reduceLT, Int.reduceLE, Int.reduceAdd, Int.reduceSub, Int.reduceMul, Int.reduceNeg, Nat.reduceMul, List.dropWhile_cons]
    cases hx : p x with
    | false => simp only [W, WW, ↓reduceIte, reduceCtorEq, Nat.reduceAdd, Int.reduceEq, Int.reduceNe, Int.reduceLT, Int.reduceLE, Int.reduceAdd, Int.reduceSub, Int.reduceMul, Int.reduceNeg, Nat.reduceMul]; exact e58_1 rfl (by simp)
    | true =>
      simp only [W, WW, ↓reduceIte, reduceCtorEq, Nat.reduceAdd, Int.reduceEq, Int.reduceNe, Int.reduceLT, Int.reduceLE, Int.reduceAdd, Int.reduceSub, Int.reduceMul, Int.reduceNeg, Nat.reduceMul]
      rw [slcStr_from _ _ (by omega) (by simp; omega)]
      simp only [W, WW, ↓reduceIte, reduceCtorEq, Nat.reduceAdd, Int.reduceEq, Int.reduceNe, Int.reduceLT, Int.reduceLE, Int.reduceAdd, Int.reduceSub, Int.reduceMul, Int.reduceNeg, Nat.reduceMul]
      exact ih (by omega)
theorem cut_sv : cut4 = sv [48, 49, 120, 122] := rfl
theorem trim (l : Bs) (hl : l.length ≤ 1099511627776) : ∃ h', CL tab0 43 [sv l, cut4] H0 = .ok (sv ((trimR isV l).dropWhile isV)) h' := by
  by_cases h0 : l = []
  · subst h0
    refine ⟨H0, c43 good0.step rfl rfl gd0 ?_ (by simp)⟩
    simp only [t43_0, sv0, W, WW, ↓reduceIte, reduceCtorEq, Nat.reduceAdd, Int.reduceEq, Int.reduceNe, Int.reduceLT, Int.reduceLE, Int.reduceAdd, Int.reduceSub, Int.reduceMul, Int.reduceNeg, Nat.reduceMul]
    rfl
  · obtain ⟨h1, e1⟩ := makeV
    obtain ⟨g1, x1⟩ := call_ok good0.step e1 gd0
    obtain ⟨h2, e2, x2, c2⟩ := newI_ex g1 (cs := z6) (by rw [z6_set]; exact setL_scalar _)
    rw [z6_set] at c2
    obtain ⟨o, e3, c3, ho⟩ := c2.st (n := 256) (off := 0) (v := .agg (setL isV)) (setL_len _) (setL_scalar _) (by simp [setL_len])
    have g3 : Gd (h2.put h1.next o) := by
      obtain ⟨t, q, _⟩ := c2
      have := Step.put (o := o) q (fun fz size cs hh => by cases hh) x2.gd.wf
      exact ⟨this.1, this.2.pol.trans x2.gd.pol⟩
    have c4 : Cs (h2.put h1.next o) h1.next true false (setL isV) := by
      have : placeL (setL fun _ => false) 0 (IV.agg (setL isV)).cells = setL isV := by
        apply List.ext_getElem?
        intro i
        rw [placeL_get _ _ _ _ (by simp [IV.cells, setL_len])]
        simp only [IV.cells, Nat.zero_le, true_and, Nat.zero_add, Nat.sub_zero, setL_len]
        split
        · rfl
        · rw [List.getElem?_eq_none (by rw [setL_len]; omega), List.getElem?_eq_none (by rw [setL_len]; omega)]
      rw [this] at c3; exact c3
    have r1 : CL tab0 59 [sv l, .ptr h1.next 0] (h2.put h1.next o) = .ok (sv (trimR isV l)) (h2.put h1.next o) :=
      c59 good0.step rfl rfl g3 (by simp only [t59_0]; exact trimRight c4 g3 _ l rfl hl) (by simp)
    have r2 : CL tab0 58 [sv (trimR isV l), .ptr h1.next 0] (h2.put h1.next o) = .ok (sv ((trimR isV l).dropWhile isV)) (h2.put h1.next o) :=
      c58 good0.step rfl rfl g3 (by simp only [t58_0]; exact trimLeft c4 g3 _ (Nat.le_trans (trimR_len l) hl)) (by simp)
    refine ⟨h2.put h1.next o, c43 good0.step rfl rfl gd0 ?_ (by simp)⟩
    simp only [t43_0, sv0, cut_sv, W, WW, ↓reduceIte, reduceCtorEq, Nat.reduceAdd, Int.reduceEq, Int.reduceNe, Int.reduceLT, Int.reduceLE, Int.reduceAdd, Int.reduceSub, Int.reduceMul, Int.reduceNeg, Nat.reduceMul, h0, List.length_cons, List.length_nil, reduceCtorEq]
    rw [← cut_sv, e1]
    simp only [W, WW, ↓reduceIte, reduceCtorEq, Nat.reduceAdd, Int.reduceEq, Int.reduceNe, Int.reduceLT, Int.reduceLE, Int.reduceAdd, Int.reduceSub, Int.reduceMul, Int.reduceNeg, Nat.reduceMul, e2, e3, r1, r2, Int.ofNat_eq_natCast]
    rfl
def trimF (l p : Bs) : Option IV :=
  if l.length ≤ 1099511627776 then (if p = [48] then some (sv ((trimR (· == 48) l).dropWhile (· == 48))) else if p = [48, 49, 120, 122] then some (sv ((trimR isV l).dropWhile isV)) else none) else none
theorem tTrim : PureT Tryd.prog (CL tab0) 43 (fn2 dS dS trimF) := pure2 Tryd.func43 rfl fun l p v e => by
  unfold trimF at e
  split at e
  · rename_i hl
    split at e
    · rename_i hp
      subst hp
      injection e with e; subst e
      exact ⟨rfl, _, trim0 gd0 l hl⟩
    · split at e
      · rename_i hp
        subst hp
        injection e with e; subst e
        exact ⟨rfl, trim l hl⟩
      · cases e
  · cases e
theorem mixed : Tryd.prog.follows .mixedOrders = true := Tryd.checked.mixed
noncomputable def tab1 : Tab := (tab0.add 43 (pureF (fn2 dS dS trimF))).add 40 (pureF (fn2 dS dS cutF))
theorem good1 : GoodT Tryd.prog EP tab1 := good0.also envK mixed noNum (good0.also envK mixed noNum good0 tTrim) tCut
def checkM (l : Bs) : Bool := decide (1 ≤ l.length) && decide (l.length ≤ 256) && l.all isV
def checkF (l : Bs) : Option IV := some (.int .i64 (if checkM l = true then 0 else 10))
theorem tr4 {h : H} (l : Bs) (hl : l.length ≤ 1099511627776) : CL tab1 43 [sv l, .str ⟨4, 2054697264⟩] h = .ok (sv ((trimR isV l).dropWhile isV)) h :=
  call2 (A := dS) (B := dS) (a := l) (b := [48, 49, 120, 122]) rfl (by unfold trimF; rw [if_pos hl, if_neg (by decide), if_pos rfl]) h
theorem tCheck : PureT Tryd.prog (CL tab1) 34 (fn1 dS checkF) := pure1 Tryd.func34 rfl fun l v hv => by
  injection hv with hv; subst hv
  refine ⟨rfl, H0, ?_⟩
  show CL tab1 34 [sv l] H0 = _
  by_cases h1 : (l.length : Int) < 1
  · refine c34 good1.step rfl rfl gd0 ?_ (by simp)
    have : checkM l = false := by simp [checkM]; omega
    simp only [t34_0, W, WW, ↓reduceIte, reduceCtorEq, Nat.reduceAdd, Int.reduceEq, Int.reduceNe, Int.reduceLT, Int.reduceLE, Int.reduceAdd, Int.reduceSub, Int.reduceMul, Int.reduceNeg, Nat.reduceMul, this, h1]
  · by_cases h2 : 256 < (l.length : Int)
    · refine c34 good1.step rfl rfl gd0 ?_ (by simp)
      have : checkM l = false := by simp [checkM]; omega
      simp only [t34_0, W, WW, ↓reduceIte, reduceCtorEq, Nat.reduceAdd, Int.reduceEq, Int.reduceNe, Int.reduceLT, Int.reduceLE, Int.reduceAdd, Int.reduceSub, Int.reduceMul, Int.reduceNeg, Nat.reduceMul, this, h1, h2]
    · refine c34 good1.step rfl rfl gd0 ?_ (by simp)
      have h3 : checkM l = l.all isV := by simp [checkM]; omega
      simp only [t34_0, W, WW, ↓reduceIte, reduceCtorEq, Nat.reduceAdd, Int.reduceEq, Int.reduceNe, Int.reduceLT, Int.reduceLE, Int.reduceAdd, Int.reduceSub, Int.reduceMul, Int.reduceNeg, Nat.reduceMul, h1, h2, tr4 l (by omega), sv0, trim_nil, h3]
      cases l.all isV <;> simp only [W, WW, ↓reduceIte, reduceCtorEq, Nat.reduceAdd, Int.reduceEq, Int.reduceNe, Int.reduceLT, Int.reduceLE, Int.reduceAdd, Int.reduceSub, Int.reduceMul, Int.reduceNeg, Nat.reduceMul]
abbrev tyB : Nat := 46
abbrev tyU : Nat := 5
structure BT (T : Tab) : Prop where
  step : OvStep T
  cc : T.ov 37 = none
  ws : T.ov 16 = none
  st : T.ov 21 = none
  ne : T.ov 46 = some noEscapeI
  p1 : T.pol 37 = true
  p2 : T.pol 16 = true
  p3 : T.pol 21 = true
structure BL (h₀ h : H) (b : Nat) (l : Bs) : Prop where
  ky : Ky h₀ h
  at_ : h₀.next ≤ b
  ty : h.tys.get b = some (tyB, 2)
  cell : ∃ addr buf, Cs h b true false [addr, buf] ∧ (addr = .nilPtr ∨ addr = .ptr b 0) ∧ GB tyU h₀ h l buf
theorem BL.lt {h₀ h : H} {b : Nat} {l : Bs} (x : BL h₀ h b l) : b < h.next := by
  obtain ⟨addr, buf, c, _⟩ := x.cell
  exact c.lt x.ky.gd.wf
theorem BL.mono {h₀ h h' : H} {b : Nat} {l : Bs} (x : BL h₀ h b l) (y : Ky h h') : BL h₀ h' b l := by
  obtain ⟨addr, buf, c, ha, gb⟩ := x.cell
  exact ⟨x.ky.trans y, x.at_, (y.ty b x.lt).trans x.ty, addr, buf, c.ky x.ky.gd.wf y, ha, gb.ky x.ky.gd.wf y⟩
theorem newB_bl {h : H} (g : Gd h) : ∃ h', newB h [.nilPtr, .nilSlice] tyB = some (.ptr h.next 0, h') ∧ BL h h' h.next [] := by
  obtain ⟨h1, e1, x1, c1, _, _⟩ := (Ky.refl g).newI (cs := [.nilPtr, .nilSlice]) rfl
  refine ⟨h1.tag h.next tyB 2, by unfold newB; rw [e1]; rfl, x1.tag (Nat.le_refl _), Nat.le_refl _, ?_, .nilPtr, .nilSlice, c1, .inl rfl, .inl ⟨rfl, rfl⟩⟩
  simp only [H.tag, I.T.get_set, if_true]
theorem convTo {h : H} {b : Nat} {fz : Bool} {x y : IV} (c : Cs h b true fz [x, y]) : convI Tryd.prog h 43 82 (.ptr b 0) = some (.ptr b 0, h) := by
  obtain ⟨t, q, _⟩ := c
  have hs : sizeT Tryd.prog 46 = some 2 := by kernel_rfl
  simp only [convI, Tryd.underlying43, Tryd.underlying82, hs, q, List.length_cons, List.length_nil]
  rfl
theorem convFrom {h : H} {b : Nat} (c : h.tys.get b = some (tyB, 2)) : convI Tryd.prog h 82 43 (.ptr b 0) = some (.ptr b 0, h) := by
  have hs : sizeT Tryd.prog 46 = some 2 := by kernel_rfl
  have hl : liesAt Tryd.prog Tryd.prog.depth tyB (2 / Tryd.prog.cellsOf tyB) 0 46 1 = true := by kernel_rfl
  simp only [convI, Tryd.underlying43, Tryd.underlying82, hs, c, hl]
  rfl
theorem eqP_self {h : H} {b : Nat} {cs : List IV} (c : Cs h b true false cs) : eqP .neq h (.ptr b 0) (.ptr b 0) = some (.bool false) := by
  obtain ⟨t, q, _⟩ := c
  simp only [eqP, eqPv, if_true, q, decide_true]
  rfl
theorem bl_set {h₀ h h' : H} {b : Nat} {l m : Bs} {addr buf addr' buf' : IV} (x : BL h₀ h b l) (c : Cs h' b true false [addr, buf]) (k : Ky h₀ h') (ht : h'.tys.get b = some (tyB, 2)) {off : Nat} {v : IV} (hv : v.scalar = true) (hoff : off + 1 ≤ 2) (hp : placeL [addr, buf] off v.cells = [addr', buf'])
    (ha : addr' = .nilPtr ∨ addr' = .ptr b 0) (gb : GB tyU h₀ h' m buf') : ∃ h'', stA 1 h' (.ptr b off) v = some h'' ∧ BL h₀ h'' b m ∧ ∀ q, q ≠ b → h''.get q = h'.get q := by
  have hc : v.cells = [v] := by cases v <;> first | rfl | (simp [IV.scalar] at hv)
  obtain ⟨o, s1, s2, _⟩ := c.st (n := 1) (off := off) (v := v) (by rw [hc]; rfl) (by rw [hc]; simp [allScalar, hv]) hoff
  rw [hp] at s2
  have hb := x.at_
  obtain ⟨t, q, _⟩ := c
  have k' : Ky h₀ (h'.put b o) := k.put hb q fun fz size cs hh => by cases hh
  refine ⟨h'.put b o, s1, ⟨k', hb, ht, addr', buf', s2, ha, ?_⟩, fun q hq => by rw [H.get_put, if_neg hq]⟩
  rcases gb with h1 | ⟨bb, n, h1, ⟨t2, q2, q3⟩, h2, h3, h4, h5⟩
  · exact .inl h1
  · refine .inr ⟨bb, n, h1, ⟨t2, ?_, q3⟩, h2, h3, h4, h5⟩
    rw [H.get_put, if_neg, q2]
    rintro rfl
    rw [q] at q2; cases q2
theorem copyCheck {T : Tab} (t : BT T) {h₀ h : H} {b : Nat} {l : Bs} (x : BL h₀ h b l) : ∃ h', CL T 37 [.ptr b 0] h = .ok (.tup []) h' ∧ BL h₀ h' b l ∧ ∀ q, q ≠ b → h'.get q = h.get q := by
  obtain ⟨addr, buf, c, ha, gb⟩ := x.cell
  have l0 := c.ld0 0
  rcases ha with rfl | rfl
  · obtain ⟨h', e, y, ys⟩ := bl_set (addr' := .ptr b 0) (buf' := buf) x c x.ky x.ty (off := 0) (v := .ptr b 0) rfl (by omega) rfl (.inr rfl) gb
    have hne : CL T 46 [.ptr b 0] h = .ok (.ptr b 0) h := call_tab t.ne rfl (by simp)
    refine ⟨h', c37 t.step t.cc t.p1 x.ky.gd ?_ (by simp), y, ys⟩
    simp only [List.getElem?_cons_zero] at l0
    simp only [t37_0, W, WW, ↓reduceIte, reduceCtorEq, Nat.reduceAdd, Int.reduceEq, Int.reduceNe, Int.reduceLT, Int.reduceLE, Int.reduceAdd, Int.reduceSub, Int.reduceMul, Int.reduceNeg, Nat.reduceMul, l0, convTo c, hne, convFrom x.ty, e]
  · refine ⟨h, c37 t.step t.cc t.p1 x.ky.gd ?_ (by simp), x, fun _ _ => rfl⟩
    simp only [List.getElem?_cons_zero] at l0
    simp only [t37_0, W, WW, ↓reduceIte, reduceCtorEq, Nat.reduceAdd, Int.reduceEq, Int.reduceNe, Int.reduceLT, Int.reduceLE, Int.reduceAdd, Int.reduceSub, Int.reduceMul, Int.reduceNeg, Nat.reduceMul, l0, eqP_self c]
theorem writeString {T : Tab} (t : BT T) {h₀ h : H} {b : Nat} {l : Bs} (x : BL h₀ h b l) (m : Bs) (hroom : l.length + m.length ≤ 1099511627776) : ∃ h', CL T 16 [.ptr b 0, sv m] h = .ok (.tup [.int .i64 (m.length : Nat), .nilIface]) h' ∧ BL h₀ h' b (l ++ m) ∧ ∀ q fz cs, q ≠ b → Cs h q true fz cs → Cs h' q true fz cs := by
  obtain ⟨h1, e1, x1, s1⟩ := copyCheck t x
  obtain ⟨addr, buf, c, ha, gb⟩ := x1.cell
  obtain ⟨s', h2, e2, k2, gb2, same⟩ := gb.app x1.ky hroom
  have hne : ∀ k, buf ≠ .slice b 0 k 1 := by
    rintro k rfl
    rcases gb with ⟨_, hh⟩ | ⟨bb, n, hh, ⟨t2, q2, q3⟩, _⟩
    · cases hh
    · injection hh with hh _ _ _
      subst hh
      obtain ⟨t3, q4, _⟩ := c
      rw [q2] at q4; cases q4
  obtain ⟨g1, g2⟩ := same b x1.lt hne
  obtain ⟨h3, e3, x3, s3⟩ := bl_set (addr' := addr) (buf' := s') x1 (c.of_get g1) k2 (g2.trans x1.ty) (off := 1) (v := s') gb2.scalar (by omega) (by
    have : s'.cells = [s'] := by
      have hv := gb2.scalar
      cases s' <;> first | rfl | (simp [IV.scalar] at hv)
    rw [this]; rfl) ha gb2
  have l1 := c.ld0 1
  have keep : ∀ q fz cs, q ≠ b → Cs h q true fz cs → Cs h3 q true fz cs := by
    intro q fz cs hq cq
    have cq1 := cq.of_get (s1 q hq)
    have hq2 : ∀ k, buf ≠ .slice q 0 k 1 := by
      rintro k rfl
      rcases gb with ⟨_, hh⟩ | ⟨bb, n, hh, ⟨t2, q2, q3⟩, _⟩
      · cases hh
      · injection hh with hh _ _ _
        subst hh
        obtain ⟨t3, q4, _⟩ := cq1
        rw [q2] at q4; cases q4
    obtain ⟨g3, _⟩ := same q (cq1.lt x1.ky.gd.wf) hq2
    exact (cq1.of_get g3).of_get (s3 q hq)
  refine ⟨h3, c16 t.step t.ws t.p2 x.ky.gd ?_ (by simp), x3, keep⟩
  simp only [List.getElem?_cons_zero, List.getElem?_cons_succ] at l1
  simp only [t16_0, W, WW, ↓reduceIte, reduceCtorEq, Nat.reduceAdd, Int.reduceEq, Int.reduceNe, Int.reduceLT, Int.reduceLE, Int.reduceAdd, Int.reduceSub, Int.reduceMul, Int.reduceNeg, Nat.reduceMul, e1, l1, e2, e3]
theorem builderString {T : Tab} (t : BT T) {h₀ h : H} {b : Nat} {l : Bs} (x : BL h₀ h b l) (hl : l.length ≤ 1099511627776) : ∃ h', CL T 21 [.ptr b 0] h = .ok (sv l) h' ∧ Ky h₀ h' := by
  obtain ⟨addr, buf, c, ha, gb⟩ := x.cell
  obtain ⟨p, n, h', e1, e2, e3, k⟩ := gb.str x.ky hl
  have l1 := c.ld0 1
  refine ⟨h', c21 t.step t.st t.p3 x.ky.gd ?_ (by simp), k⟩
  simp only [List.getElem?_cons_zero, List.getElem?_cons_succ] at l1
  simp only [t21_0, W, WW, ↓reduceIte, reduceCtorEq, Nat.reduceAdd, Int.reduceEq, Int.reduceNe, Int.reduceLT, Int.reduceLE, Int.reduceAdd, Int.reduceSub, Int.reduceMul, Int.reduceNeg, Nat.reduceMul, l1, e1, e2, e3]
def okC (c : UInt8) : Bool := decide (33 ≤ c.toNat) && decide (c.toNat ≤ 126)
theorem decode_high (t : ByteArray) (i : Nat) (hi : i < t.size) (h : 128 ≤ (t[i]).toNat) : 128 ≤ (Utf8.decode t i).1 := by
  have hg : t.get! (i + 0) = t[i] := by
    show t.data[i + 0]! = t.data[i]
    rw [Nat.add_zero, getElem!_pos]
  unfold Utf8.decode
  simp only [hg]
  rw [if_neg (by omega)]
  repeat' split
  all_goals first
    | (show 128 ≤ Utf8.runeError; decide)
    | (rename_i hh; simp only [ge_iff_le, Bool.and_eq_true, decide_eq_true_eq] at hh; simp only; omega)
def bA (l : Bs) : ByteArray := ⟨l.toArray⟩
theorem bA_size (l : Bs) : (bA l).size = l.length := rfl
theorem odd32 {T : Tab} (t : OvStep T) (ho : T.ov 32 = none) (hp : T.pol 32 = true) {h : H} (g : Gd h) (r : Nat) : CL T 32 [.int .i32 (r : Nat)] h = .ok (.bool (!(decide (33 ≤ r) && decide (r ≤ 126)))) h := by
  refine c32 t ho hp g ?_ (by simp)
  by_cases h1 : ((r : Nat) : Int) < 33
  · have h2 : ¬ 33 ≤ r := by omega
    simp only [t32_0, W, WW, ↓reduceIte, reduceCtorEq, Nat.reduceAdd, Int.reduceEq, Int.reduceNe, Int.reduceLT, Int.reduceLE, Int.reduceAdd, Int.reduceSub, Int.reduceMul, Int.reduceNeg, Nat.reduceMul, h1, h2, decide_false, Bool.false_and, Bool.not_false]
  · have h2 : 33 ≤ r := by omega
    by_cases h3 : (126 : Int) < ((r : Nat) : Int)
    · have h4 : ¬ r ≤ 126 := by omega
      simp only [t32_0, W, WW, ↓reduceIte, reduceCtorEq, Nat.reduceAdd, Int.reduceEq, Int.reduceNe, Int.reduceLT, Int.reduceLE, Int.reduceAdd, Int.reduceSub, Int.reduceMul, Int.reduceNeg, Nat.reduceMul, h1, h2, h3, h4, decide_false, Bool.and_false, Bool.not_false]
    · have h4 : r ≤ 126 := by omega
      simp only [t32_0, W, WW, ↓reduceIte, reduceCtorEq, Nat.reduceAdd, Int.reduceEq, Int.reduceNe, Int.reduceLT, Int.reduceLE, Int.reduceAdd, Int.reduceSub, Int.reduceMul, Int.reduceNeg, Nat.reduceMul, h1, h2, h3, h4, decide_true, Bool.and_true, Bool.not_true]
theorem idx_loop (l : Bs) (b : Nat) : ∀ (n i : Nat) (h : H), i + n = l.length → Gd h → h.get b = some (.siter (pack (bA l)) i) →
    ∃ h' v, J54 tab1 1 [.func 32 [], .bool true, .ptr b 0] h = .ok (.int .i64 v) h' ∧ decide (0 ≤ v) = !((l.drop i).all okC) := by
  intro n
  induction n with
  | zero =>
    intro i h hi g hb
    have en : nextI h (.ptr b 0) true = some (.tup [.bool false], h) := by
      have : ¬ i < (pack (bA l)).len := by rw [pack_len, bA_size]; omega
      simp only [nextI, hb, this, if_false]
    refine ⟨h, -1, e54_1 ?_ (by simp), ?_⟩
    · simp only [t54_1, W, WW, ↓reduceIte, reduceCtorEq, Nat.reduceAdd, Int.reduceEq, Int.reduceNe, Int.reduceLT, Int.reduceLE, Int.reduceAdd, Int.reduceSub, Int.reduceMul, Int.reduceNeg, Nat.reduceMul, en]
    · rw [List.drop_of_length_le (by omega)]; rfl
  | succ n ih =>
    intro i h hi g hb
    have hil : i < l.length := by omega
    have hlen : i < (pack (bA l)).len := by rw [pack_len, bA_size]; omega
    have hat : (pack (bA l)).at i = (l[i]).toNat := pack_at (bA l) i hil
    have hd := List.drop_eq_getElem_cons hil
    have hlt := (l[i]).toNat_lt
    by_cases ha : (l[i]).toNat < 128
    · have en : nextI h (.ptr b 0) true = some (.tup [.bool true, .int .i64 (i : Nat), .int .i32 ((l[i]).toNat : Nat)], h.put b (.siter (pack (bA l)) (i + 1))) := by
        have ha' : (pack (bA l)).at i < 128 := by rw [hat]; exact ha
        simp only [nextI, hb, hlen, if_true, ha, hat]
      have k := (Ky.refl g).put (b := b) (o := .siter (pack (bA l)) (i + 1)) (q := .siter (pack (bA l)) i)
      have g4 : Gd (h.put b (.siter (pack (bA l)) (i + 1))) := by
        have := Step.put (o := .siter (pack (bA l)) (i + 1)) hb (fun fz size cs hh => by cases hh) g.wf
        exact ⟨this.1, this.2.pol.trans g.pol⟩
      have ec := odd32 (T := tab1) good1.step rfl rfl g4 (l[i]).toNat
      by_cases hok : okC l[i] = true
      · obtain ⟨h', v, e, hv⟩ := ih (i + 1) _ (by omega) g4 (by rw [H.get_put, if_pos rfl])
        refine ⟨h', v, e54_1 ?_ (by simp), ?_⟩
        · have hok' : (decide (33 ≤ (l[i]).toNat) && decide ((l[i]).toNat ≤ 126)) = true := hok
          rw [hok'] at ec
          simp only [t54_1, W, WW, ↓reduceIte, reduceCtorEq, Nat.reduceAdd, Int.reduceEq, Int.reduceNe, Int.reduceLT, Int.reduceLE, Int.reduceAdd, Int.reduceSub, Int.reduceMul, Int.reduceNeg, Nat.reduceMul, en, funK, List.append_nil, ec]
          exact e
        · have e2 : (okC l[i] && (l.drop (i + 1)).all okC) = (l.drop (i + 1)).all okC := by rw [hok, Bool.true_and]
          rw [hv, hd, List.all_cons]
          exact (congrArg (!·) e2).symm
      · have hok : okC l[i] = false := by simpa using hok
        refine ⟨h.put b (.siter (pack (bA l)) (i + 1)), (i : Nat), e54_1 ?_ (by simp), ?_⟩
        · have hok' : (decide (33 ≤ (l[i]).toNat) && decide ((l[i]).toNat ≤ 126)) = false := hok
          rw [hok'] at ec
          simp only [t54_1, W, WW, ↓reduceIte, reduceCtorEq, Nat.reduceAdd, Int.reduceEq, Int.reduceNe, Int.reduceLT, Int.reduceLE, Int.reduceAdd, Int.reduceSub, Int.reduceMul, Int.reduceNeg, Nat.reduceMul, en, funK, List.append_nil, ec]
          rfl
        · have e2 : (okC l[i] && (l.drop (i + 1)).all okC) = false := by rw [hok, Bool.false_and]
          rw [hd, List.all_cons]
          exact (decide_eq_true (by omega)).trans (congrArg (!·) e2).symm
    · have hdec := decode_high (bA l) i hil (by show 128 ≤ (l[i]).toNat; omega)
      have en : nextI h (.ptr b 0) true = some (.tup [.bool true, .int .i64 (i : Nat), .int .i32 ((Utf8.decode (bA l) i).1 : Nat)], h.put b (.siter (pack (bA l)) (i + (Utf8.decode (bA l) i).2))) := by
        have ha' : ¬ (pack (bA l)).at i < 128 := by rw [hat]; exact ha
        simp only [nextI, hb, hlen, if_true, ha, hat, if_false, pack_bytes]
      have g4 : Gd (h.put b (.siter (pack (bA l)) (i + (Utf8.decode (bA l) i).2))) := by
        have := Step.put (o := .siter (pack (bA l)) (i + (Utf8.decode (bA l) i).2)) hb (fun fz size cs hh => by cases hh) g.wf
        exact ⟨this.1, this.2.pol.trans g.pol⟩
      generalize h.put b (.siter (pack (bA l)) (i + (Utf8.decode (bA l) i).2)) = h4 at g4 en
      generalize (Utf8.decode (bA l) i).1 = rr at hdec en
      have ec := odd32 (T := tab1) good1.step rfl rfl g4 rr
      have hok' : (decide (33 ≤ rr) && decide (rr ≤ 126)) = false := by
        have : ¬ rr ≤ 126 := by omega
        simp [this]
      rw [hok'] at ec
      have hok : okC l[i] = false := by
        unfold okC
        have : ¬ (l[i]).toNat ≤ 126 := by omega
        simp [this]
      refine ⟨h4, (i : Nat), e54_1 ?_ (by simp), ?_⟩
      · simp only [t54_1, W, WW, ↓reduceIte, reduceCtorEq, Nat.reduceAdd, Int.reduceEq, Int.reduceNe, Int.reduceLT, Int.reduceLE, Int.reduceAdd, Int.reduceSub, Int.reduceMul, Int.reduceNeg, Nat.reduceMul, en, funK, List.append_nil, ec]
        rfl
      · have e2 : (okC l[i] && (l.drop (i + 1)).all okC) = false := by rw [hok, Bool.false_and]
        rw [hd, List.all_cons]
        exact (decide_eq_true (by omega)).trans (congrArg (!·) e2).symm
theorem containsFunc (l : Bs) : ∃ h', CL tab1 33 [sv l, .func 32 []] H0 = .ok (.bool (!(l.all okC))) h' := by
  have er : rngS H0 (sv l) = some (.ptr H0.next 0, H0.push (.siter (pack (bA l)) 0)) := rfl
  have g1 : Gd (H0.push (.siter (pack (bA l)) 0)) := ((Ky.refl gd0).push _).gd
  obtain ⟨h', v, e, hv⟩ := idx_loop l H0.next l.length 0 _ (by omega) g1 (by rw [H.get_push]; simp)
  rw [List.drop_zero] at hv
  refine ⟨h', c33 good1.step rfl rfl gd0 ?_ (by simp)⟩
  have e42 : CL tab1 42 [sv l, .func 32 []] H0 = .ok (.int .i64 v) h' := by
    refine c42 good1.step rfl rfl gd0 ?_ (by simp)
    have e54 : CL tab1 54 [sv l, .func 32 [], .bool true] H0 = .ok (.int .i64 v) h' := by
      refine c54 good1.step rfl rfl gd0 ?_ (by simp)
      simp only [t54_0, er, obind2]
      exact e
    simp only [t42_0, e54, W, WW, ↓reduceIte, reduceCtorEq, Nat.reduceAdd, Int.reduceEq, Int.reduceNe, Int.reduceLT, Int.reduceLE, Int.reduceAdd, Int.reduceSub, Int.reduceMul, Int.reduceNeg, Nat.reduceMul]
  rw [← hv]
  simp only [t33_0, e42, W, WW, ↓reduceIte, reduceCtorEq, Nat.reduceAdd, Int.reduceEq, Int.reduceNe, Int.reduceLT, Int.reduceLE, Int.reduceAdd, Int.reduceSub, Int.reduceMul, Int.reduceNeg, Nat.reduceMul]
def chr (n : Nat) : UInt8 := UInt8.ofNat (33 + n)
theorem chr_nat (n : Nat) (h : n < 94) : (chr n).toNat = 33 + n := by
  exact UInt8.toNat_ofNat_of_lt' (by show 33 + n < 256; omega)
def codeF (n : Nat) : Bs := if n < 94 then [chr n] else [chr (n % 94), chr (n / 94 - 1)]
theorem rem94 (k : Nat) (hk : k < 9223372036854775808) : binN .rem (.int .i64 (k : Nat)) (.int .i64 94) = some (.int .i64 ((k % 94 : Nat) : Int)) := by rw [binN_rem _ _ _ (by omega)]; congr 2
theorem quo94 (k : Nat) (hk : k < 9223372036854775808) : binN .quo (.int .i64 (k : Nat)) (.int .i64 94) = some (.int .i64 ((k / 94 : Nat) : Int)) := by
  rw [binN_quo _ _ _ (by omega)]
  have : Int.tdiv ((k : Nat) : Int) 94 = ((k / 94 : Nat) : Int) := rfl
  rw [this, wr_i64 (by omega) (by omega)]
theorem wr33 (n : Nat) (h : n < 94) : wr .i64 (33 + ((n : Nat) : Int)) = ((33 + n : Nat) : Int) := by rw [wr_i64 (by omega) (by omega)]; omega
theorem w8 {n : Int} (h1 : 0 ≤ n) (h2 : n ≤ 255) : wr .u8 n = n := wr_u8 h1 h2
theorem cv33 (n : Nat) (h : n < 94) : wr .u8 ((33 + n : Nat) : Int) = (((chr n).toNat : Nat) : Int) := by rw [chr_nat n h, wr_u8 (by omega) (by omega)]
theorem quo_sub (n : Nat) (h : n < 9223372036854775808) : wr .i64 (((n / 94 : Nat) : Int) - 1) = ((n / 94 : Nat) : Int) - 1 := wr_i64 (by omega) (by omega)
theorem code_step {T : Tab} {h : H} (g : Gd h) (n : Nat) (hn : n < 9223372036854775808) {l : Bs} {s : IV} (gl : GL h 1 (bys l) s) (hl : l.length ≤ 1000) :
    ∃ s' h', Gd h' ∧ GL h' 1 (bys (l ++ [chr (n % 94)])) s' ∧ ∀ r, r ≠ .fail → J18 T 1 [.int .i64 (((n / 94 : Nat) : Int) - 1), s'] h' = r → J18 T 1 [.int .i64 (n : Nat), s] h = r := by
  obtain ⟨h1, e1, k1, c1⟩ := lit_bys g [chr (n % 94)]
  obtain ⟨s', h2, e2, x2, gl2⟩ := appB_row k1.gd (e := 5) (gl.ky g.wf k1) c1 (List.cons_ne_nil _ _) (by simp; omega)
  refine ⟨s', h2, x2.gd, gl2, fun r hr e => e18_1 ?_ hr⟩
  have hge : (0 : Int) ≤ ((n : Nat) : Int) := by omega
  have hm : n % 94 < 94 := Nat.mod_lt _ (by decide)
  have e1' : bslK true 1 [.int .u8 0] 1 [(0, .int .u8 ((chr (n % 94)).toNat : Nat))] h = some (.slice h.next 0 1 1, h1) := e1
  simp only [t18_1, W, WW, ↓reduceIte, reduceCtorEq, Nat.reduceAdd, Int.reduceEq, Int.reduceNe, Int.reduceLT, Int.reduceLE, Int.reduceAdd, Int.reduceSub, Int.reduceMul, Int.reduceNeg, Nat.reduceMul, hge, rem94 n hn, wr33 _ hm, cv33 _ hm, e1', quo94 n hn, quo_sub n hn]
  have e2' : appB 5 1 1 h1 s (.slice h.next 0 1 1) = some (s', h2) := e2
  simp only [e2', obind2]
  exact e
theorem code_end {T : Tab} {h : H} {l : Bs} {s : IV} (gl : GL h 1 (bys l) s) : J18 T 1 [.int .i64 (-1), s] h = .ok (sv l) h := by
  refine e18_1 ?_ (by simp)
  have hge : ¬ (0 : Int) ≤ -1 := by omega
  simp only [t18_1, W, WW, ↓reduceIte, reduceCtorEq, Nat.reduceAdd, Int.reduceEq, Int.reduceNe, Int.reduceLT, Int.reduceLE, Int.reduceAdd, Int.reduceSub, Int.reduceMul, Int.reduceNeg, Nat.reduceMul, hge, gl.text]
theorem code_end' {T : Tab} {h : H} {n : Nat} (hn : n = 0) {l : Bs} {s : IV} (gl : GL h 1 (bys l) s) : J18 T 1 [.int .i64 (((n : Nat) : Int) - 1), s] h = .ok (sv l) h := by
  subst hn
  exact code_end gl
theorem code18 (n : Nat) (hn : n < 8836) : ∃ h', CL tab0 18 [.int .i64 (n : Nat)] H0 = .ok (sv (codeF n)) h' := by
  obtain ⟨s1, h1, g1, gl1, r1⟩ := code_step (T := tab0) gd0 n (by omega) (l := []) (s := .nilSlice) (.inl ⟨rfl, rfl⟩) (by simp)
  rw [List.nil_append] at gl1
  unfold codeF
  by_cases h94 : n < 94
  · rw [if_pos h94]
    rw [Nat.mod_eq_of_lt h94] at gl1
    refine ⟨h1, c18 good0.step rfl rfl gd0 ?_ (by simp)⟩
    simp only [t18_0]
    exact r1 _ (by simp) (code_end' (by omega) gl1)
  · rw [if_neg h94]
    obtain ⟨s2, h2, g2, gl2, r2⟩ := code_step (T := tab0) g1 (n / 94 - 1) (by omega) gl1 (by simp)
    refine ⟨h2, c18 good0.step rfl rfl gd0 ?_ (by simp)⟩
    simp only [t18_0]
    refine r1 _ (by simp) ?_
    rw [show ((n / 94 : Nat) : Int) - 1 = ((n / 94 - 1 : Nat) : Int) by omega]
    have hm : (n / 94 - 1) % 94 = n / 94 - 1 := Nat.mod_eq_of_lt (by omega)
    rw [hm] at gl2
    exact r2 _ (by simp) (code_end' (by omega) gl2)
def dF : Dec Nat where
  dec v := match v with
    | .func f [] => some f
    | _ => none
  enc f := .func f []
  law v a e := by
    split at e
    · injection e with e; subst e; rfl
    · cases e
  ret a := rfl
  fl a := rfl
def contV (l : Bs) (f : Nat) : Option IV := if f = 32 then some (.bool (!(l.all okC))) else none
theorem tCont : PureT Tryd.prog (CL tab1) 33 (fn2 dS dF contV) := pure2 Tryd.func33 rfl fun l f v e => by
  unfold contV at e
  split at e
  · rename_i hc
    subst hc
    injection e with e; subst e
    exact ⟨rfl, containsFunc l⟩
  · cases e
def codeV (n : Int) : Option IV := if 0 ≤ n ∧ n < 8836 then some (sv (codeF n.toNat)) else none
theorem tCode : PureT Tryd.prog (CL tab0) 18 (fn1 dI codeV) := pure1 Tryd.func18 rfl fun n v e => by
  unfold codeV at e
  split at e
  · rename_i hc
    injection e with e; subst e
    obtain ⟨k, rfl⟩ := Int.eq_ofNat_of_zero_le hc.1
    exact ⟨rfl, code18 k (by omega)⟩
  · cases e
noncomputable def tab2 : Tab := ((tab1.add 34 (pureF (fn1 dS checkF))).add 33 (pureF (fn2 dS dF contV))).add 18 (pureF (fn1 dI codeV))
theorem good2 : GoodT Tryd.prog EP tab2 := good0.also envK mixed noNum (good1.also envK mixed noNum (good1.also envK mixed noNum good1 tCheck) tCont) tCode
structure Chg where
  time : Int
  net : Int
  val : Bs
structure Wv where
  names : List Bs
  wides : List Int
  first : List Bs
  list : List Chg
def RS (b : Bs) (c : List IV) : Prop := c = [sv b]
def RI (n : Int) (c : List IV) : Prop := c = [.int .i64 n]
def chgC (c : Chg) : List IV := [.int .i64 c.time, .int .i64 c.net, sv c.val]
def RC (x : Chg) (c : List IV) : Prop := c = chgC x
def LW (h : H) (l : List Int) (v : IV) : Prop := LR h 1 RI l v ∨ ∃ b fz, v = .slice b 0 l.length 1 ∧ Cs h b true fz (l.map fun n => .int .i64 n)
structure WR (h : H) (n wd f l : IV) (w : Wv) : Prop where
  names : LR h 1 RS w.names n
  wides : LW h w.wides wd
  first : LR h 1 RS w.first f
  list : LR h 3 RC w.list l
theorem Ci.ky {h h' : H} {b : Nat} {cs : List IV} (c : Ci h b cs) (w : WF h) (x : Ky h h') : Ci h' b cs := by
  obtain ⟨fz, c⟩ := c; exact ⟨fz, c.ky w x⟩
theorem LR.ky {α : Type} {h h' : H} {es : Nat} {R : α → List IV → Prop} {l : List α} {v : IV} (r : LR h es R l v) (w : WF h) (x : Ky h h') : LR h' es R l v := by
  rcases r with r | ⟨b, off, cs, h1, h2, h3, h4⟩
  · exact .inl r
  · exact .inr ⟨b, off, cs, h1, Ci.ky h2 w x, h3, h4⟩
theorem LW.ky {h h' : H} {l : List Int} {v : IV} (r : LW h l v) (w : WF h) (x : Ky h h') : LW h' l v := by
  rcases r with r | ⟨b, fz, h1, c⟩
  · exact .inl (LR.ky r w x)
  · exact .inr ⟨b, fz, h1, c.ky w x⟩
theorem LW.len {h : H} {l : List Int} {v : IV} (r : LW h l v) : lenS v = some (.int .i64 l.length) := by
  rcases r with r | ⟨b, fz, rfl, c⟩
  · exact r.len
  · rfl
theorem LW.scalar {h : H} {l : List Int} {v : IV} (r : LW h l v) : v.scalar = true := by
  rcases r with r | ⟨b, fz, rfl, c⟩
  · exact r.scalar
  · rfl
theorem WR.ky {h h' : H} {n wd f l : IV} {w : Wv} (r : WR h n wd f l w) (x : WF h) (y : Ky h h') : WR h' n wd f l w := ⟨LR.ky r.names x y, LW.ky r.wides x y, LR.ky r.first x y, LR.ky r.list x y⟩
theorem WR.scalar {h : H} {n wd f l : IV} {w : Wv} (r : WR h n wd f l w) : allScalar [n, wd, f, l] = true := by
  simp only [allScalar, r.names.scalar, r.wides.scalar, r.first.scalar, r.list.scalar, Bool.and_self]
theorem LR.str {h : H} {l : List Bs} {v : IV} (r : LR h 1 RS l v) {i : Nat} {x : Bs} (hx : l[i]? = some x) : ∃ p, ixS 1 v (.int .i64 (i : Nat)) = some p ∧ ld0 h p = some (sv x) := by
  obtain ⟨p, c, e1, e2, e3, e4, e5, b, off, rfl⟩ := r.ix hx
  refine ⟨_, e1 .i64, ?_⟩
  have := e5 0 (by omega) b off rfl
  rw [Nat.add_zero] at this
  rw [this, e3]; rfl
theorem LR.int {h : H} {l : List Int} {v : IV} (r : LR h 1 RI l v) {i : Nat} {x : Int} (hx : l[i]? = some x) : ∃ p, ixS 1 v (.int .i64 (i : Nat)) = some p ∧ ld0 h p = some (.int .i64 x) := by
  obtain ⟨p, c, e1, e2, e3, e4, e5, b, off, rfl⟩ := r.ix hx
  refine ⟨_, e1 .i64, ?_⟩
  have := e5 0 (by omega) b off rfl
  rw [Nat.add_zero] at this
  rw [this, e3]; rfl
theorem LW.int {h : H} {l : List Int} {v : IV} (r : LW h l v) {i : Nat} {x : Int} (hx : l[i]? = some x) : ∃ p, ixS 1 v (.int .i64 (i : Nat)) = some p ∧ ld0 h p = some (.int .i64 x) := by
  rcases r with r | ⟨b, fz, rfl, c⟩
  · exact LR.int r hx
  · refine ⟨.ptr b i, ixS_byte (List.getElem?_eq_some_iff.1 hx).1, ?_⟩
    rw [c.ld0, List.getElem?_map, hx]; rfl
theorem LR.chg {h : H} {l : List Chg} {v : IV} (r : LR h 3 RC l v) {i : Nat} {x : Chg} (hx : l[i]? = some x) : ∃ b off, ixS 3 v (.int .i64 (i : Nat)) = some (.ptr b off) ∧ ldA 3 h (.ptr b off) = some (.agg (chgC x)) ∧ ld0 h (.ptr b off) = some (.int .i64 x.time) := by
  obtain ⟨p, c, e1, e2, e3, e4, e5, b, off, rfl⟩ := r.ix hx
  refine ⟨b, off, e1 .i64, by rw [e2, e3], ?_⟩
  have := e5 0 (by omega) b off rfl
  rw [Nat.add_zero] at this
  rw [this, e3]; rfl
theorem Ch.texts : ∀ {l : List Bs} {X : List IV}, Ch RS 1 l X → X = l.map sv
  | [], X, h => h
  | x :: l, X, ⟨a, d, h1, h2, h3, h4⟩ => by
    subst h1
    rw [show a = [sv x] from h3, Ch.texts h4]; rfl
theorem Ch.ints : ∀ {l : List Int} {X : List IV}, Ch RI 1 l X → X = l.map fun n => .int .i64 n
  | [], X, h => h
  | x :: l, X, ⟨a, d, h1, h2, h3, h4⟩ => by
    subst h1
    rw [show a = [.int .i64 x] from h3, Ch.ints h4]; rfl
theorem allScalar_sv : ∀ l : List Bs, allScalar (l.map sv) = true
  | [] => rfl
  | x :: l => by simp only [List.map_cons, allScalar, allScalar_sv l]; rfl
theorem clone {Y : Tab} (t : OvStep Y) (ho : Y.ov 35 = none) (hp : Y.pol 35 = false) {h : H} (g : Gd h) {l : List Bs} {v : IV} (r : LR h 1 RS l v) (hl : l.length ≤ 65536) : ∃ v' h', CL Y 35 [v] h = .ok v' h' ∧ Ky h h' ∧
    (l ≠ [] → ∃ fz, v' = .slice (h.next + 1) 0 l.length 1 ∧ Cs h' (h.next + 1) true fz (l.map sv)) := by
  have hpol : (h.setPol false).setPol true = h := by
    show H.mk h.next h.objs true h.tys = h
    rw [← g.pol]
  have nolow : ∀ {o : I.Obj} {b : Nat}, b < h.next → ((h.setPol false).push o).get b = h.get b := fun hb => by
    rw [H.get_push, if_neg (by show ¬ _ = h.next; omega)]; rfl
  have e1 : bslK false 1 [(.str ⟨0, 0⟩)] 0 [] (h.setPol false) = some (.slice h.next 0 0 1, (h.setPol false).push (.cells true false 0 (T.arr []))) :=
    bslK_all (w := false) (es := 1) (z := [(.str ⟨0, 0⟩)]) (vs := []) rfl (by simp) rfl (h.setPol false)
  rcases r with ⟨rfl, rfl | ⟨b, off, rfl⟩⟩ | ⟨b, off, cs, rfl, ci, h3, h4⟩
  · have e : CL Y 35 [.nilSlice] h = (CRes.ok .nilSlice (h.setPol false)).setPol true := c35 t ho hp g (by simp only [t35_0, W, WW, ↓reduceIte, reduceCtorEq, Nat.reduceAdd, Int.reduceEq, Int.reduceNe, Int.reduceLT, Int.reduceLE, Int.reduceAdd, Int.reduceSub, Int.reduceMul, Int.reduceNeg, Nat.reduceMul]) (by simp)
    rw [CRes.setPol, hpol] at e
    exact ⟨_, h, e, .refl g, fun h => absurd rfl h⟩
  · have e2 : appK 1 16 ((h.setPol false).push (.cells true false 0 (T.arr []))) (.slice h.next 0 0 1) (.slice b off 0 1) = some (.slice h.next 0 0 1, (h.setPol false).push (.cells true false 0 (T.arr []))) := by
      simp only [appK, sourceI, if_true, allScalar, Bool.true_eq_false, if_false, ne_eq, not_true_eq_false]
    have e := c35 t ho hp g (a0 := .slice b off 0 1) (r := .ok (.slice h.next 0 0 1) ((h.setPol false).push (.cells true false 0 (T.arr [])))) (by simp only [t35_0, W, WW, ↓reduceIte, reduceCtorEq, Nat.reduceAdd, Int.reduceEq, Int.reduceNe, Int.reduceLT, Int.reduceLE, Int.reduceAdd, Int.reduceSub, Int.reduceMul, Int.reduceNeg, Nat.reduceMul, e1, e2]) (by simp)
    rw [CRes.setPol] at e
    refine ⟨_, _, e, ⟨(call_ok t e g).1, ?_, fun b hb => nolow hb, fun b hb => rfl⟩, fun h => absurd rfl h⟩
    show h.next ≤ h.next + 1; omega
  · have hX := Ch.texts h4
    have hbn : b < h.next := by
      obtain ⟨fz, t, q1, q2⟩ := ci
      rcases Nat.lt_or_ge b h.next with hh | hh
      · exact hh
      · rw [g.wf b hh] at q1; cases q1
    by_cases hz : l.length = 0
    · have hl0 : l = [] := List.eq_nil_of_length_eq_zero hz
      subst hl0
      have e2 : appK 1 16 ((h.setPol false).push (.cells true false 0 (T.arr []))) (.slice h.next 0 0 1) (.slice b off ([] : List Bs).length 1) = some (.slice h.next 0 0 1, (h.setPol false).push (.cells true false 0 (T.arr []))) := by
        simp only [appK, sourceI, List.length_nil, if_true, allScalar, Bool.true_eq_false, if_false, ne_eq, not_true_eq_false]
      have e := c35 t ho hp g (a0 := .slice b off ([] : List Bs).length 1) (r := .ok (.slice h.next 0 0 1) ((h.setPol false).push (.cells true false 0 (T.arr [])))) (by simp only [t35_0, W, WW, ↓reduceIte, reduceCtorEq, Nat.reduceAdd, Int.reduceEq, Int.reduceNe, Int.reduceLT, Int.reduceLE, Int.reduceAdd, Int.reduceSub, Int.reduceMul, Int.reduceNeg, Nat.reduceMul, e1, e2]) (by simp)
      rw [CRes.setPol] at e
      refine ⟨_, _, e, ⟨(call_ok t e g).1, ?_, fun b hb => nolow hb, fun b hb => rfl⟩, fun h => absurd rfl h⟩
      show h.next ≤ h.next + 1; omega
    · have ci2 : Ci ((h.setPol false).push (.cells true false 0 (T.arr []))) b cs := by
        obtain ⟨fz, t, q1, q2⟩ := ci
        exact ⟨fz, t, (nolow hbn).trans q1, q2⟩
      have es := ci2.source (n := l.length) (es := 1) h3 hz
      rw [hX] at es
      have hlen : (l.map sv).length = l.length := List.length_map _
      have hget : ((h.setPol false).push (.cells true false 0 (T.arr []))).get h.next = some (.cells true false 0 (T.arr [])) := by
        rw [H.get_push]; exact if_pos rfl
      have e2 : appK 1 16 ((h.setPol false).push (.cells true false 0 (T.arr []))) (.slice h.next 0 0 1) (.slice b off l.length 1) = some (.slice (h.next + 1) 0 (0 + l.length) 1, (((h.setPol false).push (.cells true false 0 (T.arr []))).drop h.next).push (.cells true false ((0 + l.length) * 1) (setList (T.arr []) (0 * 1) (l.map sv)))) := by
        have hc : True ∧ 0 * 1 ≤ 0 ∧ (2 * (0 + l.length) + 2000) * 16 ≤ 2 ^ 46 := ⟨trivial, by omega, by omega⟩
        simp only [appK, es, allScalar_sv, Bool.true_eq_false, if_false, ne_eq, not_true_eq_false, if_neg hz, hget]
        rw [if_pos hc]
        rfl
      have e := c35 t ho hp g (a0 := .slice b off l.length 1) (r := .ok (.slice (h.next + 1) 0 (0 + l.length) 1) ((((h.setPol false).push (.cells true false 0 (T.arr []))).drop h.next).push (.cells true false ((0 + l.length) * 1) (setList (T.arr []) (0 * 1) (l.map sv))))) (by simp only [t35_0, W, WW, ↓reduceIte, reduceCtorEq, Nat.reduceAdd, Int.reduceEq, Int.reduceNe, Int.reduceLT, Int.reduceLE, Int.reduceAdd, Int.reduceSub, Int.reduceMul, Int.reduceNeg, Nat.reduceMul, e1, e2]) (by simp)
      rw [CRes.setPol] at e
      have hlow : ∀ {o : I.Obj} {b : Nat}, b < h.next → ((((h.setPol false).push (.cells true false 0 (T.arr []))).drop h.next).push o).get b = h.get b := fun {o b} hb => by
        rw [H.get_push, if_neg (by show ¬ b = h.next + 1; omega), H.get_drop, if_neg (by omega), nolow hb]
      refine ⟨_, _, e, ⟨(call_ok t e g).1, ?_, fun b hb => hlow hb, fun b hb => rfl⟩, fun _ => ⟨false, by rw [Nat.zero_add], ?_⟩⟩
      · show h.next ≤ h.next + 1 + 1; omega
      · refine ⟨setList (T.arr []) (0 * 1) (l.map sv), ?_, fun i hi => ?_⟩
        · show H.get ((((h.setPol false).push (.cells true false 0 (T.arr []))).drop h.next).push (.cells true false ((0 + l.length) * 1) (setList (T.arr []) (0 * 1) (l.map sv)))) (h.next + 1) = _
          rw [H.get_push, hlen, Nat.zero_add, Nat.mul_one]
          exact if_pos rfl
        · rw [get_setList, if_pos (by omega)]
          rw [Nat.zero_mul, Nat.sub_zero]
def dC : Dec Chg where
  dec v := match v with
    | .agg [.int .i64 t, .int .i64 n, x] => (dS.dec x).map fun s => ⟨t, n, s⟩
    | _ => none
  enc c := .agg (chgC c)
  law v a e := by
    split at e
    · rename_i t n x
      cases hx : dS.dec x with
      | none => rw [hx] at e; cases e
      | some s =>
        rw [hx] at e
        injection e with e; subst e
        have := dS.law x s hx
        subst this
        rfl
    · cases e
  ret a := by
    show (dS.dec (dS.enc a.val)).map _ = _
    rw [dS.ret]; rfl
  fl a := rfl
def cmpF (a b : Int) : Int := if a < b then -1 else if b < a then 1 else 0
theorem compare0 {h : H} (g : Gd h) (a b : Int) : CL tab0 45 [.int .i64 a, .int .i64 b] h = .ok (.int .i64 (cmpF a b)) h := by
  have nan : ∀ x : Int, CL tab0 62 [.int .i64 x] h = .ok (.bool false) h := fun x =>
    c62 good0.step rfl rfl g (by simp only [t62_0, W, WW, ↓reduceIte, reduceCtorEq, Nat.reduceAdd, Int.reduceEq, Int.reduceNe, Int.reduceLT, Int.reduceLE, Int.reduceAdd, Int.reduceSub, Int.reduceMul, Int.reduceNeg, Nat.reduceMul, decide_false, not_true_eq_false]) (by simp)
  refine c45 good0.step rfl rfl g ?_ (by simp)
  unfold cmpF
  by_cases h1 : a < b
  · simp only [t45_0, W, WW, ↓reduceIte, reduceCtorEq, Nat.reduceAdd, Int.reduceEq, Int.reduceNe, Int.reduceLT, Int.reduceLE, Int.reduceAdd, Int.reduceSub, Int.reduceMul, Int.reduceNeg, Nat.reduceMul, nan, h1]
  · by_cases h2 : b < a
    · simp only [t45_0, W, WW, ↓reduceIte, reduceCtorEq, Nat.reduceAdd, Int.reduceEq, Int.reduceNe, Int.reduceLT, Int.reduceLE, Int.reduceAdd, Int.reduceSub, Int.reduceMul, Int.reduceNeg, Nat.reduceMul, nan, h1, h2]
    · simp only [t45_0, W, WW, ↓reduceIte, reduceCtorEq, Nat.reduceAdd, Int.reduceEq, Int.reduceNe, Int.reduceLT, Int.reduceLE, Int.reduceAdd, Int.reduceSub, Int.reduceMul, Int.reduceNeg, Nat.reduceMul, nan, h1, h2]
def aheadI (a b : Chg) : Int := if cmpF a.time b.time ≠ 0 then cmpF a.time b.time else cmpF a.net b.net
def row2 (x y : Int) : List IV := [.int .i64 x, .int .i64 y]
theorem or0 {h : H} (g : Gd h) {b : Nat} {rw fz : Bool} (x y : Int) (c : Cs h b rw fz (row2 x y)) : CL tab0 44 [.slice b 0 2 1] h = .ok (.int .i64 (if x ≠ 0 then x else y)) h := by
  refine c44 good0.step rfl rfl g ?_ (by split <;> simp)
  simp only [t44_0, W, WW, ↓reduceIte, reduceCtorEq, Nat.reduceAdd, Int.reduceEq, Int.reduceNe, Int.reduceLT, Int.reduceLE, Int.reduceAdd, Int.reduceSub, Int.reduceMul, Int.reduceNeg, Nat.reduceMul, lenS]
  have x0 : ixS 1 (.slice b 0 2 1) (.int .i64 0) = some (.ptr b 0) := ixS_at (i := 0) (by omega)
  have x1 : ixS 1 (.slice b 0 2 1) (.int .i64 1) = some (.ptr b 1) := ixS_at (i := 1) (by omega)
  have l0 : I.ld0 h (.ptr b 0) = some (.int .i64 x) := by rw [c.ld0]; rfl
  have l1 : I.ld0 h (.ptr b 1) = some (.int .i64 y) := by rw [c.ld0]; rfl
  refine e44_1 ?_ (by split <;> simp)
  have h02 : (0 : Int) < 2 := by decide
  have h12 : (1 : Int) < 2 := by decide
  have w1 : wr .i64 1 = 1 := rfl
  have w2 : wr .i64 2 = 2 := rfl
  have a1 : (0 : Int) + 1 = 1 := rfl
  have a2 : (1 : Int) + 1 = 2 := rfl
  by_cases hx : x = 0
  · subst hx
    simp only [t44_1, W, WW, ↓reduceIte, reduceCtorEq, Nat.reduceAdd, Int.reduceEq, Int.reduceNe, Int.reduceLT, Int.reduceLE, Int.reduceAdd, Int.reduceSub, Int.reduceMul, Int.reduceNeg, Nat.reduceMul, Int.ofNat_eq_natCast, Int.cast_ofNat_Int, h02, x0, l0, a1, w1, ne_eq, not_true_eq_false, if_false]
    refine e44_1 ?_ (by simp)
    by_cases hy : y = 0
    · subst hy
      simp only [t44_1, W, WW, ↓reduceIte, reduceCtorEq, Nat.reduceAdd, Int.reduceEq, Int.reduceNe, Int.reduceLT, Int.reduceLE, Int.reduceAdd, Int.reduceSub, Int.reduceMul, Int.reduceNeg, Nat.reduceMul, h12, x1, l1, a2, w2]
      refine e44_1 ?_ (by simp)
      simp only [t44_1, W, WW, ↓reduceIte, reduceCtorEq, Nat.reduceAdd, Int.reduceEq, Int.reduceNe, Int.reduceLT, Int.reduceLE, Int.reduceAdd, Int.reduceSub, Int.reduceMul, Int.reduceNeg, Nat.reduceMul, Int.lt_irrefl]
    · simp only [t44_1, W, WW, ↓reduceIte, reduceCtorEq, Nat.reduceAdd, Int.reduceEq, Int.reduceNe, Int.reduceLT, Int.reduceLE, Int.reduceAdd, Int.reduceSub, Int.reduceMul, Int.reduceNeg, Nat.reduceMul, h12, x1, l1, eq_false hy]
  · rw [if_pos hx]
    simp only [t44_1, W, WW, ↓reduceIte, reduceCtorEq, Nat.reduceAdd, Int.reduceEq, Int.reduceNe, Int.reduceLT, Int.reduceLE, Int.reduceAdd, Int.reduceSub, Int.reduceMul, Int.reduceNeg, Nat.reduceMul, Int.ofNat_eq_natCast, Int.cast_ofNat_Int, h02, x0, l0, eq_false hx]
theorem ahead0 {h : H} (g : Gd h) (a b : Chg) : ∃ h', CL tab0 36 [.agg (chgC a), .agg (chgC b)] h = .ok (.int .i64 (aheadI a b)) h' := by
  obtain ⟨h1, e1, k1, c1, _, _⟩ := (Ky.refl g).newI (cs := chgC a) rfl
  obtain ⟨h2, e2, k2, c2, _, _⟩ := (Ky.refl k1.gd).newI (cs := chgC b) rfl
  have c1' := c1.ky k1.gd.wf k2
  obtain ⟨h3, e3, k3, c3⟩ : ∃ h', bslK true 1 [(.int .i64 0)] 2 [(0, .int .i64 (cmpF a.time b.time)), (1, .int .i64 (cmpF a.net b.net))] h2 = some (.slice h2.next 0 2 1, h') ∧ Ky h2 h' ∧ Cs h' h2.next true false (row2 (cmpF a.time b.time) (cmpF a.net b.net)) := by
    have e := bslK_all (w := true) (es := 1) (z := [.int .i64 0]) (vs := row2 (cmpF a.time b.time) (cmpF a.net b.net)) rfl (fun v hv => by
      simp only [row2, List.mem_cons, List.not_mem_nil, or_false] at hv
      rcases hv with rfl | rfl <;> rfl) rfl h2
    rw [Bool.not_true, Bool.and_false, Bool.not_false] at e
    exact ⟨_, e, (Ky.refl k2.gd).push _, Cs.push (h := h2) (rw := true) (fz := false) (row2 (cmpF a.time b.time) (cmpF a.net b.net))⟩
  have ec := compare0 k2.gd a.time b.time
  have ec2 := compare0 k2.gd a.net b.net
  have eo := or0 k3.gd _ _ c3
  have q0 : I.ld0 h2 (.ptr h.next 0) = some (.int .i64 a.time) := by rw [c1'.ld0]; rfl
  have q1 : I.ld0 h2 (.ptr h.next 1) = some (.int .i64 a.net) := by rw [c1'.ld0]; rfl
  have r0 : I.ld0 h2 (.ptr h1.next 0) = some (.int .i64 b.time) := by rw [c2.ld0]; rfl
  have r1 : I.ld0 h2 (.ptr h1.next 1) = some (.int .i64 b.net) := by rw [c2.ld0]; rfl
  refine ⟨h3, c36 good0.step rfl rfl g ?_ (by simp)⟩
  simp only [t36_0, IV.cells, e1, e2, W, WW, ↓reduceIte, reduceCtorEq, Nat.reduceAdd, Int.reduceEq, Int.reduceNe, Int.reduceLT, Int.reduceLE, Int.reduceAdd, Int.reduceSub, Int.reduceMul, Int.reduceNeg, Nat.reduceMul, q0, q1, r0, r1, ec, beq_refl, cond_true, ec2, e3, eo]
  rfl
def aheadV (a b : Chg) : Option IV := some (.int .i64 (aheadI a b))
theorem tAhead : PureT Tryd.prog (CL tab0) 36 (fn2 dC dC aheadV) := pure2 Tryd.func36 rfl fun a b v e => by
  injection e with e; subst e
  exact ⟨rfl, ahead0 gd0 a b⟩
theorem wr_succ {k : Nat} (h : k < 9223372036854775807) : wr .i64 (((k : Nat) : Int) + 1) = ((k + 1 : Nat) : Int) := by rw [wr_i64 (by omega) (by omega)]; omega
theorem isV_nat (c : UInt8) : (isV c = true) = (c.toNat = 48 ∨ c.toNat = 49 ∨ c.toNat = 120 ∨ c.toNat = 122) := by
  have key : ∀ n : Fin 256, (isV (UInt8.ofNat n.val) = true) = (n.val = 48 ∨ n.val = 49 ∨ n.val = 120 ∨ n.val = 122) := by
    intro n
    apply propext
    revert n
    decide +kernel
  have := key ⟨c.toNat, c.toNat_lt⟩
  simp only [UInt8.ofNat_toNat] at this
  exact this
theorem may_loop {T : Tab} (s : Bs) (hs : s.length ≤ 9223372036854775807) : ∀ (k i : Nat), i + k = s.length → J30 T 1 [sv s, .int .i64 (i : Nat)] H0 = .ok (.bool ((s.drop i).all isV && (decide (1 ≤ s.length) && decide (s.length ≤ 256)))) H0 := by
  intro k
  induction k with
  | zero =>
    intro i hi
    refine e30_1 ?_ (by simp)
    have h0 : ¬ ((i : Nat) : Int) < (s.length : Nat) := by omega
    rw [List.drop_of_length_le (by omega)]
    by_cases h1 : (1 : Int) ≤ (s.length : Nat)
    · by_cases h2 : ((s.length : Nat) : Int) ≤ 256
      · have h1' : 1 ≤ s.length := by omega
        have h2' : s.length ≤ 256 := by omega
        simp only [t30_1, W, WW, ↓reduceIte, reduceCtorEq, Nat.reduceAdd, Int.reduceEq, Int.reduceNe, Int.reduceLT, Int.reduceLE, Int.reduceAdd, Int.reduceSub, Int.reduceMul, Int.reduceNeg, Nat.reduceMul, h0, h1, h2, h1', h2', List.all_nil, Bool.and_self]
      · have h1' : 1 ≤ s.length := by omega
        have h2' : ¬ s.length ≤ 256 := by omega
        simp only [t30_1, W, WW, ↓reduceIte, reduceCtorEq, Nat.reduceAdd, Int.reduceEq, Int.reduceNe, Int.reduceLT, Int.reduceLE, Int.reduceAdd, Int.reduceSub, Int.reduceMul, Int.reduceNeg, Nat.reduceMul, h0, h1, h2, h1', h2', List.all_nil, Bool.and_false]
    · have h1' : ¬ 1 ≤ s.length := by omega
      simp only [t30_1, W, WW, ↓reduceIte, reduceCtorEq, Nat.reduceAdd, Int.reduceEq, Int.reduceNe, Int.reduceLT, Int.reduceLE, Int.reduceAdd, Int.reduceSub, Int.reduceMul, Int.reduceNeg, Nat.reduceMul, h0, h1, h1', List.all_nil, Bool.false_and, Bool.and_false]
  | succ k ih =>
    intro i hi
    have hil : i < s.length := by omega
    have h0 : ((i : Nat) : Int) < (s.length : Nat) := by omega
    refine e30_1 ?_ (by simp)
    have eix := ixStr_nat s i hil
    have w1 := wr_succ (show i < 9223372036854775807 by omega)
    have ih' := ih (i + 1) (by omega)
    rw [List.drop_eq_getElem_cons hil, List.all_cons]
    have hv := isV_nat s[i]
    generalize s[i] = c at *
    by_cases h : isV c = true
    · rw [h]
      simp only [Bool.true_and]
      rw [hv] at h
      rcases h with hv | hv | hv | hv
      · simp only [t30_1, W, WW, ↓reduceIte, reduceCtorEq, Nat.reduceAdd, Int.reduceEq, Int.reduceNe, Int.reduceLT, Int.reduceLE, Int.reduceAdd, Int.reduceSub, Int.reduceMul, Int.reduceNeg, Nat.reduceMul, h0, eix, eq_true (show ((c.toNat : Nat) : Int) = 48 by omega), eq_false (show ¬ ((c.toNat : Nat) : Int) = 49 by omega), eq_false (show ¬ ((c.toNat : Nat) : Int) = 120 by omega), eq_false (show ¬ ((c.toNat : Nat) : Int) = 122 by omega), w1]
        exact ih'
      · simp only [t30_1, W, WW, ↓reduceIte, reduceCtorEq, Nat.reduceAdd, Int.reduceEq, Int.reduceNe, Int.reduceLT, Int.reduceLE, Int.reduceAdd, Int.reduceSub, Int.reduceMul, Int.reduceNeg, Nat.reduceMul, h0, eix, eq_false (show ¬ ((c.toNat : Nat) : Int) = 48 by omega), eq_true (show ((c.toNat : Nat) : Int) = 49 by omega), eq_false (show ¬ ((c.toNat : Nat) : Int) = 120 by omega), eq_false (show ¬ ((c.toNat : Nat) : Int) = 122 by omega), w1]
        exact ih'
      · simp only [t30_1, W, WW, ↓reduceIte, reduceCtorEq, Nat.reduceAdd, Int.reduceEq, Int.reduceNe, Int.reduceLT, Int.reduceLE, Int.reduceAdd, Int.reduceSub, Int.reduceMul, Int.reduceNeg, Nat.reduceMul, h0, eix, eq_false (show ¬ ((c.toNat : Nat) : Int) = 48 by omega), eq_false (show ¬ ((c.toNat : Nat) : Int) = 49 by omega), eq_true (show ((c.toNat : Nat) : Int) = 120 by omega), eq_false (show ¬ ((c.toNat : Nat) : Int) = 122 by omega), w1]
        exact ih'
      · simp only [t30_1, W, WW, ↓reduceIte, reduceCtorEq, Nat.reduceAdd, Int.reduceEq, Int.reduceNe, Int.reduceLT, Int.reduceLE, Int.reduceAdd, Int.reduceSub, Int.reduceMul, Int.reduceNeg, Nat.reduceMul, h0, eix, eq_false (show ¬ ((c.toNat : Nat) : Int) = 48 by omega), eq_false (show ¬ ((c.toNat : Nat) : Int) = 49 by omega), eq_false (show ¬ ((c.toNat : Nat) : Int) = 120 by omega), eq_true (show ((c.toNat : Nat) : Int) = 122 by omega), w1]
        exact ih'
    · have hf : isV c = false := by simpa using h
      rw [hf]
      simp only [Bool.false_and]
      rw [hv] at h
      simp only [t30_1, W, WW, ↓reduceIte, reduceCtorEq, Nat.reduceAdd, Int.reduceEq, Int.reduceNe, Int.reduceLT, Int.reduceLE, Int.reduceAdd, Int.reduceSub, Int.reduceMul, Int.reduceNeg, Nat.reduceMul, h0, eix, eq_false (show ¬ ((c.toNat : Nat) : Int) = 48 by omega), eq_false (show ¬ ((c.toNat : Nat) : Int) = 49 by omega), eq_false (show ¬ ((c.toNat : Nat) : Int) = 120 by omega), eq_false (show ¬ ((c.toNat : Nat) : Int) = 122 by omega)]
theorem may {T : Tab} (hT : OvStep T) (ho : T.ov 30 = none) (hp : T.pol 30 = true) (s : Bs) (hs : s.length ≤ 9223372036854775807) : CL T 30 [sv s] H0 = .ok (.bool (s.all isV && (decide (1 ≤ s.length) && decide (s.length ≤ 256)))) H0 := by
  refine c30 hT ho hp gd0 ?_ (by simp)
  have := may_loop (T := T) s hs s.length 0 (by omega)
  rw [List.drop_zero] at this
  simp only [t30_0]
  exact this
theorem named_loop {T : Tab} (s : Bs) (hs : s.length ≤ 9223372036854775807) {h : H} : ∀ (k i : Nat), i + k = s.length → J29 T 1 [sv s, .int .i64 (i : Nat)] h = .ok (.bool ((s.drop i).all okC && decide (s.length ≤ 256))) h := by
  intro k
  induction k with
  | zero =>
    intro i hi
    rw [List.drop_of_length_le (by omega)]
    have h0 : ¬ ((i : Nat) : Int) < (s.length : Nat) := by omega
    refine e29_1 ?_ (by simp)
    by_cases h1 : s.length ≤ 256
    · have h1' : ((s.length : Nat) : Int) ≤ 256 := by omega
      simp only [t29_1, W, WW, ↓reduceIte, reduceCtorEq, Nat.reduceAdd, Int.reduceEq, Int.reduceNe, Int.reduceLT, Int.reduceLE, Int.reduceAdd, Int.reduceSub, Int.reduceMul, Int.reduceNeg, Nat.reduceMul, h0, h1, h1', List.all_nil, Bool.true_and, decide_true]
    · have h1' : ¬ ((s.length : Nat) : Int) ≤ 256 := by omega
      simp only [t29_1, W, WW, ↓reduceIte, reduceCtorEq, Nat.reduceAdd, Int.reduceEq, Int.reduceNe, Int.reduceLT, Int.reduceLE, Int.reduceAdd, Int.reduceSub, Int.reduceMul, Int.reduceNeg, Nat.reduceMul, h0, h1, h1', List.all_nil, Bool.true_and, decide_false]
  | succ k ih =>
    intro i hi
    have hil : i < s.length := by omega
    have hd := List.drop_eq_getElem_cons hil
    have ex := ixStr_nat s i hil
    have hlt := (s[i]).toNat_lt
    generalize s[i] = c at hd ex hlt
    have ih' := ih (i + 1) (by omega)
    have h0 : ((i : Nat) : Int) < (s.length : Nat) := by omega
    have w1 := wr_succ (show i < 9223372036854775807 by omega)
    rw [hd, List.all_cons]
    refine e29_1 ?_ (by simp)
    by_cases h1 : c.toNat < 33
    · have h1' : ((c.toNat : Nat) : Int) < 33 := by omega
      have hok : okC c = false := by
        have : ¬ 33 ≤ c.toNat := by omega
        simp [okC, this]
      simp only [t29_1, W, WW, ↓reduceIte, reduceCtorEq, Nat.reduceAdd, Int.reduceEq, Int.reduceNe, Int.reduceLT, Int.reduceLE, Int.reduceAdd, Int.reduceSub, Int.reduceMul, Int.reduceNeg, Nat.reduceMul, h0, ex, h1', hok, Bool.false_and]
    · have h1' : ¬ ((c.toNat : Nat) : Int) < 33 := by omega
      by_cases h2 : 126 < c.toNat
      · have h2' : (126 : Int) < ((c.toNat : Nat) : Int) := by omega
        have hok : okC c = false := by
          have : ¬ c.toNat ≤ 126 := by omega
          simp [okC, this]
        simp only [t29_1, W, WW, ↓reduceIte, reduceCtorEq, Nat.reduceAdd, Int.reduceEq, Int.reduceNe, Int.reduceLT, Int.reduceLE, Int.reduceAdd, Int.reduceSub, Int.reduceMul, Int.reduceNeg, Nat.reduceMul, h0, ex, h1', h2', hok, Bool.false_and]
      · have h2' : ¬ (126 : Int) < ((c.toNat : Nat) : Int) := by omega
        have hok : okC c = true := by
          have a1 : 33 ≤ c.toNat := by omega
          have a2 : c.toNat ≤ 126 := by omega
          simp [okC, a1, a2]
        simp only [t29_1, W, WW, ↓reduceIte, reduceCtorEq, Nat.reduceAdd, Int.reduceEq, Int.reduceNe, Int.reduceLT, Int.reduceLE, Int.reduceAdd, Int.reduceSub, Int.reduceMul, Int.reduceNeg, Nat.reduceMul, h0, ex, h1', h2', hok, Bool.true_and, w1]
        exact ih'
def namedV (s : Bs) : Option IV := if s.length ≤ 9223372036854775807 then some (.bool (s.all okC && decide (s.length ≤ 256))) else none
theorem tNamed : PureT Tryd.prog (CL tab0) 29 (fn1 dS namedV) := pure1 Tryd.func29 rfl fun s v e => by
  unfold namedV at e
  split at e
  · rename_i hs
    injection e with e; subst e
    refine ⟨rfl, H0, c29 good0.step rfl rfl gd0 ?_ (by simp)⟩
    have := named_loop (T := tab0) s hs (h := H0) s.length 0 (by omega)
    rw [List.drop_zero] at this
    simp only [t29_0]
    exact this
  · cases e
def mayV (s : Bs) : Option IV := if s.length ≤ 9223372036854775807 then some (.bool (checkM s)) else none
theorem may_check (s : Bs) : (s.all isV && (decide (1 ≤ s.length) && decide (s.length ≤ 256))) = checkM s := by
  unfold checkM
  rw [Bool.and_comm]
theorem tMay1 : PureT Tryd.prog (CL tab0) 30 (fn1 dS mayV) := pure1 Tryd.func30 rfl fun s v e => by
  unfold mayV at e
  split at e
  · rename_i hs
    injection e with e; subst e
    exact ⟨rfl, H0, by rw [← may_check]; exact may good0.step rfl rfl s hs⟩
  · cases e
def aheadWV (a b : Chg) : Option IV := some (.bool (decide (a.time < b.time) || (decide (a.time = b.time) && decide (a.net < b.net))))
theorem tAheadW : PureT Tryd.prog (CL tab0) 31 (fn2 dC dC aheadWV) := pure2 Tryd.func31 rfl fun a b v e => by
  injection e with e; subst e
  obtain ⟨h1, e1, k1, c1, _, _⟩ := (Ky.refl gd0).newI (cs := chgC a) rfl
  obtain ⟨h2, e2, k2, c2, _, _⟩ := (Ky.refl k1.gd).newI (cs := chgC b) rfl
  have c1' := c1.ky k1.gd.wf k2
  have q0 : I.ld0 h2 (.ptr H0.next 0) = some (.int .i64 a.time) := by rw [c1'.ld0]; rfl
  have q1 : I.ld0 h2 (.ptr H0.next 1) = some (.int .i64 a.net) := by rw [c1'.ld0]; rfl
  have r0 : I.ld0 h2 (.ptr h1.next 0) = some (.int .i64 b.time) := by rw [c2.ld0]; rfl
  have r1 : I.ld0 h2 (.ptr h1.next 1) = some (.int .i64 b.net) := by rw [c2.ld0]; rfl
  refine ⟨rfl, h2, c31 good0.step rfl rfl gd0 ?_ (by simp)⟩
  show t31_0 (CL tab0) (J31 tab0) (.agg (chgC a)) (.agg (chgC b)) H0 = _
  by_cases h1' : a.time < b.time
  · simp only [t31_0, IV.cells, e1, e2, W, WW, ↓reduceIte, reduceCtorEq, Nat.reduceAdd, Int.reduceEq, Int.reduceNe, Int.reduceLT, Int.reduceLE, Int.reduceAdd, Int.reduceSub, Int.reduceMul, Int.reduceNeg, Nat.reduceMul, q0, q1, r0, r1, h1', decide_true, Bool.true_or]
  · by_cases h2' : a.time = b.time
    · by_cases h3' : a.net < b.net
      · simp only [t31_0, IV.cells, e1, e2, W, WW, ↓reduceIte, reduceCtorEq, Nat.reduceAdd, Int.reduceEq, Int.reduceNe, Int.reduceLT, Int.reduceLE, Int.reduceAdd, Int.reduceSub, Int.reduceMul, Int.reduceNeg, Nat.reduceMul, q0, q1, r0, r1, h1', eq_true h2', h3', decide_true, decide_false, Bool.false_or, Bool.true_and]
      · simp only [t31_0, IV.cells, e1, e2, W, WW, ↓reduceIte, reduceCtorEq, Nat.reduceAdd, Int.reduceEq, Int.reduceNe, Int.reduceLT, Int.reduceLE, Int.reduceAdd, Int.reduceSub, Int.reduceMul, Int.reduceNeg, Nat.reduceMul, q0, q1, r0, r1, h1', eq_true h2', h3', decide_true, decide_false, Bool.false_or, Bool.true_and]
    · simp only [t31_0, IV.cells, e1, e2, W, WW, ↓reduceIte, reduceCtorEq, Nat.reduceAdd, Int.reduceEq, Int.reduceNe, Int.reduceLT, Int.reduceLE, Int.reduceAdd, Int.reduceSub, Int.reduceMul, Int.reduceNeg, Nat.reduceMul, q0, q1, r0, r1, h1', eq_false h2', decide_false, Bool.false_or, Bool.false_and]
theorem rcode_step {T : Tab} {h : H} (g : Gd h) (n : Nat) (hn : n < 9223372036854775808) {l : Bs} {s : IV} (gl : GL h 1 (bys l) s) (hl : l.length ≤ 1000) :
    ∃ s' h', Gd h' ∧ GL h' 1 (bys (l ++ [chr (n % 94)])) s' ∧ ∀ r, r ≠ .fail → J14 T 1 [.int .i64 (((n / 94 : Nat) : Int) - 1), s'] h' = r → J14 T 1 [.int .i64 (n : Nat), s] h = r := by
  obtain ⟨h1, e1, k1, c1⟩ := lit_bys g [chr (n % 94)]
  obtain ⟨s', h2, e2, x2, gl2⟩ := appB_row k1.gd (e := 5) (gl.ky g.wf k1) c1 (List.cons_ne_nil _ _) (by simp; omega)
  refine ⟨s', h2, x2.gd, gl2, fun r hr e => e14_1 ?_ hr⟩
  have hge : (0 : Int) ≤ ((n : Nat) : Int) := by omega
  have hm : n % 94 < 94 := Nat.mod_lt _ (by decide)
  have e1' : bslK true 1 [.int .u8 0] 1 [(0, .int .u8 ((chr (n % 94)).toNat : Nat))] h = some (.slice h.next 0 1 1, h1) := e1
  simp only [t14_1, W, WW, ↓reduceIte, reduceCtorEq, Nat.reduceAdd, Int.reduceEq, Int.reduceNe, Int.reduceLT, Int.reduceLE, Int.reduceAdd, Int.reduceSub, Int.reduceMul, Int.reduceNeg, Nat.reduceMul, hge, rem94 n hn, wr33 _ hm, cv33 _ hm, e1', quo94 n hn, quo_sub n hn]
  have e2' : appB 5 1 1 h1 s (.slice h.next 0 1 1) = some (s', h2) := e2
  simp only [e2', obind2]
  exact e
theorem rcode_end {T : Tab} {h : H} {l : Bs} {s : IV} (gl : GL h 1 (bys l) s) : J14 T 1 [.int .i64 (-1), s] h = .ok (sv l) h := by
  refine e14_1 ?_ (by simp)
  have hge : ¬ (0 : Int) ≤ -1 := by omega
  simp only [t14_1, W, WW, ↓reduceIte, reduceCtorEq, Nat.reduceAdd, Int.reduceEq, Int.reduceNe, Int.reduceLT, Int.reduceLE, Int.reduceAdd, Int.reduceSub, Int.reduceMul, Int.reduceNeg, Nat.reduceMul, hge, gl.text]
theorem rcode_end' {T : Tab} {h : H} {n : Nat} (hn : n = 0) {l : Bs} {s : IV} (gl : GL h 1 (bys l) s) : J14 T 1 [.int .i64 (((n : Nat) : Int) - 1), s] h = .ok (sv l) h := by
  subst hn
  exact rcode_end gl
theorem code14 (n : Nat) (hn : n < 8836) : ∃ h', CL tab0 14 [.int .i64 (n : Nat)] H0 = .ok (sv (codeF n)) h' := by
  obtain ⟨s1, h1, g1, gl1, r1⟩ := rcode_step (T := tab0) gd0 n (by omega) (l := []) (s := .nilSlice) (.inl ⟨rfl, rfl⟩) (by simp)
  rw [List.nil_append] at gl1
  unfold codeF
  by_cases h94 : n < 94
  · rw [if_pos h94]
    rw [Nat.mod_eq_of_lt h94] at gl1
    refine ⟨h1, c14 good0.step rfl rfl gd0 ?_ (by simp)⟩
    simp only [t14_0]
    exact r1 _ (by simp) (rcode_end' (by omega) gl1)
  · rw [if_neg h94]
    obtain ⟨s2, h2, g2, gl2, r2⟩ := rcode_step (T := tab0) g1 (n / 94 - 1) (by omega) gl1 (by simp)
    refine ⟨h2, c14 good0.step rfl rfl gd0 ?_ (by simp)⟩
    simp only [t14_0]
    refine r1 _ (by simp) ?_
    rw [show ((n / 94 : Nat) : Int) - 1 = ((n / 94 - 1 : Nat) : Int) by omega]
    have hm : (n / 94 - 1) % 94 = n / 94 - 1 := Nat.mod_eq_of_lt (by omega)
    rw [hm] at gl2
    exact r2 _ (by simp) (rcode_end' (by omega) gl2)
theorem tRCode : PureT Tryd.prog (CL tab0) 14 (fn1 dI codeV) := pure1 Tryd.func14 rfl fun n v e => by
  unfold codeV at e
  split at e
  · rename_i hc
    injection e with e; subst e
    obtain ⟨k, rfl⟩ := Int.eq_ofNat_of_zero_le hc.1
    exact ⟨rfl, code14 k (by omega)⟩
  · cases e
noncomputable def tab3 : Tab := ((((tab2.add 36 (pureF (fn2 dC dC aheadV))).add 29 (pureF (fn1 dS namedV))).add 30 (pureF (fn1 dS mayV))).add 31 (pureF (fn2 dC dC aheadWV))).add 14 (pureF (fn1 dI codeV))
theorem good3 : GoodT Tryd.prog EP tab3 := good0.also envK mixed noNum (good0.also envK mixed noNum (good0.also envK mixed noNum (good0.also envK mixed noNum (good0.also envK mixed noNum good2 tAhead) tNamed) tMay1) tAheadW) tRCode
theorem ahead3 {h : H} (a b : Chg) : CL tab3 36 [.agg (chgC a), .agg (chgC b)] h = .ok (.int .i64 (aheadI a b)) h := call2 (A := dC) (B := dC) (a := a) (b := b) rfl rfl h
theorem cont3 {h : H} (l : Bs) : CL tab3 33 [sv l, .func 32 []] h = .ok (.bool (!(l.all okC))) h := call2 (A := dS) (B := dF) (a := l) (b := 32) rfl (by unfold contV; rw [if_pos rfl]) h
theorem check3 {h : H} (l : Bs) : CL tab3 34 [sv l] h = .ok (.int .i64 (if checkM l = true then 0 else 10)) h := call1 (A := dS) (a := l) rfl rfl h
theorem code3 {h : H} (n : Nat) (hn : n < 8836) : CL tab3 18 [.int .i64 (n : Nat)] h = .ok (sv (codeF n)) h := call1 (A := dI) (a := (n : Int)) rfl (by unfold codeV; rw [if_pos ⟨by omega, by omega⟩]; rfl) h
theorem itoa3 {h : H} (n : Int) (h1 : -9223372036854775808 ≤ n) (h2 : n ≤ 9223372036854775807) : CL tab3 17 [.int .i64 n] h = .ok (sv (itoaF n)) h := call1 (A := dI) (a := n) rfl (by unfold itoaV; rw [if_pos ⟨h1, h2⟩]) h
theorem ahead_lt (a b : Chg) : decide (0 ≤ aheadI a b) = !(decide (a.time < b.time) || (decide (a.time = b.time) && decide (a.net < b.net))) := by
  unfold aheadI cmpF
  by_cases h1 : a.time < b.time
  · simp [h1]
  · by_cases h2 : b.time < a.time
    · have : a.time ≠ b.time := by omega
      simp [h1, h2, this]
    · have : a.time = b.time := by omega
      by_cases h3 : a.net < b.net
      · simp [this, h3]
      · by_cases h4 : b.net < a.net
        · simp [this, h3, h4]
        · simp [this, h3, h4]
noncomputable abbrev tab4 : Tab := tab3
theorem good4 : GoodT Tryd.prog EP tab4 := good3
def netF (n : Bs) (w : Int) (f : Bs) : Bool := decide (n.length ≤ 256) && n.all okC && checkM f && decide ((f.length : Int) = w)
def netsF : List Bs → List Int → List Bs → Bool
  | [], [], [] => true
  | n :: ns, w :: ws, f :: fs => netF n w f && netsF ns ws fs
  | _, _, _ => false
theorem netsF_len : ∀ {a : List Bs} {b : List Int} {c : List Bs}, netsF a b c = true → b.length = a.length ∧ c.length = a.length
  | [], [], [], _ => ⟨rfl, rfl⟩
  | n :: ns, w :: ws, f :: fs, h => by
    simp only [netsF, Bool.and_eq_true] at h
    obtain ⟨h1, h2⟩ := netsF_len h.2
    simp [h1, h2]
  | [], _ :: _, _, h => by simp [netsF] at h
  | [], [], _ :: _, h => by simp [netsF] at h
  | _ :: _, [], _, h => by simp [netsF] at h
  | _ :: _, _ :: _, [], h => by simp [netsF] at h
structure WB (h : H) (b : Nat) (n wd f l : IV) (w : Wv) : Prop where
  cs : Cs h b true false [n, wd, f, l]
  wr : WR h n wd f l w
theorem WB.ky {h h' : H} {b : Nat} {n wd f l : IV} {w : Wv} (x : WB h b n wd f l w) (g : WF h) (y : Ky h h') : WB h' b n wd f l w := ⟨x.cs.ky g y, x.wr.ky g y⟩
theorem WB.l0 {h : H} {b : Nat} {n wd f l : IV} {w : Wv} (x : WB h b n wd f l w) : I.ld0 h (.ptr b 0) = some n := by rw [x.cs.ld0]; rfl
theorem WB.l1 {h : H} {b : Nat} {n wd f l : IV} {w : Wv} (x : WB h b n wd f l w) : I.ld0 h (.ptr b 1) = some wd := by rw [x.cs.ld0]; rfl
theorem WB.l2 {h : H} {b : Nat} {n wd f l : IV} {w : Wv} (x : WB h b n wd f l w) : I.ld0 h (.ptr b 2) = some f := by rw [x.cs.ld0]; rfl
theorem WB.l3 {h : H} {b : Nat} {n wd f l : IV} {w : Wv} (x : WB h b n wd f l w) : I.ld0 h (.ptr b 3) = some l := by rw [x.cs.ld0]; rfl
theorem net_step {h : H} (g : Gd h) {b : Nat} {n wd f l : IV} {w : Wv} (x : WB h b n wd f l w) {i N : Nat} (hi : i < N) {nm fs : Bs} {wi : Int} (e1 : w.names[i]? = some nm) (e2 : w.wides[i]? = some wi) (e3 : w.first[i]? = some fs) {r : CRes} (hr : r ≠ .fail)
    (e : J15 tab3 2 [.ptr b 0, .int .i64 (N : Nat), .int .i64 (N : Nat), .int .i64 (i : Nat), .bool (!(netF nm wi fs))] h = r) : J15 tab3 1 [.ptr b 0, .int .i64 (N : Nat), .int .i64 (N : Nat), .int .i64 (i : Nat)] h = r := by
  obtain ⟨p1, q1, r1⟩ := LR.str x.wr.names e1
  obtain ⟨p2, q2, r2⟩ := LW.int x.wr.wides e2
  obtain ⟨p3, q3, r3⟩ := LR.str x.wr.first e3
  have hlt : ((i : Nat) : Int) < (N : Nat) := by omega
  have l0 := x.l0
  have l1 := x.l1
  have l2 := x.l2
  refine e15_1 ?_ hr
  by_cases h1 : (256 : Int) < (nm.length : Nat)
  · have hn : netF nm wi fs = false := by
      have : ¬ nm.length ≤ 256 := by omega
      simp [netF, this]
    rw [hn] at e
    simp only [t15_1, W, WW, ↓reduceIte, reduceCtorEq, Nat.reduceAdd, Int.reduceEq, Int.reduceNe, Int.reduceLT, Int.reduceLE, Int.reduceAdd, Int.reduceSub, Int.reduceMul, Int.reduceNeg, Nat.reduceMul, hlt, l0, q1, r1, h1, guardK]
    exact e
  · have h1' : nm.length ≤ 256 := by omega
    have ec := cont3 (h := h) nm
    cases h2 : nm.all okC with
    | false =>
      rw [h2] at ec
      have hn : netF nm wi fs = false := by simp [netF, h2]
      rw [hn] at e
      simp only [t15_1, W, WW, ↓reduceIte, reduceCtorEq, Nat.reduceAdd, Int.reduceEq, Int.reduceNe, Int.reduceLT, Int.reduceLE, Int.reduceAdd, Int.reduceSub, Int.reduceMul, Int.reduceNeg, Nat.reduceMul, hlt, l0, q1, r1, h1, guardK, ec, Bool.not_false]
      exact e
    | true =>
      rw [h2] at ec
      have ek := check3 (h := h) fs
      cases h3 : checkM fs with
      | false =>
        rw [h3] at ek
        have hn : netF nm wi fs = false := by simp [netF, h3]
        rw [hn] at e
        have h10 : ¬ (10 : Int) = 0 := by decide
        simp only [t15_1, W, WW, ↓reduceIte, reduceCtorEq, Nat.reduceAdd, Int.reduceEq, Int.reduceNe, Int.reduceLT, Int.reduceLE, Int.reduceAdd, Int.reduceSub, Int.reduceMul, Int.reduceNeg, Nat.reduceMul, hlt, l0, l2, q1, r1, q3, r3, h1, guardK, ec, Bool.not_true, ek, Bool.false_eq_true, if_false, h10]
        exact e
      | true =>
        rw [h3] at ek
        by_cases h4 : ((fs.length : Nat) : Int) = wi
        · have hn : netF nm wi fs = true := by simp [netF, h1', h2, h3, h4]
          rw [hn] at e
          simp only [t15_1, W, WW, ↓reduceIte, reduceCtorEq, Nat.reduceAdd, Int.reduceEq, Int.reduceNe, Int.reduceLT, Int.reduceLE, Int.reduceAdd, Int.reduceSub, Int.reduceMul, Int.reduceNeg, Nat.reduceMul, hlt, l0, l1, l2, q1, r1, q2, r2, q3, r3, h1, guardK, ec, Bool.not_true, ek, if_true, eq_true h4]
          exact e
        · have hn : netF nm wi fs = false := by simp [netF, h4]
          rw [hn] at e
          simp only [t15_1, W, WW, ↓reduceIte, reduceCtorEq, Nat.reduceAdd, Int.reduceEq, Int.reduceNe, Int.reduceLT, Int.reduceLE, Int.reduceAdd, Int.reduceSub, Int.reduceMul, Int.reduceNeg, Nat.reduceMul, hlt, l0, l1, l2, q1, r1, q2, r2, q3, r3, h1, guardK, ec, Bool.not_true, ek, if_true, eq_false h4]
          exact e
def aheadB (a b : Chg) : Bool := decide (a.time < b.time) || (decide (a.time = b.time) && decide (a.net < b.net))
def prevF (p : Option Chg) (c : Chg) : Bool := match p with
  | none => true
  | some p => aheadB p c
def placeF (N : Nat) (p : Option Chg) (c : Chg) : Bool := decide (0 ≤ c.net) && decide (c.net < N) && decide (0 ≤ c.time) && decide (c.time ≤ 4611686018427387903) && prevF p c
def valF (wides : List Int) (now : List Bs) (c : Chg) : Bool := checkM c.val && decide (wides[c.net.toNat]? = some (c.val.length : Int)) && !decide (now[c.net.toNat]? = some c.val)
def listF (N : Nat) (wides : List Int) : List Bs → Option Chg → List Chg → Bool
  | _, _, [] => true
  | now, p, c :: l => placeF N p c && (valF wides now c && listF N wides (now.set c.net.toNat c.val) (some c) l)
def prevAt (l : List Chg) (i : Nat) : Option Chg := if i = 0 then none else l[i - 1]?
theorem chg_step {h : H} (g : Gd h) {b : Nat} {n wd f l now : IV} {w : Wv} (x : WB h b n wd f l w) {i N : Nat} {c : Chg} (e1 : w.list[i]? = some c) (hlen : w.list.length ≤ 9223372036854775807) :
    ∃ h' c8, Ky h h' ∧ h.next ≤ c8 ∧ Cs h' c8 true false (chgC c) ∧ ∀ r, r ≠ .fail → J15 tab3 4 [.ptr b 0, .int .i64 (N : Nat), now, .ptr c8 0, l, .int .i64 (w.list.length : Nat), .int .i64 (i : Nat), .bool (!(placeF N (prevAt w.list i) c))] h' = r →
    J15 tab3 3 [.ptr b 0, .int .i64 (N : Nat), now, l, .int .i64 (w.list.length : Nat), .int .i64 (i : Nat)] h = r := by
  obtain ⟨pb, po, q1, q2, _⟩ := LR.chg x.wr.list e1
  have hil : i < w.list.length := (List.getElem?_eq_some_iff.1 e1).1
  have hlt : ((i : Nat) : Int) < (w.list.length : Nat) := by omega
  obtain ⟨h6, e6, k6, c6, -, -⟩ := (Ky.refl g).newI (cs := z1) rfl
  obtain ⟨o, e7, c7, _⟩ := c6.st (n := 3) (off := 0) (v := .agg (chgC c)) rfl rfl (by show 0 + 3 ≤ 3; omega)
  have hp : placeL z1 0 (IV.agg (chgC c)).cells = chgC c := rfl
  rw [hp] at c7
  have k7 : Ky h (h6.put h.next o) := by
    obtain ⟨tt, q, _⟩ := c6
    exact k6.put (Nat.le_refl _) q (fun fz size cs hh => by cases hh)
  generalize h6.put h.next o = h7 at e7 c7 k7
  refine ⟨h7, h.next, k7, Nat.le_refl _, c7, fun r hr e => ?_⟩
  have l0 : I.ld0 h7 (.ptr h.next 0) = some (.int .i64 c.time) := by rw [c7.ld0]; rfl
  have l1 : I.ld0 h7 (.ptr h.next 1) = some (.int .i64 c.net) := by rw [c7.ld0]; rfl
  have lA : I.ldA 3 h7 (.ptr h.next 0) = some (.agg (chgC c)) := c7.ldAll rfl
  have x7 := x.ky g.wf k7
  have l3 := x7.l3
  refine e15_3 ?_ hr
  by_cases h1 : c.net < 0
  · have hn : placeF N (prevAt w.list i) c = false := by
      have : ¬ 0 ≤ c.net := by omega
      simp [placeF, this]
    rw [hn] at e
    simp only [t15_3, W, WW, ↓reduceIte, reduceCtorEq, Nat.reduceAdd, Int.reduceEq, Int.reduceNe, Int.reduceLT, Int.reduceLE, Int.reduceAdd, Int.reduceSub, Int.reduceMul, Int.reduceNeg, Nat.reduceMul, hlt, q1, q2, e6, e7, l0, l1, h1, guardK]
    exact e
  · have h1' : 0 ≤ c.net := by omega
    by_cases h2 : ((N : Nat) : Int) ≤ c.net
    · have hn : placeF N (prevAt w.list i) c = false := by
        have : ¬ c.net < N := by omega
        simp [placeF, this]
      rw [hn] at e
      simp only [t15_3, W, WW, ↓reduceIte, reduceCtorEq, Nat.reduceAdd, Int.reduceEq, Int.reduceNe, Int.reduceLT, Int.reduceLE, Int.reduceAdd, Int.reduceSub, Int.reduceMul, Int.reduceNeg, Nat.reduceMul, hlt, q1, q2, e6, e7, l0, l1, h1, h2, guardK]
      exact e
    · have h2' : c.net < N := by omega
      by_cases h3 : c.time < 0
      · have hn : placeF N (prevAt w.list i) c = false := by
          have : ¬ 0 ≤ c.time := by omega
          simp [placeF, this]
        rw [hn] at e
        simp only [t15_3, W, WW, ↓reduceIte, reduceCtorEq, Nat.reduceAdd, Int.reduceEq, Int.reduceNe, Int.reduceLT, Int.reduceLE, Int.reduceAdd, Int.reduceSub, Int.reduceMul, Int.reduceNeg, Nat.reduceMul, hlt, q1, q2, e6, e7, l0, l1, h1, h2, h3, guardK]
        exact e
      · have h3' : 0 ≤ c.time := by omega
        by_cases h4 : 4611686018427387903 < c.time
        · have hn : placeF N (prevAt w.list i) c = false := by
            have : ¬ c.time ≤ 4611686018427387903 := by omega
            simp [placeF, this]
          rw [hn] at e
          simp only [t15_3, W, WW, ↓reduceIte, reduceCtorEq, Nat.reduceAdd, Int.reduceEq, Int.reduceNe, Int.reduceLT, Int.reduceLE, Int.reduceAdd, Int.reduceSub, Int.reduceMul, Int.reduceNeg, Nat.reduceMul, hlt, q1, q2, e6, e7, l0, l1, h1, h2, h3, h4, guardK]
          exact e
        · have h4' : c.time ≤ 4611686018427387903 := by omega
          by_cases h5 : i = 0
          · have hn : placeF N (prevAt w.list i) c = true := by simp [placeF, h1', h2', h3', h4', prevAt, h5, prevF]
            have h5' : ¬ (0 : Int) < (i : Nat) := by omega
            rw [hn] at e
            simp only [t15_3, W, WW, ↓reduceIte, reduceCtorEq, Nat.reduceAdd, Int.reduceEq, Int.reduceNe, Int.reduceLT, Int.reduceLE, Int.reduceAdd, Int.reduceSub, Int.reduceMul, Int.reduceNeg, Nat.reduceMul, hlt, q1, q2, e6, e7, l0, l1, h1, h2, h3, h4, h5', guardK]
            exact e
          · have h5' : (0 : Int) < (i : Nat) := by omega
            obtain ⟨d, hd⟩ : ∃ d, w.list[i - 1]? = some d := ⟨w.list[i - 1]'(by omega), List.getElem?_eq_getElem (by omega)⟩
            obtain ⟨qb, qo, q3, q4, _⟩ := LR.chg x7.wr.list hd
            have ws : wr .i64 (((i : Nat) : Int) - 1) = ((i - 1 : Nat) : Int) := by rw [wr_i64 (by omega) (by omega)]; omega
            have ea := ahead3 (h := h7) d c
            have hl := ahead_lt d c
            have hn : placeF N (prevAt w.list i) c = !(decide (0 ≤ aheadI d c)) := by
              rw [hl]
              simp [placeF, h1', h2', h3', h4', prevAt, h5, hd, prevF, aheadB]
            rw [hn, Bool.not_not] at e
            by_cases h6 : 0 ≤ aheadI d c
            · rw [decide_eq_true h6] at e
              simp only [t15_3, W, WW, ↓reduceIte, reduceCtorEq, Nat.reduceAdd, Int.reduceEq, Int.reduceNe, Int.reduceLT, Int.reduceLE, Int.reduceAdd, Int.reduceSub, Int.reduceMul, Int.reduceNeg, Nat.reduceMul, hlt, q1, q2, e6, e7, l0, l1, h1, h2, h3, h4, h5', guardK, l3, ws, q3, q4, lA, ea, h6]
              exact e
            · rw [decide_eq_false h6] at e
              simp only [t15_3, W, WW, ↓reduceIte, reduceCtorEq, Nat.reduceAdd, Int.reduceEq, Int.reduceNe, Int.reduceLT, Int.reduceLE, Int.reduceAdd, Int.reduceSub, Int.reduceMul, Int.reduceNeg, Nat.reduceMul, hlt, q1, q2, e6, e7, l0, l1, h1, h2, h3, h4, h5', guardK, l3, ws, q3, q4, lA, ea, h6]
              exact e
def Now (hM h : H) (N : Nat) (v : IV) (now : List Bs) : Prop := now.length = N ∧ (N ≠ 0 → ∃ nb fz, v = .slice nb 0 N 1 ∧ hM.next ≤ nb ∧ Cs h nb true fz (now.map sv))
theorem val_step {hM h : H} (k : Ky hM h) (gM : Gd hM) {b : Nat} {n wd f l nowV : IV} {w : Wv} (x : WB hM b n wd f l w) {i N : Nat} (hN : w.wides.length = N) {c : Chg} {now : List Bs} (nw : Now hM h N nowV now) (c0 : 0 ≤ c.net) (cN : c.net < N) {c8 : Nat} (hc8 : hM.next ≤ c8) (cc : Cs h c8 true false (chgC c))
    (hcn : ∀ nb, nowV = .slice nb 0 N 1 → c8 ≠ nb) (hi : i < 9223372036854775807) {len : IV} :
    (valF w.wides now c = false → J15 tab3 4 [.ptr b 0, .int .i64 (N : Nat), nowV, .ptr c8 0, l, len, .int .i64 (i : Nat), .bool false] h = .ok (.int .i64 1) h) ∧
    (valF w.wides now c = true → ∃ h', Ky hM h' ∧ Now hM h' N nowV (now.set c.net.toNat c.val) ∧ ∀ r, r ≠ .fail → J15 tab3 3 [.ptr b 0, .int .i64 (N : Nat), nowV, l, len, .int .i64 ((i + 1 : Nat) : Int)] h' = r → J15 tab3 4 [.ptr b 0, .int .i64 (N : Nat), nowV, .ptr c8 0, l, len, .int .i64 (i : Nat), .bool false] h = r) := by
  have xh := x.ky gM.wf k
  obtain ⟨m, hm⟩ := Int.eq_ofNat_of_zero_le c0
  have hmN : m < N := by omega
  have hmt : c.net.toNat = m := by omega
  obtain ⟨nl, nw⟩ := nw
  obtain ⟨nb, fz, rfl, hnb, cn⟩ := nw (by omega)
  have l1 : I.ld0 h (.ptr c8 1) = some (.int .i64 (m : Nat)) := by rw [cc.ld0, ← hm]; rfl
  have l2 : I.ld0 h (.ptr c8 2) = some (sv c.val) := by rw [cc.ld0]; rfl
  have w1 := xh.l1
  obtain ⟨wi, hwi⟩ : ∃ wi, w.wides[m]? = some wi := ⟨w.wides[m]'(by omega), List.getElem?_eq_getElem (by omega)⟩
  obtain ⟨pw, qw, rw_⟩ := LW.int xh.wr.wides hwi
  obtain ⟨nv, hnv⟩ : ∃ nv, now[m]? = some nv := ⟨now[m]'(by omega), List.getElem?_eq_getElem (by omega)⟩
  have qn : ixS 1 (.slice nb 0 N 1) (.int .i64 (m : Nat)) = some (.ptr nb m) := by
    have := ixS_at (i := m) (n := N) (b := nb) (es := 1) (k := .i64) hmN
    rw [Nat.mul_one] at this; exact this
  have ln : I.ld0 h (.ptr nb m) = some (sv nv) := by rw [cn.ld0, List.getElem?_map, hnv]; rfl
  have ek := check3 (h := h) c.val
  have eV : valF w.wides now c = (checkM c.val && decide ((c.val.length : Int) = wi) && !decide (c.val = nv)) := by
    unfold valF
    rw [hmt, hwi, hnv]
    congr 1
    · congr 1
      apply decide_eq_decide.2
      simp only [Option.some.injEq]
      exact eq_comm
    · congr 1
      apply decide_eq_decide.2
      simp only [Option.some.injEq]
      exact eq_comm
  rw [eV]
  have h10 : ¬ (10 : Int) = 0 := by decide
  have five : ∀ t r, r ≠ .fail → J15 tab3 5 [.ptr b 0, .int .i64 (N : Nat), .slice nb 0 N 1, .ptr c8 0, l, len, .int .i64 (i : Nat), .bool t] h = r → (J15 tab3 5 [.ptr b 0, .int .i64 (N : Nat), .slice nb 0 N 1, .ptr c8 0, l, len, .int .i64 (i : Nat), .bool t] h = r) := fun _ _ _ e => e
  have bad5 : J15 tab3 5 [.ptr b 0, .int .i64 (N : Nat), .slice nb 0 N 1, .ptr c8 0, l, len, .int .i64 (i : Nat), .bool true] h = .ok (.int .i64 1) h :=
    e15_5 (by simp only [t15_5, W, WW, ↓reduceIte, reduceCtorEq, Nat.reduceAdd, Int.reduceEq, Int.reduceNe, Int.reduceLT, Int.reduceLE, Int.reduceAdd, Int.reduceSub, Int.reduceMul, Int.reduceNeg, Nat.reduceMul]) (by simp)
  cases h1 : checkM c.val with
  | false =>
    rw [h1] at ek
    refine ⟨fun _ => e15_4 ?_ (by simp), fun h => by simp at h⟩
    simp only [t15_4, W, WW, ↓reduceIte, reduceCtorEq, Nat.reduceAdd, Int.reduceEq, Int.reduceNe, Int.reduceLT, Int.reduceLE, Int.reduceAdd, Int.reduceSub, Int.reduceMul, Int.reduceNeg, Nat.reduceMul, l2, ek, h10, guardK, Bool.false_eq_true, if_false]
    exact bad5
  | true =>
    rw [h1] at ek
    by_cases h2 : ((c.val.length : Nat) : Int) = wi
    · by_cases h3 : c.val = nv
      · refine ⟨fun _ => e15_4 ?_ (by simp), fun h => by simp [h3] at h⟩
        simp only [t15_4, W, WW, ↓reduceIte, reduceCtorEq, Nat.reduceAdd, Int.reduceEq, Int.reduceNe, Int.reduceLT, Int.reduceLE, Int.reduceAdd, Int.reduceSub, Int.reduceMul, Int.reduceNeg, Nat.reduceMul, l1, l2, ek, h10, guardK, if_true, w1, qw, rw_, eq_true h2, qn, ln, eq_true h3]
        exact bad5
      · refine ⟨fun h => by simp [h2, h3] at h, fun _ => ?_⟩
        obtain ⟨o, s1, s2, s3⟩ := cn.st (n := 1) (off := m) (v := sv c.val) rfl rfl (by rw [List.length_map]; omega)
        have hp : placeL (now.map sv) m (sv c.val).cells = (now.set m c.val).map sv := by
          show (now.map sv).set m (sv c.val) = _
          rw [List.map_set]
        rw [hp] at s2
        have k' : Ky hM (h.put nb o) := by
          obtain ⟨tt, q, _⟩ := cn
          exact k.put hnb q (fun fz size cs hh => by cases hh)
        refine ⟨h.put nb o, k', ⟨by rw [List.length_set]; exact nl, fun _ => ⟨nb, fz, rfl, hnb, by rw [hmt]; exact s2⟩⟩, fun r hr e => e15_4 ?_ hr⟩
        have w2 := wr_succ hi
        have e5 : J15 tab3 5 [.ptr b 0, .int .i64 (N : Nat), .slice nb 0 N 1, .ptr c8 0, l, len, .int .i64 (i : Nat), .bool false] h = r := by
          refine e15_5 ?_ hr
          simp only [t15_5, W, WW, ↓reduceIte, reduceCtorEq, Nat.reduceAdd, Int.reduceEq, Int.reduceNe, Int.reduceLT, Int.reduceLE, Int.reduceAdd, Int.reduceSub, Int.reduceMul, Int.reduceNeg, Nat.reduceMul, l1, l2, qn, s1, w2]
          exact e
        simp only [t15_4, W, WW, ↓reduceIte, reduceCtorEq, Nat.reduceAdd, Int.reduceEq, Int.reduceNe, Int.reduceLT, Int.reduceLE, Int.reduceAdd, Int.reduceSub, Int.reduceMul, Int.reduceNeg, Nat.reduceMul, l1, l2, ek, h10, guardK, if_true, w1, qw, rw_, eq_true h2, qn, ln, eq_false h3]
        exact e5
    · refine ⟨fun _ => e15_4 ?_ (by simp), fun h => by simp [h2] at h⟩
      simp only [t15_4, W, WW, ↓reduceIte, reduceCtorEq, Nat.reduceAdd, Int.reduceEq, Int.reduceNe, Int.reduceLT, Int.reduceLE, Int.reduceAdd, Int.reduceSub, Int.reduceMul, Int.reduceNeg, Nat.reduceMul, l1, l2, ek, h10, guardK, if_true, w1, qw, rw_, eq_false h2]
      exact bad5
theorem list_loop {hM : H} (gM : Gd hM) {b : Nat} {n wd f l nowV : IV} {w : Wv} (x : WB hM b n wd f l w) {N : Nat} (hN : w.wides.length = N) (hlen : w.list.length ≤ 9223372036854775807) : ∀ (k i : Nat) (h : H) (now : List Bs), i + k = w.list.length → Ky hM h → Now hM h N nowV now →
    ∃ h', J15 tab3 3 [.ptr b 0, .int .i64 (N : Nat), nowV, l, .int .i64 (w.list.length : Nat), .int .i64 (i : Nat)] h = .ok (.int .i64 (if listF N w.wides now (prevAt w.list i) (w.list.drop i) = true then 0 else 1)) h' ∧ Ky hM h' := by
  intro k
  induction k with
  | zero =>
    intro i h now hi kk nw
    rw [List.drop_of_length_le (by omega)]
    refine ⟨h, e15_3 ?_ (by simp), kk⟩
    have hlt : ¬ ((i : Nat) : Int) < (w.list.length : Nat) := by omega
    simp only [t15_3, W, WW, ↓reduceIte, reduceCtorEq, Nat.reduceAdd, Int.reduceEq, Int.reduceNe, Int.reduceLT, Int.reduceLE, Int.reduceAdd, Int.reduceSub, Int.reduceMul, Int.reduceNeg, Nat.reduceMul, hlt]
    rfl
  | succ k ih =>
    intro i h now hi kk nw
    have hil : i < w.list.length := by omega
    have hd := List.drop_eq_getElem_cons hil
    have hc : w.list[i]? = some w.list[i] := List.getElem?_eq_getElem hil
    generalize w.list[i] = c at hd hc
    rw [hd]
    have xh := x.ky gM.wf kk
    have bad4 : ∀ (h' : H) (c8 : Nat), J15 tab3 4 [.ptr b 0, .int .i64 (N : Nat), nowV, .ptr c8 0, l, .int .i64 (w.list.length : Nat), .int .i64 (i : Nat), .bool true] h' = .ok (.int .i64 1) h' := fun h' c8 =>
      e15_4 (by simp only [t15_4, W, WW, ↓reduceIte, reduceCtorEq, Nat.reduceAdd, Int.reduceEq, Int.reduceNe, Int.reduceLT, Int.reduceLE, Int.reduceAdd, Int.reduceSub, Int.reduceMul, Int.reduceNeg, Nat.reduceMul]) (by simp)
    obtain ⟨h1, c8, k1, hc8, cc, step⟩ := chg_step kk.gd xh (now := nowV) (N := N) hc (by omega)
    have k2 := kk.trans k1
    have hc8' : hM.next ≤ c8 := Nat.le_trans kk.next hc8
    cases hp : placeF N (prevAt w.list i) c with
    | false =>
      have hF : listF N w.wides now (prevAt w.list i) (c :: w.list.drop (i + 1)) = false := by simp [listF, hp]
      rw [hF]
      rw [hp] at step
      exact ⟨h1, step _ (by simp) (bad4 h1 c8), k2⟩
    | true =>
      rw [hp] at step
      have hp' := hp
      simp only [placeF, Bool.and_eq_true, decide_eq_true_eq] at hp'
      obtain ⟨⟨⟨⟨c0, cN⟩, _⟩, _⟩, _⟩ := hp'
      have nw1 : Now hM h1 N nowV now := ⟨nw.1, fun hz => by
        obtain ⟨nb, fz, e1, e2, e3⟩ := nw.2 hz
        exact ⟨nb, fz, e1, e2, e3.ky kk.gd.wf k1⟩⟩
      have hne : ∀ nb, nowV = .slice nb 0 N 1 → c8 ≠ nb := fun nb hv => by
        obtain ⟨nb', fz, e1, e2, e3⟩ := nw.2 (by omega)
        rw [hv] at e1
        injection e1 with e1
        subst e1
        have := e3.lt kk.gd.wf
        omega
      obtain ⟨v1, v2⟩ := val_step k2 gM x hN nw1 c0 cN hc8' cc hne (i := i) (by omega) (len := .int .i64 (w.list.length : Nat))
      cases hv : valF w.wides now c with
      | false =>
        have hF : listF N w.wides now (prevAt w.list i) (c :: w.list.drop (i + 1)) = false := by simp [listF, hp, hv]
        rw [hF]
        exact ⟨h1, step _ (by simp) (v1 hv), k2⟩
      | true =>
        obtain ⟨h2, k3, nw2, go⟩ := v2 hv
        obtain ⟨h', e, k4⟩ := ih (i + 1) h2 _ (by omega) k3 nw2
        have hF : listF N w.wides now (prevAt w.list i) (c :: w.list.drop (i + 1)) = listF N w.wides (now.set c.net.toNat c.val) (prevAt w.list (i + 1)) (w.list.drop (i + 1)) := by
          have hpr : prevAt w.list (i + 1) = some c := by
            unfold prevAt
            rw [if_neg (by omega), Nat.add_sub_cancel]; exact hc
          rw [hpr]
          simp [listF, hp, hv]
        rw [hF]
        exact ⟨h', step _ (by split <;> simp) (go _ (by split <;> simp) e), k4⟩
def waveF (w : Wv) : Bool := decide (w.names.length ≤ 4096) && netsF w.names w.wides w.first && listF w.names.length w.wides w.first none w.list
theorem nets_loop {h : H} (g : Gd h) {b : Nat} {n wd f l : IV} {w : Wv} (x : WB h b n wd f l w) {N : Nat} (h1 : w.names.length = N) (h2 : w.wides.length = N) (h3 : w.first.length = N) (hN : N ≤ 4096) : ∀ (k i : Nat), i + k = N →
    (netsF (w.names.drop i) (w.wides.drop i) (w.first.drop i) = false → J15 tab3 1 [.ptr b 0, .int .i64 (N : Nat), .int .i64 (N : Nat), .int .i64 (i : Nat)] h = .ok (.int .i64 1) h) ∧
    (netsF (w.names.drop i) (w.wides.drop i) (w.first.drop i) = true → ∀ r, r ≠ .fail → J15 tab3 1 [.ptr b 0, .int .i64 (N : Nat), .int .i64 (N : Nat), .int .i64 (N : Nat)] h = r → J15 tab3 1 [.ptr b 0, .int .i64 (N : Nat), .int .i64 (N : Nat), .int .i64 (i : Nat)] h = r) := by
  intro k
  induction k with
  | zero =>
    intro i hi
    have hi : i = N := by omega
    subst hi
    rw [List.drop_of_length_le (by omega), List.drop_of_length_le (by omega), List.drop_of_length_le (by omega)]
    exact ⟨fun h => by simp [netsF] at h, fun _ r _ e => e⟩
  | succ k ih =>
    intro i hi
    have d1 := List.drop_eq_getElem_cons (l := w.names) (i := i) (by omega)
    have d2 := List.drop_eq_getElem_cons (l := w.wides) (i := i) (by omega)
    have d3 := List.drop_eq_getElem_cons (l := w.first) (i := i) (by omega)
    have e1 : w.names[i]? = some (w.names[i]'(by omega)) := List.getElem?_eq_getElem _
    have e2 : w.wides[i]? = some (w.wides[i]'(by omega)) := List.getElem?_eq_getElem _
    have e3 : w.first[i]? = some (w.first[i]'(by omega)) := List.getElem?_eq_getElem _
    generalize w.names[i]'(by omega) = nm at d1 e1
    generalize w.wides[i]'(by omega) = wi at d2 e2
    generalize w.first[i]'(by omega) = fs at d3 e3
    rw [d1, d2, d3]
    simp only [netsF]
    obtain ⟨i1, i2⟩ := ih (i + 1) (by omega)
    cases hn : netF nm wi fs with
    | false =>
      refine ⟨fun _ => net_step g x (by omega) e1 e2 e3 (by simp) ?_, fun h => by simp at h⟩
      rw [hn]
      exact e15_2 (by simp only [t15_2, W, WW, ↓reduceIte, reduceCtorEq, Nat.reduceAdd, Int.reduceEq, Int.reduceNe, Int.reduceLT, Int.reduceLE, Int.reduceAdd, Int.reduceSub, Int.reduceMul, Int.reduceNeg, Nat.reduceMul, Bool.not_false]) (by simp)
    | true =>
      rw [Bool.true_and]
      have two : ∀ r, r ≠ .fail → J15 tab3 1 [.ptr b 0, .int .i64 (N : Nat), .int .i64 (N : Nat), .int .i64 ((i + 1 : Nat) : Int)] h = r → J15 tab3 1 [.ptr b 0, .int .i64 (N : Nat), .int .i64 (N : Nat), .int .i64 (i : Nat)] h = r := by
        intro r hr e
        refine net_step g x (by omega) e1 e2 e3 hr ?_
        rw [hn]
        refine e15_2 ?_ hr
        have w1 := wr_succ (show i < 9223372036854775807 by omega)
        simp only [t15_2, W, WW, ↓reduceIte, reduceCtorEq, Nat.reduceAdd, Int.reduceEq, Int.reduceNe, Int.reduceLT, Int.reduceLE, Int.reduceAdd, Int.reduceSub, Int.reduceMul, Int.reduceNeg, Nat.reduceMul, Bool.not_true, w1]
        exact e
      exact ⟨fun h => two _ (by simp) (i1 h), fun h r hr e => two r hr (i2 h r hr e)⟩
theorem waveCheck {h : H} (g : Gd h) {n wd f l : IV} {w : Wv} (r : WR h n wd f l w) (hl : w.list.length ≤ 9223372036854775807) : ∃ h', CL tab3 15 [.agg [n, wd, f, l]] h = .ok (.int .i64 (if waveF w = true then 0 else 1)) h' ∧ Ky h h' := by
  obtain ⟨h2, e2, k2, c2, -, -⟩ := (Ky.refl g).newI (cs := [n, wd, f, l]) r.scalar
  have x : WB h2 h.next n wd f l w := ⟨c2, r.ky g.wf k2⟩
  have l0 := x.l0
  have l1 := x.l1
  have l2 := x.l2
  have l3 := x.l3
  have n0 := x.wr.names.len
  have n1 := x.wr.wides.len
  have n2 := x.wr.first.len
  have n3 := x.wr.list.len
  by_cases h1 : (4096 : Int) < (w.names.length : Nat)
  · have hF : waveF w = false := by
      have : ¬ w.names.length ≤ 4096 := by omega
      simp [waveF, this]
    refine ⟨h2, c15 good3.step rfl rfl g ?_ (by simp), k2⟩
    rw [hF]
    simp only [t15_0, IV.cells, e2, W, WW, ↓reduceIte, reduceCtorEq, Nat.reduceAdd, Int.reduceEq, Int.reduceNe, Int.reduceLT, Int.reduceLE, Int.reduceAdd, Int.reduceSub, Int.reduceMul, Int.reduceNeg, Nat.reduceMul, l0, l1, l2, n0, h1, Int.ofNat_eq_natCast]
  have h1' : w.names.length ≤ 4096 := by omega
  by_cases h2' : ((w.wides.length : Nat) : Int) = (w.names.length : Nat)
  rotate_left
  · have hF : waveF w = false := by
      have : netsF w.names w.wides w.first = false := by
        cases hn : netsF w.names w.wides w.first with
        | false => rfl
        | true => have := netsF_len hn; omega
      simp [waveF, this]
    refine ⟨h2, c15 good3.step rfl rfl g ?_ (by simp), k2⟩
    rw [hF]
    simp only [t15_0, IV.cells, e2, W, WW, ↓reduceIte, reduceCtorEq, Nat.reduceAdd, Int.reduceEq, Int.reduceNe, Int.reduceLT, Int.reduceLE, Int.reduceAdd, Int.reduceSub, Int.reduceMul, Int.reduceNeg, Nat.reduceMul, l0, l1, l2, n0, n1, h1, Int.ofNat_eq_natCast, eq_false h2']
    try rfl
  by_cases h3' : ((w.first.length : Nat) : Int) = (w.names.length : Nat)
  rotate_left
  · have hF : waveF w = false := by
      have : netsF w.names w.wides w.first = false := by
        cases hn : netsF w.names w.wides w.first with
        | false => rfl
        | true => have := netsF_len hn; omega
      simp [waveF, this]
    refine ⟨h2, c15 good3.step rfl rfl g ?_ (by simp), k2⟩
    rw [hF]
    simp only [t15_0, IV.cells, e2, W, WW, ↓reduceIte, reduceCtorEq, Nat.reduceAdd, Int.reduceEq, Int.reduceNe, Int.reduceLT, Int.reduceLE, Int.reduceAdd, Int.reduceSub, Int.reduceMul, Int.reduceNeg, Nat.reduceMul, l0, l1, l2, n0, n1, n2, h1, Int.ofNat_eq_natCast, eq_true h2', eq_false h3']
    try rfl
  have start : ∀ r : CRes, r ≠ .fail → J15 tab3 1 [.ptr h.next 0, .int .i64 (w.names.length : Nat), .int .i64 (w.names.length : Nat), .int .i64 ((0 : Nat) : Int)] h2 = r → CL tab3 15 [.agg [n, wd, f, l]] h = r := by
    intro r hr e
    refine c15 good3.step rfl rfl g ?_ hr
    simp only [t15_0, IV.cells, e2, W, WW, ↓reduceIte, reduceCtorEq, Nat.reduceAdd, Int.reduceEq, Int.reduceNe, Int.reduceLT, Int.reduceLE, Int.reduceAdd, Int.reduceSub, Int.reduceMul, Int.reduceNeg, Nat.reduceMul, l0, l1, l2, n0, n1, n2, h1, Int.ofNat_eq_natCast, eq_true h2', eq_true h3']
    exact e
  obtain ⟨i1, i2⟩ := nets_loop k2.gd x rfl (by omega) (by omega) h1' w.names.length 0 (by omega)
  simp only [List.drop_zero] at i1 i2
  cases hn : netsF w.names w.wides w.first with
  | false =>
    have hF : waveF w = false := by simp [waveF, hn]
    rw [hF]
    exact ⟨h2, start _ (by simp) (i1 hn), k2⟩
  | true =>
    have hF : waveF w = listF w.names.length w.wides w.first none w.list := by simp [waveF, hn, h1']
    rw [hF]
    obtain ⟨v', h4, ec, k4, cl⟩ := clone good3.step rfl rfl k2.gd x.wr.first (by omega)
    have nw : Now h2 h4 w.names.length v' w.first := ⟨by omega, fun hz => by
      obtain ⟨fz, e1, e2⟩ := cl (fun h0 => by rw [h0] at h3'; simp at h3'; omega)
      refine ⟨_, fz, e1.trans ?_, by omega, e2⟩
      congr 1; omega⟩
    obtain ⟨h', e, k5⟩ := list_loop k2.gd x (N := w.names.length) (by omega) hl w.list.length 0 h4 w.first (by omega) k4 nw
    rw [List.drop_zero] at e
    refine ⟨h', start _ (by split <;> simp) (i2 hn _ (by split <;> simp) ?_), k2.trans k5⟩
    refine e15_1 ?_ (by split <;> simp)
    have x4 := x.ky k2.gd.wf k4
    have m3 := x4.l3
    simp only [t15_1, W, WW, ↓reduceIte, reduceCtorEq, Nat.reduceAdd, Int.reduceEq, Int.reduceNe, Int.reduceLT, Int.reduceLE, Int.reduceAdd, Int.reduceSub, Int.reduceMul, Int.reduceNeg, Nat.reduceMul, Int.lt_irrefl, l2, ec, m3, n3, Int.ofNat_eq_natCast]
    exact e
theorem bt3 : BT tab3 := ⟨good3.step, rfl, rfl, rfl, rfl, rfl, rfl, rfl⟩
theorem builderLen {T : Tab} (t : OvStep T) (ho : T.ov 20 = none) (hp : T.pol 20 = true) {h₀ h : H} {b : Nat} {l : Bs} (x : BL h₀ h b l) : CL T 20 [.ptr b 0] h = .ok (.int .i64 (l.length : Nat)) h := by
  obtain ⟨addr, buf, c, ha, gb⟩ := x.cell
  have l1 := c.ld0 1
  simp only [List.getElem?_cons_zero, List.getElem?_cons_succ] at l1
  have hl : lenS buf = some (.int .i64 (l.length : Nat)) := by
    rcases gb with ⟨rfl, rfl⟩ | ⟨bb, k, rfl, _, rfl, _⟩ <;> rfl
  refine c20 t ho hp x.ky.gd ?_ (by simp)
  simp only [t20_0, W, WW, ↓reduceIte, reduceCtorEq, Nat.reduceAdd, Int.reduceEq, Int.reduceNe, Int.reduceLT, Int.reduceLE, Int.reduceAdd, Int.reduceSub, Int.reduceMul, Int.reduceNeg, Nat.reduceMul, l1, hl]
def headF : Bs := [36, 116, 105, 109, 101, 115, 99, 97, 108, 101, 32, 49, 32, 110, 115, 32, 36, 101, 110, 100, 10, 36, 115, 99, 111, 112, 101, 32, 109, 111, 100, 117, 108, 101, 32, 116, 111, 112, 32, 36, 101, 110, 100, 10]
def midF : Bs := [36, 117, 112, 115, 99, 111, 112, 101, 32, 36, 101, 110, 100, 10, 36, 101, 110, 100, 100, 101, 102, 105, 110, 105, 116, 105, 111, 110, 115, 32, 36, 101, 110, 100, 10, 36, 100, 117, 109, 112, 118, 97, 114, 115, 10]
def endF : Bs := [36, 101, 110, 100, 10]
def varW : Bs := [36, 118, 97, 114, 32, 119, 105, 114, 101, 32]
def endW : Bs := [32, 36, 101, 110, 100, 10]
theorem head_sv : IV.str ⟨44, 372417928818112564871583596543448252004672529497768332514574081386684445445215142980140321110602442961956⟩ = sv headF := by kernel_rfl
theorem mid_sv : IV.str ⟨45, 95877086440312645158151348174744568952353856492712646089714385966300053302821846437583023914514791984559396⟩ = sv midF := by kernel_rfl
theorem end_sv : IV.str ⟨5, 44634629412⟩ = sv endF := by kernel_rfl
theorem var_sv : IV.str ⟨10, 152987092854847431603748⟩ = sv varW := by kernel_rfl
theorem endw_sv : IV.str ⟨6, 11426465129504⟩ = sv endW := by kernel_rfl
def valueF (v : Bs) (net : Nat) : Bs := if v.length = 1 then v ++ codeF net ++ [10] else [98] ++ v ++ [32] ++ codeF net ++ [10]
def nameF (n : Bs) : Bs := if n = [] then [95] else n
def varF (k : Nat) (w : Int) (n : Bs) : Bs := varW ++ itoaF w ++ [32] ++ codeF k ++ [32] ++ nameF n ++ endW
def varsF : Nat → List Bs → List Int → Option Bs
  | _, [], _ => some []
  | _, _ :: _, [] => some []
  | k, n :: ns, w :: ws => if n = [95] then none else (varsF (k + 1) ns ws).map (varF k w n ++ ·)
def valsF : Nat → List Bs → Bs
  | _, [] => []
  | k, v :: vs => valueF v k ++ valsF (k + 1) vs
def timeF (p : Option Chg) (c : Chg) : Bs := if p.map (·.time) = some c.time then [] else [35] ++ itoaF c.time ++ [10]
def chgF (p : Option Chg) (c : Chg) : Bs := timeF p c ++ valueF c.val c.net.toNat
def chgsF : Option Chg → List Chg → Bs
  | _, [] => []
  | p, c :: l => chgF p c ++ chgsF (some c) l
def baseF (w : Wv) (v : Bs) : Bs := headF ++ v ++ midF ++ valsF 0 w.first ++ endF
def writeF (w : Wv) : Bs × Int :=
  if waveF w = true then (match varsF 0 w.names w.wides with
    | none => ([], 1)
    | some v => if 1048576 < (baseF w v ++ chgsF none w.list).length then ([], 4) else (baseF w v ++ chgsF none w.list, 0))
  else ([], 1)
def resI (r : Bs × Int) : IV := .tup [sv r.1, .int .i64 r.2]
theorem digU_len : ∀ (f u : Nat), (digU f u).length ≤ f
  | 0, u => Nat.le_refl 0
  | f + 1, u => by
    simp only [digU]
    split
    · simp
    · have := digU_len f (u / 10)
      simp only [List.length_append, List.length_singleton]; omega
theorem itoaF_len (n : Int) : (itoaF n).length ≤ 21 := by
  unfold itoaF
  split
  · have := digU_len 20 n.natAbs
    simp only [List.length_cons]; omega
  · have := digU_len 20 n.toNat; omega
theorem codeF_len (n : Nat) : (codeF n).length ≤ 2 := by unfold codeF; split <;> simp
theorem valueF_len (v : Bs) (n : Nat) : (valueF v n).length ≤ v.length + 5 := by
  have := codeF_len n
  unfold valueF
  split
  · simp only [List.length_append, List.length_singleton]; omega
  · simp only [List.length_append, List.length_singleton]; omega
theorem varF_len (k : Nat) (w : Int) (n : Bs) (hn : n.length ≤ 256) : (varF k w n).length ≤ 300 := by
  have := codeF_len k
  have := itoaF_len w
  have h3 : (nameF n).length ≤ 256 := by
    unfold nameF
    split
    · simp
    · exact hn
  have h4 : varW.length = 10 := rfl
  have h5 : endW.length = 6 := rfl
  unfold varF
  simp only [List.length_append, List.length_singleton]; omega
theorem value3 {h : H} (g : Gd h) (v : Bs) (net : Nat) (hv : v.length ≤ 256) (hn : net < 8836) : CL tab3 19 [sv v, .int .i64 (net : Nat)] h = .ok (sv (valueF v net)) h := by
  have ec := code3 (h := h) net hn
  have hl := codeF_len net
  have c10 : IV.str ⟨1, 10⟩ = sv [10] := rfl
  have c98 : IV.str ⟨1, 98⟩ = sv [98] := rfl
  have c32 : IV.str ⟨1, 32⟩ = sv [32] := rfl
  refine c19 good3.step rfl rfl g ?_ (by simp)
  unfold valueF
  by_cases h1 : v.length = 1
  · have h1' : ((v.length : Nat) : Int) = 1 := by omega
    have a1 : binS .add (sv v) (sv (codeF net)) = some (sv (v ++ codeF net)) := binS_add _ _ (by omega)
    have a2 : binS .add (sv (v ++ codeF net)) (sv [10]) = some (sv (v ++ codeF net ++ [10])) := binS_add _ _ (by simp only [List.length_append, List.length_singleton]; omega)
    rw [if_pos h1]
    simp only [t19_0, W, WW, ↓reduceIte, reduceCtorEq, Nat.reduceAdd, Int.reduceEq, Int.reduceNe, Int.reduceLT, Int.reduceLE, Int.reduceAdd, Int.reduceSub, Int.reduceMul, Int.reduceNeg, Nat.reduceMul, eq_true h1', ec, c10, a1, a2]
  · have h1' : ¬ ((v.length : Nat) : Int) = 1 := by omega
    have a1 : binS .add (sv [98]) (sv v) = some (sv ([98] ++ v)) := binS_add _ _ (by simp only [List.length_singleton]; omega)
    have a2 : binS .add (sv ([98] ++ v)) (sv [32]) = some (sv ([98] ++ v ++ [32])) := binS_add _ _ (by simp only [List.length_append, List.length_singleton]; omega)
    have a3 : binS .add (sv ([98] ++ v ++ [32])) (sv (codeF net)) = some (sv ([98] ++ v ++ [32] ++ codeF net)) := binS_add _ _ (by simp only [List.length_append, List.length_singleton]; omega)
    have a4 : binS .add (sv ([98] ++ v ++ [32] ++ codeF net)) (sv [10]) = some (sv ([98] ++ v ++ [32] ++ codeF net ++ [10])) := binS_add _ _ (by simp only [List.length_append, List.length_singleton]; omega)
    rw [if_neg h1]
    simp only [t19_0, W, WW, ↓reduceIte, reduceCtorEq, Nat.reduceAdd, Int.reduceEq, Int.reduceNe, Int.reduceLT, Int.reduceLE, Int.reduceAdd, Int.reduceSub, Int.reduceMul, Int.reduceNeg, Nat.reduceMul, eq_false h1', ec, c10, c98, c32, a1, a2, a3, a4]
theorem netsF_at : ∀ {a : List Bs} {b : List Int} {c : List Bs}, netsF a b c = true → ∀ (i : Nat), i < a.length → ∃ n w f, a[i]? = some n ∧ b[i]? = some w ∧ c[i]? = some f ∧ netF n w f = true
  | [], _, _, _, i, hi => by simp at hi
  | n :: ns, w :: ws, f :: fs, h, i, hi => by
    simp only [netsF, Bool.and_eq_true] at h
    cases i with
    | zero => exact ⟨n, w, f, rfl, rfl, rfl, h.1⟩
    | succ i =>
      obtain ⟨n', w', f', e1, e2, e3, e4⟩ := netsF_at h.2 i (by simpa using hi)
      exact ⟨n', w', f', by simpa using e1, by simpa using e2, by simpa using e3, e4⟩
  | _ :: _, [], _, h, _, _ => by simp [netsF] at h
  | _ :: _, _ :: _, [], h, _, _ => by simp [netsF] at h
theorem netF_le {n : Bs} {w : Int} {f : Bs} (h : netF n w f = true) : n.length ≤ 256 ∧ f.length ≤ 256 ∧ w = f.length := by
  simp only [netF, checkM, Bool.and_eq_true, decide_eq_true_eq] at h
  obtain ⟨⟨⟨h1, _⟩, ⟨_, h2⟩, _⟩, h3⟩ := h
  exact ⟨h1, h2, h3.symm⟩
theorem var_step {hM h : H} (gM : Gd hM) {b bb : Nat} {n wd f l : IV} {w : Wv} (x : WB hM b n wd f l w) {acc : Bs} (y : BL hM h bb acc) (hr : acc.length ≤ 2000000) {i N : Nat} (hi : i < N) (hN : N ≤ 4096) {nm fs : Bs} {wi : Int} (e1 : w.names[i]? = some nm) (e2 : w.wides[i]? = some wi) (hn : netF nm wi fs = true) :
    (nm = [95] → J7 tab3 1 [.ptr b 0, .ptr bb 0, n, .int .i64 (N : Nat), .int .i64 (i : Nat)] h = .ok (resI ([], 1)) h) ∧
    (nm ≠ [95] → ∃ h', BL hM h' bb (acc ++ varF i wi nm) ∧ ∀ r, r ≠ .fail → J7 tab3 1 [.ptr b 0, .ptr bb 0, n, .int .i64 (N : Nat), .int .i64 ((i + 1 : Nat) : Int)] h' = r → J7 tab3 1 [.ptr b 0, .ptr bb 0, n, .int .i64 (N : Nat), .int .i64 (i : Nat)] h = r) := by
  have xh := x.ky gM.wf y.ky
  obtain ⟨p1, q1, r1⟩ := LR.str xh.wr.names e1
  obtain ⟨p2, q2, r2⟩ := LW.int xh.wr.wides e2
  obtain ⟨n1, n2, n3⟩ := netF_le hn
  have hlt : ((i : Nat) : Int) < (N : Nat) := by omega
  have l1 := xh.l1
  have c95 : IV.str ⟨1, 95⟩ = sv [95] := rfl
  have c32 : IV.str ⟨1, 32⟩ = sv [32] := rfl
  have s0 : IV.str ⟨0, 0⟩ = sv [] := rfl
  refine ⟨fun h95 => ?_, fun h95 => ?_⟩
  · subst h95
    refine e7_1 ?_ (by simp [resI])
    simp only [t7_1, W, WW, ↓reduceIte, reduceCtorEq, Nat.reduceAdd, Int.reduceEq, Int.reduceNe, Int.reduceLT, Int.reduceLE, Int.reduceAdd, Int.reduceSub, Int.reduceMul, Int.reduceNeg, Nat.reduceMul, hlt, q1, r1, c95, s0]
    rfl
  · have ei := itoa3 (h := h) wi (by omega) (by omega)
    have ec := code3 (h := h) i (by omega)
    have k1 := itoaF_len wi
    have k2 := codeF_len i
    have k3 : (nameF nm).length ≤ 256 := by
      unfold nameF
      split
      · simp
      · exact n1
    have k4 : varW.length = 10 := rfl
    have k5 : endW.length = 6 := rfl
    have a1 : binS .add (sv varW) (sv (itoaF wi)) = some (sv (varW ++ itoaF wi)) := binS_add _ _ (by omega)
    have a2 : binS .add (sv (varW ++ itoaF wi)) (sv [32]) = some (sv (varW ++ itoaF wi ++ [32])) := binS_add _ _ (by simp only [List.length_append, List.length_singleton]; omega)
    have a3 : binS .add (sv (varW ++ itoaF wi ++ [32])) (sv (codeF i)) = some (sv (varW ++ itoaF wi ++ [32] ++ codeF i)) := binS_add _ _ (by simp only [List.length_append, List.length_singleton]; omega)
    have a4 : binS .add (sv (varW ++ itoaF wi ++ [32] ++ codeF i)) (sv [32]) = some (sv (varW ++ itoaF wi ++ [32] ++ codeF i ++ [32])) := binS_add _ _ (by simp only [List.length_append, List.length_singleton]; omega)
    have a5 : binS .add (sv (varW ++ itoaF wi ++ [32] ++ codeF i ++ [32])) (sv (nameF nm)) = some (sv (varW ++ itoaF wi ++ [32] ++ codeF i ++ [32] ++ nameF nm)) := binS_add _ _ (by simp only [List.length_append, List.length_singleton]; omega)
    have a6 : binS .add (sv (varW ++ itoaF wi ++ [32] ++ codeF i ++ [32] ++ nameF nm)) (sv endW) = some (sv (varF i wi nm)) := binS_add _ _ (by simp only [List.length_append, List.length_singleton]; omega)
    have k6 := varF_len i wi nm n1
    obtain ⟨h', ew, y', _⟩ := writeString bt3 y (varF i wi nm) (by omega)
    have w1 := wr_succ (show i < 9223372036854775807 by omega)
    refine ⟨h', y', fun r hr e => e7_1 ?_ hr⟩
    have two : J7 tab3 2 [.ptr b 0, .ptr bb 0, .int .i64 (i : Nat), sv (nameF nm), n, .int .i64 (N : Nat), .int .i64 (i : Nat)] h = r := by
      refine e7_2 ?_ hr
      simp only [t7_2, W, WW, ↓reduceIte, reduceCtorEq, Nat.reduceAdd, Int.reduceEq, Int.reduceNe, Int.reduceLT, Int.reduceLE, Int.reduceAdd, Int.reduceSub, Int.reduceMul, Int.reduceNeg, Nat.reduceMul, l1, q2, r2, ei, var_sv, a1, c32, a2, ec, a3, a4, a5, endw_sv, a6, ew, w1]
      exact e
    by_cases h0 : nm = []
    · subst h0
      have hnm : nameF [] = [95] := rfl
      rw [hnm] at two
      simp only [t7_1, W, WW, ↓reduceIte, reduceCtorEq, Nat.reduceAdd, Int.reduceEq, Int.reduceNe, Int.reduceLT, Int.reduceLE, Int.reduceAdd, Int.reduceSub, Int.reduceMul, Int.reduceNeg, Nat.reduceMul, hlt, q1, r1, c95, s0, h95]
      exact two
    · have hnm : nameF nm = nm := by unfold nameF; rw [if_neg h0]
      rw [hnm] at two
      simp only [t7_1, W, WW, ↓reduceIte, reduceCtorEq, Nat.reduceAdd, Int.reduceEq, Int.reduceNe, Int.reduceLT, Int.reduceLE, Int.reduceAdd, Int.reduceSub, Int.reduceMul, Int.reduceNeg, Nat.reduceMul, hlt, q1, r1, c95, s0, h95, h0]
      exact two
theorem vars_loop {hM : H} (gM : Gd hM) {b bb : Nat} {n wd f l : IV} {w : Wv} (x : WB hM b n wd f l w) {N : Nat} (hN : N ≤ 4096) (e1 : w.names.length = N) (hn : netsF w.names w.wides w.first = true) : ∀ (k i : Nat) (h : H) (acc : Bs), i + k = N → BL hM h bb acc → acc.length ≤ 44 + i * 300 →
    (varsF i (w.names.drop i) (w.wides.drop i) = none → ∃ h', J7 tab3 1 [.ptr b 0, .ptr bb 0, n, .int .i64 (N : Nat), .int .i64 (i : Nat)] h = .ok (resI ([], 1)) h' ∧ Ky hM h') ∧
    (∀ v, varsF i (w.names.drop i) (w.wides.drop i) = some v → ∃ h', BL hM h' bb (acc ++ v) ∧ (acc ++ v).length ≤ 44 + N * 300 ∧ ∀ r, r ≠ .fail → J7 tab3 1 [.ptr b 0, .ptr bb 0, n, .int .i64 (N : Nat), .int .i64 (N : Nat)] h' = r → J7 tab3 1 [.ptr b 0, .ptr bb 0, n, .int .i64 (N : Nat), .int .i64 (i : Nat)] h = r) := by
  intro k
  induction k with
  | zero =>
    intro i h acc hi y hl
    have hi : i = N := by omega
    subst hi
    rw [List.drop_of_length_le (by omega)]
    refine ⟨fun h => by simp [varsF] at h, fun v hv => ?_⟩
    simp only [varsF, Option.some.injEq] at hv
    subst hv
    exact ⟨h, by rw [List.append_nil]; exact y, by rw [List.append_nil]; omega, fun r _ e => e⟩
  | succ k ih =>
    intro i h acc hi y hl
    obtain ⟨nm, wi, fs, q1, q2, q3, q4⟩ := netsF_at hn i (by omega)
    have d1 : w.names.drop i = nm :: w.names.drop (i + 1) := by
      have := List.drop_eq_getElem_cons (l := w.names) (i := i) (by omega)
      rw [this]
      congr 1
      have := (List.getElem?_eq_some_iff.1 q1).2
      exact this
    have hw : i < w.wides.length := (List.getElem?_eq_some_iff.1 q2).1
    have d2 : w.wides.drop i = wi :: w.wides.drop (i + 1) := by
      have := List.drop_eq_getElem_cons (l := w.wides) (i := i) hw
      rw [this]
      congr 1
      have := (List.getElem?_eq_some_iff.1 q2).2
      exact this
    rw [d1, d2]
    simp only [varsF]
    obtain ⟨s1, s2⟩ := var_step gM x y (by omega) (i := i) (N := N) (by omega) hN q1 q2 q4
    by_cases h95 : nm = [95]
    · rw [if_pos h95]
      exact ⟨fun _ => ⟨h, s1 h95, y.ky⟩, fun v hv => by cases hv⟩
    · rw [if_neg h95]
      obtain ⟨h1, y1, go⟩ := s2 h95
      have hvl := varF_len i wi nm (netF_le q4).1
      obtain ⟨i1, i2⟩ := ih (i + 1) h1 _ (by omega) y1 (by rw [List.length_append]; omega)
      refine ⟨fun hv => ?_, fun v hv => ?_⟩
      · rw [Option.map_eq_none_iff] at hv
        obtain ⟨h', e, k'⟩ := i1 hv
        exact ⟨h', go _ (by simp [resI]) e, k'⟩
      · obtain ⟨v', hv', rfl⟩ := Option.map_eq_some_iff.1 hv
        obtain ⟨h', y', hl', go'⟩ := i2 v' hv'
        rw [List.append_assoc] at y' hl'
        exact ⟨h', y', hl', fun r hr e => go r hr (go' r hr e)⟩
structure ChgOk (N : Nat) (c : Chg) : Prop where
  n0 : 0 ≤ c.net
  n1 : c.net < N
  t0 : 0 ≤ c.time
  t1 : c.time ≤ 4611686018427387903
  v : checkM c.val = true
theorem ChgOk.len {N : Nat} {c : Chg} (x : ChgOk N c) : c.val.length ≤ 256 := by
  have := x.v
  simp only [checkM, Bool.and_eq_true, decide_eq_true_eq] at this
  exact this.1.2
theorem listF_at {N : Nat} {wides : List Int} : ∀ {l : List Chg} {now : List Bs} {p : Option Chg}, listF N wides now p l = true → ∀ c ∈ l, ChgOk N c
  | [], _, _, _, c, hc => by simp at hc
  | d :: l, now, p, h, c, hc => by
    simp only [listF, valF, placeF, Bool.and_eq_true, decide_eq_true_eq] at h
    obtain ⟨⟨⟨⟨⟨h1, h2⟩, h3⟩, h4⟩, h5⟩, ⟨⟨h6, h7⟩, h8⟩, h9⟩ := h
    rcases List.mem_cons.1 hc with rfl | hc
    · exact ⟨h1, h2, h3, h4, h6⟩
    · exact listF_at h9 c hc
theorem vals_loop {hM : H} (gM : Gd hM) {b bb : Nat} {n wd f l : IV} {w : Wv} (x : WB hM b n wd f l w) {N : Nat} (hN : N ≤ 4096) (e1 : w.first.length = N) (hf : ∀ (i : Nat) (v : Bs), w.first[i]? = some v → v.length ≤ 256) : ∀ (k i : Nat) (h : H) (acc : Bs), i + k = N → BL hM h bb acc → acc.length ≤ 1300000 + i * 270 →
    ∃ h', BL hM h' bb (acc ++ valsF i (w.first.drop i)) ∧ (acc ++ valsF i (w.first.drop i)).length ≤ 1300000 + N * 270 ∧ ∀ r, r ≠ .fail → J7 tab3 3 [.ptr b 0, .ptr bb 0, f, .int .i64 (N : Nat), .int .i64 (N : Nat)] h' = r → J7 tab3 3 [.ptr b 0, .ptr bb 0, f, .int .i64 (N : Nat), .int .i64 (i : Nat)] h = r := by
  intro k
  induction k with
  | zero =>
    intro i h acc hi y hl
    have hi : i = N := by omega
    subst hi
    rw [List.drop_of_length_le (by omega)]
    exact ⟨h, by rw [valsF, List.append_nil]; exact y, by rw [valsF, List.append_nil]; exact hl, fun r _ e => e⟩
  | succ k ih =>
    intro i h acc hi y hl
    have xh := x.ky gM.wf y.ky
    obtain ⟨v, q1⟩ : ∃ v, w.first[i]? = some v := ⟨w.first[i]'(by omega), List.getElem?_eq_getElem (by omega)⟩
    have d1 : w.first.drop i = v :: w.first.drop (i + 1) := by
      have := List.drop_eq_getElem_cons (l := w.first) (i := i) (by omega)
      rw [this]
      congr 1
      exact (List.getElem?_eq_some_iff.1 q1).2
    have hv := hf i v q1
    obtain ⟨p, e2, e3⟩ := LR.str xh.wr.first q1
    have ev := value3 y.ky.gd v i hv (by omega)
    have hvl := valueF_len v i
    obtain ⟨h1, ew, y1, _⟩ := writeString bt3 y (valueF v i) (by omega)
    have w1 := wr_succ (show i < 9223372036854775807 by omega)
    have hlt : ((i : Nat) : Int) < (N : Nat) := by omega
    obtain ⟨h', y', hl', go⟩ := ih (i + 1) h1 _ (by omega) y1 (by rw [List.length_append]; omega)
    rw [d1]
    simp only [valsF]
    rw [List.append_assoc] at y' hl'
    refine ⟨h', y', hl', fun r hr e => e7_3 ?_ hr⟩
    simp only [t7_3, W, WW, ↓reduceIte, reduceCtorEq, Nat.reduceAdd, Int.reduceEq, Int.reduceNe, Int.reduceLT, Int.reduceLE, Int.reduceAdd, Int.reduceSub, Int.reduceMul, Int.reduceNeg, Nat.reduceMul, hlt, e2, e3, ev, ew, w1]
    exact go r hr e
theorem chg_loop {hM : H} (gM : Gd hM) {b bb : Nat} {n wd f l : IV} {w : Wv} (x : WB hM b n wd f l w) {N : Nat} (hN : N ≤ 4096) (hok : ∀ c ∈ w.list, ChgOk N c) (hlen : w.list.length ≤ 9223372036854775807) : ∀ (k i : Nat) (h : H) (acc : Bs), i + k = w.list.length → BL hM h bb acc → acc.length ≤ 3000000 →
    ∃ h', J7 tab3 4 [.ptr b 0, .ptr bb 0, l, .int .i64 (w.list.length : Nat), .int .i64 (i : Nat)] h = .ok (resI (if 1048576 < (acc ++ chgsF (prevAt w.list i) (w.list.drop i)).length then ([], 4) else (acc ++ chgsF (prevAt w.list i) (w.list.drop i), 0))) h' ∧ Ky hM h' := by
  intro k
  induction k with
  | zero =>
    intro i h acc hi y hl
    have hlt : ¬ ((i : Nat) : Int) < (w.list.length : Nat) := by omega
    rw [List.drop_of_length_le (by omega)]
    simp only [chgsF, List.append_nil]
    have el := builderLen good3.step rfl rfl y
    have s0 : IV.str ⟨0, 0⟩ = sv [] := rfl
    by_cases hb : 1048576 < acc.length
    · have hb' : (1048576 : Int) < (acc.length : Nat) := by omega
      rw [if_pos hb]
      refine ⟨h, e7_4 ?_ (by simp [resI]), y.ky⟩
      simp only [t7_4, W, WW, ↓reduceIte, reduceCtorEq, Nat.reduceAdd, Int.reduceEq, Int.reduceNe, Int.reduceLT, Int.reduceLE, Int.reduceAdd, Int.reduceSub, Int.reduceMul, Int.reduceNeg, Nat.reduceMul, hlt, el, hb', s0]
      rfl
    · have hb' : ¬ (1048576 : Int) < (acc.length : Nat) := by omega
      obtain ⟨h', es, k'⟩ := builderString bt3 y (by omega)
      rw [if_neg hb]
      refine ⟨h', e7_4 ?_ (by simp [resI]), k'⟩
      simp only [t7_4, W, WW, ↓reduceIte, reduceCtorEq, Nat.reduceAdd, Int.reduceEq, Int.reduceNe, Int.reduceLT, Int.reduceLE, Int.reduceAdd, Int.reduceSub, Int.reduceMul, Int.reduceNeg, Nat.reduceMul, hlt, el, hb', es]
      rfl
  | succ k ih =>
    intro i h acc hi y hl
    have hil : i < w.list.length := by omega
    have xh := x.ky gM.wf y.ky
    obtain ⟨c, hc⟩ : ∃ c, w.list[i]? = some c := ⟨w.list[i], List.getElem?_eq_getElem hil⟩
    have d1 : w.list.drop i = c :: w.list.drop (i + 1) := by
      have := List.drop_eq_getElem_cons hil
      rw [this]
      congr 1
      exact (List.getElem?_eq_some_iff.1 hc).2
    have ok := hok c (List.mem_of_getElem? hc)
    obtain ⟨m, hm⟩ := Int.eq_ofNat_of_zero_le ok.n0
    have hmN : m < N := by have := ok.n1; omega
    have hmt : c.net.toNat = m := by omega
    have hpr : prevAt w.list (i + 1) = some c := by
      unfold prevAt
      rw [if_neg (by omega), Nat.add_sub_cancel]; exact hc
    rw [d1]
    simp only [chgsF]
    obtain ⟨pb, po, q1, q2, _⟩ := LR.chg xh.wr.list hc
    have hlt : ((i : Nat) : Int) < (w.list.length : Nat) := by omega
    obtain ⟨h6, e6, k6, c6, -, -⟩ := (Ky.refl y.ky.gd).newI (cs := z1) rfl
    obtain ⟨o, e7, c7, _⟩ := c6.st (n := 3) (off := 0) (v := .agg (chgC c)) rfl rfl (by show 0 + 3 ≤ 3; omega)
    have hp : placeL z1 0 (IV.agg (chgC c)).cells = chgC c := rfl
    rw [hp] at c7
    have k7 : Ky h (h6.put h.next o) := by
      obtain ⟨tt, q, _⟩ := c6
      exact k6.put (Nat.le_refl _) q (fun fz size cs hh => by cases hh)
    generalize h6.put h.next o = h7 at e7 c7 k7
    have y7 := y.mono k7
    have x7 := xh.ky y.ky.gd.wf k7
    have l0 : I.ld0 h7 (.ptr h.next 0) = some (.int .i64 c.time) := by rw [c7.ld0]; rfl
    have t1 := ok.t0
    have t2 := ok.t1
    have vl := ok.len
    have five : ∀ (h8 : H) (a8 : Bs), BL hM h8 bb a8 → Cs h8 h.next true false (chgC c) → a8.length ≤ 3000100 → (∀ z : Bs, a8 ++ (valueF c.val m ++ z) = acc ++ (chgF (prevAt w.list i) c ++ z)) →
        ∃ h', J7 tab3 5 [.ptr b 0, .ptr bb 0, .ptr h.next 0, l, .int .i64 (w.list.length : Nat), .int .i64 (i : Nat)] h8 = .ok (resI (if 1048576 < (acc ++ (chgF (prevAt w.list i) c ++ chgsF (some c) (w.list.drop (i + 1)))).length then ([], 4) else (acc ++ (chgF (prevAt w.list i) c ++ chgsF (some c) (w.list.drop (i + 1))), 0))) h' ∧ Ky hM h' := by
      intro h8 a8 y8 c8 ha hz
      have l1 : I.ld0 h8 (.ptr h.next 1) = some (.int .i64 (m : Nat)) := by rw [c8.ld0, ← hm]; rfl
      have l2 : I.ld0 h8 (.ptr h.next 2) = some (sv c.val) := by rw [c8.ld0]; rfl
      have ev := value3 y8.ky.gd c.val m vl (by omega)
      have hvl := valueF_len c.val m
      obtain ⟨h9, ew, y9, _⟩ := writeString bt3 y8 (valueF c.val m) (by omega)
      have el := builderLen good3.step rfl rfl y9
      have s0 : IV.str ⟨0, 0⟩ = sv [] := rfl
      have w1 := wr_succ (show i < 9223372036854775807 by omega)
      rw [← hz]
      by_cases hb : 1048576 < (a8 ++ valueF c.val m).length
      · have hb' : (1048576 : Int) < ((a8 ++ valueF c.val m).length : Nat) := by omega
        rw [if_pos (by rw [← List.append_assoc, List.length_append]; omega)]
        refine ⟨h9, e7_5 ?_ (by simp [resI]), y9.ky⟩
        simp only [t7_5, W, WW, ↓reduceIte, reduceCtorEq, Nat.reduceAdd, Int.reduceEq, Int.reduceNe, Int.reduceLT, Int.reduceLE, Int.reduceAdd, Int.reduceSub, Int.reduceMul, Int.reduceNeg, Nat.reduceMul, l1, l2, ev, ew, el, hb', s0]
        rfl
      · have hb' : ¬ (1048576 : Int) < ((a8 ++ valueF c.val m).length : Nat) := by omega
        obtain ⟨h', e, k'⟩ := ih (i + 1) h9 _ (by omega) y9 (by omega)
        rw [hpr, List.append_assoc] at e
        refine ⟨h', e7_5 ?_ (by simp [resI]), k'⟩
        simp only [t7_5, W, WW, ↓reduceIte, reduceCtorEq, Nat.reduceAdd, Int.reduceEq, Int.reduceNe, Int.reduceLT, Int.reduceLE, Int.reduceAdd, Int.reduceSub, Int.reduceMul, Int.reduceNeg, Nat.reduceMul, l1, l2, ev, ew, el, hb', w1]
        exact e
    have six : ∀ t : Bool, (t = false ↔ (prevAt w.list i).map (·.time) = some c.time) →
        ∃ h', J7 tab3 6 [.ptr b 0, .ptr bb 0, .ptr h.next 0, l, .int .i64 (w.list.length : Nat), .int .i64 (i : Nat), .bool t] h7 = .ok (resI (if 1048576 < (acc ++ (chgF (prevAt w.list i) c ++ chgsF (some c) (w.list.drop (i + 1)))).length then ([], 4) else (acc ++ (chgF (prevAt w.list i) c ++ chgsF (some c) (w.list.drop (i + 1))), 0))) h' ∧ Ky hM h' := by
      intro t ht
      cases t with
      | false =>
        have hT : timeF (prevAt w.list i) c = [] := by unfold timeF; rw [if_pos (ht.1 rfl)]
        obtain ⟨h', e, k'⟩ := five h7 acc y7 c7 (by omega) (fun z => by simp only [chgF, hT, hmt, List.nil_append])
        refine ⟨h', e7_6 ?_ (by simp [resI]), k'⟩
        simp only [t7_6, W, WW, ↓reduceIte, reduceCtorEq, Nat.reduceAdd, Int.reduceEq, Int.reduceNe, Int.reduceLT, Int.reduceLE, Int.reduceAdd, Int.reduceSub, Int.reduceMul, Int.reduceNeg, Nat.reduceMul]
        exact e
      | true =>
        have hT : timeF (prevAt w.list i) c = [35] ++ itoaF c.time ++ [10] := by
          unfold timeF
          rw [if_neg (fun hh => by have := ht.2 hh; cases this)]
        have ei := itoa3 (h := h7) c.time (by omega) (by omega)
        have il := itoaF_len c.time
        have c35 : IV.str ⟨1, 35⟩ = sv [35] := rfl
        have c10 : IV.str ⟨1, 10⟩ = sv [10] := rfl
        have a1 : binS .add (sv [35]) (sv (itoaF c.time)) = some (sv ([35] ++ itoaF c.time)) := binS_add _ _ (by simp only [List.length_singleton]; omega)
        have a2 : binS .add (sv ([35] ++ itoaF c.time)) (sv [10]) = some (sv ([35] ++ itoaF c.time ++ [10])) := binS_add _ _ (by simp only [List.length_append, List.length_singleton]; omega)
        have tl : ([35] ++ itoaF c.time ++ [10]).length ≤ 23 := by simp only [List.length_append, List.length_singleton]; omega
        obtain ⟨h8, ew, y8, kp⟩ := writeString bt3 y7 ([35] ++ itoaF c.time ++ [10]) (by omega)
        have hne : h.next ≠ bb := by have := y.lt; omega
        obtain ⟨h', e, k'⟩ := five h8 _ y8 (kp _ _ _ hne c7) (by rw [List.length_append]; omega) (fun z => by simp only [chgF, hT, hmt, List.append_assoc])
        refine ⟨h', e7_6 ?_ (by simp [resI]), k'⟩
        simp only [t7_6, W, WW, ↓reduceIte, reduceCtorEq, Nat.reduceAdd, Int.reduceEq, Int.reduceNe, Int.reduceLT, Int.reduceLE, Int.reduceAdd, Int.reduceSub, Int.reduceMul, Int.reduceNeg, Nat.reduceMul, l0, ei, c35, a1, c10, a2, ew]
        exact e
    by_cases h0 : i = 0
    · obtain ⟨h', e, k'⟩ := six true ⟨fun h => (by cases h), fun hh => by unfold prevAt at hh; rw [if_pos h0] at hh; cases hh⟩
      refine ⟨h', e7_4 ?_ (by simp [resI]), k'⟩
      have h0' : ((i : Nat) : Int) = 0 := by omega
      simp only [t7_4, W, WW, ↓reduceIte, reduceCtorEq, Nat.reduceAdd, Int.reduceEq, Int.reduceNe, Int.reduceLT, Int.reduceLE, Int.reduceAdd, Int.reduceSub, Int.reduceMul, Int.reduceNeg, Nat.reduceMul, hlt, q1, q2, e6, e7, eq_true h0', guardK]
      exact e
    · obtain ⟨d, hd⟩ : ∃ d, w.list[i - 1]? = some d := ⟨w.list[i - 1]'(by omega), List.getElem?_eq_getElem (by omega)⟩
      obtain ⟨qb, qo, q3, _, q4⟩ := LR.chg x7.wr.list hd
      have hpv : (prevAt w.list i).map (·.time) = some d.time := by unfold prevAt; rw [if_neg h0, hd]; rfl
      have ws : wr .i64 (((i : Nat) : Int) - 1) = ((i - 1 : Nat) : Int) := by rw [wr_i64 (by omega) (by omega)]; omega
      have h0' : ¬ ((i : Nat) : Int) = 0 := by omega
      have l3 := x7.l3
      by_cases hd2 : d.time = c.time
      · obtain ⟨h', e, k'⟩ := six false ⟨fun _ => by rw [hpv, hd2], fun _ => rfl⟩
        refine ⟨h', e7_4 ?_ (by simp [resI]), k'⟩
        simp only [t7_4, W, WW, ↓reduceIte, reduceCtorEq, Nat.reduceAdd, Int.reduceEq, Int.reduceNe, Int.reduceLT, Int.reduceLE, Int.reduceAdd, Int.reduceSub, Int.reduceMul, Int.reduceNeg, Nat.reduceMul, hlt, q1, q2, e6, e7, eq_false h0', guardK, l3, ws, q3, Nat.add_zero, q4, l0, eq_true hd2]
        exact e
      · obtain ⟨h', e, k'⟩ := six true ⟨fun h => (by cases h), fun hh => by rw [hpv] at hh; injection hh with hh; exact absurd hh hd2⟩
        refine ⟨h', e7_4 ?_ (by simp [resI]), k'⟩
        simp only [t7_4, W, WW, ↓reduceIte, reduceCtorEq, Nat.reduceAdd, Int.reduceEq, Int.reduceNe, Int.reduceLT, Int.reduceLE, Int.reduceAdd, Int.reduceSub, Int.reduceMul, Int.reduceNeg, Nat.reduceMul, hlt, q1, q2, e6, e7, eq_false h0', guardK, l3, ws, q3, Nat.add_zero, q4, l0, eq_false hd2]
        exact e
theorem netsF_first {a : List Bs} {b : List Int} {c : List Bs} (h : netsF a b c = true) (i : Nat) (v : Bs) (hv : c[i]? = some v) : v.length ≤ 256 := by
  obtain ⟨l1, l2⟩ := netsF_len h
  have hi : i < c.length := (List.getElem?_eq_some_iff.1 hv).1
  obtain ⟨n, w, f, e1, e2, e3, e4⟩ := netsF_at h i (by omega)
  rw [hv] at e3
  injection e3 with e3
  subst e3
  exact (netF_le e4).2.1
theorem write {h : H} (g : Gd h) {n wd f l : IV} {w : Wv} (r : WR h n wd f l w) (hl : w.list.length ≤ 9223372036854775807) : ∃ h', CL tab3 7 [.agg [n, wd, f, l]] h = .ok (resI (writeF w)) h' ∧ Ky h h' := by
  obtain ⟨h2, e2, k2, c2, -, -⟩ := (Ky.refl g).newI (cs := [n, wd, f, l]) r.scalar
  have lA : I.ldA 4 h2 (.ptr h.next 0) = some (.agg [n, wd, f, l]) := c2.ldAll rfl
  obtain ⟨h5, ec, k5⟩ := waveCheck k2.gd (r.ky g.wf k2) hl
  have k25 := k2.trans k5
  have s0 : IV.str ⟨0, 0⟩ = sv [] := rfl
  unfold writeF
  cases hF : waveF w with
  | false =>
    rw [hF] at ec
    refine ⟨h5, c7 good3.step rfl rfl g ?_ (by simp [resI]), k25⟩
    have h10 : ¬ (1 : Int) = 0 := by decide
    simp only [t7_0, IV.cells, e2, W, WW, ↓reduceIte, reduceCtorEq, Nat.reduceAdd, Int.reduceEq, Int.reduceNe, Int.reduceLT, Int.reduceLE, Int.reduceAdd, Int.reduceSub, Int.reduceMul, Int.reduceNeg, Nat.reduceMul, lA, ec, Bool.false_eq_true, if_false, h10, s0]
    rfl
  | true =>
    rw [hF] at ec
    have hF' := hF
    simp only [waveF, Bool.and_eq_true, decide_eq_true_eq] at hF'
    obtain ⟨⟨hN, hn⟩, hls⟩ := hF'
    obtain ⟨le1, le2⟩ := netsF_len hn
    have x : WB h5 h.next n wd f l w := ⟨c2.ky k2.gd.wf k5, r.ky g.wf k25⟩
    obtain ⟨h8, eb, y0⟩ := newB_bl k5.gd
    obtain ⟨h10, ew, y1, _⟩ := writeString bt3 y0 headF (by decide)
    rw [List.nil_append] at y1
    have x10 := x.ky k5.gd.wf y1.ky
    have l0 := x10.l0
    have n0 := x10.wr.names.len
    have start : ∀ r : CRes, r ≠ .fail → J7 tab3 1 [.ptr h.next 0, .ptr h5.next 0, n, .int .i64 (w.names.length : Nat), .int .i64 ((0 : Nat) : Int)] h10 = r → CL tab3 7 [.agg [n, wd, f, l]] h = r := by
      intro r hr e
      refine c7 good3.step rfl rfl g ?_ hr
      have eb' : newB h5 [.nilPtr, .nilSlice] tyB = some (.ptr h5.next 0, h8) := eb
      simp only [t7_0, IV.cells, e2, W, WW, ↓reduceIte, reduceCtorEq, Nat.reduceAdd, Int.reduceEq, Int.reduceNe, Int.reduceLT, Int.reduceLE, Int.reduceAdd, Int.reduceSub, Int.reduceMul, Int.reduceNeg, Nat.reduceMul, lA, ec, if_true, eb', head_sv, ew, l0, n0, Int.ofNat_eq_natCast]
      exact e
    obtain ⟨v1, v2⟩ := vars_loop k5.gd x hN rfl hn w.names.length 0 h10 headF (by omega) y1 (by decide)
    simp only [List.drop_zero] at v1 v2
    rw [if_pos rfl]
    cases hv : varsF 0 w.names w.wides with
    | none =>
      obtain ⟨h', e, k'⟩ := v1 hv
      exact ⟨h', start _ (by simp [resI]) e, k25.trans k'⟩
    | some v =>
      obtain ⟨h20, y20, b20, go⟩ := v2 v hv
      obtain ⟨h21, em, y21, _⟩ := writeString bt3 y20 midF (by have : midF.length = 45 := rfl; omega)
      have x21 := x.ky k5.gd.wf y21.ky
      have ml : midF.length = 45 := rfl
      have el : endF.length = 5 := rfl
      have b21 : (headF ++ v ++ midF).length ≤ 1300000 := by rw [List.length_append]; omega
      obtain ⟨h30, y30, b30, go2⟩ := vals_loop k5.gd x hN (le2.trans rfl) (fun i v hv => netsF_first hn i v hv) w.names.length 0 h21 _ (by omega) y21 (by omega)
      rw [List.drop_zero] at y30 b30
      obtain ⟨h31, ee, y31, _⟩ := writeString bt3 y30 endF (by omega)
      have x31 := x.ky k5.gd.wf y31.ky
      have hb : headF ++ v ++ midF ++ valsF 0 w.first ++ endF = baseF w v := rfl
      rw [hb] at y31
      have bb : (baseF w v).length ≤ 3000000 := by rw [← hb, List.length_append]; omega
      obtain ⟨h', e, k'⟩ := chg_loop k5.gd x hN (listF_at hls) hl w.list.length 0 h31 (baseF w v) (by omega) y31 bb
      rw [List.drop_zero, show prevAt w.list 0 = none from rfl] at e
      refine ⟨h', start _ (by simp [resI]) (go _ (by simp [resI]) ?_), k25.trans k'⟩
      refine e7_1 ?_ (by simp [resI])
      have l2 := x21.l2
      have n2 := x21.wr.first.len
      rw [le2] at n2
      simp only [t7_1, W, WW, ↓reduceIte, reduceCtorEq, Nat.reduceAdd, Int.reduceEq, Int.reduceNe, Int.reduceLT, Int.reduceLE, Int.reduceAdd, Int.reduceSub, Int.reduceMul, Int.reduceNeg, Nat.reduceMul, Int.lt_irrefl, mid_sv, em, l2, n2, Int.ofNat_eq_natCast]
      refine go2 _ (by simp [resI]) ?_
      refine e7_3 ?_ (by simp [resI])
      have l3 := x31.l3
      have n3 := x31.wr.list.len
      simp only [t7_3, W, WW, ↓reduceIte, reduceCtorEq, Nat.reduceAdd, Int.reduceEq, Int.reduceNe, Int.reduceLT, Int.reduceLE, Int.reduceAdd, Int.reduceSub, Int.reduceMul, Int.reduceNeg, Nat.reduceMul, Int.lt_irrefl, end_sv, ee, l3, n3, Int.ofNat_eq_natCast]
      exact e
end Go.Proofs.YtdccdfmbakbikaaDoor
