import Derived.Test.YtimjkkcondljeaaGreatDoorM2
set_option linter.unusedVariables false
set_option linter.unusedSimpArgs false
namespace Go.Proofs.YtimjkkcondljeaaGreatDoor.I
noncomputable section
open Go
theorem obind_some (v : IV) (k : IV → CRes) : obind (some v) k = k v := rfl
theorem obind2_some (v : IV) (h : H) (k : IV → H → CRes) : obind2 (some (v, h)) k = k v h := rfl
theorem obindH_some (h : H) (k : H → CRes) : obindH (some h) k = k h := rfl
theorem callP_ok (v : IV) (h : H) (p k : IV → H → CRes) : callP (.ok v h) p k = k v h := rfl
theorem callP_pan (v : IV) (h : H) (p k : IV → H → CRes) : callP (.pan v h) p k = p v h := rfl
theorem condK_bool (b : Bool) (x y : CRes) : condK (.bool b) x y = if b = true then x else y := by cases b <;> rfl
theorem spanK_t (b : Bool) (h : H) (a : (IV → H → CRes) → CRes) (k : IV → H → CRes) : spanK (.bool b) true h a k = if b = true then a k else k (.tup []) h := by cases b <;> rfl
theorem spanK_f (b : Bool) (h : H) (a : (IV → H → CRes) → CRes) (k : IV → H → CRes) : spanK (.bool b) false h a k = if b = true then k (.tup []) h else a k := by cases b <;> rfl
theorem pickI_bool (b : Bool) (x y : Option IV) : pickI (.bool b) x y = if b = true then x else y := by cases b <;> rfl
theorem guardK_bool (b : Bool) (x y z : CRes) : guardK (.bool b) x y z = if b = true then x else y := by cases b <;> rfl
theorem nilI_ptr (b o : Nat) : nilI (.ptr b o) = some (.ptr b o) := rfl
theorem extractI_tup (l : List IV) (i : Nat) : extractI (.tup l) i = l[i]? := rfl
theorem fadK_ptr (o b off : Nat) : fadK o (.ptr b off) = some (.ptr b (off + o)) := rfl
theorem unI_not (b : Bool) : unI .not (.bool b) = some (.bool (!b)) := rfl
theorem unI_neg (k : IntKind) (n : Int) : unI .neg (.int k n) = some (.int k (wr k (0 - n))) := rfl
theorem panK_iface (t : TypeId) (v : IV) (h : H) (p : IV → H → CRes) : panK (.iface t v) h p = p (.iface t v) h := rfl
theorem mapK_eq (h : H) (k : IV → H → CRes) : mapK h k = k (.map h.next) (h.push (.map [] 0)) := rfl
theorem funK_func (g : FuncId) (caps : List IV) (k : FuncId → List IV → CRes) : funK (.func g caps) k = k g caps := rfl
theorem beq_refl (v : IV) : IV.beq v v = true := IV.beq_self v
theorem cvN_int (k j : IntKind) (n : Int) : cvN k (.int j n) = some (.int k (wr k n)) := rfl
theorem cvSS_str (s : Str) : cvSS (.str s) = some (.str s) := rfl
theorem binN_add (k : IntKind) (a b : Int) : binN .add (.int k a) (.int k b) = some (.int k (wr k (a + b))) := by simp [binN_eq, binN0, intOp]
theorem binN_sub (k : IntKind) (a b : Int) : binN .sub (.int k a) (.int k b) = some (.int k (wr k (a - b))) := by simp [binN_eq, binN0, intOp]
theorem binN_mul (k : IntKind) (a b : Int) : binN .mul (.int k a) (.int k b) = some (.int k (wr k (a * b))) := by simp [binN_eq, binN0, intOp]
theorem binN_eql (k : IntKind) (a b : Int) : binN .eql (.int k a) (.int k b) = some (.bool (decide (a = b))) := by simp [binN_eq, binN0, intOp]
theorem binN_neq (k : IntKind) (a b : Int) : binN .neq (.int k a) (.int k b) = some (.bool (!decide (a = b))) := by simp [binN_eq, binN0, intOp]
theorem binN_lss (k : IntKind) (a b : Int) : binN .lss (.int k a) (.int k b) = some (.bool (decide (a < b))) := by simp [binN_eq, binN0, intOp]
theorem binN_leq (k : IntKind) (a b : Int) : binN .leq (.int k a) (.int k b) = some (.bool (decide (a ≤ b))) := by simp [binN_eq, binN0, intOp]
theorem binN_gtr (k : IntKind) (a b : Int) : binN .gtr (.int k a) (.int k b) = some (.bool (decide (b < a))) := by simp [binN_eq, binN0, intOp]
theorem binN_geq (k : IntKind) (a b : Int) : binN .geq (.int k a) (.int k b) = some (.bool (decide (b ≤ a))) := by simp [binN_eq, binN0, intOp]
theorem binN_rem (k : IntKind) (a b : Int) (h : b ≠ 0) : binN .rem (.int k a) (.int k b) = some (.int k (a.tmod b)) := by simp [binN_eq, binN0, intOp, h]
theorem binN_and (k : IntKind) (a b : Int) : binN .and (.int k a) (.int k b) = some (.int k (k.wrap (BitVec.ofInt k.bits a &&& BitVec.ofInt k.bits b).toNat)) := by simp [binN_eq, binN0, intOp]
theorem minI_int (k j : IntKind) (a b : Int) : minI (.int k a) (.int j b) = some (.int k (if b < a then b else a)) := rfl
theorem wr_i64 {n : Int} (h1 : -9223372036854775808 ≤ n) (h2 : n ≤ 9223372036854775807) : wr .i64 n = n := by
  unfold wr; rw [if_pos ⟨by show -9223372036854775808 ≤ n; exact h1, by show n ≤ 9223372036854775807; exact h2⟩]
theorem eqB_eql (a b : Bool) : eqB .eql (.bool a) (.bool b) = some (.bool (a == b)) := rfl
theorem eqB_neq (a b : Bool) : eqB .neq (.bool a) (.bool b) = some (.bool (!(a == b))) := rfl
abbrev Bs := List UInt8
def sv (l : Bs) : IV := .str ⟨l.length, packL l⟩
theorem lenStr_sv (l : Bs) : lenStr (sv l) = some (.int .i64 l.length) := rfl
theorem str_eq (a b : Bs) : (⟨a.length, packL a⟩ : Str).eq ⟨b.length, packL b⟩ = decide (a = b) := by
  rw [Bool.eq_iff_iff]
  simp only [Str.eq, Bool.and_eq_true, T.nbeq, decide_eq_true_eq]
  constructor
  · rintro ⟨h1, h2⟩; exact packL_inj h1 h2
  · rintro rfl; exact ⟨rfl, rfl⟩
theorem binS_eql (a b : Bs) : binS .eql (sv a) (sv b) = some (.bool (decide (a = b))) := by simp only [binS, sv, strOp, str_eq]
theorem binS_neq (a b : Bs) : binS .neq (sv a) (sv b) = some (.bool (!decide (a = b))) := by simp only [binS, sv, strOp, str_eq]
def Cs (h : H) (b : Nat) (rw fz : Bool) (cs : List IV) : Prop := ∃ t, h.get b = some (.cells rw fz cs.length t) ∧ ∀ i, i < cs.length → t.get i = cs[i]?
theorem getList_of {t : T IV} {cs : List IV} (h : ∀ i, i < cs.length → t.get i = cs[i]?) : ∀ (n off : Nat), off + n ≤ cs.length → getList t off n = some ((cs.drop off).take n)
  | 0, off, _ => by simp [getList]
  | n + 1, off, hle => by
    have ho : off < cs.length := by omega
    simp only [getList]
    rw [h off ho, List.getElem?_eq_getElem ho]
    simp only
    rw [getList_of h n (off + 1) (by omega)]
    simp only [List.drop_eq_getElem_cons ho, List.take_succ_cons]
theorem Cs.ld0 {h : H} {b : Nat} {rw fz : Bool} {cs : List IV} (c : Cs h b rw fz cs) (off : Nat) : I.ld0 h (.ptr b off) = cs[off]? := by
  obtain ⟨t, h1, h2⟩ := c
  rw [ld0_eq]; simp only [ld00, h1]
  split
  · rename_i hlt; exact h2 off hlt
  · rename_i hge; rw [List.getElem?_eq_none (by omega)]
theorem Cs.ldA {h : H} {b : Nat} {rw fz : Bool} {cs : List IV} (c : Cs h b rw fz cs) (n off : Nat) (hle : off + n ≤ cs.length) : I.ldA n h (.ptr b off) = some (.agg ((cs.drop off).take n)) := by
  obtain ⟨t, h1, h2⟩ := c
  rw [ldA_eq]; simp only [ldA0, h1]
  rw [if_pos hle, getList_of h2 n off hle]
theorem Cs.ldAll {h : H} {b : Nat} {rw fz : Bool} {cs : List IV} (c : Cs h b rw fz cs) {n : Nat} (hn : n = cs.length) : I.ldA n h (.ptr b 0) = some (.agg cs) := by
  subst hn
  rw [c.ldA _ 0 (by omega)]
  simp
theorem placeL_len : ∀ (l cs : List IV) (off : Nat), (placeL cs off l).length = cs.length
  | [], cs, off => rfl
  | x :: l, cs, off => by simp only [placeL]; rw [placeL_len l]; simp
theorem placeL_get : ∀ (l cs : List IV) (off i : Nat), off + l.length ≤ cs.length → (placeL cs off l)[i]? = if off ≤ i ∧ i < off + l.length then l[i - off]? else cs[i]?
  | [], cs, off, i, h => by simp only [placeL, List.length_nil]; rw [if_neg (by omega)]
  | x :: l, cs, off, i, h => by
    simp only [placeL, List.length_cons] at h ⊢
    rw [placeL_get l _ _ i (by simp; omega)]
    by_cases h1 : off + 1 ≤ i ∧ i < off + 1 + l.length
    · rw [if_pos h1, if_pos (by omega)]
      rw [show i - off = (i - (off + 1)) + 1 by omega, List.getElem?_cons_succ]
    · rw [if_neg h1, List.getElem?_set]
      by_cases h2 : off = i
      · subst h2
        rw [if_pos rfl, if_pos (by omega), if_pos (by omega)]; simp
      · rw [if_neg h2, if_neg (by omega)]
theorem Cs.st {h : H} {b : Nat} {fz : Bool} {cs : List IV} (c : Cs h b true fz cs) {n off : Nat} {v : IV} (hv : v.cells.length = n) (hs : allScalar v.cells = true) (hle : off + n ≤ cs.length) :
    ∃ o, stA n h (.ptr b off) v = some (h.put b o) ∧ Cs (h.put b o) b true fz (placeL cs off v.cells) ∧ ∀ fz size t, o ≠ .cells false fz size t := by
  obtain ⟨t, h1, h2⟩ := c
  refine ⟨.cells true fz cs.length (setList t off v.cells), by rw [stA_eq]; simp only [stA0, h1]; rw [if_pos ⟨hv, hle, hs⟩], ⟨setList t off v.cells, ?_, fun i hi => ?_⟩, fun _ _ _ hh => by cases hh⟩
  · rw [H.get_put, if_pos rfl, placeL_len]
  · rw [placeL_len] at hi
    rw [get_setList, placeL_get _ _ _ _ (by omega)]
    by_cases hc : off ≤ i ∧ i < off + v.cells.length
    · rw [if_pos hc, if_pos hc]
    · rw [if_neg hc, if_neg hc]; exact h2 i hi
theorem Cs.of_put {h : H} {b c : Nat} {o : Obj} {rw fz : Bool} {cs : List IV} (hc : Cs h c rw fz cs) (hne : c ≠ b) : Cs (h.put b o) c rw fz cs := by
  obtain ⟨t, h1, h2⟩ := hc
  exact ⟨t, by rw [H.get_put, if_neg hne]; exact h1, h2⟩
theorem Cs.lt {h : H} {b : Nat} {rw fz : Bool} {cs : List IV} (c : Cs h b rw fz cs) (w : WF h) : b < h.next := by
  obtain ⟨t, h1, _⟩ := c
  rcases Nat.lt_or_ge b h.next with h | h
  · exact h
  · rw [w b h] at h1; cases h1
def Obj.imm : Obj → Bool
  | .cells rw _ _ _ => !rw
  | _ => false
structure Ex (h h' : H) : Prop where
  gd : Gd h'
  ext : Ext h h'
  kp : ∀ b o, h.get b = some o → o.imm = false → h'.get b = some o
theorem Ex.refl {h : H} (g : Gd h) : Ex h h := ⟨g, .refl h, fun _ _ h _ => h⟩
theorem Ex.trans {a b c : H} (x : Ex a b) (y : Ex b c) : Ex a c := ⟨y.gd, x.ext.trans y.ext, fun k o h hi => y.kp k o (x.kp k o h hi) hi⟩
theorem Ex.push {h : H} (g : Gd h) (o : Obj) : Ex h (h.push o) := by
  obtain ⟨h1, h2⟩ := Step.push h o g.wf
  refine ⟨⟨h1, h2.pol.trans g.pol⟩, h2, fun b o' hb _ => ?_⟩
  rw [H.get_push, if_neg, hb]
  rintro rfl
  rw [g.wf _ (Nat.le_refl _)] at hb; cases hb
theorem Cs.ex {h h' : H} {b : Nat} {fz : Bool} {cs : List IV} (c : Cs h b true fz cs) (x : Ex h h') : Cs h' b true fz cs := by
  obtain ⟨t, h1, h2⟩ := c
  exact ⟨t, x.kp b _ h1 rfl, h2⟩
def Ci (h : H) (b : Nat) (cs : List IV) : Prop := ∃ fz, Cs h b false fz cs
theorem Ci.ext {h h' : H} {b : Nat} {cs : List IV} (c : Ci h b cs) (x : Ext h h') : Ci h' b cs := by
  obtain ⟨fz, t, h1, h2⟩ := c
  obtain ⟨fz', h3⟩ := x.imm b fz _ t h1
  exact ⟨fz', t, h3, h2⟩
theorem Cs.push {h : H} {rw fz : Bool} (cs : List IV) : Cs (h.push (.cells rw fz cs.length (T.arr cs))) h.next rw fz cs :=
  ⟨_, by rw [H.get_push, if_pos rfl], fun i hi => by rw [get_setList_leaf]⟩
theorem newI_ex {h : H} (g : Gd h) {cs : List IV} (hs : allScalar cs = true) : ∃ h', newI h cs = some (.ptr h.next 0, h') ∧ Ex h h' ∧ Cs h' h.next true false cs := by
  refine ⟨_, by rw [newI_eq]; rw [if_pos hs], .push g _, .push cs⟩
variable {P : Program}
theorem eqP_neq_pn (h : H) (b o : Nat) : eqP .neq h (.ptr b o) .nilPtr = some (.bool true) := rfl
theorem eqP_eql_pn (h : H) (b o : Nat) : eqP .eql h (.ptr b o) .nilPtr = some (.bool false) := rfl
theorem eqP_neq_nn (h : H) : eqP .neq h .nilPtr .nilPtr = some (.bool false) := rfl
theorem eqP_eql_nn (h : H) : eqP .eql h .nilPtr .nilPtr = some (.bool true) := rfl
theorem eqMp_neq_mn (m : Nat) : eqMp .neq (.map m) .nilMap = some (.bool true) := rfl
theorem eqMp_eql_mn (m : Nat) : eqMp .eql (.map m) .nilMap = some (.bool false) := rfl
theorem eqMp_neq_nn : eqMp .neq .nilMap .nilMap = some (.bool false) := rfl
theorem eqMp_eql_nn : eqMp .eql .nilMap .nilMap = some (.bool true) := rfl
theorem eqIf_eql_in (c : Bool) (t : TypeId) (v : IV) : eqIf .eql c (.iface t v) .nilIface = some (.bool false) := rfl
theorem eqIf_neq_in (c : Bool) (t : TypeId) (v : IV) : eqIf .neq c (.iface t v) .nilIface = some (.bool true) := rfl
theorem eqIf_eql_nn : eqIf .eql true .nilIface .nilIface = some (.bool true) := rfl
theorem eqIf_neq_nn : eqIf .neq true .nilIface .nilIface = some (.bool false) := rfl
theorem eqSl_eql_nn : eqSl .eql .nilSlice .nilSlice = some (.bool true) := rfl
theorem eqSl_neq_nn : eqSl .neq .nilSlice .nilSlice = some (.bool false) := rfl
theorem eqSl_eql_sn (b o n e : Nat) : eqSl .eql (.slice b o n e) .nilSlice = some (.bool false) := rfl
theorem eqSl_neq_sn (b o n e : Nat) : eqSl .neq (.slice b o n e) .nilSlice = some (.bool true) := rfl
theorem W : (∀ (v : IV) (k : IV → CRes), obind (some v) k = k v) ∧ (∀ (v : IV) (h : H) (k : IV → H → CRes), obind2 (some (v, h)) k = k v h) ∧ (∀ (h : H) (k : H → CRes), obindH (some h) k = k h) ∧ (∀ (v : IV) (h : H) (p k : IV → H → CRes), callP (.ok v h) p k = k v h) ∧ (∀ (v : IV) (h : H) (p k : IV → H → CRes), callP (.pan v h) p k = p v h) ∧ (∀ (b : Bool) (x y : CRes), condK (.bool b) x y = if b = true then x else y) ∧ (∀ (b : Bool) (h : H) (a : (IV → H → CRes) → CRes) (k : IV → H → CRes), spanK (.bool b) true h a k = if b = true then a k else k (.tup []) h) ∧ (∀ (b : Bool) (h : H) (a : (IV → H → CRes) → CRes) (k : IV → H → CRes), spanK (.bool b) false h a k = if b = true then k (.tup []) h else a k) ∧ (∀ (b : Bool) (x y : Option IV), pickI (.bool b) x y = if b = true then x else y) ∧ (∀ (b : Bool) (x y z : CRes), guardK (.bool b) x y z = if b = true then x else y) ∧ (∀ (b o : Nat), nilI (.ptr b o) = some (.ptr b o)) ∧ (∀ (l : List IV) (i : Nat), extractI (.tup l) i = l[i]?) ∧ (∀ (o b off : Nat), fadK o (.ptr b off) = some (.ptr b (off + o))) ∧ (∀ (b : Bool), unI .not (.bool b) = some (.bool (!b))) ∧ (∀ (k : IntKind) (n : Int), unI .neg (.int k n) = some (.int k (wr k (0 - n)))) ∧ (∀ (t : TypeId) (v : IV) (h : H) (p : IV → H → CRes), panK (.iface t v) h p = p (.iface t v) h) ∧ (∀ (h : H) (k : IV → H → CRes), mapK h k = k (.map h.next) (h.push (.map [] 0))) ∧ (∀ (g : FuncId) (caps : List IV) (k : FuncId → List IV → CRes), funK (.func g caps) k = k g caps) ∧ (∀ (v : IV), IV.beq v v = true) ∧ (∀ (k j : IntKind) (n : Int), cvN k (.int j n) = some (.int k (wr k n))) ∧ (∀ (s : Str), cvSS (.str s) = some (.str s)) ∧ (∀ (k : IntKind) (a b : Int), binN .add (.int k a) (.int k b) = some (.int k (wr k (a + b)))) ∧ (∀ (k : IntKind) (a b : Int), binN .sub (.int k a) (.int k b) = some (.int k (wr k (a - b)))) ∧ (∀ (k : IntKind) (a b : Int), binN .mul (.int k a) (.int k b) = some (.int k (wr k (a * b)))) ∧ (∀ (k : IntKind) (a b : Int), binN .eql (.int k a) (.int k b) = some (.bool (decide (a = b)))) ∧ (∀ (k : IntKind) (a b : Int), binN .neq (.int k a) (.int k b) = some (.bool (!decide (a = b)))) ∧ (∀ (k : IntKind) (a b : Int), binN .lss (.int k a) (.int k b) = some (.bool (decide (a < b)))) ∧ (∀ (k : IntKind) (a b : Int), binN .leq (.int k a) (.int k b) = some (.bool (decide (a ≤ b)))) ∧ (∀ (k : IntKind) (a b : Int), binN .gtr (.int k a) (.int k b) = some (.bool (decide (b < a)))) ∧ (∀ (k : IntKind) (a b : Int), binN .geq (.int k a) (.int k b) = some (.bool (decide (b ≤ a)))) ∧ (∀ (k j : IntKind) (a b : Int), minI (.int k a) (.int j b) = some (.int k (if b < a then b else a))) ∧ (∀ (a b : Bool), eqB .eql (.bool a) (.bool b) = some (.bool (a == b))) ∧ (∀ (a b : Bool), eqB .neq (.bool a) (.bool b) = some (.bool (!(a == b)))) ∧ (∀ (l : Bs), lenStr (sv l) = some (.int .i64 l.length)) ∧ (∀ (a b : Bs), binS .eql (sv a) (sv b) = some (.bool (decide (a = b)))) ∧ (∀ (a b : Bs), binS .neq (sv a) (sv b) = some (.bool (!decide (a = b)))) ∧ (∀ (h : H) (b o : Nat), eqP .neq h (.ptr b o) .nilPtr = some (.bool true)) ∧ (∀ (h : H) (b o : Nat), eqP .eql h (.ptr b o) .nilPtr = some (.bool false)) ∧ (∀ (h : H), eqP .neq h .nilPtr .nilPtr = some (.bool false)) ∧ (∀ (h : H), eqP .eql h .nilPtr .nilPtr = some (.bool true)) ∧ (∀ (m : Nat), eqMp .neq (.map m) .nilMap = some (.bool true)) ∧ (∀ (m : Nat), eqMp .eql (.map m) .nilMap = some (.bool false)) ∧ (eqMp .neq .nilMap .nilMap = some (.bool false)) ∧ (eqMp .eql .nilMap .nilMap = some (.bool true)) ∧ (∀ (c : Bool) (t : TypeId) (v : IV), eqIf .eql c (.iface t v) .nilIface = some (.bool false)) ∧ (∀ (c : Bool) (t : TypeId) (v : IV), eqIf .neq c (.iface t v) .nilIface = some (.bool true)) ∧ (eqIf .eql true .nilIface .nilIface = some (.bool true)) ∧ (eqIf .neq true .nilIface .nilIface = some (.bool false)) ∧ (eqSl .eql .nilSlice .nilSlice = some (.bool true)) ∧ (eqSl .neq .nilSlice .nilSlice = some (.bool false)) ∧ (∀ (b o n e : Nat), eqSl .eql (.slice b o n e) .nilSlice = some (.bool false)) ∧ (∀ (b o n e : Nat), eqSl .neq (.slice b o n e) .nilSlice = some (.bool true)) := ⟨obind_some, obind2_some, obindH_some, callP_ok, callP_pan, condK_bool, spanK_t, spanK_f, pickI_bool, guardK_bool, nilI_ptr, extractI_tup, fadK_ptr, unI_not, unI_neg, panK_iface, mapK_eq, funK_func, beq_refl, cvN_int, cvSS_str, binN_add, binN_sub, binN_mul, binN_eql, binN_neq, binN_lss, binN_leq, binN_gtr, binN_geq, minI_int, eqB_eql, eqB_neq, lenStr_sv, binS_eql, binS_neq, eqP_neq_pn, eqP_eql_pn, eqP_neq_nn, eqP_eql_nn, eqMp_neq_mn, eqMp_eql_mn, eqMp_neq_nn, eqMp_eql_nn, eqIf_eql_in, eqIf_neq_in, eqIf_eql_nn, eqIf_neq_nn, eqSl_eql_nn, eqSl_neq_nn, eqSl_eql_sn, eqSl_neq_sn⟩
def ovOf : List (FuncId × (List IV → H → CRes)) → FuncId → Option (List IV → H → CRes)
  | [], _ => none
  | (g, F) :: l, f => bif Nat.beq f g then some F else ovOf l f
theorem ovOf_mem : ∀ {l : List (FuncId × (List IV → H → CRes))} {f : FuncId} {F : List IV → H → CRes}, ovOf l f = some F → (f, F) ∈ l
  | (g, G) :: l, f, F, h => by
    simp only [ovOf, T.bif_beq] at h
    split at h
    · rename_i e; injection h with h; subst h; subst e; exact List.mem_cons_self ..
    · exact List.mem_cons_of_mem _ (ovOf_mem h)
theorem ovStep_of {l : List (FuncId × (List IV → H → CRes))} {pol : FuncId → Bool} (h : ∀ x ∈ l, ∀ args g, (x.2 args g).Steps g) : OvStep ⟨ovOf l, pol⟩ := fun f F hf args g => h (f, F) (ovOf_mem hf) args g
theorem ovS_of {l : List (FuncId × (List IV → H → CRes))} {w₀ : World} {S : Sc} (h : ∀ x ∈ l, ∀ (args : List IV) (g : H) (μ : Mu) (w : World) (cargs : Array Value), Rel w₀ S μ g w → VRs μ args cargs.toList → CallR P w₀ S μ x.1 cargs w (x.2 args g)) : OvS P w₀ S (ovOf l) :=
  fun f F hf args g μ w cargs r hv => h (f, F) (ovOf_mem hf) args g μ w cargs r hv
def CRes.val : CRes → Option IV
  | .ok v _ => some v
  | _ => none
theorem CRes.of_val {r : CRes} {v : IV} (h : r.val = some v) : ∃ h', r = .ok v h' := by
  cases r with
  | ok u g => injection h with h; subst h; exact ⟨g, rfl⟩
  | pan u g => cases h
  | fail => cases h
def H0 : H := ⟨0, .leaf, true, .leaf⟩
theorem gd0 : Gd H0 := ⟨fun _ _ => rfl, rfl⟩
end
end Go.Proofs.YtimjkkcondljeaaGreatDoor.I
namespace Go.Proofs.YtimjkkcondljeaaGreatDoor.I
noncomputable section
open Go
def Ch {α : Type} (R : α → List IV → Prop) (es : Nat) : List α → List IV → Prop
  | [], cs => cs = []
  | x :: l, cs => ∃ c d, cs = c ++ d ∧ c.length = es ∧ R x c ∧ Ch R es l d
theorem Ch.mono {α : Type} {R Q : α → List IV → Prop} {es : Nat} (h : ∀ x c, R x c → Q x c) : ∀ {l : List α} {cs : List IV}, Ch R es l cs → Ch Q es l cs
  | [], _, e => e
  | x :: l, _, ⟨c, d, h1, h2, h3, h4⟩ => ⟨c, d, h1, h2, h x c h3, h4.mono h⟩
theorem Ch.len {α : Type} {R : α → List IV → Prop} {es : Nat} : ∀ {l : List α} {cs : List IV}, Ch R es l cs → cs.length = l.length * es
  | [], _, e => by simp only [Ch] at e; subst e; simp
  | x :: l, _, ⟨c, d, h1, h2, h3, h4⟩ => by
    subst h1
    rw [List.length_append, h2, h4.len, List.length_cons, Nat.succ_mul]; omega
theorem Ch.get {α : Type} {R : α → List IV → Prop} {es : Nat} : ∀ {l : List α} {cs : List IV}, Ch R es l cs → ∀ (i : Nat) (x : α), l[i]? = some x → R x ((cs.drop (i * es)).take es) ∧ ((cs.drop (i * es)).take es).length = es ∧ i * es + es ≤ cs.length
  | [], _, e, i, x, hx => by simp at hx
  | y :: l, _, ⟨c, d, h1, h2, h3, h4⟩, 0, x, hx => by
    simp only [List.getElem?_cons_zero, Option.some.injEq] at hx
    subst hx; subst h1; subst h2
    simp [h3]
  | y :: l, _, ⟨c, d, h1, h2, h3, h4⟩, i + 1, x, hx => by
    simp only [List.getElem?_cons_succ] at hx
    obtain ⟨q1, q2, q3⟩ := h4.get i x hx
    subst h1
    have e : (i + 1) * es = c.length + i * es := by rw [Nat.succ_mul, h2]; omega
    rw [e, List.drop_append]
    have : c.drop (c.length + i * es) = [] := List.drop_eq_nil_of_le (by omega)
    rw [this, List.nil_append, show c.length + i * es - c.length = i * es by omega]
    exact ⟨q1, q2, by rw [List.length_append]; omega⟩
theorem Ch.app {α : Type} {R : α → List IV → Prop} {es : Nat} {m : List α} {ds : List IV} (hm : Ch R es m ds) : ∀ {l : List α} {cs : List IV}, Ch R es l cs → Ch R es (l ++ m) (cs ++ ds)
  | [], _, e => by simp only [Ch] at e; subst e; exact hm
  | y :: l, _, ⟨a, d, h1, h2, h3, h4⟩ => by subst h1; exact ⟨a, d ++ ds, by simp, h2, h3, hm.app h4⟩
def LR {α : Type} (h : H) (es : Nat) (R : α → List IV → Prop) (l : List α) (v : IV) : Prop :=
  (l = [] ∧ (v = .nilSlice ∨ ∃ b off, v = .slice b off 0 es)) ∨
  ∃ b off cs, v = .slice b off l.length es ∧ Ci h b cs ∧ off + l.length * es ≤ cs.length ∧ Ch R es l ((cs.drop off).take (l.length * es))
theorem LR.mono {α : Type} {h h' : H} {es : Nat} {R Q : α → List IV → Prop} (x : Ext h h') (hq : ∀ y c, R y c → Q y c) {l : List α} {v : IV} (r : LR h es R l v) : LR h' es Q l v := by
  rcases r with r | ⟨b, off, cs, h1, h2, h3, h4⟩
  · exact .inl r
  · exact .inr ⟨b, off, cs, h1, h2.ext x, h3, h4.mono hq⟩
theorem LR.len {α : Type} {h : H} {es : Nat} {R : α → List IV → Prop} {l : List α} {v : IV} (r : LR h es R l v) : lenS v = some (.int .i64 l.length) := by
  rcases r with ⟨rfl, rfl | ⟨b, off, rfl⟩⟩ | ⟨b, off, cs, rfl, _⟩ <;> rfl
theorem LR.scalar {α : Type} {h : H} {es : Nat} {R : α → List IV → Prop} {l : List α} {v : IV} (r : LR h es R l v) : v.scalar = true := by
  rcases r with ⟨rfl, rfl | ⟨b, off, rfl⟩⟩ | ⟨b, off, cs, rfl, _⟩ <;> rfl
theorem Ci.ldA {h : H} {b : Nat} {cs : List IV} (c : Ci h b cs) (n off : Nat) (hle : off + n ≤ cs.length) : I.ldA n h (.ptr b off) = some (.agg ((cs.drop off).take n)) := by
  obtain ⟨fz, c⟩ := c; exact c.ldA n off hle
theorem Ci.ld0 {h : H} {b : Nat} {cs : List IV} (c : Ci h b cs) (off : Nat) : I.ld0 h (.ptr b off) = cs[off]? := by
  obtain ⟨fz, c⟩ := c; exact c.ld0 off
def GL (h : H) (es : Nat) (cs : List IV) (v : IV) : Prop :=
  (cs = [] ∧ v = .nilSlice) ∨ ∃ b n, v = .slice b 0 n es ∧ Cs h b false true cs ∧ n * es = cs.length
theorem GL.LR {α : Type} {h : H} {es : Nat} {R : α → List IV → Prop} {l : List α} {cs : List IV} {v : IV} (hes : es ≠ 0) (g : GL h es cs v) (c : Ch R es l cs) : I.LR h es R l v := by
  have hlen := c.len
  rcases g with ⟨rfl, rfl⟩ | ⟨b, n, rfl, h1, h2⟩
  · cases l with
    | nil => exact .inl ⟨rfl, .inl rfl⟩
    | cons x l => obtain ⟨c, d, h1, h2, h3, h4⟩ := c; simp at h1; rw [h1.1] at h2; exact absurd h2.symm hes
  · have hn : n = l.length := by
      rw [hlen] at h2
      exact Nat.eq_of_mul_eq_mul_right (Nat.pos_of_ne_zero hes) h2
    subst hn
    exact .inr ⟨b, 0, cs, rfl, ⟨true, h1⟩, by omega, by rw [List.drop_zero, List.take_of_length_le (by omega)]; exact c⟩
inductive E where
  | mk (op : Int) (name value : Bs) (plain : Bool) (kids : List E) (at_ : Int)
def ecells (op : Int) (name value : Bs) (plain : Bool) (K : IV) (at_ : Int) : List IV := [.int .i64 op, sv name, sv value, .bool plain, K, .int .i64 at_]
theorem ecells_scalar {op : Int} {nm v : Bs} {p : Bool} {K : IV} {a : Int} (hK : K.scalar = true) : allScalar (ecells op nm v p K a) = true := by
  show (true && (true && (true && (true && (K.scalar && (true && true)))))) = true
  rw [hK]; rfl
def XR (h : H) : Nat → E → List IV → Prop
  | 0, _, _ => False
  | n + 1, .mk op name value plain kids at_, cs => ∃ K, cs = ecells op name value plain K at_ ∧ LR h 6 (XR h n) kids K
theorem XR.mono {h h' : H} (x : Ext h h') : ∀ (n : Nat) {e : E} {cs : List IV}, XR h n e cs → XR h' n e cs
  | 0, _, _, r => r
  | n + 1, .mk _ _ _ _ _ _, _, ⟨K, h1, h2⟩ => ⟨K, h1, h2.mono x fun y c r => r.mono x n⟩
theorem XR.scalar {h : H} {n : Nat} {e : E} {cs : List IV} (r : XR h n e cs) : allScalar cs = true ∧ cs.length = 6 := by
  cases n with
  | zero => cases r
  | succ n =>
    cases e
    obtain ⟨K, rfl, h2⟩ := r
    have := h2.scalar
    exact ⟨ecells_scalar this, rfl⟩
theorem nodup_inj {α : Type} : ∀ {l : List α}, l.Nodup → ∀ {i j : Nat} (hi : i < l.length) (hj : j < l.length), l[i] = l[j] → i = j
  | [], _, _, _, hi, _, _ => by simp at hi
  | x :: l, h, i, j, hi, hj, e => by
    rw [List.nodup_cons] at h
    cases i with
    | zero => cases j with
      | zero => rfl
      | succ j => simp only [List.getElem_cons_zero, List.getElem_cons_succ] at e; exact absurd (by rw [e]; exact List.getElem_mem _) h.1
    | succ i => cases j with
      | zero => simp only [List.getElem_cons_zero, List.getElem_cons_succ] at e; exact absurd (by rw [← e]; exact List.getElem_mem _) h.1
      | succ j =>
        simp only [List.getElem_cons_succ] at e
        rw [nodup_inj h.2 (by simpa using hi) (by simpa using hj) e]
structure Lv (h₀ h : H) (L : List (Nat × List IV)) : Prop where
  wf : WF h₀
  ex : Ex h₀ h
  cs : ∀ p ∈ L, Cs h p.1 true false p.2
  new : ∀ p ∈ L, h₀.next ≤ p.1
  one : (L.map (·.1)).Nodup
theorem Lv.start {h : H} (g : Gd h) : Lv h h [] := ⟨g.wf, .refl g, by simp, by simp, by simp⟩
theorem Lv.gd {h₀ h : H} {L : List (Nat × List IV)} (l : Lv h₀ h L) : Gd h := l.ex.gd
theorem Lv.lt {h₀ h : H} {L : List (Nat × List IV)} (l : Lv h₀ h L) {p : Nat × List IV} (hp : p ∈ L) : p.1 < h.next := (l.cs p hp).lt l.gd.wf
theorem Lv.go {h₀ h h' : H} {L : List (Nat × List IV)} (l : Lv h₀ h L) (x : Ex h h') : Lv h₀ h' L := ⟨l.wf, l.ex.trans x, fun p hp => (l.cs p hp).ex x, l.new, l.one⟩
theorem Lv.newI {h₀ h : H} {L : List (Nat × List IV)} (l : Lv h₀ h L) {cs : List IV} (hs : allScalar cs = true) : ∃ b h', I.newI h cs = some (.ptr b 0, h') ∧ Lv h₀ h' ((b, cs) :: L) := by
  obtain ⟨h', e, x, c⟩ := newI_ex l.gd hs
  refine ⟨h.next, h', e, l.wf, l.ex.trans x, fun p hp => ?_, fun p hp => ?_, ?_⟩
  · rcases List.mem_cons.1 hp with rfl | hp
    · exact c
    · exact (l.cs p hp).ex x
  · rcases List.mem_cons.1 hp with rfl | hp
    · exact l.ex.ext.next
    · exact l.new p hp
  · simp only [List.map_cons, List.nodup_cons]
    refine ⟨fun hm => ?_, l.one⟩
    obtain ⟨p, hp, e⟩ := List.mem_map.1 hm
    have := l.lt hp
    omega
theorem Lv.ld0 {h₀ h : H} {L : List (Nat × List IV)} (l : Lv h₀ h L) {b : Nat} {cs : List IV} (i : Nat) (hi : L[i]? = some (b, cs)) (off : Nat) : I.ld0 h (.ptr b off) = cs[off]? := (l.cs _ (List.mem_of_getElem? hi)).ld0 off
theorem Lv.ldA {h₀ h : H} {L : List (Nat × List IV)} (l : Lv h₀ h L) {b : Nat} {cs : List IV} (i : Nat) (hi : L[i]? = some (b, cs)) {n : Nat} (hn : n = cs.length) : I.ldA n h (.ptr b 0) = some (.agg cs) := (l.cs _ (List.mem_of_getElem? hi)).ldAll hn
theorem Lv.st {h₀ h : H} {L : List (Nat × List IV)} (l : Lv h₀ h L) {b : Nat} {cs : List IV} (i : Nat) (hi : L[i]? = some (b, cs)) {n off : Nat} {v : IV} (hv : v.cells.length = n) (hs : allScalar v.cells = true) (hle : off + n ≤ cs.length) :
    ∃ h', stA n h (.ptr b off) v = some h' ∧ Lv h₀ h' (L.set i (b, placeL cs off v.cells)) := by
  have hm := List.mem_of_getElem? hi
  have hc := l.cs _ hm
  obtain ⟨o, e, c, ho⟩ := hc.st hv hs hle
  obtain ⟨t, hq, _⟩ := hc
  have hst := Step.put (o := o) hq (fun fz size cs hh => by cases hh) l.gd.wf
  have hnew := l.new _ hm
  have hinj : ∀ (j : Nat) (p : Nat × List IV), L[j]? = some p → p.1 = b → j = i := by
    intro j p hj hp
    have h1 : (L.map (·.1))[j]? = some b := by rw [List.getElem?_map, hj, ← hp]; rfl
    have h2 : (L.map (·.1))[i]? = some b := by rw [List.getElem?_map, hi]; rfl
    obtain ⟨k1, q1⟩ := List.getElem?_eq_some_iff.1 h1
    obtain ⟨k2, q2⟩ := List.getElem?_eq_some_iff.1 h2
    exact nodup_inj l.one k1 k2 (q1.trans q2.symm)
  have hset : ∀ p ∈ L.set i (b, placeL cs off v.cells), p = (b, placeL cs off v.cells) ∨ (p ∈ L ∧ p.1 ≠ b) := by
    intro p hp
    obtain ⟨j, hj⟩ := List.mem_iff_getElem?.1 hp
    rw [List.getElem?_set] at hj
    split at hj
    · split at hj
      · injection hj with hj; exact .inl hj.symm
      · cases hj
    · rename_i hne
      exact .inr ⟨List.mem_of_getElem? hj, fun e => hne (hinj j p hj e).symm⟩
  refine ⟨_, e, l.wf, ⟨⟨hst.1, hst.2.pol.trans l.gd.pol⟩, l.ex.ext.trans hst.2, fun k o' hk hi' => ?_⟩, fun p hp => ?_, fun p hp => ?_, ?_⟩
  · rw [H.get_put]
    by_cases e : k = b
    · subst e
      rw [l.wf k hnew] at hk; cases hk
    · rw [if_neg e]; exact l.ex.kp k o' hk hi'
  · rcases hset p hp with rfl | ⟨hp', hne⟩
    · exact c
    · exact (l.cs p hp').of_put hne
  · rcases hset p hp with rfl | ⟨hp', _⟩
    · exact hnew
    · exact l.new p hp'
  · have : (L.set i (b, placeL cs off v.cells)).map (·.1) = L.map (·.1) := by
      rw [List.map_set]
      apply List.ext_getElem?
      intro j
      rw [List.getElem?_set]
      by_cases hj : i = j
      · subst hj
        rw [if_pos rfl]
        rw [List.getElem?_map, hi]
        simp
        exact (List.getElem?_eq_some_iff.1 hi).1
      · rw [if_neg hj]
    rw [this]; exact l.one
theorem placeL_mid : ∀ (c pre rest : List IV), c.length ≤ rest.length → placeL (pre ++ rest) pre.length c = pre ++ c ++ rest.drop c.length
  | [], pre, rest, _ => by simp [placeL]
  | x :: c, pre, [], h => by simp at h
  | x :: c, pre, y :: rest, h => by
    simp only [List.length_cons] at h
    simp only [placeL]
    have : (pre ++ y :: rest).set pre.length x = (pre ++ [x]) ++ rest := by simp
    rw [this]
    have hl : pre.length + 1 = (pre ++ [x]).length := by simp
    rw [hl, placeL_mid c (pre ++ [x]) rest (by omega)]
    simp
def partsFrom : List IV → Nat → List (Nat × IV)
  | [], _ => []
  | v :: vs, i => (i, v) :: partsFrom vs (i + 1)
def cellsOf (vs : List IV) : List IV := (vs.map IV.cells).flatten
theorem fill_all {es : Nat} : ∀ (vs : List IV) (i : Nat) (pre rest : List IV), pre.length = i * es → (∀ v ∈ vs, v.cells.length = es) → vs.length * es ≤ rest.length →
    fillI (fun i => some (i * es, es)) (pre ++ rest) (partsFrom vs i) = some (pre ++ cellsOf vs ++ rest.drop (vs.length * es))
  | [], i, pre, rest, _, _, _ => by simp [partsFrom, fillI, cellsOf]
  | v :: vs, i, pre, rest, hp, hv, hr => by
    have h1 := hv v (List.mem_cons_self ..)
    simp only [List.length_cons, Nat.succ_mul] at hr
    simp only [partsFrom, fillI]
    rw [if_neg (by simp only [List.length_append, not_or]; omega), ← hp, placeL_mid _ _ _ (by omega)]
    rw [show pre ++ v.cells ++ rest.drop v.cells.length = (pre ++ v.cells) ++ rest.drop v.cells.length from rfl]
    rw [fill_all vs (i + 1) (pre ++ v.cells) (rest.drop v.cells.length) (by rw [List.length_append, hp, h1, Nat.succ_mul]) (fun u hu => hv u (List.mem_cons_of_mem _ hu)) (by rw [List.length_drop]; omega)]
    have hd : (rest.drop v.cells.length).drop (vs.length * es) = rest.drop (vs.length * es + es) := by
      rw [List.drop_drop, h1]; congr 1; omega
    rw [hd]
    simp only [cellsOf, List.map_cons, List.flatten_cons, List.length_cons, Nat.succ_mul, List.append_assoc]
theorem rep_len (z : List IV) : ∀ n, (repCells z n).length = n * z.length
  | 0 => by simp [repCells]
  | n + 1 => by simp only [repCells, List.length_append, rep_len z n, Nat.succ_mul]; omega
theorem bslK_all {w : Bool} {es : Nat} {z : List IV} {vs : List IV} (hz : z.length = es) (hv : ∀ v ∈ vs, v.cells.length = es) (hs : allScalar (cellsOf vs) = true) (h : H) :
    bslK w es z vs.length (partsFrom vs 0) h = some (.slice h.next 0 vs.length es, h.push (.cells (!(h.pol && !w)) (h.pol && !w) (cellsOf vs).length (T.arr (cellsOf vs)))) := by
  have := fill_all vs 0 [] (repCells z vs.length) (by simp) hv (by rw [rep_len, hz]; omega)
  simp only [List.nil_append] at this
  have hd : (repCells z vs.length).drop (vs.length * es) = [] := List.drop_eq_nil_of_le (by rw [rep_len, hz]; omega)
  rw [hd, List.append_nil] at this
  simp only [bslK, this, hs, if_true]
theorem bslK_imm {es : Nat} {z : List IV} {vs : List IV} {h : H} (g : Gd h) (hz : z.length = es) (hv : ∀ v ∈ vs, v.cells.length = es) (hs : allScalar (cellsOf vs) = true) :
    ∃ h', bslK false es z vs.length (partsFrom vs 0) h = some (.slice h.next 0 vs.length es, h') ∧ Ex h h' ∧ Cs h' h.next false true (cellsOf vs) := by
  refine ⟨_, bslK_all hz hv hs h, Ex.push g _, ?_⟩
  rw [g.pol]; exact Cs.push _
theorem Lv.set {h₀ h : H} {L : List (Nat × List IV)} (l : Lv h₀ h L) {b : Nat} {cs : List IV} (i : Nat) (hi : L[i]? = some (b, cs)) {n : Nat} {v : IV} (hv : v.cells.length = n) (hs : allScalar v.cells = true) (hle : n = cs.length) :
    ∃ h', stA n h (.ptr b 0) v = some h' ∧ Lv h₀ h' (L.set i (b, v.cells)) := by
  obtain ⟨h', e, l'⟩ := l.st i hi hv hs (off := 0) (by omega)
  have : placeL cs 0 v.cells = v.cells := by
    apply List.ext_getElem?
    intro k
    rw [placeL_get _ _ _ _ (by omega)]
    by_cases hk : 0 ≤ k ∧ k < 0 + v.cells.length
    · rw [if_pos hk]; simp
    · rw [if_neg hk, List.getElem?_eq_none (by omega), List.getElem?_eq_none (by omega)]
  rw [this] at l'
  exact ⟨h', e, l'⟩
variable {P : Program}
def le (r s : CRes) : Prop := r ≠ .fail → s = r
theorem le_refl (r : CRes) : le r r := fun _ => rfl
theorem le_fail (s : CRes) : le .fail s := fun h => absurd rfl h
theorem le_trans {a b c : CRes} (h1 : le a b) (h2 : le b c) : le a c := fun h => by
  have := h1 h
  exact (h2 (by rw [this]; exact h)).trans this
def leC (f g : CallF) : Prop := ∀ x l h, le (f x l h) (g x l h)
def leR (f g : Rec) : Prop := ∀ i l h, le (f i l h) (g i l h)
def leO {α : Type} (x y : Option α) : Prop := ∀ z, x = some z → y = some z
theorem le_e {t t' s : CRes} (e : t' ≠ .fail → s = t') (m : le t t') : le t s := fun h => by
  have := m h
  rw [this] at e
  exact e h
theorem le_obind {o : Option IV} {k k' : IV → CRes} (hk : ∀ v, le (k v) (k' v)) : le (obind o k) (obind o k') := by
  cases o with
  | none => exact le_fail _
  | some v => exact hk v
theorem le_obind2 {o : Option (IV × H)} {k k' : IV → H → CRes} (hk : ∀ v h, le (k v h) (k' v h)) : le (obind2 o k) (obind2 o k') := by
  cases o with
  | none => exact le_fail _
  | some v => exact hk v.1 v.2
theorem le_obindH {o : Option H} {k k' : H → CRes} (hk : ∀ h, le (k h) (k' h)) : le (obindH o k) (obindH o k') := by
  cases o with
  | none => exact le_fail _
  | some v => exact hk v
theorem le_callP {r r' : CRes} {p p' k k' : IV → H → CRes} (hr : le r r') (hp : ∀ v h, le (p v h) (p' v h)) (hk : ∀ v h, le (k v h) (k' v h)) : le (callP r p k) (callP r' p' k') := by
  cases r with
  | fail => exact le_fail _
  | ok v h => rw [hr (by simp)]; exact hk v h
  | pan v h => rw [hr (by simp)]; exact hp v h
theorem le_condK {v : IV} {a a' b b' : CRes} (ha : le a a') (hb : le b b') : le (condK v a b) (condK v a' b') := by
  unfold condK
  split
  · exact ha
  · exact hb
  · exact le_fail _
theorem le_guardK {v : IV} {a a' b b' c c' : CRes} (ha : le a a') (hb : le b b') (hc : le c c') : le (guardK v a b c) (guardK v a' b' c') := by
  unfold guardK
  split
  · exact ha
  · exact hb
  · exact hc
  · exact le_fail _
theorem le_bif {c : Bool} {a a' b b' : CRes} (ha : le a a') (hb : le b b') : le (bif c then a else b) (bif c then a' else b') := by
  cases c
  · exact hb
  · exact ha
theorem le_spanK {v : IV} {w : Bool} {h : H} {a a' : (IV → H → CRes) → CRes} {k k' : IV → H → CRes} (ha : ∀ k k', (∀ v h, le (k v h) (k' v h)) → le (a k) (a' k')) (hk : ∀ v h, le (k v h) (k' v h)) : le (spanK v w h a k) (spanK v w h a' k') := by
  unfold spanK
  split
  · exact le_bif (ha _ _ hk) (hk _ _)
  · exact le_bif (hk _ _) (ha _ _ hk)
  · exact hk _ _
  · exact le_fail _
theorem le_funK {v : IV} {k k' : FuncId → List IV → CRes} (hk : ∀ g c, le (k g c) (k' g c)) : le (funK v k) (funK v k') := by
  unfold funK
  split
  · exact hk _ _
  · exact le_fail _
theorem le_mapK {h : H} {k k' : IV → H → CRes} (hk : ∀ v h, le (k v h) (k' v h)) : le (mapK h k) (mapK h k') := hk _ _
theorem le_panK {v : IV} {h : H} {p p' : IV → H → CRes} (hp : ∀ v h, le (p v h) (p' v h)) : le (panK v h p) (panK v h p') := by
  unfold panK
  split
  · exact hp _ _
  · exact le_fail _
theorem le_dfK {x x' : Option (Mode × H)} {k k' : H → CRes} (hx : leO x x') (hk : ∀ h, le (k h) (k' h)) : le (dfK x k) (dfK x' k') := by
  cases x with
  | none => exact le_fail _
  | some z =>
    rw [hx z rfl]
    obtain ⟨m, g⟩ := z
    cases m with
    | ret => exact hk g
    | pan v => exact le_refl _
    | done => exact le_refl _
theorem le_dfP {L L' : Mode → H → Option (Mode × H)} {k k' : H → CRes} {v : IV} {h : H} (hL : ∀ st h, leO (L st h) (L' st h)) (hk : ∀ h, le (k h) (k' h)) : le (dfP L k v h) (dfP L' k' v h) := le_dfK (hL _ _) hk
theorem le_beq {i k : Nat} {a b s : CRes} (ha : i = k → le a s) (hb : le b s) : le (bif Nat.beq i k then a else b) s := by
  cases e : Nat.beq i k with
  | true => exact ha (Nat.eq_of_beq_eq_true e)
  | false => exact hb
def arC (l : List IV) (k : IV → List IV → CRes) : CRes :=
  match l with
  | a :: l => k a l
  | [] => .fail
def ar0 (l : List IV) (x : CRes) : CRes :=
  match l with
  | [] => x
  | _ => .fail
theorem le_arC {l : List IV} {k : IV → List IV → CRes} {s : CRes} (hk : ∀ a l', l = a :: l' → le (k a l') s) : le (arC l k) s := by
  cases l with
  | nil => exact le_fail _
  | cons a l' => exact hk a l' rfl
theorem le_ar0 {l : List IV} {x s : CRes} (hx : l = [] → le x s) : le (ar0 l x) s := by
  cases l with
  | nil => exact hx rfl
  | cons a l' => exact le_fail _
def br0 (i k : Nat) (l : List IV) (x : CRes) (r : CRes) : CRes := bif Nat.beq i k then ar0 l (x) else r
theorem le_br0 {J : Nat → List IV → CRes} {i k : Nat} {l : List IV} {x : CRes} {r : CRes} (hx : i = k → le (x) (J k [])) (hr : le r (J i l)) : le (br0 i k l x r) (J i l) :=
  le_beq (fun e0 => e0 ▸ le_ar0 fun e => e ▸ hx e0) hr
def br1 (i k : Nat) (l : List IV) (x : IV → CRes) (r : CRes) : CRes := bif Nat.beq i k then arC l fun a0 l => ar0 l (x a0) else r
theorem le_br1 {J : Nat → List IV → CRes} {i k : Nat} {l : List IV} {x : IV → CRes} {r : CRes} (hx : i = k → ∀ a0, le (x a0) (J k [a0])) (hr : le r (J i l)) : le (br1 i k l x r) (J i l) :=
  le_beq (fun e0 => e0 ▸ le_arC fun a0 _ e => e ▸ le_ar0 fun e => e ▸ hx e0 a0) hr
def br2 (i k : Nat) (l : List IV) (x : IV → IV → CRes) (r : CRes) : CRes := bif Nat.beq i k then arC l fun a0 l => arC l fun a1 l => ar0 l (x a0 a1) else r
theorem le_br2 {J : Nat → List IV → CRes} {i k : Nat} {l : List IV} {x : IV → IV → CRes} {r : CRes} (hx : i = k → ∀ a0 a1, le (x a0 a1) (J k [a0, a1])) (hr : le r (J i l)) : le (br2 i k l x r) (J i l) :=
  le_beq (fun e0 => e0 ▸ le_arC fun a0 _ e => e ▸ le_arC fun a1 _ e => e ▸ le_ar0 fun e => e ▸ hx e0 a0 a1) hr
def br3 (i k : Nat) (l : List IV) (x : IV → IV → IV → CRes) (r : CRes) : CRes := bif Nat.beq i k then arC l fun a0 l => arC l fun a1 l => arC l fun a2 l => ar0 l (x a0 a1 a2) else r
theorem le_br3 {J : Nat → List IV → CRes} {i k : Nat} {l : List IV} {x : IV → IV → IV → CRes} {r : CRes} (hx : i = k → ∀ a0 a1 a2, le (x a0 a1 a2) (J k [a0, a1, a2])) (hr : le r (J i l)) : le (br3 i k l x r) (J i l) :=
  le_beq (fun e0 => e0 ▸ le_arC fun a0 _ e => e ▸ le_arC fun a1 _ e => e ▸ le_arC fun a2 _ e => e ▸ le_ar0 fun e => e ▸ hx e0 a0 a1 a2) hr
def br4 (i k : Nat) (l : List IV) (x : IV → IV → IV → IV → CRes) (r : CRes) : CRes := bif Nat.beq i k then arC l fun a0 l => arC l fun a1 l => arC l fun a2 l => arC l fun a3 l => ar0 l (x a0 a1 a2 a3) else r
theorem le_br4 {J : Nat → List IV → CRes} {i k : Nat} {l : List IV} {x : IV → IV → IV → IV → CRes} {r : CRes} (hx : i = k → ∀ a0 a1 a2 a3, le (x a0 a1 a2 a3) (J k [a0, a1, a2, a3])) (hr : le r (J i l)) : le (br4 i k l x r) (J i l) :=
  le_beq (fun e0 => e0 ▸ le_arC fun a0 _ e => e ▸ le_arC fun a1 _ e => e ▸ le_arC fun a2 _ e => e ▸ le_arC fun a3 _ e => e ▸ le_ar0 fun e => e ▸ hx e0 a0 a1 a2 a3) hr
def br5 (i k : Nat) (l : List IV) (x : IV → IV → IV → IV → IV → CRes) (r : CRes) : CRes := bif Nat.beq i k then arC l fun a0 l => arC l fun a1 l => arC l fun a2 l => arC l fun a3 l => arC l fun a4 l => ar0 l (x a0 a1 a2 a3 a4) else r
theorem le_br5 {J : Nat → List IV → CRes} {i k : Nat} {l : List IV} {x : IV → IV → IV → IV → IV → CRes} {r : CRes} (hx : i = k → ∀ a0 a1 a2 a3 a4, le (x a0 a1 a2 a3 a4) (J k [a0, a1, a2, a3, a4])) (hr : le r (J i l)) : le (br5 i k l x r) (J i l) :=
  le_beq (fun e0 => e0 ▸ le_arC fun a0 _ e => e ▸ le_arC fun a1 _ e => e ▸ le_arC fun a2 _ e => e ▸ le_arC fun a3 _ e => e ▸ le_arC fun a4 _ e => e ▸ le_ar0 fun e => e ▸ hx e0 a0 a1 a2 a3 a4) hr
def br6 (i k : Nat) (l : List IV) (x : IV → IV → IV → IV → IV → IV → CRes) (r : CRes) : CRes := bif Nat.beq i k then arC l fun a0 l => arC l fun a1 l => arC l fun a2 l => arC l fun a3 l => arC l fun a4 l => arC l fun a5 l => ar0 l (x a0 a1 a2 a3 a4 a5) else r
theorem le_br6 {J : Nat → List IV → CRes} {i k : Nat} {l : List IV} {x : IV → IV → IV → IV → IV → IV → CRes} {r : CRes} (hx : i = k → ∀ a0 a1 a2 a3 a4 a5, le (x a0 a1 a2 a3 a4 a5) (J k [a0, a1, a2, a3, a4, a5])) (hr : le r (J i l)) : le (br6 i k l x r) (J i l) :=
  le_beq (fun e0 => e0 ▸ le_arC fun a0 _ e => e ▸ le_arC fun a1 _ e => e ▸ le_arC fun a2 _ e => e ▸ le_arC fun a3 _ e => e ▸ le_arC fun a4 _ e => e ▸ le_arC fun a5 _ e => e ▸ le_ar0 fun e => e ▸ hx e0 a0 a1 a2 a3 a4 a5) hr
def br7 (i k : Nat) (l : List IV) (x : IV → IV → IV → IV → IV → IV → IV → CRes) (r : CRes) : CRes := bif Nat.beq i k then arC l fun a0 l => arC l fun a1 l => arC l fun a2 l => arC l fun a3 l => arC l fun a4 l => arC l fun a5 l => arC l fun a6 l => ar0 l (x a0 a1 a2 a3 a4 a5 a6) else r
theorem le_br7 {J : Nat → List IV → CRes} {i k : Nat} {l : List IV} {x : IV → IV → IV → IV → IV → IV → IV → CRes} {r : CRes} (hx : i = k → ∀ a0 a1 a2 a3 a4 a5 a6, le (x a0 a1 a2 a3 a4 a5 a6) (J k [a0, a1, a2, a3, a4, a5, a6])) (hr : le r (J i l)) : le (br7 i k l x r) (J i l) :=
  le_beq (fun e0 => e0 ▸ le_arC fun a0 _ e => e ▸ le_arC fun a1 _ e => e ▸ le_arC fun a2 _ e => e ▸ le_arC fun a3 _ e => e ▸ le_arC fun a4 _ e => e ▸ le_arC fun a5 _ e => e ▸ le_arC fun a6 _ e => e ▸ le_ar0 fun e => e ▸ hx e0 a0 a1 a2 a3 a4 a5 a6) hr
def br8 (i k : Nat) (l : List IV) (x : IV → IV → IV → IV → IV → IV → IV → IV → CRes) (r : CRes) : CRes := bif Nat.beq i k then arC l fun a0 l => arC l fun a1 l => arC l fun a2 l => arC l fun a3 l => arC l fun a4 l => arC l fun a5 l => arC l fun a6 l => arC l fun a7 l => ar0 l (x a0 a1 a2 a3 a4 a5 a6 a7) else r
theorem le_br8 {J : Nat → List IV → CRes} {i k : Nat} {l : List IV} {x : IV → IV → IV → IV → IV → IV → IV → IV → CRes} {r : CRes} (hx : i = k → ∀ a0 a1 a2 a3 a4 a5 a6 a7, le (x a0 a1 a2 a3 a4 a5 a6 a7) (J k [a0, a1, a2, a3, a4, a5, a6, a7])) (hr : le r (J i l)) : le (br8 i k l x r) (J i l) :=
  le_beq (fun e0 => e0 ▸ le_arC fun a0 _ e => e ▸ le_arC fun a1 _ e => e ▸ le_arC fun a2 _ e => e ▸ le_arC fun a3 _ e => e ▸ le_arC fun a4 _ e => e ▸ le_arC fun a5 _ e => e ▸ le_arC fun a6 _ e => e ▸ le_arC fun a7 _ e => e ▸ le_ar0 fun e => e ▸ hx e0 a0 a1 a2 a3 a4 a5 a6 a7) hr
def br9 (i k : Nat) (l : List IV) (x : IV → IV → IV → IV → IV → IV → IV → IV → IV → CRes) (r : CRes) : CRes := bif Nat.beq i k then arC l fun a0 l => arC l fun a1 l => arC l fun a2 l => arC l fun a3 l => arC l fun a4 l => arC l fun a5 l => arC l fun a6 l => arC l fun a7 l => arC l fun a8 l => ar0 l (x a0 a1 a2 a3 a4 a5 a6 a7 a8) else r
theorem le_br9 {J : Nat → List IV → CRes} {i k : Nat} {l : List IV} {x : IV → IV → IV → IV → IV → IV → IV → IV → IV → CRes} {r : CRes} (hx : i = k → ∀ a0 a1 a2 a3 a4 a5 a6 a7 a8, le (x a0 a1 a2 a3 a4 a5 a6 a7 a8) (J k [a0, a1, a2, a3, a4, a5, a6, a7, a8])) (hr : le r (J i l)) : le (br9 i k l x r) (J i l) :=
  le_beq (fun e0 => e0 ▸ le_arC fun a0 _ e => e ▸ le_arC fun a1 _ e => e ▸ le_arC fun a2 _ e => e ▸ le_arC fun a3 _ e => e ▸ le_arC fun a4 _ e => e ▸ le_arC fun a5 _ e => e ▸ le_arC fun a6 _ e => e ▸ le_arC fun a7 _ e => e ▸ le_arC fun a8 _ e => e ▸ le_ar0 fun e => e ▸ hx e0 a0 a1 a2 a3 a4 a5 a6 a7 a8) hr
def br10 (i k : Nat) (l : List IV) (x : IV → IV → IV → IV → IV → IV → IV → IV → IV → IV → CRes) (r : CRes) : CRes := bif Nat.beq i k then arC l fun a0 l => arC l fun a1 l => arC l fun a2 l => arC l fun a3 l => arC l fun a4 l => arC l fun a5 l => arC l fun a6 l => arC l fun a7 l => arC l fun a8 l => arC l fun a9 l => ar0 l (x a0 a1 a2 a3 a4 a5 a6 a7 a8 a9) else r
theorem le_br10 {J : Nat → List IV → CRes} {i k : Nat} {l : List IV} {x : IV → IV → IV → IV → IV → IV → IV → IV → IV → IV → CRes} {r : CRes} (hx : i = k → ∀ a0 a1 a2 a3 a4 a5 a6 a7 a8 a9, le (x a0 a1 a2 a3 a4 a5 a6 a7 a8 a9) (J k [a0, a1, a2, a3, a4, a5, a6, a7, a8, a9])) (hr : le r (J i l)) : le (br10 i k l x r) (J i l) :=
  le_beq (fun e0 => e0 ▸ le_arC fun a0 _ e => e ▸ le_arC fun a1 _ e => e ▸ le_arC fun a2 _ e => e ▸ le_arC fun a3 _ e => e ▸ le_arC fun a4 _ e => e ▸ le_arC fun a5 _ e => e ▸ le_arC fun a6 _ e => e ▸ le_arC fun a7 _ e => e ▸ le_arC fun a8 _ e => e ▸ le_arC fun a9 _ e => e ▸ le_ar0 fun e => e ▸ hx e0 a0 a1 a2 a3 a4 a5 a6 a7 a8 a9) hr
noncomputable def recN (f : Rec → Rec) (n : Nat) : Rec := Nat.rec (motive := fun _ => Rec) (fun _ _ _ => .fail) (fun _ R => f R) n
theorem recN_le {f : Rec → Rec} {J : Rec} (hf : ∀ R, leR R J → leR (f R) J) (n : Nat) : leR (recN f n) J := by
  induction n with
  | zero => exact fun _ _ _ => le_fail _
  | succ n ih => exact hf _ ih
theorem call_le {T : Tab} {f : FuncId} {fn : Func} {c : Code} {js : List Jn} {args : List IV} {h : H} {s : CRes} (ho : T.ov f = none) (hf : P.funcs[f]? = some fn) (hb : fn.body = some c) (hj : (match js with | j :: _ => beqL j.path [] && beqL j.live (rangeL args.length 0) | [] => false) = true)
    (hn : args.length = fn.params.size + fn.nfree) (e : le s (fj P (call P T) fn js 0 args (h.setPol (T.pol f)))) : le (s.setPol h.pol) (call P T f args h) := by
  intro hs
  cases r : fj P (call P T) fn js 0 args (h.setPol (T.pol f)) with
  | fail =>
    have : s = .fail := by
      cases s with
      | fail => rfl
      | ok v g => have := e (by simp); rw [r] at this; cases this
      | pan v g => have := e (by simp); rw [r] at this; cases this
    rw [this] at hs
    exact absurd rfl hs
  | ok v g =>
    obtain ⟨m, hm⟩ := fj_body hf hb hj hn r (by simp)
    rw [call_body ho hm (by simp), ← r, e (by intro h0; rw [h0] at hs; exact hs rfl)]
  | pan v g =>
    obtain ⟨m, hm⟩ := fj_body hf hb hj hn r (by simp)
    rw [call_body ho hm (by simp), ← r, e (by intro h0; rw [h0] at hs; exact hs rfl)]
def ovK (o : Option (List IV → H → CRes)) (l : List IV) (h : H) (x : CRes) : CRes :=
  match o with
  | some g => g l h
  | none => x
theorem run_val {T : Tab} {cf : CallF} (hc : leC cf (call P T)) {f : FuncId} {args : List IV} {h : H} {v : IV} (e : (cf f args h).val = some v) : ∃ h', call P T f args h = .ok v h' := by
  obtain ⟨h', e'⟩ := CRes.of_val e
  exact ⟨h', by rw [hc f args h (by rw [e']; simp), e']⟩
def lvK (r : CRes) : Option (Mode × H) :=
  match r with
  | .ok _ h => some (.ret, h)
  | _ => none
def lvM (st : Mode) (x : Option (Mode × H)) : Option (Mode × H) :=
  match st with
  | .done => none
  | _ => x
theorem lvM_le {st : Mode} {x y : Option (Mode × H)} (e : st ≠ .done → leO x y) : leO (lvM st x) y := by
  cases st with
  | done => intro z h; cases h
  | ret => exact e (by simp)
  | pan v => exact e (by simp)
theorem lvK_le {r s : CRes} {y : Option (Mode × H)} (hr : le r s) (e : ∀ v h', s = .ok v h' → y = some (.ret, h')) : leO (lvK r) y := by
  intro z hz
  cases r with
  | fail => cases hz
  | pan v g => cases hz
  | ok v g =>
    injection hz with hz
    subst hz
    exact e v g (hr (by simp))
end
end Go.Proofs.YtimjkkcondljeaaGreatDoor.I
namespace Go.Proofs.YtimjkkcondljeaaGreatDoor.I
noncomputable section
open Go
variable {P : Program}
def lkT (tbl : List (Str × IV)) (s : Str) : Option IV := List.rec (motive := fun _ => Option IV) none (fun p _ ih => Bool.rec (motive := fun _ => Option IV) ih (some p.2) (Str.eq p.1 s)) tbl
theorem lkT_mem : ∀ {tbl : List (Str × IV)} {s : Str} {v : IV}, lkT tbl s = some v → (s, v) ∈ tbl
  | [], s, v, h => by cases h
  | p :: tbl, s, v, h => by
    have e : lkT (p :: tbl) s = Bool.rec (motive := fun _ => Option IV) (lkT tbl s) (some p.2) (Str.eq p.1 s) := rfl
    rw [e] at h
    cases hs : Str.eq p.1 s with
    | true =>
      rw [hs] at h
      injection h with h
      simp only [Str.eq, Bool.and_eq_true, Nat.beq_eq] at hs
      obtain ⟨⟨a, b⟩, w⟩ := p
      obtain ⟨c, d⟩ := s
      obtain ⟨h1, h2⟩ := hs
      simp only at h1 h2 h
      subst h1; subst h2; subst h
      exact List.mem_cons_self ..
    | false => rw [hs] at h; exact List.mem_cons_of_mem _ (lkT_mem h)
def gT (tbl : List (Str × IV)) (args : List IV) : Option IV :=
  match args with
  | [.str s] => lkT tbl s
  | _ => none
def okTab (cf : CallF) (f : FuncId) (tbl : List (Str × IV)) : Bool := tbl.all fun p => flat p.2 && (match (cf f [.str p.1] H0).val with | some v => IV.beq v p.2 | none => false)
theorem pureT_tbl {cf cf' : CallF} (hle : leC cf' cf) {f : FuncId} {fn : Func} {c : Code} (hf : P.funcs[f]? = some fn) (hb : fn.body = some c) {tbl : List (Str × IV)} (ok : okTab cf' f tbl = true) : PureT P cf f (gT tbl) :=
  ⟨⟨fn, c, hf, hb⟩, fun args v h => by
    unfold gT at h
    split at h
    · rename_i s
      have hm := lkT_mem h
      have := List.all_eq_true.1 ok _ hm
      simp only [Bool.and_eq_true] at this
      obtain ⟨h1, h2⟩ := this
      split at h2
      · rename_i u hu
        have := IV.beq_eq h2
        subst this
        obtain ⟨h', e⟩ := CRes.of_val hu
        exact ⟨rfl, h1, true, h', by have := hle f [.str s] H0 (by rw [e]; simp); rw [e] at this; exact this⟩
      · cases h2
    · cases h⟩
end
end Go.Proofs.YtimjkkcondljeaaGreatDoor.I
namespace Go.Proofs.YtimjkkcondljeaaGreatDoor.I
noncomputable section
open Go
def Qo : Option IV → (IV → CRes) → CRes := @Option.rec IV (fun _ => (IV → CRes) → CRes) (fun _ => .fail) (fun v k => k v)
theorem Qo_eq : Qo = obind := by funext o k; cases o <;> rfl
def Qo2 : Option (IV × H) → (IV → H → CRes) → CRes := @Option.rec (IV × H) (fun _ => (IV → H → CRes) → CRes) (fun _ => .fail) (fun p => @Prod.rec IV H (fun _ => (IV → H → CRes) → CRes) (fun v h k => k v h) p)
theorem Qo2_eq : Qo2 = obind2 := by funext o k; rcases o with _ | ⟨v, h⟩ <;> rfl
def QoH : Option H → (H → CRes) → CRes := @Option.rec H (fun _ => (H → CRes) → CRes) (fun _ => .fail) (fun v k => k v)
theorem QoH_eq : QoH = obindH := by funext o k; cases o <;> rfl
def Qc : CRes → (IV → H → CRes) → (IV → H → CRes) → CRes := @CRes.rec (fun _ => (IV → H → CRes) → (IV → H → CRes) → CRes) (fun v h p k => k v h) (fun v h p k => p v h) (fun _ _ => .fail)
theorem Qc_eq : Qc = callP := by funext r p k; cases r <;> rfl
def Qif : IV → CRes → CRes → CRes := @IV.rec (fun _ => CRes → CRes → CRes) (fun _ => PUnit) (fun x_b a b => @Bool.rec (fun _ => CRes) (b) (a) (x_b)) (fun _ _ a b => CRes.fail) (fun _ a b => CRes.fail) (fun a b => CRes.fail) (fun _ _ a b => CRes.fail) (fun a b => CRes.fail) (fun _ _ _ _ a b => CRes.fail) (fun a b => CRes.fail) (fun _ a b => CRes.fail) (fun a b => CRes.fail) (fun _ _ _ a b => CRes.fail) (fun a b => CRes.fail) (fun _ _ _ a b => CRes.fail) (fun _ _ a b => CRes.fail) (fun _ _ a b => CRes.fail) PUnit.unit (fun _ _ _ _ => PUnit.unit)
theorem Qif_eq : Qif = condK := by funext v a b; cases v with | bool x => cases x <;> rfl | _ => rfl
def Qsp : IV → Bool → H → ((IV → H → CRes) → CRes) → (IV → H → CRes) → CRes := @IV.rec (fun _ => Bool → H → ((IV → H → CRes) → CRes) → (IV → H → CRes) → CRes) (fun _ => PUnit) (fun x_b w h a k => @Bool.rec (fun _ => CRes) (@Bool.rec (fun _ => CRes) (a k) (k (.tup []) h) (w)) (@Bool.rec (fun _ => CRes) (k (.tup []) h) (a k) (w)) (x_b)) (fun _ _ w h a k => CRes.fail) (fun _ w h a k => CRes.fail) (fun w h a k => CRes.fail) (fun _ _ w h a k => CRes.fail) (fun w h a k => CRes.fail) (fun _ _ _ _ w h a k => CRes.fail) (fun w h a k => CRes.fail) (fun _ w h a k => CRes.fail) (fun w h a k => CRes.fail) (fun _ _ _ w h a k => CRes.fail) (fun w h a k => CRes.fail) (fun _ _ _ w h a k => CRes.fail) (fun _ _ w h a k => CRes.fail) (fun x_c _ w h a k => @List.rec IV (fun _ => CRes) (k (.tup []) h) (fun _ _ _ => .fail) x_c) PUnit.unit (fun _ _ _ _ => PUnit.unit)
theorem Qsp_eq : Qsp = spanK := by funext v w h a k; cases v with | bool x => cases x <;> cases w <;> rfl | tup c => cases c <;> rfl | _ => rfl
def Qpk : IV → (Option IV) → (Option IV) → Option IV := @IV.rec (fun _ => (Option IV) → (Option IV) → Option IV) (fun _ => PUnit) (fun x_b a b => @Bool.rec (fun _ => Option IV) (b) (a) (x_b)) (fun _ _ a b => none) (fun _ a b => none) (fun a b => none) (fun _ _ a b => none) (fun a b => none) (fun _ _ _ _ a b => none) (fun a b => none) (fun _ a b => none) (fun a b => none) (fun _ _ _ a b => none) (fun a b => none) (fun _ _ _ a b => none) (fun _ _ a b => none) (fun _ _ a b => none) PUnit.unit (fun _ _ _ _ => PUnit.unit)
theorem Qpk_eq : Qpk = pickI := by funext v a b; cases v with | bool x => cases x <;> rfl | _ => rfl
def Qnil : IV → Option IV := @IV.rec (fun _ => Option IV) (fun _ => PUnit) (fun _ => none) (fun _ _ => none) (fun _ => none) (none) (fun x_b x_o => some (.ptr x_b x_o)) (none) (fun _ _ _ _ => none) (none) (fun _ => none) (none) (fun _ _ _ => none) (none) (fun _ _ _ => none) (fun _ _ => none) (fun _ _ => none) PUnit.unit (fun _ _ _ _ => PUnit.unit)
theorem Qnil_eq : Qnil = nilI := by funext v; cases v <;> rfl
def Qext : IV → Nat → Option IV := @IV.rec (fun _ => Nat → Option IV) (fun _ => PUnit) (fun _ i => none) (fun _ _ i => none) (fun _ i => none) (fun i => none) (fun _ _ i => none) (fun i => none) (fun _ _ _ _ i => none) (fun i => none) (fun _ i => none) (fun i => none) (fun _ _ _ i => none) (fun i => none) (fun _ _ _ i => none) (fun _ _ i => none) (fun x_c _ i => T.nth x_c i) PUnit.unit (fun _ _ _ _ => PUnit.unit)
theorem Qext_eq : Qext = extractI := by funext v i; cases v with | tup c => exact T.nth_eq c i | _ => rfl
def QfaR : IV → Nat → Option IV := @IV.rec (fun _ => Nat → Option IV) (fun _ => PUnit) (fun _ p => none) (fun _ _ p => none) (fun _ p => none) (fun p => none) (fun x_b x_o p => T.fN (Nat.add x_o p) fun n => some (.ptr x_b n)) (fun p => none) (fun _ _ _ _ p => none) (fun p => none) (fun _ p => none) (fun p => none) (fun _ _ _ p => none) (fun p => none) (fun _ _ _ p => none) (fun _ _ p => none) (fun _ _ p => none) PUnit.unit (fun _ _ _ _ => PUnit.unit)
def Qfad (p : Nat) (x : IV) : Option IV := QfaR x p
theorem Qfad_eq : Qfad = fadK := by funext p v; cases v with | ptr b o => (show T.fN (Nat.add o p) (fun n => some (IV.ptr b n)) = some (IV.ptr b (Nat.add o p)); rw [T.fN_eq]) | _ => rfl
def Qnot : IV → Option IV := @IV.rec (fun _ => Option IV) (fun _ => PUnit) (fun x_b => @Bool.rec (fun _ => Option IV) (some (.bool true)) (some (.bool false)) (x_b)) (fun _ _ => none) (fun _ => none) (none) (fun _ _ => none) (none) (fun _ _ _ _ => none) (none) (fun _ => none) (none) (fun _ _ _ => none) (none) (fun _ _ _ => none) (fun _ _ => none) (fun _ _ => none) PUnit.unit (fun _ _ _ _ => PUnit.unit)
theorem Qnot_eq : Qnot = unI .not := by funext v; cases v with | bool x => cases x <;> rfl | _ => rfl
def Qcells : IV → List IV := @IV.rec (fun _ => List IV) (fun _ => PUnit) (fun x_b => [(.bool x_b)]) (fun x_k x_n => [(.int x_k x_n)]) (fun x_s => [(.str x_s)]) ([(.nilPtr)]) (fun x_b x_o => [(.ptr x_b x_o)]) ([(.nilSlice)]) (fun x_b x_o x_n x_e => [(.slice x_b x_o x_n x_e)]) ([(.nilMap)]) (fun x_b => [(.map x_b)]) ([(.nilFunc)]) (fun x_f x_c _ => [(.func x_f x_c)]) ([(.nilIface)]) (fun x_t x_v _ => [(.iface x_t x_v)]) (fun x_c _ => x_c) (fun x_c _ => [(.tup x_c)]) PUnit.unit (fun _ _ _ _ => PUnit.unit)
theorem Qcells_eq : Qcells = IV.cells := by funext v; cases v <;> rfl
def Qob0 : Option Obj → Nat → Option IV := @Option.rec Obj (fun _ => Nat → Option IV) (fun off => none) (fun x => @Obj.rec (fun _ => Nat → Option IV) (fun rw fz size cs off => @Bool.rec (fun _ => Option IV) (none) (T.get cs off) (Nat.ble (Nat.succ off) size)) (fun _ _ off => none) (fun _ _ _ _ off => none) (fun _ _ off => none) x)
def Ql0R : IV → H → Option IV := @IV.rec (fun _ => H → Option IV) (fun _ => PUnit) (fun _ h => none) (fun _ _ h => none) (fun _ h => none) (fun h => none) (fun x_b x_o h => Qob0 (T.get h.objs x_b) x_o) (fun h => none) (fun _ _ _ _ h => none) (fun h => none) (fun _ h => none) (fun h => none) (fun _ _ _ h => none) (fun h => none) (fun _ _ _ h => none) (fun _ _ h => none) (fun _ _ h => none) PUnit.unit (fun _ _ _ _ => PUnit.unit)
def Ql0 (h : H) (a : IV) : Option IV := Ql0R a h
theorem Ql0_eq : Ql0 = ld0 := by
  funext h a
  cases a with
  | ptr b o =>
    show Qob0 (T.get h.objs b) o = _
    simp only [ld0, H.get]
    cases T.get h.objs b with
    | none => rfl
    | some x => cases x with
      | cells rw fz size cs =>
        show @Bool.rec (fun _ => Option IV) (none) (T.get cs o) (Nat.ble (Nat.succ o) size) = (bif Nat.ble (Nat.succ o) size then T.get cs o else none)
        cases Nat.ble (Nat.succ o) size <;> rfl
      | _ => rfl
  | _ => rfl
def QobA : Option Obj → Nat → Nat → Option IV := @Option.rec Obj (fun _ => Nat → Nat → Option IV) (fun off n => none) (fun x => @Obj.rec (fun _ => Nat → Nat → Option IV) (fun rw fz size cs off n => @Bool.rec (fun _ => Option IV) (none) (@Option.rec (List IV) (fun _ => Option IV) none (fun l => some (.agg l)) (getQ cs off n)) (Nat.ble (Nat.add off n) size)) (fun _ _ off n => none) (fun _ _ _ _ off n => none) (fun _ _ off n => none) x)
def QlAR : IV → Nat → H → Option IV := @IV.rec (fun _ => Nat → H → Option IV) (fun _ => PUnit) (fun _ n h => none) (fun _ _ n h => none) (fun _ n h => none) (fun n h => none) (fun x_b x_o n h => QobA (T.get h.objs x_b) x_o n) (fun n h => none) (fun _ _ _ _ n h => none) (fun n h => none) (fun _ n h => none) (fun n h => none) (fun _ _ _ n h => none) (fun n h => none) (fun _ _ _ n h => none) (fun _ _ n h => none) (fun _ _ n h => none) PUnit.unit (fun _ _ _ _ => PUnit.unit)
def QlA (n : Nat) (h : H) (a : IV) : Option IV := QlAR a n h
theorem QlA_eq : QlA = ldA := by
  funext n h a
  cases a with
  | ptr b off =>
    show QobA (T.get h.objs b) off n = _
    simp only [ldA, H.get]
    cases T.get h.objs b with
    | none => rfl
    | some x => cases x with
      | cells rw fz size cs =>
        show @Bool.rec (fun _ => Option IV) (none) (@Option.rec (List IV) (fun _ => Option IV) none (fun l => some (.agg l)) (getQ cs off n)) (Nat.ble (Nat.add off n) size) = (bif Nat.ble (Nat.add off n) size then (match getQ cs off n with | some l => some (.agg l) | none => none) else none)
        cases Nat.ble (Nat.add off n) size with
        | false => rfl
        | true => cases getQ cs off n <;> rfl
      | _ => rfl
  | _ => rfl
def QobS : Option Obj → Nat → Nat → H → Nat → List IV → Option H := @Option.rec Obj (fun _ => Nat → Nat → H → Nat → List IV → Option H) (fun off n h b v => none) (fun x => @Obj.rec (fun _ => Nat → Nat → H → Nat → List IV → Option H) (fun rw fz size cs off n h b v => @Bool.rec (fun _ => Option H) (none) (@Bool.rec (fun _ => Option H) (none) (T.fT (stQ cs off v) fun c => T.fT (h.objs.set b (.cells true fz size c)) fun o => some ⟨h.next, o, h.pol, h.tys⟩) (@Bool.rec (fun _ => Bool) (false) (@Bool.rec (fun _ => Bool) (false) (scalQ v) (Nat.ble (Nat.add off n) size)) (Nat.beq (lenQ v) n))) (rw)) (fun _ _ off n h b v => none) (fun _ _ _ _ off n h b v => none) (fun _ _ off n h b v => none) x)
def QsAR : IV → Nat → H → IV → Option H := @IV.rec (fun _ => Nat → H → IV → Option H) (fun _ => PUnit) (fun _ n h v => none) (fun _ _ n h v => none) (fun _ n h v => none) (fun n h v => none) (fun x_b x_o n h v => QobS (T.get h.objs x_b) x_o n h x_b (Qcells v)) (fun n h v => none) (fun _ _ _ _ n h v => none) (fun n h v => none) (fun _ n h v => none) (fun n h v => none) (fun _ _ _ n h v => none) (fun n h v => none) (fun _ _ _ n h v => none) (fun _ _ n h v => none) (fun _ _ n h v => none) PUnit.unit (fun _ _ _ _ => PUnit.unit)
def QsA (n : Nat) (h : H) (a v : IV) : Option H := QsAR a n h v
theorem and_rec (a b : Bool) : @Bool.rec (fun _ => Bool) false b a = (a && b) := by cases a <;> rfl
theorem QsA_eq : QsA = stA := by
  funext n h a v
  cases a with
  | ptr b off =>
    show QobS (T.get h.objs b) off n h b (Qcells v) = _
    rw [Qcells_eq]
    simp only [stA, H.get]
    cases T.get h.objs b with
    | none => rfl
    | some x => cases x with
      | cells rw fz size cs =>
        cases rw with
        | false => rfl
        | true =>
          show @Bool.rec (fun _ => Option H) (none) (T.fT (stQ cs off v.cells) fun c => T.fT (h.objs.set b (.cells true fz size c)) fun o => some ⟨h.next, o, h.pol, h.tys⟩) (@Bool.rec (fun _ => Bool) (false) (@Bool.rec (fun _ => Bool) (false) (scalQ v.cells) (Nat.ble (Nat.add off n) size)) (Nat.beq (lenQ v.cells) n)) = (bif (Nat.beq (lenQ v.cells) n && (Nat.ble (Nat.add off n) size && scalQ v.cells)) then T.fT (stQ cs off v.cells) fun c => T.fT (h.objs.set b (.cells true fz size c)) fun o => some ⟨h.next, o, h.pol, h.tys⟩ else none)
          rw [and_rec, and_rec]
          cases (Nat.beq (lenQ v.cells) n && (Nat.ble (Nat.add off n) size && scalQ v.cells)) <;> rfl
      | _ => rfl
  | _ => rfl
def QnI (h : H) (cs : List IV) : Option (IV × H) := @Bool.rec (fun _ => Option (IV × H)) (none) (T.fN h.next fun n => T.fN (lenQ cs) fun k => T.fT (h.objs.set n (.cells true false k (.arr cs))) fun o => some (.ptr n 0, ⟨Nat.succ n, o, h.pol, h.tys⟩)) (scalQ cs)
theorem QnI_eq : QnI = newI := by
  funext h cs
  rw [newI_eq]
  unfold QnI
  rw [T.fN_eq, T.fN_eq, T.fT_eq, lenQ_eq, scalQ_eq]
  cases allScalar cs <;> rfl
def QixI : IV → Nat → Nat → Nat → Nat → Nat → Option IV := @IV.rec (fun _ => Nat → Nat → Nat → Nat → Nat → Option IV) (fun _ => PUnit) (fun _ k b off len es => none) (fun x_k x_n k b off len es => @Int.rec (fun _ => Option IV) (fun m => @Bool.rec (fun _ => Option IV) (none) (T.fN (Nat.add off (Nat.mul m es)) fun o => some (.ptr b o)) (@Bool.rec (fun _ => Bool) (false) (Nat.ble (Nat.succ m) len) (Nat.beq k es))) (fun _ => none) x_n) (fun _ k b off len es => none) (fun k b off len es => none) (fun _ _ k b off len es => none) (fun k b off len es => none) (fun _ _ _ _ k b off len es => none) (fun k b off len es => none) (fun _ k b off len es => none) (fun k b off len es => none) (fun _ _ _ k b off len es => none) (fun k b off len es => none) (fun _ _ _ k b off len es => none) (fun _ _ k b off len es => none) (fun _ _ k b off len es => none) PUnit.unit (fun _ _ _ _ => PUnit.unit)
def QixR : IV → Nat → IV → Option IV := @IV.rec (fun _ => Nat → IV → Option IV) (fun _ => PUnit) (fun _ k i => none) (fun _ _ k i => none) (fun _ k i => none) (fun k i => none) (fun _ _ k i => none) (fun k i => none) (fun x_b x_o x_n x_e k i => QixI i k x_b x_o x_n x_e) (fun k i => none) (fun _ k i => none) (fun k i => none) (fun _ _ _ k i => none) (fun k i => none) (fun _ _ _ k i => none) (fun _ _ k i => none) (fun _ _ k i => none) PUnit.unit (fun _ _ _ _ => PUnit.unit)
def Qix (k : Nat) (x i : IV) : Option IV := QixR x k i
theorem Qix_eq : Qix = ixS := by
  funext k x i
  cases x with
  | slice b off len es =>
    show QixI i k b off len es = _
    cases i with
    | int kk n => cases n with
      | ofNat m =>
        show @Bool.rec (fun _ => Option IV) (none) (T.fN (Nat.add off (Nat.mul m es)) fun o => some (.ptr b o)) (@Bool.rec (fun _ => Bool) (false) (Nat.ble (Nat.succ m) len) (Nat.beq k es)) = (bif (Nat.beq k es && Nat.ble (Nat.succ m) len) then T.fN (Nat.add off (Nat.mul m es)) fun o => some (.ptr b o) else none)
        rw [and_rec]
        cases (Nat.beq k es && Nat.ble (Nat.succ m) len) <;> rfl
      | negSucc m => rfl
    | _ => rfl
  | _ => rfl
def QisI : IV → Str → Option IV := @IV.rec (fun _ => Str → Option IV) (fun _ => PUnit) (fun _ s => none) (fun x_k x_n s => @Int.rec (fun _ => Option IV) (fun m => @Bool.rec (fun _ => Option IV) (none) (T.fN (Nat.mod (Nat.div s.val (Nat.pow 256 m)) 256) fun c => some (.int .u8 (.ofNat c))) (Nat.ble (Nat.succ m) s.len)) (fun _ => none) x_n) (fun _ s => none) (fun s => none) (fun _ _ s => none) (fun s => none) (fun _ _ _ _ s => none) (fun s => none) (fun _ s => none) (fun s => none) (fun _ _ _ s => none) (fun s => none) (fun _ _ _ s => none) (fun _ _ s => none) (fun _ _ s => none) PUnit.unit (fun _ _ _ _ => PUnit.unit)
def Qis : IV → IV → Option IV := @IV.rec (fun _ => IV → Option IV) (fun _ => PUnit) (fun _ i => none) (fun _ _ i => none) (fun x_s i => QisI i x_s) (fun i => none) (fun _ _ i => none) (fun i => none) (fun _ _ _ _ i => none) (fun i => none) (fun _ i => none) (fun i => none) (fun _ _ _ i => none) (fun i => none) (fun _ _ _ i => none) (fun _ _ i => none) (fun _ _ i => none) PUnit.unit (fun _ _ _ _ => PUnit.unit)
theorem Qis_eq : Qis = ixStr := by
  funext x i
  cases x with
  | str s =>
    show QisI i s = _
    cases i with
    | int kk n => cases n with
      | ofNat m =>
        show @Bool.rec (fun _ => Option IV) (none) (T.fN (Nat.mod (Nat.div s.val (Nat.pow 256 m)) 256) fun c => some (.int .u8 (.ofNat c))) (Nat.ble (Nat.succ m) s.len) = (bif Nat.ble (Nat.succ m) s.len then T.fN (s.at m) fun c => some (.int .u8 (.ofNat c)) else none)
        cases Nat.ble (Nat.succ m) s.len <;> rfl
      | negSucc m => rfl
    | _ => rfl
  | _ => rfl
def Qle : IV → Option IV := @IV.rec (fun _ => Option IV) (fun _ => PUnit) (fun _ => none) (fun _ _ => none) (fun _ => none) (none) (fun _ _ => none) (some (.int .i64 (.ofNat 0))) (fun x_b x_o x_n x_e => some (.int .i64 (.ofNat x_n))) (none) (fun _ => none) (none) (fun _ _ _ => none) (none) (fun _ _ _ => none) (fun _ _ => none) (fun _ _ => none) PUnit.unit (fun _ _ _ _ => PUnit.unit)
theorem Qle_eq : Qle = lenS := by funext v; cases v <;> rfl
def Qls : IV → Option IV := @IV.rec (fun _ => Option IV) (fun _ => PUnit) (fun _ => none) (fun _ _ => none) (fun x_s => some (.int .i64 (.ofNat x_s.len))) (none) (fun _ _ => none) (none) (fun _ _ _ _ => none) (none) (fun _ => none) (none) (fun _ _ _ => none) (none) (fun _ _ _ => none) (fun _ _ => none) (fun _ _ => none) PUnit.unit (fun _ _ _ _ => PUnit.unit)
theorem Qls_eq : Qls = lenStr := by funext v; cases v <;> rfl
def Qk : IntKind → Nat := @IntKind.rec (fun _ => Nat) 0 1 2 3 4 5 6 7
def Qke (k j : IntKind) : Bool := Nat.beq (Qk k) (Qk j)
theorem Qke_eq (k j : IntKind) : Qke k j = kEq k j := by cases k <;> cases j <;> rfl
def QaddZ (k : IntKind) (a b : Int) : Option IV := @Int.rec (fun _ => Option IV) (fun m => @Int.rec (fun _ => Option IV) (fun n => @Bool.rec (fun _ => Option IV) (intR k (addZ k a b)) (T.fN (Nat.add m n) fun z => some (.int .i64 (.ofNat z))) (@Bool.rec (fun _ => Bool) (false) (Nat.ble (Nat.add m n) 9223372036854775807) (Nat.beq (Qk k) (Qk .i64)))) (fun _ => intR k (addZ k a b)) b) (fun _ => intR k (addZ k a b)) a
def QaddY : IV → IntKind → Int → Option IV := @IV.rec (fun _ => IntKind → Int → Option IV) (fun _ => PUnit) (fun _ k a => none) (fun x_k x_n k a => @Bool.rec (fun _ => Option IV) (none) (QaddZ k a x_n) (Qke k x_k)) (fun _ k a => none) (fun k a => none) (fun _ _ k a => none) (fun k a => none) (fun _ _ _ _ k a => none) (fun k a => none) (fun _ k a => none) (fun k a => none) (fun _ _ _ k a => none) (fun k a => none) (fun _ _ _ k a => none) (fun _ _ k a => none) (fun _ _ k a => none) PUnit.unit (fun _ _ _ _ => PUnit.unit)
def Qadd : IV → IV → Option IV := @IV.rec (fun _ => IV → Option IV) (fun _ => PUnit) (fun _ y => none) (fun x_k x_n y => QaddY y x_k x_n) (fun _ y => none) (fun y => none) (fun _ _ y => none) (fun y => none) (fun _ _ _ _ y => none) (fun y => none) (fun _ y => none) (fun y => none) (fun _ _ _ y => none) (fun y => none) (fun _ _ _ y => none) (fun _ _ y => none) (fun _ _ y => none) PUnit.unit (fun _ _ _ _ => PUnit.unit)
theorem QaddZ_eq (k : IntKind) (a b : Int) : QaddZ k a b = intR k (addZ k a b) := by
  cases a with
  | ofNat m => cases b with
    | ofNat n =>
      show @Bool.rec (fun _ => Option IV) (intR k (addZ k (.ofNat m) (.ofNat n))) (T.fN (Nat.add m n) fun z => some (.int .i64 (.ofNat z))) (@Bool.rec (fun _ => Bool) false (Nat.ble (Nat.add m n) 9223372036854775807) (Nat.beq (Qk k) (Qk .i64))) = _
      rw [and_rec]
      cases k with
      | i64 =>
        have : (Nat.beq (Qk .i64) (Qk .i64) && Nat.ble (Nat.add m n) 9223372036854775807) = Nat.ble (Nat.add m n) 9223372036854775807 := rfl
        rw [this]
        cases h : Nat.ble (Nat.add m n) 9223372036854775807 with
        | false => rfl
        | true =>
          have e : addZ .i64 (.ofNat m) (.ofNat n) = .ofNat (m + n) := by
            show (bif Nat.ble (m + n) 9223372036854775807 then Int.ofNat (m + n) else _) = _
            have h' : Nat.ble (m + n) 9223372036854775807 = true := h
            rw [h']; rfl
          rw [e]; rfl
      | _ => rfl
    | negSucc n => rfl
  | negSucc m => rfl
theorem Qadd_eq : Qadd = binN .add := by
  funext x y
  cases x with
  | int k a => cases y with
    | int j b =>
      show @Bool.rec (fun _ => Option IV) none (QaddZ k a b) (Qke k j) = (bif kEq k j then intR k (addZ k a b) else none)
      rw [QaddZ_eq, Qke_eq]
      cases kEq k j <;> rfl
    | _ => rfl
  | _ => rfl
def QsubZ (k : IntKind) (a b : Int) : Option IV := @Int.rec (fun _ => Option IV) (fun m => @Int.rec (fun _ => Option IV) (fun n => @Bool.rec (fun _ => Option IV) (intR k (subZ k a b)) (T.fN (Nat.sub m n) fun z => some (.int .i64 (.ofNat z))) (@Bool.rec (fun _ => Bool) (false) (@Bool.rec (fun _ => Bool) (false) (Nat.ble m 9223372036854775807) (Nat.ble n m)) (Nat.beq (Qk k) (Qk .i64)))) (fun _ => intR k (subZ k a b)) b) (fun _ => intR k (subZ k a b)) a
def QsubY : IV → IntKind → Int → Option IV := @IV.rec (fun _ => IntKind → Int → Option IV) (fun _ => PUnit) (fun _ k a => none) (fun x_k x_n k a => @Bool.rec (fun _ => Option IV) (none) (QsubZ k a x_n) (Qke k x_k)) (fun _ k a => none) (fun k a => none) (fun _ _ k a => none) (fun k a => none) (fun _ _ _ _ k a => none) (fun k a => none) (fun _ k a => none) (fun k a => none) (fun _ _ _ k a => none) (fun k a => none) (fun _ _ _ k a => none) (fun _ _ k a => none) (fun _ _ k a => none) PUnit.unit (fun _ _ _ _ => PUnit.unit)
def Qsub : IV → IV → Option IV := @IV.rec (fun _ => IV → Option IV) (fun _ => PUnit) (fun _ y => none) (fun x_k x_n y => QsubY y x_k x_n) (fun _ y => none) (fun y => none) (fun _ _ y => none) (fun y => none) (fun _ _ _ _ y => none) (fun y => none) (fun _ y => none) (fun y => none) (fun _ _ _ y => none) (fun y => none) (fun _ _ _ y => none) (fun _ _ y => none) (fun _ _ y => none) PUnit.unit (fun _ _ _ _ => PUnit.unit)
theorem QsubZ_eq (k : IntKind) (a b : Int) : QsubZ k a b = intR k (subZ k a b) := by
  cases a with
  | ofNat m => cases b with
    | ofNat n =>
      show @Bool.rec (fun _ => Option IV) (intR k (subZ k (.ofNat m) (.ofNat n))) (T.fN (Nat.sub m n) fun z => some (.int .i64 (.ofNat z))) (@Bool.rec (fun _ => Bool) false (@Bool.rec (fun _ => Bool) false (Nat.ble m 9223372036854775807) (Nat.ble n m)) (Nat.beq (Qk k) (Qk .i64))) = _
      rw [and_rec, and_rec]
      cases k with
      | i64 =>
        have : (Nat.beq (Qk .i64) (Qk .i64) && (Nat.ble n m && Nat.ble m 9223372036854775807)) = (Nat.ble n m && Nat.ble m 9223372036854775807) := rfl
        rw [this]
        cases h : (Nat.ble n m && Nat.ble m 9223372036854775807) with
        | false => rfl
        | true =>
          have e : subZ .i64 (.ofNat m) (.ofNat n) = .ofNat (m - n) := by
            show (bif (Nat.ble n m && Nat.ble m 9223372036854775807) then Int.ofNat (m - n) else _) = _
            rw [h]; rfl
          rw [e]; rfl
      | _ => rfl
    | negSucc n => rfl
  | negSucc m => rfl
theorem Qsub_eq : Qsub = binN .sub := by
  funext x y
  cases x with
  | int k a => cases y with
    | int j b =>
      show @Bool.rec (fun _ => Option IV) none (QsubZ k a b) (Qke k j) = (bif kEq k j then intR k (subZ k a b) else none)
      rw [QsubZ_eq, Qke_eq]
      cases kEq k j <;> rfl
    | _ => rfl
  | _ => rfl
def QlssZ (k : IntKind) (a b : Int) : Option IV := @Int.rec (fun _ => Option IV) (fun m => @Int.rec (fun _ => Option IV) (fun n => some (.bool (Nat.ble (Nat.succ m) n))) (fun _ => some (.bool (ltZ a b))) b) (fun _ => some (.bool (ltZ a b))) a
def QlssY : IV → IntKind → Int → Option IV := @IV.rec (fun _ => IntKind → Int → Option IV) (fun _ => PUnit) (fun _ k a => none) (fun x_k x_n k a => @Bool.rec (fun _ => Option IV) (none) (QlssZ k a x_n) (Qke k x_k)) (fun _ k a => none) (fun k a => none) (fun _ _ k a => none) (fun k a => none) (fun _ _ _ _ k a => none) (fun k a => none) (fun _ k a => none) (fun k a => none) (fun _ _ _ k a => none) (fun k a => none) (fun _ _ _ k a => none) (fun _ _ k a => none) (fun _ _ k a => none) PUnit.unit (fun _ _ _ _ => PUnit.unit)
def Qlss : IV → IV → Option IV := @IV.rec (fun _ => IV → Option IV) (fun _ => PUnit) (fun _ y => none) (fun x_k x_n y => QlssY y x_k x_n) (fun _ y => none) (fun y => none) (fun _ _ y => none) (fun y => none) (fun _ _ _ _ y => none) (fun y => none) (fun _ y => none) (fun y => none) (fun _ _ _ y => none) (fun y => none) (fun _ _ _ y => none) (fun _ _ y => none) (fun _ _ y => none) PUnit.unit (fun _ _ _ _ => PUnit.unit)
theorem QlssZ_eq (k : IntKind) (a b : Int) : QlssZ k a b = some (.bool (ltZ a b)) := by
  cases a with
  | ofNat m => cases b with
    | ofNat n => rfl
    | negSucc n => rfl
  | negSucc m => rfl
theorem Qlss_eq : Qlss = binN .lss := by
  funext x y
  cases x with
  | int k a => cases y with
    | int j b =>
      show @Bool.rec (fun _ => Option IV) none (QlssZ k a b) (Qke k j) = (bif kEq k j then some (.bool (ltZ a b)) else none)
      rw [QlssZ_eq, Qke_eq]
      cases kEq k j <;> rfl
    | _ => rfl
  | _ => rfl
def QgtrZ (k : IntKind) (a b : Int) : Option IV := @Int.rec (fun _ => Option IV) (fun m => @Int.rec (fun _ => Option IV) (fun n => some (.bool (Nat.ble (Nat.succ n) m))) (fun _ => some (.bool (ltZ b a))) b) (fun _ => some (.bool (ltZ b a))) a
def QgtrY : IV → IntKind → Int → Option IV := @IV.rec (fun _ => IntKind → Int → Option IV) (fun _ => PUnit) (fun _ k a => none) (fun x_k x_n k a => @Bool.rec (fun _ => Option IV) (none) (QgtrZ k a x_n) (Qke k x_k)) (fun _ k a => none) (fun k a => none) (fun _ _ k a => none) (fun k a => none) (fun _ _ _ _ k a => none) (fun k a => none) (fun _ k a => none) (fun k a => none) (fun _ _ _ k a => none) (fun k a => none) (fun _ _ _ k a => none) (fun _ _ k a => none) (fun _ _ k a => none) PUnit.unit (fun _ _ _ _ => PUnit.unit)
def Qgtr : IV → IV → Option IV := @IV.rec (fun _ => IV → Option IV) (fun _ => PUnit) (fun _ y => none) (fun x_k x_n y => QgtrY y x_k x_n) (fun _ y => none) (fun y => none) (fun _ _ y => none) (fun y => none) (fun _ _ _ _ y => none) (fun y => none) (fun _ y => none) (fun y => none) (fun _ _ _ y => none) (fun y => none) (fun _ _ _ y => none) (fun _ _ y => none) (fun _ _ y => none) PUnit.unit (fun _ _ _ _ => PUnit.unit)
theorem QgtrZ_eq (k : IntKind) (a b : Int) : QgtrZ k a b = some (.bool (ltZ b a)) := by
  cases a with
  | ofNat m => cases b with
    | ofNat n => rfl
    | negSucc n => rfl
  | negSucc m => rfl
theorem Qgtr_eq : Qgtr = binN .gtr := by
  funext x y
  cases x with
  | int k a => cases y with
    | int j b =>
      show @Bool.rec (fun _ => Option IV) none (QgtrZ k a b) (Qke k j) = (bif kEq k j then some (.bool (ltZ b a)) else none)
      rw [QgtrZ_eq, Qke_eq]
      cases kEq k j <;> rfl
    | _ => rfl
  | _ => rfl
def QleqZ (k : IntKind) (a b : Int) : Option IV := @Int.rec (fun _ => Option IV) (fun m => @Int.rec (fun _ => Option IV) (fun n => some (.bool (Nat.ble m n))) (fun _ => some (.bool (!ltZ b a))) b) (fun _ => some (.bool (!ltZ b a))) a
def QleqY : IV → IntKind → Int → Option IV := @IV.rec (fun _ => IntKind → Int → Option IV) (fun _ => PUnit) (fun _ k a => none) (fun x_k x_n k a => @Bool.rec (fun _ => Option IV) (none) (QleqZ k a x_n) (Qke k x_k)) (fun _ k a => none) (fun k a => none) (fun _ _ k a => none) (fun k a => none) (fun _ _ _ _ k a => none) (fun k a => none) (fun _ k a => none) (fun k a => none) (fun _ _ _ k a => none) (fun k a => none) (fun _ _ _ k a => none) (fun _ _ k a => none) (fun _ _ k a => none) PUnit.unit (fun _ _ _ _ => PUnit.unit)
def Qleq : IV → IV → Option IV := @IV.rec (fun _ => IV → Option IV) (fun _ => PUnit) (fun _ y => none) (fun x_k x_n y => QleqY y x_k x_n) (fun _ y => none) (fun y => none) (fun _ _ y => none) (fun y => none) (fun _ _ _ _ y => none) (fun y => none) (fun _ y => none) (fun y => none) (fun _ _ _ y => none) (fun y => none) (fun _ _ _ y => none) (fun _ _ y => none) (fun _ _ y => none) PUnit.unit (fun _ _ _ _ => PUnit.unit)
theorem QleqZ_eq (k : IntKind) (a b : Int) : QleqZ k a b = some (.bool (!ltZ b a)) := by
  cases a with
  | ofNat m => cases b with
    | ofNat n =>
      show some (IV.bool (Nat.ble m n)) = some (IV.bool (!Nat.ble (n + 1) m))
      rw [nble, nble, show (!decide (n + 1 ≤ m)) = decide (m ≤ n) by by_cases h : m ≤ n <;> simp [h] <;> omega]
    | negSucc n => rfl
  | negSucc m => rfl
theorem Qleq_eq : Qleq = binN .leq := by
  funext x y
  cases x with
  | int k a => cases y with
    | int j b =>
      show @Bool.rec (fun _ => Option IV) none (QleqZ k a b) (Qke k j) = (bif kEq k j then some (.bool (!ltZ b a)) else none)
      rw [QleqZ_eq, Qke_eq]
      cases kEq k j <;> rfl
    | _ => rfl
  | _ => rfl
def QgeqZ (k : IntKind) (a b : Int) : Option IV := @Int.rec (fun _ => Option IV) (fun m => @Int.rec (fun _ => Option IV) (fun n => some (.bool (Nat.ble n m))) (fun _ => some (.bool (!ltZ a b))) b) (fun _ => some (.bool (!ltZ a b))) a
def QgeqY : IV → IntKind → Int → Option IV := @IV.rec (fun _ => IntKind → Int → Option IV) (fun _ => PUnit) (fun _ k a => none) (fun x_k x_n k a => @Bool.rec (fun _ => Option IV) (none) (QgeqZ k a x_n) (Qke k x_k)) (fun _ k a => none) (fun k a => none) (fun _ _ k a => none) (fun k a => none) (fun _ _ _ _ k a => none) (fun k a => none) (fun _ k a => none) (fun k a => none) (fun _ _ _ k a => none) (fun k a => none) (fun _ _ _ k a => none) (fun _ _ k a => none) (fun _ _ k a => none) PUnit.unit (fun _ _ _ _ => PUnit.unit)
def Qgeq : IV → IV → Option IV := @IV.rec (fun _ => IV → Option IV) (fun _ => PUnit) (fun _ y => none) (fun x_k x_n y => QgeqY y x_k x_n) (fun _ y => none) (fun y => none) (fun _ _ y => none) (fun y => none) (fun _ _ _ _ y => none) (fun y => none) (fun _ y => none) (fun y => none) (fun _ _ _ y => none) (fun y => none) (fun _ _ _ y => none) (fun _ _ y => none) (fun _ _ y => none) PUnit.unit (fun _ _ _ _ => PUnit.unit)
theorem QgeqZ_eq (k : IntKind) (a b : Int) : QgeqZ k a b = some (.bool (!ltZ a b)) := by
  cases a with
  | ofNat m => cases b with
    | ofNat n =>
      show some (IV.bool (Nat.ble n m)) = some (IV.bool (!Nat.ble (m + 1) n))
      rw [nble, nble, show (!decide (m + 1 ≤ n)) = decide (n ≤ m) by by_cases h : n ≤ m <;> simp [h] <;> omega]
    | negSucc n => rfl
  | negSucc m => rfl
theorem Qgeq_eq : Qgeq = binN .geq := by
  funext x y
  cases x with
  | int k a => cases y with
    | int j b =>
      show @Bool.rec (fun _ => Option IV) none (QgeqZ k a b) (Qke k j) = (bif kEq k j then some (.bool (!ltZ a b)) else none)
      rw [QgeqZ_eq, Qke_eq]
      cases kEq k j <;> rfl
    | _ => rfl
  | _ => rfl
def QeqlZ (k : IntKind) (a b : Int) : Option IV := @Int.rec (fun _ => Option IV) (fun m => @Int.rec (fun _ => Option IV) (fun n => some (.bool (Nat.beq m n))) (fun _ => some (.bool (eqZ a b))) b) (fun _ => some (.bool (eqZ a b))) a
def QeqlY : IV → IntKind → Int → Option IV := @IV.rec (fun _ => IntKind → Int → Option IV) (fun _ => PUnit) (fun _ k a => none) (fun x_k x_n k a => @Bool.rec (fun _ => Option IV) (none) (QeqlZ k a x_n) (Qke k x_k)) (fun _ k a => none) (fun k a => none) (fun _ _ k a => none) (fun k a => none) (fun _ _ _ _ k a => none) (fun k a => none) (fun _ k a => none) (fun k a => none) (fun _ _ _ k a => none) (fun k a => none) (fun _ _ _ k a => none) (fun _ _ k a => none) (fun _ _ k a => none) PUnit.unit (fun _ _ _ _ => PUnit.unit)
def Qeql : IV → IV → Option IV := @IV.rec (fun _ => IV → Option IV) (fun _ => PUnit) (fun _ y => none) (fun x_k x_n y => QeqlY y x_k x_n) (fun _ y => none) (fun y => none) (fun _ _ y => none) (fun y => none) (fun _ _ _ _ y => none) (fun y => none) (fun _ y => none) (fun y => none) (fun _ _ _ y => none) (fun y => none) (fun _ _ _ y => none) (fun _ _ y => none) (fun _ _ y => none) PUnit.unit (fun _ _ _ _ => PUnit.unit)
theorem QeqlZ_eq (k : IntKind) (a b : Int) : QeqlZ k a b = some (.bool (eqZ a b)) := by
  cases a with
  | ofNat m => cases b with
    | ofNat n => rfl
    | negSucc n => rfl
  | negSucc m => rfl
theorem Qeql_eq : Qeql = binN .eql := by
  funext x y
  cases x with
  | int k a => cases y with
    | int j b =>
      show @Bool.rec (fun _ => Option IV) none (QeqlZ k a b) (Qke k j) = (bif kEq k j then some (.bool (eqZ a b)) else none)
      rw [QeqlZ_eq, Qke_eq]
      cases kEq k j <;> rfl
    | _ => rfl
  | _ => rfl
def QneqZ (k : IntKind) (a b : Int) : Option IV := @Int.rec (fun _ => Option IV) (fun m => @Int.rec (fun _ => Option IV) (fun n => some (.bool (@Bool.rec (fun _ => Bool) (true) (false) (Nat.beq m n)))) (fun _ => some (.bool (!eqZ a b))) b) (fun _ => some (.bool (!eqZ a b))) a
def QneqY : IV → IntKind → Int → Option IV := @IV.rec (fun _ => IntKind → Int → Option IV) (fun _ => PUnit) (fun _ k a => none) (fun x_k x_n k a => @Bool.rec (fun _ => Option IV) (none) (QneqZ k a x_n) (Qke k x_k)) (fun _ k a => none) (fun k a => none) (fun _ _ k a => none) (fun k a => none) (fun _ _ _ _ k a => none) (fun k a => none) (fun _ k a => none) (fun k a => none) (fun _ _ _ k a => none) (fun k a => none) (fun _ _ _ k a => none) (fun _ _ k a => none) (fun _ _ k a => none) PUnit.unit (fun _ _ _ _ => PUnit.unit)
def Qneq : IV → IV → Option IV := @IV.rec (fun _ => IV → Option IV) (fun _ => PUnit) (fun _ y => none) (fun x_k x_n y => QneqY y x_k x_n) (fun _ y => none) (fun y => none) (fun _ _ y => none) (fun y => none) (fun _ _ _ _ y => none) (fun y => none) (fun _ y => none) (fun y => none) (fun _ _ _ y => none) (fun y => none) (fun _ _ _ y => none) (fun _ _ y => none) (fun _ _ y => none) PUnit.unit (fun _ _ _ _ => PUnit.unit)
theorem QneqZ_eq (k : IntKind) (a b : Int) : QneqZ k a b = some (.bool (!eqZ a b)) := by
  cases a with
  | ofNat m => cases b with
    | ofNat n =>
      show some (IV.bool (@Bool.rec (fun _ => Bool) true false (Nat.beq m n))) = some (IV.bool (!Nat.beq m n))
      cases Nat.beq m n <;> rfl
    | negSucc n => rfl
  | negSucc m => rfl
theorem Qneq_eq : Qneq = binN .neq := by
  funext x y
  cases x with
  | int k a => cases y with
    | int j b =>
      show @Bool.rec (fun _ => Option IV) none (QneqZ k a b) (Qke k j) = (bif kEq k j then some (.bool (!eqZ a b)) else none)
      rw [QneqZ_eq, Qke_eq]
      cases kEq k j <;> rfl
    | _ => rfl
  | _ => rfl
def QseI : IV → Str → Option IV := @IV.rec (fun _ => Str → Option IV) (fun _ => PUnit) (fun _ s => none) (fun _ _ s => none) (fun x_s s => some (.bool (@Bool.rec (fun _ => Bool) (false) (Nat.beq s.val x_s.val) (Nat.beq s.len x_s.len)))) (fun s => none) (fun _ _ s => none) (fun s => none) (fun _ _ _ _ s => none) (fun s => none) (fun _ s => none) (fun s => none) (fun _ _ _ s => none) (fun s => none) (fun _ _ _ s => none) (fun _ _ s => none) (fun _ _ s => none) PUnit.unit (fun _ _ _ _ => PUnit.unit)
def Qse : IV → IV → Option IV := @IV.rec (fun _ => IV → Option IV) (fun _ => PUnit) (fun _ y => none) (fun _ _ y => none) (fun x_s y => QseI y x_s) (fun y => none) (fun _ _ y => none) (fun y => none) (fun _ _ _ _ y => none) (fun y => none) (fun _ y => none) (fun y => none) (fun _ _ _ y => none) (fun y => none) (fun _ _ _ y => none) (fun _ _ y => none) (fun _ _ y => none) PUnit.unit (fun _ _ _ _ => PUnit.unit)
theorem Qse_eq : Qse = binS .eql := by
  funext x y
  cases x with
  | str a => cases y with
    | str b =>
      show some (IV.bool (@Bool.rec (fun _ => Bool) (false) (Nat.beq a.val b.val) (Nat.beq a.len b.len))) = some (IV.bool (a.eq b))
      rw [and_rec]; rfl
    | _ => rfl
  | _ => rfl
def ovQ (l : List (FuncId × (List IV → H → CRes))) (f : FuncId) : Option (List IV → H → CRes) := @List.rec (FuncId × (List IV → H → CRes)) (fun _ => Option (List IV → H → CRes)) none (fun p _ ih => @Bool.rec (fun _ => Option (List IV → H → CRes)) ih (some p.2) (Nat.beq f p.1)) l
theorem ovQ_eq : ∀ l, ovQ l = ovOf l
  | [] => rfl
  | (g, F) :: l => by
    funext f
    have h : ovQ ((g, F) :: l) f = @Bool.rec (fun _ => Option (List IV → H → CRes)) (ovQ l f) (some F) (Nat.beq f g) := rfl
    rw [h, ovQ_eq l, ovOf]
    cases Nat.beq f g <;> rfl
def overQ (new : List IV) : List IV → List IV := @List.rec IV (fun _ => List IV → List IV) (fun cells => cells) (fun v _ ih cells => @List.rec IV (fun _ => List IV) [] (fun _ xs _ => v :: ih xs) cells) new
def placeQ (off : Nat) (new : List IV) : List IV → List IV := @Nat.rec (fun _ => List IV → List IV) (fun cells => overQ new cells) (fun _ ih cells => @List.rec IV (fun _ => List IV) [] (fun x xs _ => x :: ih xs) cells) off
theorem overQ_eq : ∀ (new rest : List IV), new.length ≤ rest.length → overQ new rest = new ++ rest.drop new.length
  | [], rest, _ => rfl
  | v :: new, [], h => by simp at h
  | v :: new, x :: rest, h => by
    have e : overQ (v :: new) (x :: rest) = v :: overQ new rest := rfl
    rw [e, overQ_eq new rest (by simpa using h)]; simp
theorem placeQ_eq : ∀ (off : Nat) (new cells : List IV), off + new.length ≤ cells.length → placeQ off new cells = placeL cells off new
  | 0, new, cells, h => by
    have e : placeQ 0 new cells = overQ new cells := rfl
    have := placeL_mid new [] cells (by omega)
    simp only [List.nil_append, List.length_nil] at this
    rw [e, overQ_eq new cells (by omega), this]
  | off + 1, new, [], h => by simp at h
  | off + 1, new, x :: cells, h => by
    have e : placeQ (off + 1) new (x :: cells) = x :: placeQ off new cells := rfl
    simp only [List.length_cons] at h
    rw [e, placeQ_eq off new cells (by omega)]
    have h1 := placeL_mid new ((x :: cells).take (off + 1)) ((x :: cells).drop (off + 1)) (by simp; omega)
    have h2 := placeL_mid new (cells.take off) (cells.drop off) (by simp; omega)
    rw [List.take_append_drop] at h1 h2
    have l1 : ((x :: cells).take (off + 1)).length = off + 1 := by simp; omega
    have l2 : (cells.take off).length = off := by simp; omega
    rw [l1] at h1
    rw [l2] at h2
    rw [h1, h2]; simp
def fillQ (n : Nat) (places : List (Nat × Nat)) (ps : List (Nat × IV)) : List IV → Option (List IV) := @List.rec (Nat × IV) (fun _ => List IV → Option (List IV)) (fun cells => some cells)
  (fun p _ ih cells => @Prod.rec Nat IV (fun _ => Option (List IV)) (fun i v => @Option.rec (Nat × Nat) (fun _ => Option (List IV)) none (fun q => @Prod.rec Nat Nat (fun _ => Option (List IV)) (fun off size =>
    @Bool.rec (fun _ => Option (List IV)) none (ih (placeQ off (Qcells v) cells)) (@Bool.rec (fun _ => Bool) false (Nat.ble (Nat.add off size) n) (Nat.beq (lenQ (Qcells v)) size))) q) (T.nth places i)) p) ps
theorem fillQ_eq (places : List (Nat × Nat)) : ∀ (ps : List (Nat × IV)) (cells : List IV) (n : Nat), n = cells.length → fillQ n places ps cells = fillI (places[·]?) cells ps
  | [], cells, n, h => rfl
  | (i, v) :: ps, cells, n, h => by
    have e : fillQ n places ((i, v) :: ps) cells = @Option.rec (Nat × Nat) (fun _ => Option (List IV)) none (fun q => @Prod.rec Nat Nat (fun _ => Option (List IV)) (fun off size =>
      @Bool.rec (fun _ => Option (List IV)) none (fillQ n places ps (placeQ off (Qcells v) cells)) (@Bool.rec (fun _ => Bool) false (Nat.ble (Nat.add off size) n) (Nat.beq (lenQ (Qcells v)) size))) q) (T.nth places i) := rfl
    rw [e, T.nth_eq, fillI, Qcells_eq]
    cases hp : places[i]? with
    | none => simp only [hp]
    | some q =>
      obtain ⟨off, size⟩ := q
      simp only [hp]
      rw [and_rec, lenQ_eq, T.nbeq, nble]
      by_cases h1 : v.cells.length = size
      · by_cases h2 : off + size ≤ cells.length
        · rw [if_neg (by omega), decide_eq_true h1, decide_eq_true (by rw [h]; exact h2), placeQ_eq _ _ _ (by omega)]
          exact fillQ_eq places ps _ n (by rw [placeL_len]; exact h)
        · rw [if_pos (by omega), decide_eq_true h1, decide_eq_false (by rw [h]; exact h2)]; rfl
      · rw [if_pos (.inl h1), decide_eq_false h1]; rfl
def Qbld (zero : List IV) (places : List (Nat × Nat)) (ps : List (Nat × IV)) : Option IV := @Option.rec (List IV) (fun _ => Option IV) none (fun l => some (.agg l)) (fillQ (lenQ zero) places ps zero)
theorem Qbld_eq : Qbld = bldK := by
  funext z p ps
  unfold Qbld bldK
  rw [fillQ_eq p ps z (lenQ z) (lenQ_eq z)]
  cases fillI (p[·]?) z ps <;> rfl
def appQ (a b : List IV) : List IV := @List.rec IV (fun _ => List IV) b (fun x _ ih => x :: ih) a
theorem appQ_eq : ∀ a b : List IV, appQ a b = a ++ b
  | [], b => rfl
  | x :: a, b => by
    have e : appQ (x :: a) b = x :: appQ a b := rfl
    rw [e, appQ_eq a b]; rfl
def catQ (size : Nat) (ps : List (Nat × IV)) : Nat → Nat → Option (List IV) := @List.rec (Nat × IV) (fun _ => Nat → Nat → Option (List IV)) (fun i len => @Bool.rec (fun _ => Option (List IV)) none (some []) (Nat.beq i len))
  (fun p _ ih i len => @Prod.rec Nat IV (fun _ => Option (List IV)) (fun j v => @Bool.rec (fun _ => Option (List IV)) none (@Option.rec (List IV) (fun _ => Option (List IV)) none (fun l => some (appQ (Qcells v) l)) (ih (Nat.succ i) len)) (@Bool.rec (fun _ => Bool) false (Nat.beq (lenQ (Qcells v)) size) (Nat.beq j i))) p) ps
theorem catQ_spec (size : Nat) : ∀ (ps : List (Nat × IV)) (i len : Nat) (l : List IV), catQ size ps i len = some l → ∃ vs : List IV, ps = partsFrom vs i ∧ (∀ v ∈ vs, v.cells.length = size) ∧ l = cellsOf vs ∧ i + vs.length = len
  | [], i, len, l, h => by
    have e : catQ size [] i len = @Bool.rec (fun _ => Option (List IV)) none (some []) (Nat.beq i len) := rfl
    rw [e, T.nbeq] at h
    by_cases hi : i = len
    · rw [decide_eq_true hi] at h
      injection h with h; subst h
      exact ⟨[], rfl, by simp, rfl, by simpa using hi⟩
    · rw [decide_eq_false hi] at h; cases h
  | (j, v) :: ps, i, len, l, h => by
    have e : catQ size ((j, v) :: ps) i len = @Bool.rec (fun _ => Option (List IV)) none (@Option.rec (List IV) (fun _ => Option (List IV)) none (fun l => some (appQ (Qcells v) l)) (catQ size ps (Nat.succ i) len)) (@Bool.rec (fun _ => Bool) false (Nat.beq (lenQ (Qcells v)) size) (Nat.beq j i)) := rfl
    rw [e, and_rec, Qcells_eq, lenQ_eq] at h
    cases hc : (Nat.beq j i && Nat.beq v.cells.length size) with
    | false => rw [hc] at h; cases h
    | true =>
      rw [hc] at h
      simp only [Bool.and_eq_true, Nat.beq_eq] at hc
      cases hr : catQ size ps (Nat.succ i) len with
      | none => rw [hr] at h; cases h
      | some l2 =>
        rw [hr] at h
        have h : some (appQ v.cells l2) = some l := h
        injection h with h; subst h
        obtain ⟨vs, q1, q2, q3, q4⟩ := catQ_spec size ps (Nat.succ i) len l2 hr
        refine ⟨v :: vs, ?_, ?_, ?_, ?_⟩
        · rw [partsFrom, hc.1, q1]
        · intro u hu
          rcases List.mem_cons.1 hu with rfl | hu
          · exact hc.2
          · exact q2 u hu
        · rw [appQ_eq, q3]; simp [cellsOf]
        · simp only [List.length_cons]; omega
def Qbsl (w : Bool) (size : Nat) (z : List IV) (len : Nat) (ps : List (Nat × IV)) (h : H) : Option (IV × H) :=
  @Bool.rec (fun _ => Option (IV × H)) (bslK w size z len ps h) (@Option.rec (List IV) (fun _ => Option (IV × H)) (bslK w size z len ps h)
    (fun l => @Bool.rec (fun _ => Option (IV × H)) none (T.fN h.next fun n => T.fN (lenQ l) fun k => T.fT (h.objs.set n (.cells (!(h.pol && !w)) (h.pol && !w) k (.arr l))) fun o => some (.slice n 0 len size, ⟨Nat.succ n, o, h.pol, h.tys⟩)) (scalQ l)) (catQ size ps 0 len)) (Nat.beq (lenQ z) size)
theorem Qbsl_eq : Qbsl = bslK := by
  funext w size z len ps h
  unfold Qbsl
  rw [lenQ_eq, T.nbeq]
  by_cases hz : z.length = size
  · rw [decide_eq_true hz]
    cases hc : catQ size ps 0 len with
    | none => rfl
    | some l =>
      obtain ⟨vs, q1, q2, q3, q4⟩ := catQ_spec size ps 0 len l hc
      have hlen : len = vs.length := by omega
      subst hlen; subst q1
      have hf := fill_all vs 0 [] (repCells z vs.length) (by simp) q2 (by rw [rep_len, hz]; omega)
      simp only [List.nil_append] at hf
      have hd : (repCells z vs.length).drop (vs.length * size) = [] := List.drop_eq_nil_of_le (by rw [rep_len, hz]; omega)
      rw [hd, List.append_nil, ← q3] at hf
      show @Bool.rec (fun _ => Option (IV × H)) none _ (scalQ l) = _
      rw [scalQ_eq, T.fN_eq, T.fN_eq, T.fT_eq, lenQ_eq]
      simp only [bslK, hf]
      cases allScalar l <;> rfl
  · rw [decide_eq_false hz]
def arQ : List IV → (IV → List IV → CRes) → CRes := @List.rec IV (fun _ => (IV → List IV → CRes) → CRes) (fun _ => .fail) (fun a l _ k => k a l)
theorem arQ_eq : arQ = arC := by funext l k; cases l <;> rfl
def ar0Q : List IV → CRes → CRes := @List.rec IV (fun _ => CRes → CRes) (fun x => x) (fun _ _ _ _ => .fail)
theorem ar0Q_eq : ar0Q = ar0 := by funext l k; cases l <;> rfl
def QsP (r : CRes) (p : Bool) : CRes := @CRes.rec (fun _ => CRes) (fun v h => .ok v ⟨h.next, h.objs, p, h.tys⟩) (fun v h => .pan v ⟨h.next, h.objs, p, h.tys⟩) .fail r
theorem QsP_eq (r : CRes) (p : Bool) : QsP r p = r.setPol p := by cases r <;> rfl
theorem le_brec {c : Bool} {a b s : CRes} (ha : le a s) (hb : le b s) : le (@Bool.rec (fun _ => CRes) b a c) s := by cases c <;> assumption
theorem le_ovK {P : Program} {T : Tab} {f : FuncId} {l : List IV} {h : H} {N : CRes} (hN : T.ov f = none → le N (call P T f l h)) : le (ovK (T.ov f) l h N) (call P T f l h) := by
  cases e : T.ov f with
  | none => exact hN e
  | some g => exact fun hn => call_tab e rfl hn
def brQ0 (i k : Nat) (l : List IV) (x : CRes) (r : CRes) : CRes := @Bool.rec (fun _ => CRes) r (ar0Q l (x)) (Nat.beq i k)
theorem brQ0_eq : brQ0 = br0 := by
  funext i k l x r
  unfold brQ0 br0
  rw [ar0Q_eq]
  cases Nat.beq i k <;> rfl
def brQ1 (i k : Nat) (l : List IV) (x : IV → CRes) (r : CRes) : CRes := @Bool.rec (fun _ => CRes) r (arQ l fun a0 l => ar0Q l (x a0)) (Nat.beq i k)
theorem brQ1_eq : brQ1 = br1 := by
  funext i k l x r
  unfold brQ1 br1
  rw [arQ_eq, ar0Q_eq]
  cases Nat.beq i k <;> rfl
def brQ2 (i k : Nat) (l : List IV) (x : IV → IV → CRes) (r : CRes) : CRes := @Bool.rec (fun _ => CRes) r (arQ l fun a0 l => arQ l fun a1 l => ar0Q l (x a0 a1)) (Nat.beq i k)
theorem brQ2_eq : brQ2 = br2 := by
  funext i k l x r
  unfold brQ2 br2
  rw [arQ_eq, ar0Q_eq]
  cases Nat.beq i k <;> rfl
def brQ3 (i k : Nat) (l : List IV) (x : IV → IV → IV → CRes) (r : CRes) : CRes := @Bool.rec (fun _ => CRes) r (arQ l fun a0 l => arQ l fun a1 l => arQ l fun a2 l => ar0Q l (x a0 a1 a2)) (Nat.beq i k)
theorem brQ3_eq : brQ3 = br3 := by
  funext i k l x r
  unfold brQ3 br3
  rw [arQ_eq, ar0Q_eq]
  cases Nat.beq i k <;> rfl
def brQ4 (i k : Nat) (l : List IV) (x : IV → IV → IV → IV → CRes) (r : CRes) : CRes := @Bool.rec (fun _ => CRes) r (arQ l fun a0 l => arQ l fun a1 l => arQ l fun a2 l => arQ l fun a3 l => ar0Q l (x a0 a1 a2 a3)) (Nat.beq i k)
theorem brQ4_eq : brQ4 = br4 := by
  funext i k l x r
  unfold brQ4 br4
  rw [arQ_eq, ar0Q_eq]
  cases Nat.beq i k <;> rfl
def brQ5 (i k : Nat) (l : List IV) (x : IV → IV → IV → IV → IV → CRes) (r : CRes) : CRes := @Bool.rec (fun _ => CRes) r (arQ l fun a0 l => arQ l fun a1 l => arQ l fun a2 l => arQ l fun a3 l => arQ l fun a4 l => ar0Q l (x a0 a1 a2 a3 a4)) (Nat.beq i k)
theorem brQ5_eq : brQ5 = br5 := by
  funext i k l x r
  unfold brQ5 br5
  rw [arQ_eq, ar0Q_eq]
  cases Nat.beq i k <;> rfl
def brQ6 (i k : Nat) (l : List IV) (x : IV → IV → IV → IV → IV → IV → CRes) (r : CRes) : CRes := @Bool.rec (fun _ => CRes) r (arQ l fun a0 l => arQ l fun a1 l => arQ l fun a2 l => arQ l fun a3 l => arQ l fun a4 l => arQ l fun a5 l => ar0Q l (x a0 a1 a2 a3 a4 a5)) (Nat.beq i k)
theorem brQ6_eq : brQ6 = br6 := by
  funext i k l x r
  unfold brQ6 br6
  rw [arQ_eq, ar0Q_eq]
  cases Nat.beq i k <;> rfl
def brQ8 (i k : Nat) (l : List IV) (x : IV → IV → IV → IV → IV → IV → IV → IV → CRes) (r : CRes) : CRes := @Bool.rec (fun _ => CRes) r (arQ l fun a0 l => arQ l fun a1 l => arQ l fun a2 l => arQ l fun a3 l => arQ l fun a4 l => arQ l fun a5 l => arQ l fun a6 l => arQ l fun a7 l => ar0Q l (x a0 a1 a2 a3 a4 a5 a6 a7)) (Nat.beq i k)
theorem brQ8_eq : brQ8 = br8 := by
  funext i k l x r
  unfold brQ8 br8
  rw [arQ_eq, ar0Q_eq]
  cases Nat.beq i k <;> rfl
theorem QE : Qo = obind ∧ Qo2 = obind2 ∧ QoH = obindH ∧ Qc = callP ∧ Qif = condK ∧ Qsp = spanK ∧ Qpk = pickI ∧ Qnil = nilI ∧ Qext = extractI ∧ Qfad = fadK ∧ Qnot = unI .not ∧ Qcells = IV.cells ∧ Ql0 = ld0 ∧ QlA = ldA ∧ QsA = stA ∧ QnI = newI ∧ Qix = ixS ∧ Qis = ixStr ∧ Qle = lenS ∧ Qls = lenStr ∧
    Qadd = binN .add ∧ Qsub = binN .sub ∧ Qlss = binN .lss ∧ Qgtr = binN .gtr ∧ Qleq = binN .leq ∧ Qgeq = binN .geq ∧ Qeql = binN .eql ∧ Qneq = binN .neq ∧ Qse = binS .eql ∧ Qbld = bldK ∧ Qbsl = bslK :=
  ⟨Qo_eq, Qo2_eq, QoH_eq, Qc_eq, Qif_eq, Qsp_eq, Qpk_eq, Qnil_eq, Qext_eq, Qfad_eq, Qnot_eq, Qcells_eq, Ql0_eq, QlA_eq, QsA_eq, QnI_eq, Qix_eq, Qis_eq, Qle_eq, Qls_eq, Qadd_eq, Qsub_eq, Qlss_eq, Qgtr_eq, Qleq_eq, Qgeq_eq, Qeql_eq, Qneq_eq, Qse_eq, Qbld_eq, Qbsl_eq⟩
end
end Go.Proofs.YtimjkkcondljeaaGreatDoor.I
