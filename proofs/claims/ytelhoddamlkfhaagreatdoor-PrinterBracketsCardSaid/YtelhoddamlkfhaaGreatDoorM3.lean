import Derived.Test.YtelhoddamlkfhaaGreatDoorM2
import Derived.ProofKit
import Derived.Laws.Externs
import GoSem.Extern.AbiNoEscape
set_option linter.unusedVariables false
set_option linter.unusedSimpArgs false
namespace Go.Proofs.YtelhoddamlkfhaaGreatDoor.I
noncomputable section
open Go
theorem obind_some (v : IV) (k : IV → CRes) : obind (some v) k = k v := rfl
theorem obind2_some (v : IV) (h : H) (k : IV → H → CRes) : obind2 (some (v, h)) k = k v h := rfl
theorem obindH_some (h : H) (k : H → CRes) : obindH (some h) k = k h := rfl
theorem callP_ok (v : IV) (h : H) (p k : IV → H → CRes) : callP (.ok v h) p k = k v h := rfl
theorem callP_pan (v : IV) (h : H) (p k : IV → H → CRes) : callP (.pan v h) p k = p v h := rfl
theorem condK_bool (b : Bool) (x y : CRes) : condK (.bool b) x y = if b = true then x else y := by cases b <;> rfl
theorem spanK_t (b : Bool) (h : H) (a : (IV → H → CRes) → CRes) (k : IV → H → CRes) : spanK (.bool b) true h a k = if b = true then a k else k (.tup []) h := by cases b <;> rfl
theorem spanK_f (b : Bool) (h : H) (a : (IV → H → CRes) → CRes) (k : IV → H → CRes) : spanK (.bool b) false h a k = if b = true then k (.tup []) h else a k := by cases b <;> rfl
theorem pickI_bool (b : Bool) (x y : Option IV) : pickI (.bool b) x y = if b = true then x else y := by cases b <;> rfl
theorem guardK_bool (b : Bool) (x y z : CRes) : guardK (.bool b) x y z = if b = true then x else y := by cases b <;> rfl
theorem nilI_ptr (b o : Nat) : nilI (.ptr b o) = some (.ptr b o) := rfl
theorem extractI_tup (l : List IV) (i : Nat) : extractI (.tup l) i = l[i]? := rfl
theorem fadK_ptr (o b off : Nat) : fadK o (.ptr b off) = some (.ptr b (off + o)) := rfl
theorem unI_not (b : Bool) : unI .not (.bool b) = some (.bool (!b)) := rfl
theorem unI_neg (k : IntKind) (n : Int) : unI .neg (.int k n) = some (.int k (wr k (0 - n))) := rfl
theorem panK_iface (t : TypeId) (v : IV) (h : H) (p : IV → H → CRes) : panK (.iface t v) h p = p (.iface t v) h := rfl
theorem mapK_eq (h : H) (k : IV → H → CRes) : mapK h k = k (.map h.next) (h.push (.map [] 0)) := rfl
theorem funK_func (g : FuncId) (caps : List IV) (k : FuncId → List IV → CRes) : funK (.func g caps) k = k g caps := rfl
theorem beq_refl (v : IV) : IV.beq v v = true := IV.beq_self v
theorem cvN_int (k j : IntKind) (n : Int) : cvN k (.int j n) = some (.int k (wr k n)) := rfl
theorem cvSS_str (s : Str) : cvSS (.str s) = some (.str s) := rfl
theorem binN_add (k : IntKind) (a b : Int) : binN .add (.int k a) (.int k b) = some (.int k (wr k (a + b))) := by simp [binN_eq, binN0, intOp]
theorem binN_sub (k : IntKind) (a b : Int) : binN .sub (.int k a) (.int k b) = some (.int k (wr k (a - b))) := by simp [binN_eq, binN0, intOp]
theorem binN_mul (k : IntKind) (a b : Int) : binN .mul (.int k a) (.int k b) = some (.int k (wr k (a * b))) := by simp [binN_eq, binN0, intOp]
theorem binN_eql (k : IntKind) (a b : Int) : binN .eql (.int k a) (.int k b) = some (.bool (decide (a = b))) := by simp [binN_eq, binN0, intOp]
theorem binN_neq (k : IntKind) (a b : Int) : binN .neq (.int k a) (.int k b) = some (.bool (!decide (a = b))) := by simp [binN_eq, binN0, intOp]
theorem binN_lss (k : IntKind) (a b : Int) : binN .lss (.int k a) (.int k b) = some (.bool (decide (a < b))) := by simp [binN_eq, binN0, intOp]
theorem binN_leq (k : IntKind) (a b : Int) : binN .leq (.int k a) (.int k b) = some (.bool (decide (a ≤ b))) := by simp [binN_eq, binN0, intOp]
theorem binN_gtr (k : IntKind) (a b : Int) : binN .gtr (.int k a) (.int k b) = some (.bool (decide (b < a))) := by simp [binN_eq, binN0, intOp]
theorem binN_geq (k : IntKind) (a b : Int) : binN .geq (.int k a) (.int k b) = some (.bool (decide (b ≤ a))) := by simp [binN_eq, binN0, intOp]
theorem binN_rem (k : IntKind) (a b : Int) (h : b ≠ 0) : binN .rem (.int k a) (.int k b) = some (.int k (a.tmod b)) := by simp [binN_eq, binN0, intOp, h]
theorem binN_and (k : IntKind) (a b : Int) : binN .and (.int k a) (.int k b) = some (.int k (k.wrap (BitVec.ofInt k.bits a &&& BitVec.ofInt k.bits b).toNat)) := by simp [binN_eq, binN0, intOp]
theorem minI_int (k j : IntKind) (a b : Int) : minI (.int k a) (.int j b) = some (.int k (if b < a then b else a)) := rfl
theorem wr_i64 {n : Int} (h1 : -9223372036854775808 ≤ n) (h2 : n ≤ 9223372036854775807) : wr .i64 n = n := by
  unfold wr; rw [if_pos ⟨by show -9223372036854775808 ≤ n; exact h1, by show n ≤ 9223372036854775807; exact h2⟩]
theorem eqB_eql (a b : Bool) : eqB .eql (.bool a) (.bool b) = some (.bool (a == b)) := rfl
theorem eqB_neq (a b : Bool) : eqB .neq (.bool a) (.bool b) = some (.bool (!(a == b))) := rfl
abbrev Bs := List UInt8
def sv (l : Bs) : IV := .str ⟨l.length, packL l⟩
theorem sv_pack (b : ByteArray) : IV.str (pack b) = sv b.data.toList := by
  unfold sv pack
  congr 2
theorem lenStr_sv (l : Bs) : lenStr (sv l) = some (.int .i64 l.length) := rfl
theorem str_at (l : Bs) (i : Nat) (h : i < l.length) : (⟨l.length, packL l⟩ : Str).at i = l[i].toNat := by
  simp only [Str.at, packL_drop]
  rw [List.drop_eq_getElem_cons h]
  have hx := (l[i]).toNat_lt
  simp only [packL]; omega
theorem str_eq (a b : Bs) : (⟨a.length, packL a⟩ : Str).eq ⟨b.length, packL b⟩ = decide (a = b) := by
  rw [Bool.eq_iff_iff]
  simp only [Str.eq, Bool.and_eq_true, T.nbeq, decide_eq_true_eq]
  constructor
  · rintro ⟨h1, h2⟩; exact packL_inj h1 h2
  · rintro rfl; exact ⟨rfl, rfl⟩
theorem binS_eql (a b : Bs) : binS .eql (sv a) (sv b) = some (.bool (decide (a = b))) := by simp only [binS, sv, strOp, str_eq]
theorem binS_neq (a b : Bs) : binS .neq (sv a) (sv b) = some (.bool (!decide (a = b))) := by simp only [binS, sv, strOp, str_eq]
theorem sv_inj {a b : Bs} (h : sv a = sv b) : a = b := by
  simp only [sv, IV.str.injEq, Str.mk.injEq] at h
  exact packL_inj h.1 h.2
def Cs (h : H) (b : Nat) (rw fz : Bool) (cs : List IV) : Prop := ∃ t, h.get b = some (.cells rw fz cs.length t) ∧ ∀ i, i < cs.length → t.get i = cs[i]?
theorem getList_of {t : T IV} {cs : List IV} (h : ∀ i, i < cs.length → t.get i = cs[i]?) : ∀ (n off : Nat), off + n ≤ cs.length → getList t off n = some ((cs.drop off).take n)
  | 0, off, _ => by simp [getList]
  | n + 1, off, hle => by
    have ho : off < cs.length := by omega
    simp only [getList]
    rw [h off ho, List.getElem?_eq_getElem ho]
    simp only
    rw [getList_of h n (off + 1) (by omega)]
    simp only [List.drop_eq_getElem_cons ho, List.take_succ_cons]
theorem Cs.ld0 {h : H} {b : Nat} {rw fz : Bool} {cs : List IV} (c : Cs h b rw fz cs) (off : Nat) : I.ld0 h (.ptr b off) = cs[off]? := by
  obtain ⟨t, h1, h2⟩ := c
  rw [ld0_eq]; simp only [ld00, h1]
  split
  · rename_i hlt; exact h2 off hlt
  · rename_i hge; rw [List.getElem?_eq_none (by omega)]
theorem Cs.ldA {h : H} {b : Nat} {rw fz : Bool} {cs : List IV} (c : Cs h b rw fz cs) (n off : Nat) (hle : off + n ≤ cs.length) : I.ldA n h (.ptr b off) = some (.agg ((cs.drop off).take n)) := by
  obtain ⟨t, h1, h2⟩ := c
  rw [ldA_eq]; simp only [ldA0, h1]
  rw [if_pos hle, getList_of h2 n off hle]
theorem Cs.ldAll {h : H} {b : Nat} {rw fz : Bool} {cs : List IV} (c : Cs h b rw fz cs) {n : Nat} (hn : n = cs.length) : I.ldA n h (.ptr b 0) = some (.agg cs) := by
  subst hn
  rw [c.ldA _ 0 (by omega)]
  simp
theorem placeL_len : ∀ (l cs : List IV) (off : Nat), (placeL cs off l).length = cs.length
  | [], cs, off => rfl
  | x :: l, cs, off => by simp only [placeL]; rw [placeL_len l]; simp
theorem placeL_get : ∀ (l cs : List IV) (off i : Nat), off + l.length ≤ cs.length → (placeL cs off l)[i]? = if off ≤ i ∧ i < off + l.length then l[i - off]? else cs[i]?
  | [], cs, off, i, h => by simp only [placeL, List.length_nil]; rw [if_neg (by omega)]
  | x :: l, cs, off, i, h => by
    simp only [placeL, List.length_cons] at h ⊢
    rw [placeL_get l _ _ i (by simp; omega)]
    by_cases h1 : off + 1 ≤ i ∧ i < off + 1 + l.length
    · rw [if_pos h1, if_pos (by omega)]
      rw [show i - off = (i - (off + 1)) + 1 by omega, List.getElem?_cons_succ]
    · rw [if_neg h1, List.getElem?_set]
      by_cases h2 : off = i
      · subst h2
        rw [if_pos rfl, if_pos (by omega), if_pos (by omega)]; simp
      · rw [if_neg h2, if_neg (by omega)]
theorem Cs.st {h : H} {b : Nat} {fz : Bool} {cs : List IV} (c : Cs h b true fz cs) {n off : Nat} {v : IV} (hv : v.cells.length = n) (hs : allScalar v.cells = true) (hle : off + n ≤ cs.length) :
    ∃ o, stA n h (.ptr b off) v = some (h.put b o) ∧ Cs (h.put b o) b true fz (placeL cs off v.cells) ∧ ∀ fz size t, o ≠ .cells false fz size t := by
  obtain ⟨t, h1, h2⟩ := c
  refine ⟨.cells true fz cs.length (setList t off v.cells), by rw [stA_eq]; simp only [stA0, h1]; rw [if_pos ⟨hv, hle, hs⟩], ⟨setList t off v.cells, ?_, fun i hi => ?_⟩, fun _ _ _ hh => by cases hh⟩
  · rw [H.get_put, if_pos rfl, placeL_len]
  · rw [placeL_len] at hi
    rw [get_setList, placeL_get _ _ _ _ (by omega)]
    by_cases hc : off ≤ i ∧ i < off + v.cells.length
    · rw [if_pos hc, if_pos hc]
    · rw [if_neg hc, if_neg hc]; exact h2 i hi
theorem Cs.of_put {h : H} {b c : Nat} {o : Obj} {rw fz : Bool} {cs : List IV} (hc : Cs h c rw fz cs) (hne : c ≠ b) : Cs (h.put b o) c rw fz cs := by
  obtain ⟨t, h1, h2⟩ := hc
  exact ⟨t, by rw [H.get_put, if_neg hne]; exact h1, h2⟩
theorem Cs.lt {h : H} {b : Nat} {rw fz : Bool} {cs : List IV} (c : Cs h b rw fz cs) (w : WF h) : b < h.next := by
  obtain ⟨t, h1, _⟩ := c
  rcases Nat.lt_or_ge b h.next with h | h
  · exact h
  · rw [w b h] at h1; cases h1
def Obj.imm : Obj → Bool
  | .cells rw _ _ _ => !rw
  | _ => false
structure Ex (h h' : H) : Prop where
  gd : Gd h'
  ext : Ext h h'
  kp : ∀ b o, h.get b = some o → o.imm = false → h'.get b = some o
theorem Ex.refl {h : H} (g : Gd h) : Ex h h := ⟨g, .refl h, fun _ _ h _ => h⟩
theorem Ex.trans {a b c : H} (x : Ex a b) (y : Ex b c) : Ex a c := ⟨y.gd, x.ext.trans y.ext, fun k o h hi => y.kp k o (x.kp k o h hi) hi⟩
theorem Ex.push {h : H} (g : Gd h) (o : Obj) : Ex h (h.push o) := by
  obtain ⟨h1, h2⟩ := Step.push h o g.wf
  refine ⟨⟨h1, h2.pol.trans g.pol⟩, h2, fun b o' hb _ => ?_⟩
  rw [H.get_push, if_neg, hb]
  rintro rfl
  rw [g.wf _ (Nat.le_refl _)] at hb; cases hb
theorem Cs.ex {h h' : H} {b : Nat} {fz : Bool} {cs : List IV} (c : Cs h b true fz cs) (x : Ex h h') : Cs h' b true fz cs := by
  obtain ⟨t, h1, h2⟩ := c
  exact ⟨t, x.kp b _ h1 rfl, h2⟩
def Ci (h : H) (b : Nat) (cs : List IV) : Prop := ∃ fz, Cs h b false fz cs
theorem Ci.ext {h h' : H} {b : Nat} {cs : List IV} (c : Ci h b cs) (x : Ext h h') : Ci h' b cs := by
  obtain ⟨fz, t, h1, h2⟩ := c
  obtain ⟨fz', h3⟩ := x.imm b fz _ t h1
  exact ⟨fz', t, h3, h2⟩
theorem Cs.push {h : H} {rw fz : Bool} (cs : List IV) : Cs (h.push (.cells rw fz cs.length (T.arr cs))) h.next rw fz cs :=
  ⟨_, by rw [H.get_push, if_pos rfl], fun i hi => by rw [get_setList_leaf]⟩
theorem newI_ex {h : H} (g : Gd h) {cs : List IV} (hs : allScalar cs = true) : ∃ h', newI h cs = some (.ptr h.next 0, h') ∧ Ex h h' ∧ Cs h' h.next true false cs := by
  refine ⟨_, by rw [newI_eq]; rw [if_pos hs], .push g _, .push cs⟩
variable {P : Program}
theorem eqP_neq_pn (h : H) (b o : Nat) : eqP .neq h (.ptr b o) .nilPtr = some (.bool true) := rfl
theorem eqP_eql_pn (h : H) (b o : Nat) : eqP .eql h (.ptr b o) .nilPtr = some (.bool false) := rfl
theorem eqP_neq_nn (h : H) : eqP .neq h .nilPtr .nilPtr = some (.bool false) := rfl
theorem eqP_eql_nn (h : H) : eqP .eql h .nilPtr .nilPtr = some (.bool true) := rfl
theorem eqMp_neq_mn (m : Nat) : eqMp .neq (.map m) .nilMap = some (.bool true) := rfl
theorem eqMp_eql_mn (m : Nat) : eqMp .eql (.map m) .nilMap = some (.bool false) := rfl
theorem eqMp_neq_nn : eqMp .neq .nilMap .nilMap = some (.bool false) := rfl
theorem eqMp_eql_nn : eqMp .eql .nilMap .nilMap = some (.bool true) := rfl
theorem eqIf_eql_in (c : Bool) (t : TypeId) (v : IV) : eqIf .eql c (.iface t v) .nilIface = some (.bool false) := rfl
theorem eqIf_neq_in (c : Bool) (t : TypeId) (v : IV) : eqIf .neq c (.iface t v) .nilIface = some (.bool true) := rfl
theorem eqIf_eql_nn : eqIf .eql true .nilIface .nilIface = some (.bool true) := rfl
theorem eqIf_neq_nn : eqIf .neq true .nilIface .nilIface = some (.bool false) := rfl
theorem eqSl_eql_nn : eqSl .eql .nilSlice .nilSlice = some (.bool true) := rfl
theorem eqSl_neq_nn : eqSl .neq .nilSlice .nilSlice = some (.bool false) := rfl
theorem eqSl_eql_sn (b o n e : Nat) : eqSl .eql (.slice b o n e) .nilSlice = some (.bool false) := rfl
theorem eqSl_neq_sn (b o n e : Nat) : eqSl .neq (.slice b o n e) .nilSlice = some (.bool true) := rfl
theorem W : (∀ (v : IV) (k : IV → CRes), obind (some v) k = k v) ∧ (∀ (v : IV) (h : H) (k : IV → H → CRes), obind2 (some (v, h)) k = k v h) ∧ (∀ (h : H) (k : H → CRes), obindH (some h) k = k h) ∧ (∀ (v : IV) (h : H) (p k : IV → H → CRes), callP (.ok v h) p k = k v h) ∧ (∀ (v : IV) (h : H) (p k : IV → H → CRes), callP (.pan v h) p k = p v h) ∧ (∀ (b : Bool) (x y : CRes), condK (.bool b) x y = if b = true then x else y) ∧ (∀ (b : Bool) (h : H) (a : (IV → H → CRes) → CRes) (k : IV → H → CRes), spanK (.bool b) true h a k = if b = true then a k else k (.tup []) h) ∧ (∀ (b : Bool) (h : H) (a : (IV → H → CRes) → CRes) (k : IV → H → CRes), spanK (.bool b) false h a k = if b = true then k (.tup []) h else a k) ∧ (∀ (b : Bool) (x y : Option IV), pickI (.bool b) x y = if b = true then x else y) ∧ (∀ (b : Bool) (x y z : CRes), guardK (.bool b) x y z = if b = true then x else y) ∧ (∀ (b o : Nat), nilI (.ptr b o) = some (.ptr b o)) ∧ (∀ (l : List IV) (i : Nat), extractI (.tup l) i = l[i]?) ∧ (∀ (o b off : Nat), fadK o (.ptr b off) = some (.ptr b (off + o))) ∧ (∀ (b : Bool), unI .not (.bool b) = some (.bool (!b))) ∧ (∀ (k : IntKind) (n : Int), unI .neg (.int k n) = some (.int k (wr k (0 - n)))) ∧ (∀ (t : TypeId) (v : IV) (h : H) (p : IV → H → CRes), panK (.iface t v) h p = p (.iface t v) h) ∧ (∀ (h : H) (k : IV → H → CRes), mapK h k = k (.map h.next) (h.push (.map [] 0))) ∧ (∀ (g : FuncId) (caps : List IV) (k : FuncId → List IV → CRes), funK (.func g caps) k = k g caps) ∧ (∀ (v : IV), IV.beq v v = true) ∧ (∀ (k j : IntKind) (n : Int), cvN k (.int j n) = some (.int k (wr k n))) ∧ (∀ (s : Str), cvSS (.str s) = some (.str s)) ∧ (∀ (k : IntKind) (a b : Int), binN .add (.int k a) (.int k b) = some (.int k (wr k (a + b)))) ∧ (∀ (k : IntKind) (a b : Int), binN .sub (.int k a) (.int k b) = some (.int k (wr k (a - b)))) ∧ (∀ (k : IntKind) (a b : Int), binN .mul (.int k a) (.int k b) = some (.int k (wr k (a * b)))) ∧ (∀ (k : IntKind) (a b : Int), binN .eql (.int k a) (.int k b) = some (.bool (decide (a = b)))) ∧ (∀ (k : IntKind) (a b : Int), binN .neq (.int k a) (.int k b) = some (.bool (!decide (a = b)))) ∧ (∀ (k : IntKind) (a b : Int), binN .lss (.int k a) (.int k b) = some (.bool (decide (a < b)))) ∧ (∀ (k : IntKind) (a b : Int), binN .leq (.int k a) (.int k b) = some (.bool (decide (a ≤ b)))) ∧ (∀ (k : IntKind) (a b : Int), binN .gtr (.int k a) (.int k b) = some (.bool (decide (b < a)))) ∧ (∀ (k : IntKind) (a b : Int), binN .geq (.int k a) (.int k b) = some (.bool (decide (b ≤ a)))) ∧ (∀ (k j : IntKind) (a b : Int), minI (.int k a) (.int j b) = some (.int k (if b < a then b else a))) ∧ (∀ (a b : Bool), eqB .eql (.bool a) (.bool b) = some (.bool (a == b))) ∧ (∀ (a b : Bool), eqB .neq (.bool a) (.bool b) = some (.bool (!(a == b)))) ∧ (∀ (l : Bs), lenStr (sv l) = some (.int .i64 l.length)) ∧ (∀ (a b : Bs), binS .eql (sv a) (sv b) = some (.bool (decide (a = b)))) ∧ (∀ (a b : Bs), binS .neq (sv a) (sv b) = some (.bool (!decide (a = b)))) ∧ (∀ (h : H) (b o : Nat), eqP .neq h (.ptr b o) .nilPtr = some (.bool true)) ∧ (∀ (h : H) (b o : Nat), eqP .eql h (.ptr b o) .nilPtr = some (.bool false)) ∧ (∀ (h : H), eqP .neq h .nilPtr .nilPtr = some (.bool false)) ∧ (∀ (h : H), eqP .eql h .nilPtr .nilPtr = some (.bool true)) ∧ (∀ (m : Nat), eqMp .neq (.map m) .nilMap = some (.bool true)) ∧ (∀ (m : Nat), eqMp .eql (.map m) .nilMap = some (.bool false)) ∧ (eqMp .neq .nilMap .nilMap = some (.bool false)) ∧ (eqMp .eql .nilMap .nilMap = some (.bool true)) ∧ (∀ (c : Bool) (t : TypeId) (v : IV), eqIf .eql c (.iface t v) .nilIface = some (.bool false)) ∧ (∀ (c : Bool) (t : TypeId) (v : IV), eqIf .neq c (.iface t v) .nilIface = some (.bool true)) ∧ (eqIf .eql true .nilIface .nilIface = some (.bool true)) ∧ (eqIf .neq true .nilIface .nilIface = some (.bool false)) ∧ (eqSl .eql .nilSlice .nilSlice = some (.bool true)) ∧ (eqSl .neq .nilSlice .nilSlice = some (.bool false)) ∧ (∀ (b o n e : Nat), eqSl .eql (.slice b o n e) .nilSlice = some (.bool false)) ∧ (∀ (b o n e : Nat), eqSl .neq (.slice b o n e) .nilSlice = some (.bool true)) := ⟨obind_some, obind2_some, obindH_some, callP_ok, callP_pan, condK_bool, spanK_t, spanK_f, pickI_bool, guardK_bool, nilI_ptr, extractI_tup, fadK_ptr, unI_not, unI_neg, panK_iface, mapK_eq, funK_func, beq_refl, cvN_int, cvSS_str, binN_add, binN_sub, binN_mul, binN_eql, binN_neq, binN_lss, binN_leq, binN_gtr, binN_geq, minI_int, eqB_eql, eqB_neq, lenStr_sv, binS_eql, binS_neq, eqP_neq_pn, eqP_eql_pn, eqP_neq_nn, eqP_eql_nn, eqMp_neq_mn, eqMp_eql_mn, eqMp_neq_nn, eqMp_eql_nn, eqIf_eql_in, eqIf_neq_in, eqIf_eql_nn, eqIf_neq_nn, eqSl_eql_nn, eqSl_neq_nn, eqSl_eql_sn, eqSl_neq_sn⟩
theorem indexByteI_step (args : List IV) (h : H) : (indexByteI args h).Steps h := by
  unfold indexByteI
  split
  · split
    · exact Step.refl h
    · trivial
  · trivial
def CRes.val : CRes → Option IV
  | .ok v _ => some v
  | _ => none
theorem CRes.of_val {r : CRes} {v : IV} (h : r.val = some v) : ∃ h', r = .ok v h' := by
  cases r with
  | ok u g => injection h with h; subst h; exact ⟨g, rfl⟩
  | pan u g => cases h
  | fail => cases h
def unp (s : Str) : Bs := (List.range s.len).map fun i => UInt8.ofNat (s.at i)
theorem unp_sv (l : Bs) : unp ⟨l.length, packL l⟩ = l := by
  apply List.ext_getElem
  · simp [unp]
  · intro i h1 h2
    simp only [unp, List.getElem_map, List.getElem_range]
    rw [str_at l i h2, UInt8.ofNat_toNat]
def H0 : H := ⟨0, .leaf, true, .leaf⟩
theorem gd0 : Gd H0 := ⟨fun _ _ => rfl, rfl⟩
end
end Go.Proofs.YtelhoddamlkfhaaGreatDoor.I
namespace Go.Proofs.YtelhoddamlkfhaaGreatDoor.I
noncomputable section
open Go
def Ch {α : Type} (R : α → List IV → Prop) (es : Nat) : List α → List IV → Prop
  | [], cs => cs = []
  | x :: l, cs => ∃ c d, cs = c ++ d ∧ c.length = es ∧ R x c ∧ Ch R es l d
theorem Ch.mono {α : Type} {R Q : α → List IV → Prop} {es : Nat} (h : ∀ x c, R x c → Q x c) : ∀ {l : List α} {cs : List IV}, Ch R es l cs → Ch Q es l cs
  | [], _, e => e
  | x :: l, _, ⟨c, d, h1, h2, h3, h4⟩ => ⟨c, d, h1, h2, h x c h3, h4.mono h⟩
theorem Ch.len {α : Type} {R : α → List IV → Prop} {es : Nat} : ∀ {l : List α} {cs : List IV}, Ch R es l cs → cs.length = l.length * es
  | [], _, e => by simp only [Ch] at e; subst e; simp
  | x :: l, _, ⟨c, d, h1, h2, h3, h4⟩ => by
    subst h1
    rw [List.length_append, h2, h4.len, List.length_cons, Nat.succ_mul]; omega
theorem Ch.get {α : Type} {R : α → List IV → Prop} {es : Nat} : ∀ {l : List α} {cs : List IV}, Ch R es l cs → ∀ (i : Nat) (x : α), l[i]? = some x → R x ((cs.drop (i * es)).take es) ∧ ((cs.drop (i * es)).take es).length = es ∧ i * es + es ≤ cs.length
  | [], _, e, i, x, hx => by simp at hx
  | y :: l, _, ⟨c, d, h1, h2, h3, h4⟩, 0, x, hx => by
    simp only [List.getElem?_cons_zero, Option.some.injEq] at hx
    subst hx; subst h1; subst h2
    simp [h3]
  | y :: l, _, ⟨c, d, h1, h2, h3, h4⟩, i + 1, x, hx => by
    simp only [List.getElem?_cons_succ] at hx
    obtain ⟨q1, q2, q3⟩ := h4.get i x hx
    subst h1
    have e : (i + 1) * es = c.length + i * es := by rw [Nat.succ_mul, h2]; omega
    rw [e, List.drop_append]
    have : c.drop (c.length + i * es) = [] := List.drop_eq_nil_of_le (by omega)
    rw [this, List.nil_append, show c.length + i * es - c.length = i * es by omega]
    exact ⟨q1, q2, by rw [List.length_append]; omega⟩
theorem Ch.app {α : Type} {R : α → List IV → Prop} {es : Nat} {m : List α} {ds : List IV} (hm : Ch R es m ds) : ∀ {l : List α} {cs : List IV}, Ch R es l cs → Ch R es (l ++ m) (cs ++ ds)
  | [], _, e => by simp only [Ch] at e; subst e; exact hm
  | y :: l, _, ⟨a, d, h1, h2, h3, h4⟩ => by subst h1; exact ⟨a, d ++ ds, by simp, h2, h3, hm.app h4⟩
def LR {α : Type} (h : H) (es : Nat) (R : α → List IV → Prop) (l : List α) (v : IV) : Prop :=
  (l = [] ∧ (v = .nilSlice ∨ ∃ b off, v = .slice b off 0 es)) ∨
  ∃ b off cs, v = .slice b off l.length es ∧ Ci h b cs ∧ off + l.length * es ≤ cs.length ∧ Ch R es l ((cs.drop off).take (l.length * es))
theorem LR.mono {α : Type} {h h' : H} {es : Nat} {R Q : α → List IV → Prop} (x : Ext h h') (hq : ∀ y c, R y c → Q y c) {l : List α} {v : IV} (r : LR h es R l v) : LR h' es Q l v := by
  rcases r with r | ⟨b, off, cs, h1, h2, h3, h4⟩
  · exact .inl r
  · exact .inr ⟨b, off, cs, h1, h2.ext x, h3, h4.mono hq⟩
theorem LR.len {α : Type} {h : H} {es : Nat} {R : α → List IV → Prop} {l : List α} {v : IV} (r : LR h es R l v) : lenS v = some (.int .i64 l.length) := by
  rcases r with ⟨rfl, rfl | ⟨b, off, rfl⟩⟩ | ⟨b, off, cs, rfl, _⟩ <;> rfl
theorem LR.scalar {α : Type} {h : H} {es : Nat} {R : α → List IV → Prop} {l : List α} {v : IV} (r : LR h es R l v) : v.scalar = true := by
  rcases r with ⟨rfl, rfl | ⟨b, off, rfl⟩⟩ | ⟨b, off, cs, rfl, _⟩ <;> rfl
theorem Ci.ldA {h : H} {b : Nat} {cs : List IV} (c : Ci h b cs) (n off : Nat) (hle : off + n ≤ cs.length) : I.ldA n h (.ptr b off) = some (.agg ((cs.drop off).take n)) := by
  obtain ⟨fz, c⟩ := c; exact c.ldA n off hle
theorem Ci.ld0 {h : H} {b : Nat} {cs : List IV} (c : Ci h b cs) (off : Nat) : I.ld0 h (.ptr b off) = cs[off]? := by
  obtain ⟨fz, c⟩ := c; exact c.ld0 off
def GL (h : H) (es : Nat) (cs : List IV) (v : IV) : Prop :=
  (cs = [] ∧ v = .nilSlice) ∨ ∃ b n, v = .slice b 0 n es ∧ Cs h b false true cs ∧ n * es = cs.length
theorem GL.LR {α : Type} {h : H} {es : Nat} {R : α → List IV → Prop} {l : List α} {cs : List IV} {v : IV} (hes : es ≠ 0) (g : GL h es cs v) (c : Ch R es l cs) : I.LR h es R l v := by
  have hlen := c.len
  rcases g with ⟨rfl, rfl⟩ | ⟨b, n, rfl, h1, h2⟩
  · cases l with
    | nil => exact .inl ⟨rfl, .inl rfl⟩
    | cons x l => obtain ⟨c, d, h1, h2, h3, h4⟩ := c; simp at h1; rw [h1.1] at h2; exact absurd h2.symm hes
  · have hn : n = l.length := by
      rw [hlen] at h2
      exact Nat.eq_of_mul_eq_mul_right (Nat.pos_of_ne_zero hes) h2
    subst hn
    exact .inr ⟨b, 0, cs, rfl, ⟨true, h1⟩, by omega, by rw [List.drop_zero, List.take_of_length_le (by omega)]; exact c⟩
theorem allScalar_app : ∀ {a b : List IV}, allScalar (a ++ b) = (allScalar a && allScalar b)
  | [], b => by simp [allScalar]
  | x :: a, b => by simp only [List.cons_append, allScalar, allScalar_app (a := a), Bool.and_assoc]
inductive E where
  | mk (op : Int) (name value : Bs) (plain : Bool) (kids : List E) (at_ : Int)
def ecells (op : Int) (name value : Bs) (plain : Bool) (K : IV) (at_ : Int) : List IV := [.int .i64 op, sv name, sv value, .bool plain, K, .int .i64 at_]
theorem ecells_scalar {op : Int} {nm v : Bs} {p : Bool} {K : IV} {a : Int} (hK : K.scalar = true) : allScalar (ecells op nm v p K a) = true := by
  show (true && (true && (true && (true && (K.scalar && (true && true)))))) = true
  rw [hK]; rfl
def XR (h : H) : Nat → E → List IV → Prop
  | 0, _, _ => False
  | n + 1, .mk op name value plain kids at_, cs => ∃ K, cs = ecells op name value plain K at_ ∧ LR h 6 (XR h n) kids K
theorem XR.mono {h h' : H} (x : Ext h h') : ∀ (n : Nat) {e : E} {cs : List IV}, XR h n e cs → XR h' n e cs
  | 0, _, _, r => r
  | n + 1, .mk _ _ _ _ _ _, _, ⟨K, h1, h2⟩ => ⟨K, h1, h2.mono x fun y c r => r.mono x n⟩
theorem XR.scalar {h : H} {n : Nat} {e : E} {cs : List IV} (r : XR h n e cs) : allScalar cs = true ∧ cs.length = 6 := by
  cases n with
  | zero => cases r
  | succ n =>
    cases e
    obtain ⟨K, rfl, h2⟩ := r
    have := h2.scalar
    exact ⟨ecells_scalar this, rfl⟩
theorem nodup_inj {α : Type} : ∀ {l : List α}, l.Nodup → ∀ {i j : Nat} (hi : i < l.length) (hj : j < l.length), l[i] = l[j] → i = j
  | [], _, _, _, hi, _, _ => by simp at hi
  | x :: l, h, i, j, hi, hj, e => by
    rw [List.nodup_cons] at h
    cases i with
    | zero => cases j with
      | zero => rfl
      | succ j => simp only [List.getElem_cons_zero, List.getElem_cons_succ] at e; exact absurd (by rw [e]; exact List.getElem_mem _) h.1
    | succ i => cases j with
      | zero => simp only [List.getElem_cons_zero, List.getElem_cons_succ] at e; exact absurd (by rw [← e]; exact List.getElem_mem _) h.1
      | succ j =>
        simp only [List.getElem_cons_succ] at e
        rw [nodup_inj h.2 (by simpa using hi) (by simpa using hj) e]
structure Lv (h₀ h : H) (L : List (Nat × List IV)) : Prop where
  wf : WF h₀
  ex : Ex h₀ h
  cs : ∀ p ∈ L, Cs h p.1 true false p.2
  new : ∀ p ∈ L, h₀.next ≤ p.1
  one : (L.map (·.1)).Nodup
theorem Lv.start {h : H} (g : Gd h) : Lv h h [] := ⟨g.wf, .refl g, by simp, by simp, by simp⟩
theorem Lv.gd {h₀ h : H} {L : List (Nat × List IV)} (l : Lv h₀ h L) : Gd h := l.ex.gd
theorem Lv.lt {h₀ h : H} {L : List (Nat × List IV)} (l : Lv h₀ h L) {p : Nat × List IV} (hp : p ∈ L) : p.1 < h.next := (l.cs p hp).lt l.gd.wf
theorem Lv.go {h₀ h h' : H} {L : List (Nat × List IV)} (l : Lv h₀ h L) (x : Ex h h') : Lv h₀ h' L := ⟨l.wf, l.ex.trans x, fun p hp => (l.cs p hp).ex x, l.new, l.one⟩
theorem Lv.newI {h₀ h : H} {L : List (Nat × List IV)} (l : Lv h₀ h L) {cs : List IV} (hs : allScalar cs = true) : ∃ b h', I.newI h cs = some (.ptr b 0, h') ∧ Lv h₀ h' ((b, cs) :: L) := by
  obtain ⟨h', e, x, c⟩ := newI_ex l.gd hs
  refine ⟨h.next, h', e, l.wf, l.ex.trans x, fun p hp => ?_, fun p hp => ?_, ?_⟩
  · rcases List.mem_cons.1 hp with rfl | hp
    · exact c
    · exact (l.cs p hp).ex x
  · rcases List.mem_cons.1 hp with rfl | hp
    · exact l.ex.ext.next
    · exact l.new p hp
  · simp only [List.map_cons, List.nodup_cons]
    refine ⟨fun hm => ?_, l.one⟩
    obtain ⟨p, hp, e⟩ := List.mem_map.1 hm
    have := l.lt hp
    omega
theorem Lv.newI' {h₀ h : H} {L : List (Nat × List IV)} (l : Lv h₀ h L) {cs : List IV} (hs : allScalar cs = true) : ∃ h', I.newI h cs = some (.ptr h.next 0, h') ∧ Lv h₀ h' ((h.next, cs) :: L) ∧ Ex h h' := by
  obtain ⟨b, h', e, l'⟩ := l.newI hs
  obtain ⟨h2, e2, x, c⟩ := newI_ex l.gd hs
  rw [e2] at e
  injection e with e
  injection e with e3 e4
  injection e3 with e3
  subst e3; subst e4
  exact ⟨h2, e2, l', x⟩
theorem Lv.ld0 {h₀ h : H} {L : List (Nat × List IV)} (l : Lv h₀ h L) {b : Nat} {cs : List IV} (i : Nat) (hi : L[i]? = some (b, cs)) (off : Nat) : I.ld0 h (.ptr b off) = cs[off]? := (l.cs _ (List.mem_of_getElem? hi)).ld0 off
theorem Lv.ldA {h₀ h : H} {L : List (Nat × List IV)} (l : Lv h₀ h L) {b : Nat} {cs : List IV} (i : Nat) (hi : L[i]? = some (b, cs)) {n : Nat} (hn : n = cs.length) : I.ldA n h (.ptr b 0) = some (.agg cs) := (l.cs _ (List.mem_of_getElem? hi)).ldAll hn
theorem Lv.st {h₀ h : H} {L : List (Nat × List IV)} (l : Lv h₀ h L) {b : Nat} {cs : List IV} (i : Nat) (hi : L[i]? = some (b, cs)) {n off : Nat} {v : IV} (hv : v.cells.length = n) (hs : allScalar v.cells = true) (hle : off + n ≤ cs.length) :
    ∃ h', stA n h (.ptr b off) v = some h' ∧ Lv h₀ h' (L.set i (b, placeL cs off v.cells)) := by
  have hm := List.mem_of_getElem? hi
  have hc := l.cs _ hm
  obtain ⟨o, e, c, ho⟩ := hc.st hv hs hle
  obtain ⟨t, hq, _⟩ := hc
  have hst := Step.put (o := o) hq (fun fz size cs hh => by cases hh) l.gd.wf
  have hnew := l.new _ hm
  have hinj : ∀ (j : Nat) (p : Nat × List IV), L[j]? = some p → p.1 = b → j = i := by
    intro j p hj hp
    have h1 : (L.map (·.1))[j]? = some b := by rw [List.getElem?_map, hj, ← hp]; rfl
    have h2 : (L.map (·.1))[i]? = some b := by rw [List.getElem?_map, hi]; rfl
    obtain ⟨k1, q1⟩ := List.getElem?_eq_some_iff.1 h1
    obtain ⟨k2, q2⟩ := List.getElem?_eq_some_iff.1 h2
    exact nodup_inj l.one k1 k2 (q1.trans q2.symm)
  have hset : ∀ p ∈ L.set i (b, placeL cs off v.cells), p = (b, placeL cs off v.cells) ∨ (p ∈ L ∧ p.1 ≠ b) := by
    intro p hp
    obtain ⟨j, hj⟩ := List.mem_iff_getElem?.1 hp
    rw [List.getElem?_set] at hj
    split at hj
    · split at hj
      · injection hj with hj; exact .inl hj.symm
      · cases hj
    · rename_i hne
      exact .inr ⟨List.mem_of_getElem? hj, fun e => hne (hinj j p hj e).symm⟩
  refine ⟨_, e, l.wf, ⟨⟨hst.1, hst.2.pol.trans l.gd.pol⟩, l.ex.ext.trans hst.2, fun k o' hk hi' => ?_⟩, fun p hp => ?_, fun p hp => ?_, ?_⟩
  · rw [H.get_put]
    by_cases e : k = b
    · subst e
      rw [l.wf k hnew] at hk; cases hk
    · rw [if_neg e]; exact l.ex.kp k o' hk hi'
  · rcases hset p hp with rfl | ⟨hp', hne⟩
    · exact c
    · exact (l.cs p hp').of_put hne
  · rcases hset p hp with rfl | ⟨hp', _⟩
    · exact hnew
    · exact l.new p hp'
  · have : (L.set i (b, placeL cs off v.cells)).map (·.1) = L.map (·.1) := by
      rw [List.map_set]
      apply List.ext_getElem?
      intro j
      rw [List.getElem?_set]
      by_cases hj : i = j
      · subst hj
        rw [if_pos rfl]
        rw [List.getElem?_map, hi]
        simp
        exact (List.getElem?_eq_some_iff.1 hi).1
      · rw [if_neg hj]
    rw [this]; exact l.one
theorem placeL_mid : ∀ (c pre rest : List IV), c.length ≤ rest.length → placeL (pre ++ rest) pre.length c = pre ++ c ++ rest.drop c.length
  | [], pre, rest, _ => by simp [placeL]
  | x :: c, pre, [], h => by simp at h
  | x :: c, pre, y :: rest, h => by
    simp only [List.length_cons] at h
    simp only [placeL]
    have : (pre ++ y :: rest).set pre.length x = (pre ++ [x]) ++ rest := by simp
    rw [this]
    have hl : pre.length + 1 = (pre ++ [x]).length := by simp
    rw [hl, placeL_mid c (pre ++ [x]) rest (by omega)]
    simp
def partsFrom : List IV → Nat → List (Nat × IV)
  | [], _ => []
  | v :: vs, i => (i, v) :: partsFrom vs (i + 1)
def cellsOf (vs : List IV) : List IV := (vs.map IV.cells).flatten
theorem fill_all {es : Nat} : ∀ (vs : List IV) (i : Nat) (pre rest : List IV), pre.length = i * es → (∀ v ∈ vs, v.cells.length = es) → vs.length * es ≤ rest.length →
    fillI (fun i => some (i * es, es)) (pre ++ rest) (partsFrom vs i) = some (pre ++ cellsOf vs ++ rest.drop (vs.length * es))
  | [], i, pre, rest, _, _, _ => by simp [partsFrom, fillI, cellsOf]
  | v :: vs, i, pre, rest, hp, hv, hr => by
    have h1 := hv v (List.mem_cons_self ..)
    simp only [List.length_cons, Nat.succ_mul] at hr
    simp only [partsFrom, fillI]
    rw [if_neg (by simp only [List.length_append, not_or]; omega), ← hp, placeL_mid _ _ _ (by omega)]
    rw [show pre ++ v.cells ++ rest.drop v.cells.length = (pre ++ v.cells) ++ rest.drop v.cells.length from rfl]
    rw [fill_all vs (i + 1) (pre ++ v.cells) (rest.drop v.cells.length) (by rw [List.length_append, hp, h1, Nat.succ_mul]) (fun u hu => hv u (List.mem_cons_of_mem _ hu)) (by rw [List.length_drop]; omega)]
    have hd : (rest.drop v.cells.length).drop (vs.length * es) = rest.drop (vs.length * es + es) := by
      rw [List.drop_drop, h1]; congr 1; omega
    rw [hd]
    simp only [cellsOf, List.map_cons, List.flatten_cons, List.length_cons, Nat.succ_mul, List.append_assoc]
theorem rep_len (z : List IV) : ∀ n, (repCells z n).length = n * z.length
  | 0 => by simp [repCells]
  | n + 1 => by simp only [repCells, List.length_append, rep_len z n, Nat.succ_mul]; omega
theorem bslK_all {w : Bool} {es : Nat} {z : List IV} {vs : List IV} (hz : z.length = es) (hv : ∀ v ∈ vs, v.cells.length = es) (hs : allScalar (cellsOf vs) = true) (h : H) :
    bslK w es z vs.length (partsFrom vs 0) h = some (.slice h.next 0 vs.length es, h.push (.cells (!(h.pol && !w)) (h.pol && !w) (cellsOf vs).length (T.arr (cellsOf vs)))) := by
  have := fill_all vs 0 [] (repCells z vs.length) (by simp) hv (by rw [rep_len, hz]; omega)
  simp only [List.nil_append] at this
  have hd : (repCells z vs.length).drop (vs.length * es) = [] := List.drop_eq_nil_of_le (by rw [rep_len, hz]; omega)
  rw [hd, List.append_nil] at this
  simp only [bslK, this, hs, if_true]
theorem Lv.lit {h₀ h : H} {L : List (Nat × List IV)} (l : Lv h₀ h L) {es : Nat} {z : List IV} {vs : List IV} (hz : z.length = es) (hv : ∀ v ∈ vs, v.cells.length = es) (hs : allScalar (cellsOf vs) = true) :
    ∃ h', bslK true es z vs.length (partsFrom vs 0) h = some (.slice h.next 0 vs.length es, h') ∧ Lv h₀ h' ((h.next, cellsOf vs) :: L) ∧ Ex h h' := by
  obtain ⟨h', e, l', x'⟩ := l.newI' hs
  refine ⟨h', ?_, l', x'⟩
  have e2 := bslK_all (w := true) hz hv hs h
  rw [I.newI_eq] at e
  rw [if_pos hs] at e
  injection e with e
  injection e with e3 e4
  rw [e2, ← e4]
  simp only [Bool.not_true, Bool.and_false, Bool.not_false]
theorem Lv.set {h₀ h : H} {L : List (Nat × List IV)} (l : Lv h₀ h L) {b : Nat} {cs : List IV} (i : Nat) (hi : L[i]? = some (b, cs)) {n : Nat} {v : IV} (hv : v.cells.length = n) (hs : allScalar v.cells = true) (hle : n = cs.length) :
    ∃ h', stA n h (.ptr b 0) v = some h' ∧ Lv h₀ h' (L.set i (b, v.cells)) := by
  obtain ⟨h', e, l'⟩ := l.st i hi hv hs (off := 0) (by omega)
  have : placeL cs 0 v.cells = v.cells := by
    apply List.ext_getElem?
    intro k
    rw [placeL_get _ _ _ _ (by omega)]
    by_cases hk : 0 ≤ k ∧ k < 0 + v.cells.length
    · rw [if_pos hk]; simp
    · rw [if_neg hk, List.getElem?_eq_none (by omega), List.getElem?_eq_none (by omega)]
  rw [this] at l'
  exact ⟨h', e, l'⟩
variable {P : Program}
def le (r s : CRes) : Prop := r ≠ .fail → s = r
theorem le_refl (r : CRes) : le r r := fun _ => rfl
theorem le_fail (s : CRes) : le .fail s := fun h => absurd rfl h
theorem le_trans {a b c : CRes} (h1 : le a b) (h2 : le b c) : le a c := fun h => by
  have := h1 h
  exact (h2 (by rw [this]; exact h)).trans this
def leC (f g : CallF) : Prop := ∀ x l h, le (f x l h) (g x l h)
def leR (f g : Rec) : Prop := ∀ i l h, le (f i l h) (g i l h)
def leO {α : Type} (x y : Option α) : Prop := ∀ z, x = some z → y = some z
theorem le_e {t t' s : CRes} (e : t' ≠ .fail → s = t') (m : le t t') : le t s := fun h => by
  have := m h
  rw [this] at e
  exact e h
theorem le_obind {o : Option IV} {k k' : IV → CRes} (hk : ∀ v, le (k v) (k' v)) : le (obind o k) (obind o k') := by
  cases o with
  | none => exact le_fail _
  | some v => exact hk v
theorem le_obind2 {o : Option (IV × H)} {k k' : IV → H → CRes} (hk : ∀ v h, le (k v h) (k' v h)) : le (obind2 o k) (obind2 o k') := by
  cases o with
  | none => exact le_fail _
  | some v => exact hk v.1 v.2
theorem le_obindH {o : Option H} {k k' : H → CRes} (hk : ∀ h, le (k h) (k' h)) : le (obindH o k) (obindH o k') := by
  cases o with
  | none => exact le_fail _
  | some v => exact hk v
theorem le_callP {r r' : CRes} {p p' k k' : IV → H → CRes} (hr : le r r') (hp : ∀ v h, le (p v h) (p' v h)) (hk : ∀ v h, le (k v h) (k' v h)) : le (callP r p k) (callP r' p' k') := by
  cases r with
  | fail => exact le_fail _
  | ok v h => rw [hr (by simp)]; exact hk v h
  | pan v h => rw [hr (by simp)]; exact hp v h
theorem le_condK {v : IV} {a a' b b' : CRes} (ha : le a a') (hb : le b b') : le (condK v a b) (condK v a' b') := by
  unfold condK
  split
  · exact ha
  · exact hb
  · exact le_fail _
theorem le_guardK {v : IV} {a a' b b' c c' : CRes} (ha : le a a') (hb : le b b') (hc : le c c') : le (guardK v a b c) (guardK v a' b' c') := by
  unfold guardK
  split
  · exact ha
  · exact hb
  · exact hc
  · exact le_fail _
theorem le_bif {c : Bool} {a a' b b' : CRes} (ha : le a a') (hb : le b b') : le (bif c then a else b) (bif c then a' else b') := by
  cases c
  · exact hb
  · exact ha
theorem le_spanK {v : IV} {w : Bool} {h : H} {a a' : (IV → H → CRes) → CRes} {k k' : IV → H → CRes} (ha : ∀ k k', (∀ v h, le (k v h) (k' v h)) → le (a k) (a' k')) (hk : ∀ v h, le (k v h) (k' v h)) : le (spanK v w h a k) (spanK v w h a' k') := by
  unfold spanK
  split
  · exact le_bif (ha _ _ hk) (hk _ _)
  · exact le_bif (hk _ _) (ha _ _ hk)
  · exact hk _ _
  · exact le_fail _
theorem le_funK {v : IV} {k k' : FuncId → List IV → CRes} (hk : ∀ g c, le (k g c) (k' g c)) : le (funK v k) (funK v k') := by
  unfold funK
  split
  · exact hk _ _
  · exact le_fail _
theorem le_mapK {h : H} {k k' : IV → H → CRes} (hk : ∀ v h, le (k v h) (k' v h)) : le (mapK h k) (mapK h k') := hk _ _
theorem le_panK {v : IV} {h : H} {p p' : IV → H → CRes} (hp : ∀ v h, le (p v h) (p' v h)) : le (panK v h p) (panK v h p') := by
  unfold panK
  split
  · exact hp _ _
  · exact le_fail _
theorem le_dfK {x x' : Option (Mode × H)} {k k' : H → CRes} (hx : leO x x') (hk : ∀ h, le (k h) (k' h)) : le (dfK x k) (dfK x' k') := by
  cases x with
  | none => exact le_fail _
  | some z =>
    rw [hx z rfl]
    obtain ⟨m, g⟩ := z
    cases m with
    | ret => exact hk g
    | pan v => exact le_refl _
    | done => exact le_refl _
theorem le_dfP {L L' : Mode → H → Option (Mode × H)} {k k' : H → CRes} {v : IV} {h : H} (hL : ∀ st h, leO (L st h) (L' st h)) (hk : ∀ h, le (k h) (k' h)) : le (dfP L k v h) (dfP L' k' v h) := le_dfK (hL _ _) hk
theorem le_beq {i k : Nat} {a b s : CRes} (ha : i = k → le a s) (hb : le b s) : le (bif Nat.beq i k then a else b) s := by
  cases e : Nat.beq i k with
  | true => exact ha (Nat.eq_of_beq_eq_true e)
  | false => exact hb
def arC (l : List IV) (k : IV → List IV → CRes) : CRes :=
  match l with
  | a :: l => k a l
  | [] => .fail
def ar0 (l : List IV) (x : CRes) : CRes :=
  match l with
  | [] => x
  | _ => .fail
theorem le_arC {l : List IV} {k : IV → List IV → CRes} {s : CRes} (hk : ∀ a l', l = a :: l' → le (k a l') s) : le (arC l k) s := by
  cases l with
  | nil => exact le_fail _
  | cons a l' => exact hk a l' rfl
theorem le_ar0 {l : List IV} {x s : CRes} (hx : l = [] → le x s) : le (ar0 l x) s := by
  cases l with
  | nil => exact hx rfl
  | cons a l' => exact le_fail _
def br0 (i k : Nat) (l : List IV) (x : CRes) (r : CRes) : CRes := bif Nat.beq i k then ar0 l (x) else r
theorem le_br0 {J : Nat → List IV → CRes} {i k : Nat} {l : List IV} {x : CRes} {r : CRes} (hx : i = k → le (x) (J k [])) (hr : le r (J i l)) : le (br0 i k l x r) (J i l) :=
  le_beq (fun e0 => e0 ▸ le_ar0 fun e => e ▸ hx e0) hr
def br1 (i k : Nat) (l : List IV) (x : IV → CRes) (r : CRes) : CRes := bif Nat.beq i k then arC l fun a0 l => ar0 l (x a0) else r
theorem le_br1 {J : Nat → List IV → CRes} {i k : Nat} {l : List IV} {x : IV → CRes} {r : CRes} (hx : i = k → ∀ a0, le (x a0) (J k [a0])) (hr : le r (J i l)) : le (br1 i k l x r) (J i l) :=
  le_beq (fun e0 => e0 ▸ le_arC fun a0 _ e => e ▸ le_ar0 fun e => e ▸ hx e0 a0) hr
def br2 (i k : Nat) (l : List IV) (x : IV → IV → CRes) (r : CRes) : CRes := bif Nat.beq i k then arC l fun a0 l => arC l fun a1 l => ar0 l (x a0 a1) else r
theorem le_br2 {J : Nat → List IV → CRes} {i k : Nat} {l : List IV} {x : IV → IV → CRes} {r : CRes} (hx : i = k → ∀ a0 a1, le (x a0 a1) (J k [a0, a1])) (hr : le r (J i l)) : le (br2 i k l x r) (J i l) :=
  le_beq (fun e0 => e0 ▸ le_arC fun a0 _ e => e ▸ le_arC fun a1 _ e => e ▸ le_ar0 fun e => e ▸ hx e0 a0 a1) hr
def br3 (i k : Nat) (l : List IV) (x : IV → IV → IV → CRes) (r : CRes) : CRes := bif Nat.beq i k then arC l fun a0 l => arC l fun a1 l => arC l fun a2 l => ar0 l (x a0 a1 a2) else r
theorem le_br3 {J : Nat → List IV → CRes} {i k : Nat} {l : List IV} {x : IV → IV → IV → CRes} {r : CRes} (hx : i = k → ∀ a0 a1 a2, le (x a0 a1 a2) (J k [a0, a1, a2])) (hr : le r (J i l)) : le (br3 i k l x r) (J i l) :=
  le_beq (fun e0 => e0 ▸ le_arC fun a0 _ e => e ▸ le_arC fun a1 _ e => e ▸ le_arC fun a2 _ e => e ▸ le_ar0 fun e => e ▸ hx e0 a0 a1 a2) hr
def br4 (i k : Nat) (l : List IV) (x : IV → IV → IV → IV → CRes) (r : CRes) : CRes := bif Nat.beq i k then arC l fun a0 l => arC l fun a1 l => arC l fun a2 l => arC l fun a3 l => ar0 l (x a0 a1 a2 a3) else r
theorem le_br4 {J : Nat → List IV → CRes} {i k : Nat} {l : List IV} {x : IV → IV → IV → IV → CRes} {r : CRes} (hx : i = k → ∀ a0 a1 a2 a3, le (x a0 a1 a2 a3) (J k [a0, a1, a2, a3])) (hr : le r (J i l)) : le (br4 i k l x r) (J i l) :=
  le_beq (fun e0 => e0 ▸ le_arC fun a0 _ e => e ▸ le_arC fun a1 _ e => e ▸ le_arC fun a2 _ e => e ▸ le_arC fun a3 _ e => e ▸ le_ar0 fun e => e ▸ hx e0 a0 a1 a2 a3) hr
def br5 (i k : Nat) (l : List IV) (x : IV → IV → IV → IV → IV → CRes) (r : CRes) : CRes := bif Nat.beq i k then arC l fun a0 l => arC l fun a1 l => arC l fun a2 l => arC l fun a3 l => arC l fun a4 l => ar0 l (x a0 a1 a2 a3 a4) else r
theorem le_br5 {J : Nat → List IV → CRes} {i k : Nat} {l : List IV} {x : IV → IV → IV → IV → IV → CRes} {r : CRes} (hx : i = k → ∀ a0 a1 a2 a3 a4, le (x a0 a1 a2 a3 a4) (J k [a0, a1, a2, a3, a4])) (hr : le r (J i l)) : le (br5 i k l x r) (J i l) :=
  le_beq (fun e0 => e0 ▸ le_arC fun a0 _ e => e ▸ le_arC fun a1 _ e => e ▸ le_arC fun a2 _ e => e ▸ le_arC fun a3 _ e => e ▸ le_arC fun a4 _ e => e ▸ le_ar0 fun e => e ▸ hx e0 a0 a1 a2 a3 a4) hr
def br6 (i k : Nat) (l : List IV) (x : IV → IV → IV → IV → IV → IV → CRes) (r : CRes) : CRes := bif Nat.beq i k then arC l fun a0 l => arC l fun a1 l => arC l fun a2 l => arC l fun a3 l => arC l fun a4 l => arC l fun a5 l => ar0 l (x a0 a1 a2 a3 a4 a5) else r
theorem le_br6 {J : Nat → List IV → CRes} {i k : Nat} {l : List IV} {x : IV → IV → IV → IV → IV → IV → CRes} {r : CRes} (hx : i = k → ∀ a0 a1 a2 a3 a4 a5, le (x a0 a1 a2 a3 a4 a5) (J k [a0, a1, a2, a3, a4, a5])) (hr : le r (J i l)) : le (br6 i k l x r) (J i l) :=
  le_beq (fun e0 => e0 ▸ le_arC fun a0 _ e => e ▸ le_arC fun a1 _ e => e ▸ le_arC fun a2 _ e => e ▸ le_arC fun a3 _ e => e ▸ le_arC fun a4 _ e => e ▸ le_arC fun a5 _ e => e ▸ le_ar0 fun e => e ▸ hx e0 a0 a1 a2 a3 a4 a5) hr
def br7 (i k : Nat) (l : List IV) (x : IV → IV → IV → IV → IV → IV → IV → CRes) (r : CRes) : CRes := bif Nat.beq i k then arC l fun a0 l => arC l fun a1 l => arC l fun a2 l => arC l fun a3 l => arC l fun a4 l => arC l fun a5 l => arC l fun a6 l => ar0 l (x a0 a1 a2 a3 a4 a5 a6) else r
theorem le_br7 {J : Nat → List IV → CRes} {i k : Nat} {l : List IV} {x : IV → IV → IV → IV → IV → IV → IV → CRes} {r : CRes} (hx : i = k → ∀ a0 a1 a2 a3 a4 a5 a6, le (x a0 a1 a2 a3 a4 a5 a6) (J k [a0, a1, a2, a3, a4, a5, a6])) (hr : le r (J i l)) : le (br7 i k l x r) (J i l) :=
  le_beq (fun e0 => e0 ▸ le_arC fun a0 _ e => e ▸ le_arC fun a1 _ e => e ▸ le_arC fun a2 _ e => e ▸ le_arC fun a3 _ e => e ▸ le_arC fun a4 _ e => e ▸ le_arC fun a5 _ e => e ▸ le_arC fun a6 _ e => e ▸ le_ar0 fun e => e ▸ hx e0 a0 a1 a2 a3 a4 a5 a6) hr
def br8 (i k : Nat) (l : List IV) (x : IV → IV → IV → IV → IV → IV → IV → IV → CRes) (r : CRes) : CRes := bif Nat.beq i k then arC l fun a0 l => arC l fun a1 l => arC l fun a2 l => arC l fun a3 l => arC l fun a4 l => arC l fun a5 l => arC l fun a6 l => arC l fun a7 l => ar0 l (x a0 a1 a2 a3 a4 a5 a6 a7) else r
theorem le_br8 {J : Nat → List IV → CRes} {i k : Nat} {l : List IV} {x : IV → IV → IV → IV → IV → IV → IV → IV → CRes} {r : CRes} (hx : i = k → ∀ a0 a1 a2 a3 a4 a5 a6 a7, le (x a0 a1 a2 a3 a4 a5 a6 a7) (J k [a0, a1, a2, a3, a4, a5, a6, a7])) (hr : le r (J i l)) : le (br8 i k l x r) (J i l) :=
  le_beq (fun e0 => e0 ▸ le_arC fun a0 _ e => e ▸ le_arC fun a1 _ e => e ▸ le_arC fun a2 _ e => e ▸ le_arC fun a3 _ e => e ▸ le_arC fun a4 _ e => e ▸ le_arC fun a5 _ e => e ▸ le_arC fun a6 _ e => e ▸ le_arC fun a7 _ e => e ▸ le_ar0 fun e => e ▸ hx e0 a0 a1 a2 a3 a4 a5 a6 a7) hr
noncomputable def recN (f : Rec → Rec) (n : Nat) : Rec := Nat.rec (motive := fun _ => Rec) (fun _ _ _ => .fail) (fun _ R => f R) n
theorem recN_le {f : Rec → Rec} {J : Rec} (hf : ∀ R, leR R J → leR (f R) J) (n : Nat) : leR (recN f n) J := by
  induction n with
  | zero => exact fun _ _ _ => le_fail _
  | succ n ih => exact hf _ ih
theorem call_le {T : Tab} {f : FuncId} {fn : Func} {c : Code} {js : List Jn} {args : List IV} {h : H} {s : CRes} (ho : T.ov f = none) (hf : P.funcs[f]? = some fn) (hb : fn.body = some c) (hj : (match js with | j :: _ => beqL j.path [] && beqL j.live (rangeL args.length 0) | [] => false) = true)
    (hn : args.length = fn.params.size + fn.nfree) (e : le s (fj P (call P T) fn js 0 args (h.setPol (T.pol f)))) : le (s.setPol h.pol) (call P T f args h) := by
  intro hs
  cases r : fj P (call P T) fn js 0 args (h.setPol (T.pol f)) with
  | fail =>
    have : s = .fail := by
      cases s with
      | fail => rfl
      | ok v g => have := e (by simp); rw [r] at this; cases this
      | pan v g => have := e (by simp); rw [r] at this; cases this
    rw [this] at hs
    exact absurd rfl hs
  | ok v g =>
    obtain ⟨m, hm⟩ := fj_body hf hb hj hn r (by simp)
    rw [call_body ho hm (by simp), ← r, e (by intro h0; rw [h0] at hs; exact hs rfl)]
  | pan v g =>
    obtain ⟨m, hm⟩ := fj_body hf hb hj hn r (by simp)
    rw [call_body ho hm (by simp), ← r, e (by intro h0; rw [h0] at hs; exact hs rfl)]
def ovK (o : Option (List IV → H → CRes)) (l : List IV) (h : H) (x : CRes) : CRes :=
  match o with
  | some g => g l h
  | none => x
theorem run_val {T : Tab} {cf : CallF} (hc : leC cf (call P T)) {f : FuncId} {args : List IV} {h : H} {v : IV} (e : (cf f args h).val = some v) : ∃ h', call P T f args h = .ok v h' := by
  obtain ⟨h', e'⟩ := CRes.of_val e
  exact ⟨h', by rw [hc f args h (by rw [e']; simp), e']⟩
def lvK (r : CRes) : Option (Mode × H) :=
  match r with
  | .ok _ h => some (.ret, h)
  | _ => none
def lvM (st : Mode) (x : Option (Mode × H)) : Option (Mode × H) :=
  match st with
  | .done => none
  | _ => x
theorem lvM_le {st : Mode} {x y : Option (Mode × H)} (e : st ≠ .done → leO x y) : leO (lvM st x) y := by
  cases st with
  | done => intro z h; cases h
  | ret => exact e (by simp)
  | pan v => exact e (by simp)
theorem lvK_le {r s : CRes} {y : Option (Mode × H)} (hr : le r s) (e : ∀ v h', s = .ok v h' → y = some (.ret, h')) : leO (lvK r) y := by
  intro z hz
  cases r with
  | fail => cases hz
  | pan v g => cases hz
  | ok v g =>
    injection hz with hz
    subst hz
    exact e v g (hr (by simp))
end
end Go.Proofs.YtelhoddamlkfhaaGreatDoor.I
namespace Go.Proofs.YtelhoddamlkfhaaGreatDoor.I
noncomputable section
open Go
variable {P : Program} {Q : Type}
inductive DR (P : Program) {Q : Type} (h : H) : TypeId → DataW Q → List IV → Prop
  | bool {t : TypeId} {b : Bool} (u : P.underlying t = some .bool) : DR P h t (.lit (.bool b)) [.bool b]
  | int {t : TypeId} {k : IntKind} {n : Int} (u : P.underlying t = some (.int k)) (wf : (Lit.int k n).wf = true) : DR P h t (.lit (.int k n)) [.int k n]
  | str {t : TypeId} {l : List UInt8} (u : P.underlying t = some .string) (hl : l.length ≤ maxLen) : DR P h t (.lit (.string l)) [sv l]
  | nil {t e : TypeId} (u : P.underlying t = some (.slice e)) : DR P h t .nil [.nilSlice]
  | slice {t e : TypeId} {b : Nat} {elems rest : List (DataW Q)} {css : List (List IV)} (u : P.underlying t = some (.slice e)) (hl : css.length = elems.length) (hm : elems.length ≤ maxLen) (hw : ∀ c ∈ css, c.length = P.cellsOf e)
      (hc : elems ≠ [] → Cs h b false false css.flatten) (hd : ∀ (i : Nat) (d : DataW Q) (c : List IV), elems[i]? = some d → css[i]? = some c → DR P h e d c) : DR P h t (.slice elems rest) [.slice b 0 elems.length (P.cellsOf e)]
  | struct {t : TypeId} {fs : Array Field} {parts : List (DataW Q)} {xss : List (List IV)} (u : P.underlying t = some (.struct fs)) (hl : xss.length = fs.size) (hp : parts.length = fs.size)
      (hd : ∀ (i : Nat) (f : Field) (d : DataW Q) (c : List IV), fs[i]? = some f → parts[i]? = some d → xss[i]? = some c → DR P h f.type d c) : DR P h t (.agg parts) xss.flatten
def Ro (h : H) : Prop := ∀ b o, h.get b = some o → o.rw = false
def SV : Sc := ⟨fun _ => False, fun _ => True⟩
def Gr (h h' : H) : Prop := ∀ b o, h.get b = some o → h'.get b = some o
theorem Cs.gr {h h' : H} (g : Gr h h') {b : Nat} {rw fz : Bool} {cs : List IV} (c : Cs h b rw fz cs) : Cs h' b rw fz cs := by
  obtain ⟨t, h1, h2⟩ := c
  exact ⟨t, g _ _ h1, h2⟩
theorem DR.mono {h h' : H} (g : Gr h h') {t : TypeId} {d : DataW Q} {xs : List IV} (r : DR P h t d xs) : DR P h' t d xs := by
  induction r with
  | bool u => exact .bool u
  | int u wf => exact .int u wf
  | str u hl => exact .str u hl
  | nil u => exact .nil u
  | slice u hl hm hw hc hd ih => exact .slice u hl hm hw (fun hn => (hc hn).gr g) ih
  | struct u hl hp hd ih => exact .struct u hl hp ih
theorem Rel.view {w : World} {μ : Mu} {h : H} (r : Rel w SV μ h w) (ro : Ro h) {blk base lim size : Nat} {cs : T IV} (hb : blk < w.heap.size) (o : OR μ (.cells false false size cs) blk base lim w) :
    Rel w SV (μ.push h.next (blk, base, lim)) (h.push (.cells false false size cs)) w ∧ Ro (h.push (.cells false false size cs)) ∧ μ.le (μ.push h.next (blk, base, lim)) ∧ Gr h (h.push (.cells false false size cs)) := by
  have hn : μ h.next = none := r.new _ (Nat.le_refl _)
  have hle := Mu.le_push (x := (blk, base, lim)) hn
  have ro' : Ro (h.push (.cells false false size cs)) := by
    intro b p hp
    rw [H.get_push] at hp
    split at hp
    · injection hp with hp; subst hp; rfl
    · exact ro b p hp
  refine ⟨{ obj := ?_, sep := ?_, lt := ?_, new := ?_, vis := fun _ _ _ => .inl trivial, keep := r.keep, size := r.size, os := r.os, tape := r.tape, output := r.output, typ := r.typ_same hle }, ro', hle, ?_⟩
  · intro b p hp
    have hrw := ro' b p hp
    rw [H.get_push] at hp
    split at hp
    · rename_i hbn
      injection hp with hp; subst hp; subst hbn
      exact ⟨blk, base, lim, by simp [Mu.push], o.mono hle, fun h => by rw [hrw] at h; cases h⟩
    · obtain ⟨k1, k2, k3, h1, h2, h3⟩ := r.obj b p hp
      exact ⟨k1, k2, k3, hle _ _ h1, h2.mono hle, fun h => by rw [hrw] at h; cases h⟩
  · intro b c p q x y hbc hp hq hrw
    rw [ro' b p hp] at hrw; cases hrw
  · intro b x hx
    simp only [Mu.push] at hx
    split at hx
    · injection hx with hx; subst hx; exact hb
    · exact r.lt b x hx
  · intro b hb'
    have hb2 : h.next + 1 ≤ b := hb'
    simp only [Mu.push]
    rw [if_neg (by omega)]
    exact r.new b (by omega)
  · intro b p hp
    rw [H.get_push, if_neg, hp]
    rintro rfl
    rw [r.fresh _ (Nat.le_refl _)] at hp; cases hp
structure Ld (w : World) (μ : Mu) (h : H) (μ' : Mu) (h' : H) : Prop where
  rel : Rel w SV μ' h' w
  ro : Ro h'
  le : μ.le μ'
  gr : Gr h h'
  pol : h'.pol = h.pol
theorem Ld.refl {w : World} {μ : Mu} {h : H} (r : Rel w SV μ h w) (ro : Ro h) : Ld w μ h μ h := ⟨r, ro, μ.le_refl, fun _ _ h => h, rfl⟩
theorem Ld.trans {w : World} {μ μ' μ'' : Mu} {h h' h'' : H} (a : Ld w μ h μ' h') (b : Ld w μ' h' μ'' h'') : Ld w μ h μ'' h'' := ⟨b.rel, b.ro, Mu.le_trans a.le b.le, fun _ _ h => b.gr _ _ (a.gr _ _ h), b.pol.trans a.pol⟩
def fieldsOk (P : Program) : List Field → Nat → Nat → Bool
  | [], n, m => Nat.beq n m
  | f :: fs, n, m => Nat.beq f.offset n && fieldsOk P fs (n + P.cellsOf f.type) m
def okT (P : Program) (ts : List TypeId) (t : TypeId) : Bool :=
  match P.underlying t with
  | some .bool | some (.int _) | some .string => Nat.beq (P.cellsOf t) 1
  | some (.slice e) => ts.contains e && Nat.ble 1 (P.cellsOf e) && Nat.beq (P.cellsOf t) 1
  | some (.struct fs) => fieldsOk P fs.toList 0 (P.cellsOf t) && fs.toList.all fun f => ts.contains f.type
  | _ => false
def closT (P : Program) (ts : List TypeId) : Bool := ts.all (okT P ts)
abbrev trd (enc : TypeId × Value → Q) (P : Program) (w : World) : Nat → TypeId → List Value → Option (DataW Q × List MemPlace) := fun n => DataW.trod enc P w 0 (fun _ => true) true n
def Rd1 (P : Program) (w : World) (ts : List TypeId) (f : TypeId → List Value → Option (DataW Q × List MemPlace)) : Prop :=
  ∀ t cs d ps, t ∈ ts → cs.length = P.cellsOf t → f t cs = some (d, ps) → ∀ μ h, Rel w SV μ h w → Ro h →
    ∃ μ' h' xs, Ld w μ h μ' h' ∧ VRs μ' xs cs ∧ DR P h' t d xs ∧ allScalar xs = true
theorem loadL {α : Type} {w : World} {ts : List TypeId} {f : TypeId → List Value → Option (DataW Q × List MemPlace)} (IH : Rd1 P w ts f) (ty : α → TypeId) (cel : α → Option (List Value)) :
    ∀ (l : List α) (ys : List (DataW Q × List MemPlace)), (l.mapM fun a => (cel a).bind (f (ty a))) = some ys → (∀ a ∈ l, ty a ∈ ts) → (∀ a ∈ l, ∀ c, cel a = some c → c.length = P.cellsOf (ty a)) →
      ∀ μ h, Rel w SV μ h w → Ro h → ∃ μ' h' xss, Ld w μ h μ' h' ∧ List.length xss = l.length ∧ ys.length = l.length ∧
        ∀ (i : Nat) (a : α) (y : DataW Q × List MemPlace) (xs : List IV), l[i]? = some a → ys[i]? = some y → xss[i]? = some xs → DR P h' (ty a) y.1 xs ∧ allScalar xs = true ∧ ∃ c, cel a = some c ∧ VRs μ' xs c
  | [], ys, e, _, _, μ, h, r, ro => by
    simp only [List.mapM_nil, pure, Option.some.injEq] at e
    subst e
    exact ⟨μ, h, [], .refl r ro, rfl, rfl, fun i a y xs hl => by simp at hl⟩
  | a :: l, ys, e, ht, hc, μ, h, r, ro => by
    rw [List.mapM_cons] at e
    cases h1 : (cel a).bind (f (ty a)) with
    | none => rw [h1] at e; cases e
    | some y =>
      rw [h1] at e
      cases h2 : (l.mapM fun a => (cel a).bind (f (ty a))) with
      | none => rw [h2] at e; cases e
      | some ys' =>
        rw [h2] at e
        have e : some (y :: ys') = some ys := e
        injection e with e
        subst e
        cases h3 : cel a with
        | none => rw [h3] at h1; cases h1
        | some c =>
          rw [h3] at h1
          have h1 : f (ty a) c = some (y.1, y.2) := h1
          obtain ⟨μ1, g1, xs, l1, v1, d1, s1⟩ := IH _ _ _ _ (ht a (List.mem_cons_self ..)) (hc a (List.mem_cons_self ..) c h3) h1 μ h r ro
          obtain ⟨μ2, g2, xss, l2, n2, n3, d2⟩ := loadL IH ty cel l ys' h2 (fun b hb => ht b (List.mem_cons_of_mem _ hb)) (fun b hb => hc b (List.mem_cons_of_mem _ hb)) μ1 g1 l1.rel l1.ro
          refine ⟨μ2, g2, xs :: xss, l1.trans l2, by simp [n2], by simp [n3], ?_⟩
          intro i b z zs hb hz hzs
          cases i with
          | zero =>
            simp only [List.getElem?_cons_zero, Option.some.injEq] at hb hz hzs
            subst hb; subst hz; subst hzs
            exact ⟨d1.mono l2.gr, s1, c, h3, v1.mono l2.le _ _⟩
          | succ i => exact d2 i b z zs hb hz hzs
theorem mapM_get {α β : Type} {f : α → Option β} : ∀ {l : List α} {ys : List β}, l.mapM f = some ys → ys.length = l.length ∧ ∀ (i : Nat) (a : α), l[i]? = some a → f a = ys[i]?
  | [], ys, e => by
    simp only [List.mapM_nil, pure, Option.some.injEq] at e
    subst e
    exact ⟨rfl, fun i a h => by simp at h⟩
  | a :: l, ys, e => by
    rw [List.mapM_cons] at e
    cases h1 : f a with
    | none => rw [h1] at e; cases e
    | some y =>
      rw [h1] at e
      cases h2 : l.mapM f with
      | none => rw [h2] at e; cases e
      | some ys' =>
        rw [h2] at e
        have e : some (y :: ys') = some ys := e
        injection e with e
        subst e
        obtain ⟨n, g⟩ := mapM_get h2
        refine ⟨by simp [n], fun i b hb => ?_⟩
        cases i with
        | zero => simp only [List.getElem?_cons_zero, Option.some.injEq] at hb ⊢; subst hb; exact h1
        | succ i => exact g i b hb
theorem cells_get {w : World} {a : Addr} {n : Nat} {cs : List Value} (e : w.cells? 0 a n = some cs) : cs.length = n ∧ ∀ i, i < n → w.cell? (a.add i) = cs[i]? := by
  unfold World.cells? at e
  rw [if_pos (Nat.zero_le _)] at e
  obtain ⟨h1, h2⟩ := mapM_get e
  rw [List.length_range] at h1
  exact ⟨h1, fun i hi => h2 i i (by rw [List.getElem?_range hi])⟩
theorem cell_spot {w : World} {a : Addr} {v : Value} (e : w.cell? a = some v) : a.spot = none ∧ a.block < w.heap.size := by
  unfold World.cell? at e
  split at e
  · rename_i c t f hb
    split at e
    · cases e
    · rename_i hs
      refine ⟨by simpa using hs, ?_⟩
      rcases Nat.lt_or_ge a.block w.heap.size with h | h
      · exact h
      · rw [Array.getElem?_eq_none h] at hb; cases hb
  · cases e
theorem add_none {a : Addr} (h : a.spot = none) (n : Nat) : a.add n = ⟨a.block, a.off + n, none⟩ := by
  obtain ⟨b, o, s⟩ := a
  simp only at h; subst h
  unfold Addr.add
  split
  · subst_vars; rfl
  · rfl
theorem cells_spot {w : World} {a : Addr} {n : Nat} {cs : List Value} (hn : 1 ≤ n) (e : w.cells? 0 a n = some cs) : a.spot = none ∧ a.block < w.heap.size := by
  obtain ⟨h1, h2⟩ := cells_get e
  have := h2 0 (by omega)
  have hc : cs[0]? = some (cs[0]'(by omega)) := List.getElem?_eq_getElem _
  rw [hc] at this
  exact cell_spot this
theorem flat_cells {w : World} {μ : Mu} {a : Addr} (ha : a.spot = none) {es : Nat} : ∀ (css : List (List IV)) (n : Nat), (∀ (i : Nat) (c : List IV), css[i]? = some c → ∃ cs, w.cells? 0 (a.add ((n + i) * es)) es = some cs ∧ VRs μ c cs) →
    ∀ (k : Nat) (x : IV), css.flatten[k]? = some x → ∃ v, w.cell? ⟨a.block, a.off + n * es + k, none⟩ = some v ∧ VR μ x v
  | [], n, _, k, x, hx => by simp at hx
  | c :: css, n, h, k, x, hx => by
    obtain ⟨cs, h1, h2⟩ := h 0 c rfl
    obtain ⟨n1, g1⟩ := cells_get h1
    have hl := h2.length
    rw [List.flatten_cons] at hx
    rcases Nat.lt_or_ge k c.length with hk | hk
    · rw [List.getElem?_append_left hk] at hx
      obtain ⟨v, hv, hr⟩ := h2.get k x hx
      refine ⟨v, ?_, hr⟩
      have := g1 k (by omega)
      rw [hv, add_none ha, add_none rfl, Nat.add_zero] at this
      exact this
    · rw [List.getElem?_append_right hk] at hx
      obtain ⟨v, hv, hr⟩ := flat_cells ha css (n + 1) (fun i c' hc' => by
        have := h (i + 1) c' hc'
        rw [show n + (i + 1) = n + 1 + i by omega] at this
        exact this) (k - c.length) x hx
      refine ⟨v, ?_, hr⟩
      rw [← hv]
      congr 2
      rw [Nat.add_mul]; omega
theorem fields_le : ∀ {fs : List Field} {n m : Nat}, fieldsOk P fs n m = true → n ≤ m ∧ ∀ f ∈ fs, f.offset + P.cellsOf f.type ≤ m
  | [], n, m, h => by
    have := Nat.eq_of_beq_eq_true h
    exact ⟨by omega, fun f hf => by cases hf⟩
  | f :: fs, n, m, h => by
    simp only [fieldsOk, Bool.and_eq_true] at h
    have h1 := Nat.eq_of_beq_eq_true h.1
    obtain ⟨h2, h3⟩ := fields_le h.2
    refine ⟨by omega, fun g hg => ?_⟩
    rcases List.mem_cons.1 hg with rfl | hg
    · omega
    · exact h3 g hg
theorem fields_flat {μ : Mu} {cs : List Value} : ∀ {fs : List Field} {xss : List (List IV)} {n : Nat}, fieldsOk P fs n cs.length = true → xss.length = fs.length →
    (∀ (i : Nat) (f : Field) (xs : List IV), fs[i]? = some f → xss[i]? = some xs → VRs μ xs ((cs.drop f.offset).take (P.cellsOf f.type))) → VRs μ xss.flatten (cs.drop n)
  | [], [], n, h, _, _ => by
    have := Nat.eq_of_beq_eq_true h
    rw [List.drop_eq_nil_of_le (by omega)]; rfl
  | f :: fs, xs :: xss, n, h, hl, hd => by
    simp only [fieldsOk, Bool.and_eq_true] at h
    have h1 := Nat.eq_of_beq_eq_true h.1
    have h2 := hd 0 f xs rfl rfl
    have h3 := fields_flat h.2 (by simpa using hl) fun i g ys hg hy => hd (i + 1) g ys hg hy
    rw [h1] at h2
    rw [List.flatten_cons]
    have := h2.append h3
    rw [← List.drop_drop, List.take_append_drop] at this
    exact this
  | [], _ :: _, _, _, hl, _ => by simp at hl
  | _ :: _, [], _, _, hl, _ => by simp at hl
theorem scalar_flat : ∀ {xss : List (List IV)}, (∀ xs ∈ xss, allScalar xs = true) → allScalar xss.flatten = true
  | [], _ => rfl
  | xs :: xss, h => by
    rw [List.flatten_cons, allScalar_app, h xs (List.mem_cons_self ..), scalar_flat fun ys hy => h ys (List.mem_cons_of_mem _ hy)]; rfl
theorem load {enc : TypeId × Value → Q} {w : World} {ts : List TypeId} (hts : closT P ts = true) : ∀ fuel, Rd1 P w ts (trd enc P w fuel) := by
  intro fuel
  induction fuel with
  | zero => intro t cs d ps ht hcs e; cases e
  | succ fuel IH =>
    intro t cs d ps ht hcs e μ h r ro
    have ok := List.all_eq_true.1 hts t ht
    simp only [trd, DataW.trod] at e
    unfold okT at ok
    split at e
    · rename_i b hu
      injection e with e; injection e with e1 e2; subst e1
      exact ⟨μ, h, [.bool b], .refl r ro, ⟨_, _, rfl, rfl, rfl⟩, .bool hu, rfl⟩
    · rename_i k k' n hu
      split at e
      · rename_i hk
        injection e with e; injection e with e1 e2; subst e1
        obtain ⟨rfl, wf⟩ := hk
        exact ⟨μ, h, [.int _ n], .refl r ro, ⟨_, _, rfl, rfl, rfl⟩, .int hu wf, rfl⟩
      · cases e
    · rename_i hu; rw [hu] at ok; cases ok
    · rename_i s hu
      split at e
      · rename_i hk
        injection e with e; injection e with e1 e2; subst e1
        exact ⟨μ, h, [sv s.data.toList], .refl r ro, ⟨_, _, rfl, ⟨s, rfl, by unfold pack; congr 1⟩, rfl⟩, .str hu (by simpa using hk), rfl⟩
      · cases e
    · rename_i hu; rw [hu] at ok; cases ok
    · rename_i hu; rw [hu] at ok; cases ok
    · rename_i el hu
      injection e with e; injection e with e1 e2; subst e1
      exact ⟨μ, h, [.nilSlice], .refl r ro, ⟨_, _, rfl, rfl, rfl⟩, .nil hu, rfl⟩
    · rename_i el a len cap hu
      rw [hu] at ok
      simp only [Bool.and_eq_true] at ok
      obtain ⟨⟨o1, o2⟩, o3⟩ := ok
      have o2 := Nat.le_of_ble_eq_true o2
      have hel : el ∈ ts := by simpa using o1
      split at e
      · rename_i hb
        obtain ⟨_, hle, hcap⟩ := hb
        cases hm : (List.range len).mapM fun i => (w.cells? 0 (a.add (i * P.cellsOf el)) (P.cellsOf el)).bind (DataW.trod enc P w 0 (fun _ => true) true fuel el) with
        | none => rw [hm] at e; cases e
        | some elems =>
          rw [hm] at e
          simp only [Option.bind_some, if_true] at e
          cases hm2 : (List.range (cap - len)).mapM fun j => (w.cells? 0 (a.add ((len + j) * P.cellsOf el)) (P.cellsOf el)).bind (DataW.trod enc P w 0 (fun _ => true) true fuel el) with
          | none => rw [hm2] at e; cases e
          | some rest =>
            rw [hm2] at e
            simp only [Option.map_some] at e
            injection e with e; injection e with e1 e2; subst e1
            obtain ⟨μ1, h1, css, l1, n1, n2, d1⟩ := loadL IH (fun _ => el) (fun i => w.cells? 0 (a.add (i * P.cellsOf el)) (P.cellsOf el)) (List.range len) elems hm (fun _ _ => hel) (fun i _ c hc => (cells_get hc).1) μ h r ro
            rw [List.length_range] at n1 n2
            have hi : ∀ (i : Nat) (c : List IV), css[i]? = some c → ∃ y, elems[i]? = some y ∧ DR P h1 el y.1 c ∧ allScalar c = true ∧ ∃ cs, w.cells? 0 (a.add (i * P.cellsOf el)) (P.cellsOf el) = some cs ∧ VRs μ1 c cs := by
              intro i c hc
              have hlt : i < css.length := by
                rcases Nat.lt_or_ge i css.length with h | h
                · exact h
                · rw [List.getElem?_eq_none h] at hc; cases hc
              have hy : elems[i]? = some (elems[i]'(by omega)) := List.getElem?_eq_getElem _
              exact ⟨_, hy, d1 i i _ c (by rw [List.getElem?_range (by omega)]) hy hc⟩
            have hw : ∀ c ∈ css, c.length = P.cellsOf el := by
              intro c hc
              obtain ⟨i, hi'⟩ := List.getElem?_of_mem hc
              obtain ⟨y, _, _, _, cs, q1, q2⟩ := hi i c hi'
              rw [← (cells_get q1).1, q2.length]
            have hfl : css.flatten.length = len * P.cellsOf el := by
              rw [← n1]
              clear hi d1 n1
              induction css with
              | nil => simp
              | cons c css ih =>
                rw [List.flatten_cons, List.length_append, hw c (List.mem_cons_self ..), ih fun c hc => hw c (List.mem_cons_of_mem _ hc), List.length_cons, Nat.succ_mul]; omega
            rcases Nat.eq_zero_or_pos cap with h0 | h0
            · have hl0 : len = 0 := by omega
              subst hl0
              have he : elems = [] := List.eq_nil_of_length_eq_zero n2
              have hc0 : css = [] := List.eq_nil_of_length_eq_zero n1
              subst he; subst hc0
              exact ⟨μ1, h1, [.slice 0 0 0 (P.cellsOf el)], l1, ⟨_, _, rfl, ⟨a, cap, rfl, by omega, .inl h0⟩, rfl⟩, .slice (elems := []) (css := []) hu rfl (by simp) (by simp) (fun hn => absurd rfl hn) (fun i d c hd => by simp at hd), rfl⟩
            · have hsp : a.spot = none ∧ a.block < w.heap.size := by
                rcases Nat.eq_zero_or_pos len with hl | hl
                · have := (mapM_get hm2).2 0 0 (by rw [List.getElem?_range (by omega)])
                  have hrl := (mapM_get hm2).1
                  rw [List.length_range] at hrl
                  have hr0 : rest[0]? = some (rest[0]'(by omega)) := List.getElem?_eq_getElem _
                  rw [hr0] at this
                  cases hq : w.cells? 0 (a.add ((len + 0) * P.cellsOf el)) (P.cellsOf el) with
                  | none => rw [hq] at this; cases this
                  | some q =>
                    rw [hl, Nat.add_zero, Nat.zero_mul] at hq
                    exact cells_spot o2 hq
                · have hc : css[0]? = some (css[0]'(by omega)) := List.getElem?_eq_getElem _
                  obtain ⟨y, _, _, _, cs, q1, q2⟩ := hi 0 _ hc
                  rw [Nat.zero_mul] at q1
                  exact cells_spot o2 q1
              have hs : allScalar css.flatten = true := scalar_flat fun c hc => by
                obtain ⟨i, hi'⟩ := List.getElem?_of_mem hc
                obtain ⟨y, _, _, q, _⟩ := hi i c hi'
                exact q
              have hor : OR μ1 (.cells false false css.flatten.length (T.arr css.flatten)) a.block a.off (a.off + cap * P.cellsOf el) w := by
                refine ⟨?_, fun i x hx1 hx => ?_, fun hf => by cases hf⟩
                · rw [hfl]; exact Nat.add_le_add_left (Nat.mul_le_mul_right _ hle) _
                · rw [get_setList_leaf] at hx
                  refine ⟨allScalar_get hs hx, ?_⟩
                  obtain ⟨v, q1, q2⟩ := flat_cells hsp.1 css 0 (fun i c hc => by
                    obtain ⟨_, _, _, _, q⟩ := hi i c hc
                    rw [Nat.zero_add]; exact q) i x hx
                  rw [Nat.zero_mul, Nat.add_zero] at q1
                  exact ⟨v, q1, q2⟩
              obtain ⟨r2, ro2, le2, gr2⟩ := l1.rel.view l1.ro hsp.2 hor
              refine ⟨_, _, [.slice h1.next 0 elems.length (P.cellsOf el)], l1.trans ⟨r2, ro2, le2, gr2, rfl⟩, ?_, ?_, rfl⟩
              · refine ⟨_, _, rfl, ⟨a, cap, by rw [n2], by rw [n2]; exact hle, .inr ⟨a.block, a.off, a.off + cap * P.cellsOf el, by simp [Mu.push], ?_, by omega⟩⟩, rfl⟩
                rw [← add_none hsp.1 0]; rfl
              · have := DR.slice (P := P) (h := h1.push (.cells false false css.flatten.length (T.arr css.flatten))) (b := h1.next) (elems := elems.map (·.1)) (rest := rest.map (·.1)) (css := css) hu (by simp [n1, n2]) (by simp; omega) hw (fun _ => .push _) (fun i d c hd hc => by
                  obtain ⟨y, q1, q2, _⟩ := hi i c hc
                  rw [List.getElem?_map, q1] at hd
                  injection hd with hd; subst hd
                  exact q2.mono gr2)
                rw [List.length_map] at this
                exact this
      · cases e
    · rename_i cs xo cs0 fs hu
      rw [hu] at ok
      simp only [Bool.and_eq_true, List.all_eq_true] at ok
      obtain ⟨o1, o2⟩ := ok
      split at e
      · rename_i hl
        cases hm : fs.toList.mapM fun f => DataW.trod enc P w 0 (fun _ => true) true fuel f.type ((cs.drop f.offset).take (P.cellsOf f.type)) with
        | none => rw [hm] at e; cases e
        | some ys =>
          rw [hm] at e
          simp only [Option.map_some] at e
          injection e with e; injection e with e1 e2; subst e1
          rw [← hl] at o1
          have hfl := (fields_le o1).2
          obtain ⟨μ1, h1, xss, l1, n1, n2, d1⟩ := loadL IH (fun f : Field => f.type) (fun f => some ((cs.drop f.offset).take (P.cellsOf f.type))) fs.toList ys hm (fun f hf => by simpa using o2 f hf) (fun f hf c hc => by
            injection hc with hc; subst hc
            have := hfl f hf
            rw [List.length_take, List.length_drop]; omega) μ h r ro
          have hi : ∀ (i : Nat) (f : Field) (xs : List IV), fs.toList[i]? = some f → xss[i]? = some xs → ∃ y, ys[i]? = some y ∧ DR P h1 f.type y.1 xs ∧ allScalar xs = true ∧ VRs μ1 xs ((cs.drop f.offset).take (P.cellsOf f.type)) := by
            intro i f xs hf hx
            have hlt : i < xss.length := by
              rcases Nat.lt_or_ge i xss.length with h | h
              · exact h
              · rw [List.getElem?_eq_none h] at hx; cases hx
            have hy : ys[i]? = some (ys[i]'(by omega)) := List.getElem?_eq_getElem _
            obtain ⟨q1, q2, c, q3, q4⟩ := d1 i f _ xs hf hy hx
            injection q3 with q3; subst q3
            exact ⟨_, hy, q1, q2, q4⟩
          refine ⟨μ1, h1, xss.flatten, l1, ?_, ?_, ?_⟩
          · have := fields_flat o1 n1 fun i f xs hf hx => by
              obtain ⟨_, _, _, _, q⟩ := hi i f xs hf hx
              exact q
            rwa [List.drop_zero] at this
          · refine .struct hu (by rw [n1, Array.length_toList]) (by rw [List.length_map, n2, Array.length_toList]) fun i f d c hf hd hc => ?_
            obtain ⟨y, q1, q2, _⟩ := hi i f c (by rw [Array.getElem?_toList]; exact hf) hc
            rw [List.getElem?_map, q1] at hd
            injection hd with hd; subst hd
            exact q2
          · refine scalar_flat fun c hc => ?_
            obtain ⟨i, hi'⟩ := List.getElem?_of_mem hc
            have hlt : i < xss.length := by
              rcases Nat.lt_or_ge i xss.length with h | h
              · exact h
              · rw [List.getElem?_eq_none h] at hi'; cases hi'
            obtain ⟨_, _, _, q, _⟩ := hi i (fs.toList[i]'(by omega)) c (List.getElem?_eq_getElem _) hi'
            exact q
      · rename_i hn; exact absurd hcs hn
    all_goals first | (cases e; done) | (rename_i hu; rw [hu] at ok; cases ok; done)
end
end Go.Proofs.YtelhoddamlkfhaaGreatDoor.I
namespace Go.Proofs.YtelhoddamlkfhaaGreatDoor.I
noncomputable section
open Go Go.WideShapes Go.ChangeShapes
variable {P : Program} {Q : Type} {enc : TypeId × Value → Q} {w : World} {ts : List TypeId}
theorem Ld.gd {μ μ' : Mu} {h h' : H} (l : Ld w μ h μ' h') (hp : h.pol = true) : Gd h' := ⟨fun b hb => l.rel.fresh b hb, l.pol.trans hp⟩
end
end Go.Proofs.YtelhoddamlkfhaaGreatDoor.I
namespace Go.Proofs.YtelhoddamlkfhaaGreatDoor.I
noncomputable section
open Go
structure Dp (h₀ h : H) : Prop where
  wf : WF h
  ext : Ext h₀ h
  low : ∀ b, b < h₀.next → h.get b = h₀.get b
theorem Dp.start {h : H} (g : Gd h) : Dp (h.setPol false) (h.setPol false) := ⟨g.wf, .refl _, fun _ _ => rfl⟩
theorem Dp.newI {h₀ h : H} (d : Dp h₀ h) {cs : List IV} (hs : allScalar cs = true) : ∃ h', I.newI h cs = some (.ptr h.next 0, h') ∧ Dp h₀ h' ∧ Cs h' h.next true false cs ∧ (∀ b, b < h.next → h'.get b = h.get b) ∧ h'.next = h.next + 1 := by
  refine ⟨_, by rw [newI_eq]; rw [if_pos hs], ?_, .push cs, fun b hb => by rw [H.get_push, if_neg (by omega)], rfl⟩
  obtain ⟨h1, h2⟩ := Step.push h (.cells true false cs.length (T.arr cs)) d.wf
  exact ⟨h1, d.ext.trans h2, fun b hb => by rw [H.get_push, if_neg (by have := d.ext.next; omega)]; exact d.low b hb⟩
theorem Dp.lit {h₀ h : H} (d : Dp h₀ h) (hp : h.pol = false) {es : Nat} {z : List IV} {vs : List IV} (hz : z.length = es) (hv : ∀ v ∈ vs, v.cells.length = es) (hs : allScalar (cellsOf vs) = true) :
    ∃ h', bslK false es z vs.length (partsFrom vs 0) h = some (.slice h.next 0 vs.length es, h') ∧ Dp h₀ h' ∧ Cs h' h.next true false (cellsOf vs) ∧ (∀ b, b < h.next → h'.get b = h.get b) ∧ h'.next = h.next + 1 := by
  have := bslK_all (w := false) hz hv hs h
  rw [hp] at this
  simp only [Bool.not_false, Bool.and_true, Bool.false_and, Bool.not_true] at this
  refine ⟨_, this, ?_, .push _, fun b hb => by rw [H.get_push, if_neg (by omega)], rfl⟩
  obtain ⟨h1, h2⟩ := Step.push h (.cells true false (cellsOf vs).length (T.arr (cellsOf vs))) d.wf
  exact ⟨h1, d.ext.trans h2, fun b hb => by rw [H.get_push, if_neg (by have := d.ext.next; omega)]; exact d.low b hb⟩
theorem Dp.st {h₀ h : H} (d : Dp h₀ h) {b : Nat} {fz : Bool} {cs : List IV} (hb : h₀.next ≤ b) (c : Cs h b true fz cs) {n off : Nat} {v : IV} (hv : v.cells.length = n) (hs : allScalar v.cells = true) (hle : off + n ≤ cs.length) :
    ∃ h', stA n h (.ptr b off) v = some h' ∧ Dp h₀ h' ∧ Cs h' b true fz (placeL cs off v.cells) ∧ (∀ k, k ≠ b → h'.get k = h.get k) ∧ h'.next = h.next ∧ h'.pol = h.pol := by
  obtain ⟨o, e, c', hne⟩ := c.st hv hs hle
  obtain ⟨t, h1, _⟩ := c
  refine ⟨h.put b o, e, ?_, c', fun k hk => by rw [H.get_put, if_neg hk], rfl, rfl⟩
  obtain ⟨q1, q2⟩ := Step.put (o := o) h1 (fun fz size cs hc => by cases hc) d.wf
  exact ⟨q1, d.ext.trans q2, fun k hk => by rw [H.get_put, if_neg (by omega)]; exact d.low k hk⟩
theorem Dp.app {h₀ h : H} (d : Dp h₀ h) (hp : h.pol = false) {b len es bytes n : Nat} {fz : Bool} {cells new : List IV} {x : IV} (hb : h₀.next ≤ b) (c : Cs h b true fz cells) (hle : len * es ≤ cells.length) (hs : sourceI h es x = some (new, n)) (hl : new.length = n * es) (hsc : allScalar new = true)
    (hn : n ≠ 0) (hroom : (2 * (len + n) + 2000) * bytes ≤ 2 ^ 46) :
    ∃ h', appK es bytes h (.slice b 0 len es) x = some (.slice h.next 0 (len + n) es, h') ∧ Dp h₀ h' ∧ h'.pol = false ∧ h₀.next ≤ h.next ∧ Cs h' h.next true fz (cells.take (len * es) ++ new) := by
  obtain ⟨t, h1, h2⟩ := c
  have q := (Step.drop h1 (fun fz size cs hc => by cases hc)).trans (.push _ (.cells true fz ((len + n) * es) (setList t (len * es) new))) d.wf
  refine ⟨_, ?_, ⟨q.1, d.ext.trans q.2, fun k hk => ?_⟩, hp, d.ext.next, ⟨setList t (len * es) new, ?_, fun i hi => ?_⟩⟩
  · simp only [appK, hs, hsc, Bool.true_eq_false, if_false, if_neg hn, ne_eq, not_true_eq_false, h1, hp]
    rw [if_pos ⟨trivial, hle, hroom⟩]
  · have hlt : k < h.next := Nat.lt_of_lt_of_le hk d.ext.next
    rw [H.get_push, if_neg (by show k ≠ h.next; omega), H.get_drop, if_neg (by omega)]
    exact d.low k hk
  · rw [H.get_push, if_pos (show h.next = (h.drop b).next from rfl), List.length_append, List.length_take, Nat.min_eq_left hle, hl, Nat.add_mul]
  · rw [List.length_append, List.length_take, Nat.min_eq_left hle] at hi
    rw [get_setList]
    have hlt : (cells.take (len * es)).length = len * es := by rw [List.length_take, Nat.min_eq_left hle]
    by_cases hc : len * es ≤ i ∧ i < len * es + new.length
    · rw [if_pos hc, List.getElem?_append_right (by omega), hlt]
    · rw [if_neg hc, List.getElem?_append_left (by omega), List.getElem?_take, if_pos (by omega)]; exact h2 i (by omega)
theorem Dp.done {h h' : H} (g : Gd h) (d : Dp (h.setPol false) h') : Ex h (h'.setPol true) :=
  ⟨⟨d.wf, rfl⟩, ⟨g.pol.symm, d.ext.next, fun b fz size cs hb => d.ext.imm b fz size cs hb⟩, fun b o hb _ => by
    have hlt : b < h.next := by
      rcases Nat.lt_or_ge b h.next with hl | hl
      · exact hl
      · rw [g.wf b hl] at hb; cases hb
    exact (d.low b hlt).trans hb⟩
theorem Ch.split {α : Type} {R : α → List IV → Prop} {es : Nat} : ∀ {l : List α} {y : α} {cs : List IV}, Ch R es (l ++ [y]) cs → Ch R es l (cs.take (l.length * es)) ∧ R y ((cs.drop (l.length * es)).take es) ∧ cs.length = l.length * es + es
  | [], y, cs, ⟨c, d, h1, h2, h3, h4⟩ => by
    have h4 : d = [] := h4
    subst h4; subst h1
    refine ⟨by simp [Ch], by simpa [← h2] using h3, by simp [h2]⟩
  | x :: l, y, cs, ⟨c, d, h1, h2, h3, h4⟩ => by
    obtain ⟨q1, q2, q3⟩ := h4.split
    subst h1
    have e : (x :: l).length * es = c.length + l.length * es := by rw [List.length_cons, Nat.succ_mul, h2]; omega
    rw [e, List.take_append, List.drop_append]
    have h5 : c.drop (c.length + l.length * es) = [] := List.drop_eq_nil_of_le (by omega)
    have h6 : c.take (c.length + l.length * es) = c := List.take_of_length_le (by omega)
    rw [h5, h6, List.nil_append, show c.length + l.length * es - c.length = l.length * es by omega]
    exact ⟨⟨c, _, rfl, h2, h3, q1⟩, q2, by rw [List.length_append]; omega⟩
theorem LR.gr {α : Type} {h h' : H} (g : Gr h h') {es : Nat} {R Q : α → List IV → Prop} (hq : ∀ y c, R y c → Q y c) {l : List α} {v : IV} (r : LR h es R l v) : LR h' es Q l v := by
  rcases r with r | ⟨b, off, cs, h1, ⟨fz, h2⟩, h3, h4⟩
  · exact .inl r
  · exact .inr ⟨b, off, cs, h1, ⟨fz, h2.gr g⟩, h3, h4.mono hq⟩
theorem XR.gr {h h' : H} (g : Gr h h') : ∀ (n : Nat) {e : E} {cs : List IV}, XR h n e cs → XR h' n e cs
  | 0, _, _, r => r
  | n + 1, .mk _ _ _ _ _ _, _, ⟨K, h1, h2⟩ => ⟨K, h1, LR.gr g (fun y c r => XR.gr g n r) h2⟩
theorem Ch.scalar {α : Type} {R : α → List IV → Prop} {es : Nat} (hR : ∀ x c, R x c → allScalar c = true) : ∀ {l : List α} {cs : List IV}, Ch R es l cs → allScalar cs = true
  | [], _, e => by simp only [Ch] at e; subst e; rfl
  | x :: l, _, ⟨c, d, h1, h2, h3, h4⟩ => by subst h1; rw [allScalar_app, hR x c h3, h4.scalar hR]; rfl
variable {P : Program} {w₀ : World} {S : Sc}
end
end Go.Proofs.YtelhoddamlkfhaaGreatDoor.I
namespace Go.Proofs.YtelhoddamlkfhaaGreatDoor.I
noncomputable section
open Go
variable {P : Program}
end
end Go.Proofs.YtelhoddamlkfhaaGreatDoor.I
namespace Go.Proofs.YtelhoddamlkfhaaGreatDoor.I
noncomputable section
open Go
def arQ : List IV → (IV → List IV → CRes) → CRes := @List.rec IV (fun _ => (IV → List IV → CRes) → CRes) (fun _ => .fail) (fun a l _ k => k a l)
theorem arQ_eq : arQ = arC := by funext l k; cases l <;> rfl
def ar0Q : List IV → CRes → CRes := @List.rec IV (fun _ => CRes → CRes) (fun x => x) (fun _ _ _ _ => .fail)
theorem ar0Q_eq : ar0Q = ar0 := by funext l k; cases l <;> rfl
def QsP (r : CRes) (p : Bool) : CRes := @CRes.rec (fun _ => CRes) (fun v h => .ok v ⟨h.next, h.objs, p, h.tys⟩) (fun v h => .pan v ⟨h.next, h.objs, p, h.tys⟩) .fail r
theorem QsP_eq (r : CRes) (p : Bool) : QsP r p = r.setPol p := by cases r <;> rfl
theorem le_brec {c : Bool} {a b s : CRes} (ha : le a s) (hb : le b s) : le (@Bool.rec (fun _ => CRes) b a c) s := by cases c <;> assumption
theorem le_ovK {P : Program} {T : Tab} {f : FuncId} {l : List IV} {h : H} {N : CRes} (hN : T.ov f = none → le N (call P T f l h)) : le (ovK (T.ov f) l h N) (call P T f l h) := by
  cases e : T.ov f with
  | none => exact hN e
  | some g => exact fun hn => call_tab e rfl hn
def brQ0 (i k : Nat) (l : List IV) (x : CRes) (r : CRes) : CRes := @Bool.rec (fun _ => CRes) r (ar0Q l (x)) (Nat.beq i k)
theorem brQ0_eq : brQ0 = br0 := by
  funext i k l x r
  unfold brQ0 br0
  rw [ar0Q_eq]
  cases Nat.beq i k <;> rfl
def brQ1 (i k : Nat) (l : List IV) (x : IV → CRes) (r : CRes) : CRes := @Bool.rec (fun _ => CRes) r (arQ l fun a0 l => ar0Q l (x a0)) (Nat.beq i k)
theorem brQ1_eq : brQ1 = br1 := by
  funext i k l x r
  unfold brQ1 br1
  rw [arQ_eq, ar0Q_eq]
  cases Nat.beq i k <;> rfl
def brQ2 (i k : Nat) (l : List IV) (x : IV → IV → CRes) (r : CRes) : CRes := @Bool.rec (fun _ => CRes) r (arQ l fun a0 l => arQ l fun a1 l => ar0Q l (x a0 a1)) (Nat.beq i k)
theorem brQ2_eq : brQ2 = br2 := by
  funext i k l x r
  unfold brQ2 br2
  rw [arQ_eq, ar0Q_eq]
  cases Nat.beq i k <;> rfl
def brQ3 (i k : Nat) (l : List IV) (x : IV → IV → IV → CRes) (r : CRes) : CRes := @Bool.rec (fun _ => CRes) r (arQ l fun a0 l => arQ l fun a1 l => arQ l fun a2 l => ar0Q l (x a0 a1 a2)) (Nat.beq i k)
theorem brQ3_eq : brQ3 = br3 := by
  funext i k l x r
  unfold brQ3 br3
  rw [arQ_eq, ar0Q_eq]
  cases Nat.beq i k <;> rfl
def brQ4 (i k : Nat) (l : List IV) (x : IV → IV → IV → IV → CRes) (r : CRes) : CRes := @Bool.rec (fun _ => CRes) r (arQ l fun a0 l => arQ l fun a1 l => arQ l fun a2 l => arQ l fun a3 l => ar0Q l (x a0 a1 a2 a3)) (Nat.beq i k)
theorem brQ4_eq : brQ4 = br4 := by
  funext i k l x r
  unfold brQ4 br4
  rw [arQ_eq, ar0Q_eq]
  cases Nat.beq i k <;> rfl
variable {P : Program}
end
end Go.Proofs.YtelhoddamlkfhaaGreatDoor.I
namespace Go.Proofs.YtelhoddamlkfhaaGreatDoor.I
noncomputable section
open Go
variable {P : Program} {E : World → Sc → Prop}
structure GoodT (P : Program) (E : World → Sc → Prop) (T : Tab) : Prop where
  snd : ∀ w₀ S, E w₀ S → OvS P w₀ S T.ov
  step : OvStep T
def Tab.add (T : Tab) (f : FuncId) (g : List IV → H → CRes) : Tab := ⟨fun x => bif Nat.beq x f then some g else T.ov x, T.pol⟩
def Tab.none (pol : FuncId → Bool) : Tab := ⟨fun _ => .none, pol⟩
theorem GoodT.none (pol : FuncId → Bool) : GoodT P E (Tab.none pol) := ⟨fun _ _ _ _ _ h => (nomatch h), fun _ _ h => (nomatch h)⟩
theorem GoodT.put {T : Tab} (t : GoodT P E T) {f : FuncId} {g : List IV → H → CRes}
    (hs : ∀ w₀ S, E w₀ S → ∀ (args : List IV) (h : H) (μ : Mu) (w : World) (cargs : Array Value), Rel w₀ S μ h w → VRs μ args cargs.toList → CallR P w₀ S μ f cargs w (g args h)) (hst : ∀ args h, (g args h).Steps h) : GoodT P E (T.add f g) := by
  have key : ∀ {x : FuncId} {F : List IV → H → CRes}, (T.add f g).ov x = some F → (x = f ∧ F = g) ∨ T.ov x = some F := by
    intro x F e
    simp only [Tab.add, I.T.bif_beq] at e
    split at e
    · rename_i h; injection e with e; exact .inl ⟨h, e.symm⟩
    · exact .inr e
  refine ⟨fun w₀ S es x F e args h μ w cargs r hv => ?_, fun x F e args h => ?_⟩
  · rcases key e with ⟨rfl, rfl⟩ | e'
    · exact hs w₀ S es args h μ w cargs r hv
    · exact t.snd w₀ S es x F e' args h μ w cargs r hv
  · rcases key e with ⟨rfl, rfl⟩ | e'
    · exact hst args h
    · exact t.step x F e' args h
theorem GoodT.sound (hE : EnvK E) (hmix : P.follows .mixedOrders = true) (hnn : NoNum P) {T : Tab} (t : GoodT P E T) : ∀ w₀ S, E w₀ S → CallS P w₀ S (call P T) := call_soundE hE t.snd hmix hnn
theorem GoodT.pure (hE : EnvK E) (hmix : P.follows .mixedOrders = true) (hnn : NoNum P) {T : Tab} (t : GoodT P E T) {f : FuncId} {g : List IV → Option IV} (q : PureT P (call P T) f g) : GoodT P E (T.add f (pureF g)) :=
  t.put (fun w₀ S es args h μ w cargs r hv => pureF_SE hE (t.sound hE hmix hnn) hnn q w₀ S es args h μ w cargs r hv) (pureF_step _)
theorem GoodT.also (hE : EnvK E) (hmix : P.follows .mixedOrders = true) (hnn : NoNum P) {T T' : Tab} (t : GoodT P E T) (t' : GoodT P E T') {f : FuncId} {g : List IV → Option IV} (q : PureT P (call P T) f g) : GoodT P E (T'.add f (pureF g)) :=
  t'.put (fun w₀ S es args h μ w cargs r hv => pureF_SE hE (t.sound hE hmix hnn) hnn q w₀ S es args h μ w cargs r hv) (pureF_step _)
structure Dec (α : Type) where
  dec : IV → Option α
  enc : α → IV
  law : ∀ v a, dec v = some a → v = enc a
  ret : ∀ a, dec (enc a) = some a
  fl : ∀ a, flat (enc a) = true
def dS : Dec Bs where
  dec v := match v with
    | .str s => bif s.eq ⟨(unp s).length, packL (unp s)⟩ then some (unp s) else none
    | _ => none
  enc := sv
  law v a h := by
    split at h
    · rename_i s
      cases he : s.eq ⟨(unp s).length, packL (unp s)⟩ with
      | false => rw [he] at h; cases h
      | true =>
        rw [he] at h
        injection h with h
        subst h
        rw [sv, ← Str.eq_iff he]
    · cases h
  ret a := by simp only [sv, unp_sv, Str.eq_self, cond_true]
  fl a := rfl
def fn0 (v : IV) (args : List IV) : Option IV :=
  match args with
  | [] => some v
  | _ => none
def fn2 {α β : Type} (A : Dec α) (B : Dec β) (F : α → β → Option IV) (args : List IV) : Option IV :=
  match args with
  | [x, y] => (A.dec x).bind fun a => (B.dec y).bind fun b => F a b
  | _ => none
theorem fn2_inv {α β : Type} {A : Dec α} {B : Dec β} {F : α → β → Option IV} {args : List IV} {v : IV} (h : fn2 A B F args = some v) : ∃ a b, args = [A.enc a, B.enc b] ∧ F a b = some v := by
  unfold fn2 at h
  split at h
  · rename_i x y
    cases hx : A.dec x with
    | none => rw [hx] at h; cases h
    | some a =>
      rw [hx] at h
      cases hy : B.dec y with
      | none => rw [hy] at h; cases h
      | some b => rw [hy] at h; exact ⟨a, b, by rw [A.law x a hx, B.law y b hy], h⟩
  · cases h
theorem pure0 {cf : CallF} {f : FuncId} {fn : Func} {c : Code} (hf : P.funcs[f]? = some fn) (hb : fn.body = some c) {v : IV} (hv : flat v = true) (h : ∃ h', cf f [] H0 = .ok v h') : PureT P cf f (fn0 v) :=
  ⟨⟨fn, c, hf, hb⟩, fun args u e => by
    unfold fn0 at e
    split at e
    · injection e with e; subst e; exact ⟨rfl, hv, true, h⟩
    · cases e⟩
theorem VR_sv {μ : Mu} {l : Bs} {v : Value} (h : VR μ (sv l) v) : ∃ b : ByteArray, v = .string b ∧ b.data.toList = l := by
  obtain ⟨b, rfl, h⟩ := h
  refine ⟨b, rfl, ?_⟩
  have h2 : IV.str (pack b) = sv l := congrArg IV.str h.symm
  rw [sv_pack] at h2
  exact sv_inj h2
def noEscapeI (args : List IV) (h : H) : CRes :=
  match args with
  | [x] => .ok x h
  | _ => .fail
theorem noEscapeI_step (args : List IV) (h : H) : (noEscapeI args h).Steps h := by
  unfold noEscapeI
  split
  · exact Step.refl h
  · trivial
theorem noEscape_S {f : FuncId} {fn : Func} (hf : P.funcs[f]? = some fn) (hname : (fn.name == "runtime.NumGoroutine") = false) (hb : fn.body.isNone = true) (hn : Extern.findNext fn = none)
    (he : Extern.find fn = some Extern.AbiNoEscape.same) {w₀ : World} {S : Sc} (args : List IV) (h : H) (μ : Mu) (w : World) (cargs : Array Value) (r : Rel w₀ S μ h w) (hv : VRs μ args cargs.toList) :
    CallR P w₀ S μ f cargs w (noEscapeI args h) := by
  unfold noEscapeI
  split
  · rename_i x
    obtain ⟨v, vs, h1, h2, h3⟩ := hv
    simp only [VRs] at h3; subst h3
    have ha : cargs = #[v] := Array.toList_inj.1 h1
    subst ha
    refine .inr ⟨v, w, μ, ?_, μ.le_refl, r, h2⟩
    rw [run_callFunc_extern hf hname hb hn he]
    rfl
  · trivial
def H.skip (h : H) : H := ⟨h.next + 1, h.objs, h.pol, h.tys⟩
theorem Step.skip (h : H) : Step h h.skip := fun w =>
  ⟨fun b hb => w b (Nat.le_of_succ_le hb), rfl, Nat.le_succ _, fun b fz size cs hb => ⟨fz, hb⟩⟩
theorem Ex.skip {h : H} (g : Gd h) : Ex h h.skip := by
  obtain ⟨h1, h2⟩ := Step.skip h g.wf
  exact ⟨⟨h1, g.pol⟩, h2, fun b o hb _ => hb⟩
theorem Rel.skip {w₀ : World} {S : Sc} {μ : Mu} {h : H} {w w' : World} (r : Rel w₀ S μ h w) (b : Go.RowKit.Below w.heap.size w w') {N lim : Nat} (h1 : w.heap.size ≤ N) (h2 : N < w'.heap.size) : Rel w₀ S (μ.push h.next (N, 0, lim)) h.skip w' := by
  have q := r.below b
  have hn := r.new h.next (Nat.le_refl _)
  have hle := Mu.le_push (x := (N, 0, lim)) hn
  refine { obj := ?_, sep := ?_, lt := ?_, new := ?_, vis := ?_, keep := q.keep, size := q.size, os := q.os, tape := q.tape, output := q.output, typ := q.typ_same hle }
  · intro c o hc
    obtain ⟨k1, k2, k3, e1, e2, e3⟩ := q.obj c o hc
    exact ⟨k1, k2, k3, hle _ _ e1, e2.mono hle, e3⟩
  · intro c d o p x y hne hc hd hr hx hy
    have e : ∀ c o, h.get c = some o → c ≠ h.next := by
      rintro c o hc rfl
      obtain ⟨k1, k2, k3, e1, _⟩ := r.obj _ o hc
      rw [hn] at e1; cases e1
    simp only [Mu.push, if_neg (e c o hc)] at hx
    simp only [Mu.push, if_neg (e d p hd)] at hy
    exact q.sep c d o p x y hne hc hd hr hx hy
  · intro c x hx
    simp only [Mu.push] at hx
    split at hx
    · injection hx with hx; subst hx; exact h2
    · exact q.lt c x hx
  · intro c hc
    have hc' : h.next + 1 ≤ c := hc
    simp only [Mu.push]
    rw [if_neg (by omega)]
    exact q.new c (by omega)
  · intro c x hx
    simp only [Mu.push] at hx
    split at hx
    · injection hx with hx; subst hx
      exact .inr (Nat.le_trans r.size h1)
    · exact q.vis c x hx
end
end Go.Proofs.YtelhoddamlkfhaaGreatDoor.I
namespace Go.Proofs.YtelhoddamlkfhaaGreatDoor.I
noncomputable section
open Go
def bys (l : Bs) : List IV := l.map fun c => .int .u8 (c.toNat : Nat)
theorem bys_len (l : Bs) : (bys l).length = l.length := by simp [bys]
theorem bys_scalar : ∀ l : Bs, allScalar (bys l) = true
  | [] => rfl
  | x :: l => by
    have := bys_scalar l
    simp only [bys] at this
    simp only [bys, List.map_cons, allScalar, this, IV.scalar, Bool.and_self]
theorem bys_app (a b : Bs) : bys (a ++ b) = bys a ++ bys b := by simp [bys]
theorem byteCells_sv (l : Bs) : byteCells l.length (packL l) = bys l := byteCells_pack l
theorem bytesI_bys : ∀ l : Bs, bytesI (bys l) = some ⟨l.length, packL l⟩
  | [] => rfl
  | x :: l => by
    have ih := bytesI_bys l
    have hx := x.toNat_lt
    simp only [bys] at ih
    simp only [bys, List.map_cons, bytesI, ih, List.length_cons, packL]
    rw [if_pos (by omega)]
    simp
theorem Gd.put {h : H} {b : Nat} {fz : Bool} {cs : List IV} {o : Obj} (g : Gd h) (c : Cs h b true fz cs) : Gd (h.put b o) := by
  obtain ⟨t, q, _⟩ := c
  have := Step.put (o := o) q (fun fz size cs hh => by cases hh) g.wf
  exact ⟨this.1, this.2.pol.trans g.pol⟩
theorem sourceI_sv {h : H} (l : Bs) : sourceI h 1 (sv l) = some (bys l, l.length) := by
  simp only [sourceI, sv, if_true, byteCells_sv]
theorem Ex.tag {h h' : H} (x : Ex h h') (b t n : Nat) : Ex h (h'.tag b t n) := ⟨⟨x.gd.wf, x.gd.pol⟩, ⟨x.ext.pol, x.ext.next, fun b fz size cs hb => x.ext.imm b fz size cs hb⟩, x.kp⟩
structure Ky (h₀ h : H) : Prop where
  gd : Gd h
  next : h₀.next ≤ h.next
  low : ∀ b, b < h₀.next → h.get b = h₀.get b
  ty : ∀ b, b < h₀.next → h.tys.get b = h₀.tys.get b
theorem Ky.refl {h : H} (g : Gd h) : Ky h h := ⟨g, Nat.le_refl _, fun _ _ => rfl, fun _ _ => rfl⟩
theorem Ky.trans {a b c : H} (x : Ky a b) (y : Ky b c) : Ky a c :=
  ⟨y.gd, Nat.le_trans x.next y.next, fun k hk => (y.low k (Nat.lt_of_lt_of_le hk x.next)).trans (x.low k hk), fun k hk => (y.ty k (Nat.lt_of_lt_of_le hk x.next)).trans (x.ty k hk)⟩
theorem Ky.push {h₀ h : H} (x : Ky h₀ h) (o : I.Obj) : Ky h₀ (h.push o) :=
  ⟨⟨(Step.push h o x.gd.wf).1, x.gd.pol⟩, Nat.le_succ_of_le x.next, fun b hb => by rw [H.get_push, if_neg (by have := x.next; omega)]; exact x.low b hb, x.ty⟩
theorem Ky.skip {h₀ h : H} (x : Ky h₀ h) : Ky h₀ h.skip := ⟨(Ex.skip x.gd).gd, Nat.le_succ_of_le x.next, x.low, x.ty⟩
theorem Ky.tag {h₀ h : H} (x : Ky h₀ h) {b t n : Nat} (hb : h₀.next ≤ b) : Ky h₀ (h.tag b t n) :=
  ⟨⟨x.gd.wf, x.gd.pol⟩, x.next, x.low, fun k hk => by simp only [H.tag, I.T.get_set]; rw [if_neg (by omega)]; exact x.ty k hk⟩
theorem Ky.put {h₀ h : H} (x : Ky h₀ h) {b : Nat} {q o : I.Obj} (hb : h₀.next ≤ b) (hq : h.get b = some q) (ho : ∀ fz size cs, q = .cells false fz size cs → ∃ fz', o = .cells false fz' size cs) : Ky h₀ (h.put b o) :=
  ⟨⟨(Step.put hq ho x.gd.wf).1, x.gd.pol⟩, x.next, fun k hk => by rw [H.get_put, if_neg (by omega)]; exact x.low k hk, x.ty⟩
theorem Ky.newI {h₀ h : H} (x : Ky h₀ h) {cs : List IV} (hs : allScalar cs = true) : ∃ h', I.newI h cs = some (.ptr h.next 0, h') ∧ Ky h₀ h' ∧ Cs h' h.next true false cs ∧ Ky h h' ∧ h'.next = h.next + 1 :=
  ⟨_, by rw [newI_eq]; rw [if_pos hs], x.push _, .push cs, (Ky.refl x.gd).push _, rfl⟩
def GB (e : Nat) (h₀ h : H) (l : Bs) (s : IV) : Prop := (l = [] ∧ s = .nilSlice) ∨ ∃ b k, s = .slice b 0 k 1 ∧ Cs h b false true (bys l) ∧ k = l.length ∧ k ≠ 0 ∧ h₀.next ≤ b ∧ h.tys.get b = some (e, 0)
theorem GB.scalar {e : Nat} {h₀ h : H} {l : Bs} {s : IV} (gl : GB e h₀ h l s) : s.scalar = true := by
  rcases gl with ⟨_, rfl⟩ | ⟨b, k, rfl, _⟩ <;> rfl
theorem GB.app {e : Nat} {h₀ h : H} (x : Ky h₀ h) {l m : Bs} {s : IV} (gl : GB e h₀ h l s) (hroom : l.length + m.length ≤ 1099511627776) : ∃ s' h', appB e 1 1 h s (sv m) = some (s', h') ∧ Ky h₀ h' ∧ GB e h₀ h' (l ++ m) s' ∧ (∀ c, c < h.next → (∀ k, s ≠ .slice c 0 k 1) → h'.get c = h.get c ∧ h'.tys.get c = h.tys.get c) := by
  have g := x.gd
  have hsrc := sourceI_sv (h := h) m
  by_cases hm : m.length = 0
  · have : m = [] := List.eq_nil_of_length_eq_zero hm
    subst this
    rcases gl with ⟨rfl, rfl⟩ | ⟨b, n, rfl, h1, h2, h3, h4, h5⟩
    · have e0 : appK 1 1 h .nilSlice (sv []) = some (.nilSlice, h) := by
        simp only [appK, hsrc, bys, List.map_nil, List.length_nil, allScalar, if_true, Bool.true_eq_false, if_false]
      exact ⟨.nilSlice, h, by unfold appB; rw [e0]; rfl, x, .inl ⟨rfl, rfl⟩, fun _ _ _ => ⟨rfl, rfl⟩⟩
    · have e0 : appK 1 1 h (.slice b 0 n 1) (sv []) = some (.slice b 0 n 1, h) := by
        simp only [appK, hsrc, bys, List.map_nil, List.length_nil, allScalar, if_true, Bool.true_eq_false, if_false, ne_eq, not_true_eq_false]
      have hb : b ≠ h.next := fun e => by
        obtain ⟨t, q, _⟩ := h1
        rw [e, g.wf _ (Nat.le_refl _)] at q; cases q
      refine ⟨.slice b 0 n 1, h, ?_, x, .inr ⟨b, n, rfl, by rw [List.append_nil]; exact h1, by rw [List.append_nil]; exact h2, h3, h4, h5⟩, fun _ _ _ => ⟨rfl, rfl⟩⟩
      unfold appB; rw [e0]
      simp only [tagB]
      rw [show Nat.beq b h.next = false from by rw [I.T.nbeq]; exact decide_eq_false hb]
      rfl
  · rcases gl with ⟨rfl, rfl⟩ | ⟨b, k, rfl, ⟨t, h1, h2⟩, h3, h0, h4, h5⟩
    · have e0 : appK 1 1 h .nilSlice (sv m) = some (.slice h.next 0 m.length 1, h.push (.cells (!h.pol) h.pol (bys m).length (T.arr (bys m)))) := by
        simp only [appK, hsrc, bys_scalar, Bool.true_eq_false, if_false, if_neg hm]
        rw [if_pos (by simp at hroom; omega)]
      rw [g.pol] at e0
      refine ⟨_, (h.push (.cells (!true) true (bys m).length (T.arr (bys m)))).tag h.next e 0, ?_, (x.push _).tag x.next, .inr ⟨h.next, m.length, rfl, ?_, rfl, hm, x.next, ?_⟩, fun c hc _ => ⟨?_, ?_⟩⟩
      · unfold appB; rw [e0]
        simp only [tagB, knownE]
        rw [show Nat.beq h.next h.next = true from Nat.beq_refl _, show Nat.beq (h.push (.cells (!true) true (bys m).length (T.arr (bys m)))).next (Nat.succ h.next) = true from Nat.beq_refl _]
        rfl
      · exact Cs.push (h := h) (rw := false) (fz := true) (bys m)
      · simp only [H.tag, I.T.get_set, if_true]
      · show (h.push _).get c = _
        rw [H.get_push, if_neg (by omega)]
      · simp only [H.tag, I.T.get_set]
        rw [if_neg (by omega)]; rfl
    · have hbn : b < h.next := by
        rcases Nat.lt_or_ge b h.next with hl | hl
        · exact hl
        · rw [g.wf b hl] at h1; cases h1
      have e0 : appK 1 1 h (.slice b 0 k 1) (sv m) = some (.slice h.next 0 (k + m.length) 1, (h.put b (.cells false false (bys l).length t)).push (.cells false true ((k + m.length) * 1) (setList t (k * 1) (bys m)))) := by
        simp only [appK, hsrc, bys_scalar, Bool.true_eq_false, if_false, if_neg hm, ne_eq, not_true_eq_false, h1]
        rw [if_pos ⟨trivial, by rw [bys_len]; omega, by omega⟩]
      have x1 := x.put (o := .cells false false (bys l).length t) h4 h1 (fun fz size cs' hc => by injection hc with _ _ q3 q4; exact ⟨false, by rw [q3, q4]⟩)
      refine ⟨_, ((h.put b (.cells false false (bys l).length t)).push (.cells false true ((k + m.length) * 1) (setList t (k * 1) (bys m)))).tag h.next e 0, ?_, (x1.push _).tag x.next, .inr ⟨h.next, k + m.length, rfl, ⟨setList t (k * 1) (bys m), ?_, fun i hi => ?_⟩, by rw [List.length_append, h3], by omega, x.next, ?_⟩, fun c hc hcs => ⟨?_, ?_⟩⟩
      · unfold appB; rw [e0]
        simp only [tagB, knownE, h5]
        rw [show Nat.beq h.next h.next = true from Nat.beq_refl _, show Nat.beq ((h.put b (.cells false false (bys l).length t)).push (.cells false true ((k + m.length) * 1) (setList t (k * 1) (bys m)))).next (Nat.succ h.next) = true from Nat.beq_refl _, show Nat.beq e e = true from Nat.beq_refl _]
        rfl
      · show ((h.put b _).push _).get h.next = _
        rw [H.get_push, if_pos (show h.next = (h.put b (.cells false false (bys l).length t)).next from rfl), bys_len, List.length_append, h3, Nat.mul_one]
      · rw [bys_len, List.length_append] at hi
        rw [get_setList, bys_app, Nat.mul_one, h3, bys_len]
        by_cases hc : l.length ≤ i ∧ i < l.length + m.length
        · rw [if_pos hc, List.getElem?_append_right (by rw [bys_len]; exact hc.1), bys_len]
        · rw [if_neg hc, List.getElem?_append_left (by rw [bys_len]; omega)]; exact h2 i (by rw [bys_len]; omega)
      · simp only [H.tag, I.T.get_set, if_true]
      · show ((h.put b _).push _).get c = _
        rw [H.get_push, if_neg (show ¬ c = (h.put b (.cells false false (bys l).length t)).next from fun e => by have e : c = h.next := e; omega), H.get_put, if_neg]
        rintro rfl; exact hcs k rfl
      · simp only [H.tag, I.T.get_set]
        rw [if_neg (by omega)]; rfl
theorem GB.str {e : Nat} {h₀ h : H} (x : Ky h₀ h) {l : Bs} {s : IV} (gl : GB e h₀ h l s) (hl : l.length ≤ 1099511627776) : ∃ p n h', sliceDataI s = some p ∧ lenS s = some (.int .i64 n) ∧ bytesStr e h p (.int .i64 n) = some (sv l, h') ∧ Ky h₀ h' := by
  rcases gl with ⟨rfl, rfl⟩ | ⟨b, k, rfl, ⟨t, h1, h2⟩, h3, h0, h4, h5⟩
  · exact ⟨.nilPtr, 0, h, rfl, rfl, rfl, x⟩
  · obtain ⟨m, rfl⟩ : ∃ m, k = m + 1 := ⟨k - 1, by omega⟩
    refine ⟨.ptr b 0, ((m + 1 : Nat) : Int), h.put b (.cells false false (bys l).length t), rfl, rfl, ?_, x.put h4 h1 (fun fz size cs hc => by injection hc with _ _ q3 q4; exact ⟨false, by rw [q3, q4]⟩)⟩
    show (match h.get b with
      | some (.cells rw fz size cs) => match h.tys.get b with
        | some (t, _) => bif (rw || fz) && Nat.ble (m + 1) size && Nat.beq t e && Nat.ble (m + 1) 9223372036854775807 then match getList cs 0 (m + 1) with
          | some l => match bytesI l with
            | some s => some (IV.str s, h.put b (.cells false false size cs))
            | none => none
          | none => none
          else none
        | none => none
      | _ => none) = _
    rw [h1, h5]
    simp only
    rw [show Nat.ble (m + 1) (bys l).length = true from Nat.ble_eq_true_of_le (by rw [bys_len]; omega), show Nat.beq e e = true from Nat.beq_refl _, show Nat.ble (m + 1) 9223372036854775807 = true from Nat.ble_eq_true_of_le (by omega)]
    simp only [Bool.false_or, Bool.and_self, cond_true]
    rw [getList_of h2 _ _ (by rw [bys_len]; omega), List.drop_zero, List.take_of_length_le (by rw [bys_len]; omega)]
    simp only [bytesI_bys]
    rfl
variable {P : Program}
end
end Go.Proofs.YtelhoddamlkfhaaGreatDoor.I
namespace Go.Proofs.YtelhoddamlkfhaaGreatDoor.I
noncomputable section
open Go
def GLk (h₀ h : H) (es : Nat) (cs : List IV) (s : IV) : Prop := (cs = [] ∧ s = .nilSlice) ∨ ∃ b k, s = .slice b 0 k es ∧ Cs h b false true cs ∧ k * es = cs.length ∧ h₀.next ≤ b
theorem GLk.gl {h₀ h : H} {es : Nat} {cs : List IV} {s : IV} (g : GLk h₀ h es cs s) : GL h es cs s := by
  rcases g with h1 | ⟨b, k, h1, c, h3, _⟩
  · exact .inl h1
  · exact .inr ⟨b, k, h1, c, h3⟩
theorem GLk.scalar {h₀ h : H} {es : Nat} {cs : List IV} {s : IV} (gl : GLk h₀ h es cs s) : s.scalar = true := by
  rcases gl with ⟨_, rfl⟩ | ⟨b, k, rfl, _⟩ <;> rfl
theorem Ky.app {h₀ h : H} (x : Ky h₀ h) {es bytes : Nat} {cs new : List IV} {s y : IV} {n : Nat} (gl : GLk h₀ h es cs s) (hs : sourceI h es y = some (new, n)) (hl : new.length = n * es) (hsc : allScalar new = true) (hn : n ≠ 0)
    (hroom : (2 * (cs.length + n) + 2000) * bytes ≤ 2 ^ 46) (hes : es ≠ 0) : ∃ s' h', appK es bytes h s y = some (s', h') ∧ Ky h₀ h' ∧ GLk h₀ h' es (cs ++ new) s' := by
  have g := x.gd
  rcases gl with ⟨rfl, rfl⟩ | ⟨b, k, rfl, ⟨t, h1, h2⟩, h3, h4⟩
  · refine ⟨_, _, ?_, x.push (.cells (!h.pol) h.pol new.length (T.arr new)), .inr ⟨h.next, n, rfl, ?_, by simpa using hl.symm, x.next⟩⟩
    · simp only [appK, hs, hsc, Bool.true_eq_false, if_false, if_neg hn]
      rw [if_pos (by simpa using hroom)]
    · rw [g.pol]; simpa using Cs.push (h := h) (rw := false) (fz := true) new
  · have hk : k ≤ cs.length := by
      rw [← h3]; exact Nat.le_mul_of_pos_right _ (Nat.pos_of_ne_zero hes)
    have hroom' : (2 * (k + n) + 2000) * bytes ≤ 2 ^ 46 := Nat.le_trans (Nat.mul_le_mul_right _ (by omega)) hroom
    have x1 := x.put (o := .cells false false cs.length t) h4 h1 (fun fz size cs' hc => by injection hc with _ _ q3 q4; exact ⟨false, by rw [q3, q4]⟩)
    refine ⟨_, _, ?_, x1.push (.cells false true ((k + n) * es) (setList t (k * es) new)), .inr ⟨h.next, k + n, rfl, ⟨setList t (k * es) new, ?_, fun i hi => ?_⟩, by rw [Nat.add_mul, h3, List.length_append, hl], x.next⟩⟩
    · simp only [appK, hs, hsc, Bool.true_eq_false, if_false, if_neg hn, ne_eq, not_true_eq_false, h1]
      rw [if_pos ⟨trivial, h3, hroom'⟩]
    · rw [H.get_push, if_pos (show h.next = (h.put b (.cells false false cs.length t)).next from rfl), List.length_append, hl, Nat.add_mul, h3]
    · rw [List.length_append] at hi
      rw [get_setList, h3]
      by_cases hc : cs.length ≤ i ∧ i < cs.length + new.length
      · rw [if_pos hc, List.getElem?_append_right hc.1]
      · rw [if_neg hc, List.getElem?_append_left (by omega)]; exact h2 i (by omega)
end
end Go.Proofs.YtelhoddamlkfhaaGreatDoor.I
