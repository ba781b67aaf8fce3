/- The ideal machine, its definitions: a deterministic evaluator over the model's own code, with tries for frames and memory and packed strings. Nothing is claimed here; the texts behind it prove it sound. -/
import Derived.Recover
import Derived.Orders
namespace Go.Proofs.YtblgpcijbdbeiaaDoor.I
open Go
set_option linter.unusedVariables false

/-! ### tries -/
inductive T (α : Type) where
  | leaf
  | node (l : T α) (v : Option α) (r : T α)
namespace T
variable {α : Type}
def get : T α → Nat → Option α
  | .leaf, _ => none
  | .node l v r, n => bif Nat.beq n 0 then v else bif Nat.beq (n % 2) 1 then l.get (n / 2) else r.get (n / 2 - 1)
def setF : Nat → T α → Nat → Option α → T α
  | 0, t, _, _ => t
  | f + 1, .leaf, n, x =>
    bif Nat.beq n 0 then .node .leaf x .leaf
    else bif Nat.beq (n % 2) 1 then .node (setF f .leaf (n / 2) x) none .leaf
    else .node .leaf none (setF f .leaf (n / 2 - 1) x)
  | f + 1, .node l v r, n, x =>
    bif Nat.beq n 0 then .node l x r
    else bif Nat.beq (n % 2) 1 then .node (setF f l (n / 2) x) v r
    else .node l v (setF f r (n / 2 - 1) x)
def set (t : T α) (n : Nat) (x : α) : T α := setF (n + 1) t n (some x)
def del (t : T α) (n : Nat) : T α := setF (n + 1) t n none

theorem get_leaf (n : Nat) : (leaf : T α).get n = none := rfl
theorem nbeq (a b : Nat) : Nat.beq a b = decide (a = b) := by
  rw [Bool.eq_iff_iff]; simp [Nat.beq_eq]
theorem bif_beq {β : Type} (a b : Nat) (x y : β) : (bif Nat.beq a b then x else y) = if a = b then x else y := by
  rw [nbeq]; by_cases h : a = b <;> simp [h]
theorem get_node (l r : T α) (v : Option α) (n : Nat) : (node l v r).get n = if n = 0 then v else if n % 2 = 1 then l.get (n / 2) else r.get (n / 2 - 1) := by
  rw [get, bif_beq, bif_beq]
theorem setF_node (f : Nat) (l r : T α) (v : Option α) (n : Nat) (x : Option α) : setF (f + 1) (node l v r) n x =
    if n = 0 then .node l x r else if n % 2 = 1 then .node (setF f l (n / 2) x) v r else .node l v (setF f r (n / 2 - 1) x) := by
  rw [setF, bif_beq, bif_beq]
theorem setF_leaf (f : Nat) (n : Nat) (x : Option α) : setF (f + 1) leaf n x = setF (f + 1) (node leaf none leaf) n x := by
  rw [setF, setF]
theorem get_setF (f : Nat) : ∀ (t : T α) (n m : Nat) (x : Option α), n < f → (setF f t n x).get m = if m = n then x else t.get m := by
  induction f with
  | zero => intro t n m x h; omega
  | succ f ih =>
    have key : ∀ (l r : T α) (v : Option α) (n m : Nat) (x : Option α), n < f + 1 → (setF (f + 1) (node l v r) n x).get m = if m = n then x else (node l v r).get m := by
      intro l r v n m x h
      rw [setF_node]
      by_cases h0 : n = 0
      · rw [if_pos h0, get_node, get_node]
        by_cases hm : m = 0
        · rw [if_pos hm, if_pos (by omega)]
        · rw [if_neg hm, if_neg hm, if_neg (show ¬ m = n by omega)]
      · rw [if_neg h0]
        by_cases h1 : n % 2 = 1
        · rw [if_pos h1, get_node, get_node]
          by_cases hm : m = 0
          · rw [if_pos hm, if_pos hm, if_neg (by omega)]
          · rw [if_neg hm, if_neg hm]
            by_cases hm1 : m % 2 = 1
            · rw [if_pos hm1, if_pos hm1, ih _ _ _ _ (by omega)]
              by_cases hmn : m = n
              · rw [if_pos hmn, if_pos (by omega)]
              · rw [if_neg hmn, if_neg (by omega)]
            · rw [if_neg hm1, if_neg hm1, if_neg (by omega)]
        · rw [if_neg h1, get_node, get_node]
          by_cases hm : m = 0
          · rw [if_pos hm, if_pos hm, if_neg (by omega)]
          · rw [if_neg hm, if_neg hm]
            by_cases hm1 : m % 2 = 1
            · rw [if_pos hm1, if_pos hm1, if_neg (by omega)]
            · rw [if_neg hm1, if_neg hm1, ih _ _ _ _ (by omega)]
              by_cases hmn : m = n
              · rw [if_pos hmn, if_pos (by omega)]
              · rw [if_neg hmn, if_neg (by omega)]
    intro t n m x h
    cases t with
    | leaf =>
      rw [setF_leaf, key _ _ _ _ _ _ h]
      by_cases hmn : m = n
      · rw [if_pos hmn, if_pos hmn]
      · rw [if_neg hmn, if_neg hmn, get_leaf, get_node, get_leaf, get_leaf]; simp
    | node l v r => exact key l r v n m x h
theorem get_set (t : T α) (n m : Nat) (x : α) : (t.set n x).get m = if m = n then some x else t.get m := get_setF _ t n m _ (by omega)
theorem get_del (t : T α) (n m : Nat) : (t.del n).get m = if m = n then none else t.get m := get_setF _ t n m _ (by omega)
end T

/-! ### packed strings -/
structure Str where
  len : Nat
  val : Nat
  deriving DecidableEq

def packL : List UInt8 → Nat
  | [] => 0
  | c :: l => c.toNat + 256 * packL l
def pack (b : ByteArray) : Str := ⟨b.size, packL b.data.toList⟩
def Str.at (s : Str) (i : Nat) : Nat := s.val / 256 ^ i % 256
def Str.ext (s : Str) (l h : Nat) : Str := ⟨h - l, s.val / 256 ^ l % 256 ^ (h - l)⟩
def Str.app (a b : Str) : Str := ⟨a.len + b.len, a.val + 256 ^ a.len * b.val⟩
def Str.eq (a b : Str) : Bool := Nat.beq a.len b.len && Nat.beq a.val b.val
/-- is the first less, byte by byte? -/
def ltF : Nat → (la a lb b : Nat) → Bool
  | 0, _, _, _, _ => false
  | n + 1, la, a, lb, b =>
    bif Nat.beq lb 0 then false else bif Nat.beq la 0 then true else
    bif Nat.blt (a % 256) (b % 256) then true else
    bif Nat.beq (a % 256) (b % 256) then ltF n (la - 1) (a / 256) (lb - 1) (b / 256) else false
def Str.lt (a b : Str) : Bool := ltF (b.len + 1) a.len a.val b.len b.val
def Str.push (s : Str) (c : Nat) : Str := ⟨s.len + 1, s.val + 256 ^ s.len * c⟩

/-! ### values, memory -/
inductive IV where
  | bool (b : Bool)
  | int (k : IntKind) (n : Int)
  | str (s : Str)
  | nilPtr
  | ptr (b off : Nat)
  | nilSlice
  | slice (b off len es : Nat)
  | nilMap
  | map (b : Nat)
  | nilFunc
  | func (f : FuncId) (caps : List IV)
  | nilIface
  | iface (t : TypeId) (v : IV)
  | agg (cs : List IV)
  | tup (vs : List IV)

/-- one cell's value -/
def IV.scalar : IV → Bool
  | .agg _ | .tup _ => false
  | _ => true
def IV.cells : IV → List IV
  | .agg cs => cs
  | v => [v]

inductive Obj where
  | cells (rw : Bool) (fz : Bool) (size : Nat) (cs : T IV)
  | map (es : List (IV × IV × Nat)) (clock : Nat)
  | iter (m : Option Nat) (since : Nat) (seen : List Nat) (last : Nat)
  | siter (s : Str) (pos : Nat)

structure H where
  next : Nat
  objs : T Obj

def H.get (h : H) (b : Nat) : Option Obj := h.objs.get b
def H.push (h : H) (o : Obj) : H := ⟨h.next + 1, h.objs.set h.next o⟩
def H.put (h : H) (b : Nat) (o : Obj) : H := ⟨h.next, h.objs.set b o⟩
def H.drop (h : H) (b : Nat) : H := ⟨h.next, h.objs.del b⟩

def setList (t : T IV) (i : Nat) : List IV → T IV
  | [] => t
  | v :: l => setList (t.set i v) (i + 1) l
def getList (t : T IV) (i : Nat) : Nat → Option (List IV)
  | 0 => some []
  | n + 1 => match t.get i with
    | some v => match getList t (i + 1) n with
      | some l => some (v :: l)
      | none => none
    | none => none

/-- the values of the text that name no memory -/
def ofS : Value → Option IV
  | .bool b => some (.bool b)
  | .int k n => some (.int k n)
  | .string s => some (.str (pack s))
  | .pointer none => some .nilPtr
  | .slice none 0 0 => some .nilSlice
  | .map none => some .nilMap
  | .nilFunc => some .nilFunc
  | .nilIface => some .nilIface
  | _ => none
def ofSs : List Value → Option (List IV)
  | [] => some []
  | v :: l => match ofS v with
    | some x => match ofSs l with
      | some y => some (x :: y)
      | none => none
    | none => none
def ofV : Value → Option IV
  | .agg cs => match ofSs cs.toList with
    | some l => some (.agg l)
    | none => none
  | v => ofS v

/-! ### types -/
def isAggT (P : Program) (t : TypeId) : Option Bool :=
  match P.underlying t with
  | some (.struct _) | some (.array _ _) => some true
  | some _ => some false
  | none => none
def sizeT (P : Program) (t : TypeId) : Option Nat := (P.info? t).map (·.size)
def bytesT (P : Program) (t : TypeId) : Option Nat := (P.info? t).map (·.bytes)
def zeroT (P : Program) (t : TypeId) : Option IV := match P.info? t with
  | some i => match i.zero with
    | some z => ofV z
    | none => none
  | none => none
def elemT (P : Program) (t : TypeId) : Option TypeId := match P.underlying t with
  | some (.slice e) => some e
  | _ => none
/-- a field's place, and its size, which is not nought -/
def fieldT (P : Program) (s : TypeId) (f : Nat) : Option (Nat × TypeId) := match P.underlying s with
  | some (.struct fields) => match fields[f]? with
    | some fd => some (fd.offset, fd.type)
    | none => none
  | _ => none

/-- a part of an aggregate -/
def partI (P : Program) (t : TypeId) (cs : List IV) (off : Nat) : Option IV :=
  match isAggT P t with
  | some true => match sizeT P t with
    | some n => if off + n ≤ cs.length then some (.agg ((cs.drop off).take n)) else none
    | none => none
  | some false => cs[off]?
  | none => none

/-! ### equality -/
def ieqL (q : IV → IV → TypeId → Option Bool) (P : Program) (xs ys : List IV) : List Field → Option Bool
  | [] => some true
  | f :: fs =>
    if f.name = "_" then ieqL q P xs ys fs else
    match partI P f.type xs f.offset, partI P f.type ys f.offset with
    | some a, some b => match q a b f.type with
      | some true => ieqL q P xs ys fs
      | some false => some false
      | none => none
    | _, _ => none
def ieq (P : Program) (h : H) : Nat → TypeId → IV → IV → Option Bool
  | 0, _, _, _ => none
  | d + 1, t, x, y =>
    match P.underlying t with
    | none => none
    | some u =>
      match x, y with
      | .bool a, .bool b => match u with
        | .bool => some (a == b)
        | _ => none
      | .int k a, .int j b => match u with
        | .int _ => if k = j then some (decide (a = b)) else none
        | _ => none
      | .str a, .str b => match u with
        | .string => some (a.eq b)
        | _ => none
      | .nilPtr, .nilPtr => match u with
        | .pointer _ => some true
        | _ => none
      | .nilPtr, .ptr _ _ => match u with
        | .pointer _ => some false
        | _ => none
      | .ptr _ _, .nilPtr => match u with
        | .pointer _ => some false
        | _ => none
      | .ptr a o, .ptr b p => match u with
        | .pointer e => match sizeT P e with
          | some 0 => none
          | some _ =>
            if a = b then (match h.get a with | some (.cells true false _ _) => some (decide (o = p)) | _ => none) else
            match h.get a, h.get b with
            | some (.cells true false (_ + 1) _), some (.cells true false (_ + 1) _) => some false
            | _, _ => none
          | none => none
        | _ => none
      | .nilIface, .nilIface => match u with
        | .interface _ => some true
        | _ => none
      | .nilIface, .iface _ _ => match u with
        | .interface _ => some false
        | _ => none
      | .iface _ _, .nilIface => match u with
        | .interface _ => some false
        | _ => none
      | .nilSlice, .nilSlice => match u with
        | .slice _ => some true
        | _ => none
      | .nilSlice, .slice _ _ _ _ => match u with
        | .slice _ => some false
        | _ => none
      | .slice _ _ _ _, .nilSlice => match u with
        | .slice _ => some false
        | _ => none
      | .nilMap, .nilMap => match u with
        | .map _ _ => some true
        | _ => none
      | .nilMap, .map _ => match u with
        | .map _ _ => some false
        | _ => none
      | .map _, .nilMap => match u with
        | .map _ _ => some false
        | _ => none
      | .nilFunc, .nilFunc => match u with
        | .func _ _ _ => some true
        | _ => none
      | .nilFunc, .func _ _ => match u with
        | .func _ _ _ => some false
        | _ => none
      | .func _ _, .nilFunc => match u with
        | .func _ _ _ => some false
        | _ => none
      | .agg xs, .agg ys => match u with
        | .struct fields => if P.stoodInHeld t then none else ieqL (fun a b t => ieq P h d t a b) P xs ys fields.toList
        | _ => none
      | _, _ => none

/-! ### operators -/
def wr (k : IntKind) (n : Int) : Int := if k.min ≤ n ∧ n ≤ k.max then n else k.wrap n
def intOp (op : BinOp) (k : IntKind) (a b : Int) : Option IV :=
  match op with
  | .add => some (.int k (wr k (a + b)))
  | .sub => some (.int k (wr k (a - b)))
  | .mul => some (.int k (wr k (a * b)))
  | .quo => if b = 0 then none else some (.int k (wr k (a.tdiv b)))
  | .rem => if b = 0 then none else some (.int k (a.tmod b))
  | .and => some (.int k (k.wrap (BitVec.ofInt k.bits a &&& BitVec.ofInt k.bits b).toNat))
  | .or => some (.int k (k.wrap (BitVec.ofInt k.bits a ||| BitVec.ofInt k.bits b).toNat))
  | .xor => some (.int k (k.wrap (BitVec.ofInt k.bits a ^^^ BitVec.ofInt k.bits b).toNat))
  | .andNot => some (.int k (k.wrap (BitVec.ofInt k.bits a &&& ~~~ BitVec.ofInt k.bits b).toNat))
  | .eql => some (.bool (decide (a = b)))
  | .neq => some (.bool (!decide (a = b)))
  | .lss => some (.bool (decide (a < b)))
  | .leq => some (.bool (decide (a ≤ b)))
  | .gtr => some (.bool (decide (b < a)))
  | .geq => some (.bool (decide (b ≤ a)))
  | _ => none
def shiftOp (op : BinOp) (k : IntKind) (a b : Int) : Option IV :=
  if b < 0 then none else
  match op with
  | .shl => some (.int k (wr k (a * 2 ^ (min b.toNat k.bits))))
  | .shr => some (.int k (a.fdiv (2 ^ (min b.toNat k.bits))))
  | _ => none
def strOp (op : BinOp) (a b : Str) : Option IV :=
  match op with
  | .add => if a.len + b.len ≤ 2 ^ 40 then some (.str (a.app b)) else none
  | .eql => some (.bool (a.eq b))
  | .neq => some (.bool (!a.eq b))
  | .lss => some (.bool (a.lt b))
  | .leq => some (.bool (a.lt b || a.eq b))
  | .gtr => some (.bool !(a.lt b || a.eq b))
  | .geq => some (.bool !(a.lt b))
  | _ => none
def isConst : Operand → Bool
  | .const _ => true
  | _ => false
/-- two nils of an interface type are not looked at, unless one is the text's own -/
def guardEq (P : Program) (t : TypeId) (ox oy : Operand) (x y : IV) : Bool :=
  match x, y with
  | .nilIface, .nilIface => isConst ox || isConst oy
  | .agg _, .agg _ => !P.eqGuardType P.depth t
  | _, _ => true
def binI (P : Program) (h : H) (op : BinOp) (t : TypeId) (ox oy : Operand) (x y : IV) : Option IV :=
  match x, y with
  | .int k a, .int j b => match op with
    | .shl | .shr => shiftOp op k a b
    | _ => if k = j then intOp op k a b else none
  | .str a, .str b => strOp op a b
  | _, _ => match op with
    | .eql => if guardEq P t ox oy x y then (match ieq P h 10000 t x y with | some b => some (.bool b) | none => none) else none
    | .neq => if guardEq P t ox oy x y then (match ieq P h 10000 t x y with | some b => some (.bool (!b)) | none => none) else none
    | _ => none
def unI (op : UnOp) (x : IV) : Option IV :=
  match op, x with
  | .not, .bool b => some (.bool (!b))
  | .neg, .int k n => some (.int k (wr k (0 - n)))
  | .xor, .int k n => intOp .xor k (if k.signed then -1 else k.max) n
  | _, _ => none

/-! ### memory's operations -/
def loadI (P : Program) (h : H) (t : TypeId) (a : IV) : Option IV :=
  match a with
  | .ptr b off => match h.get b with
    | some (.cells _ _ size cs) => match isAggT P t with
      | some true => match sizeT P t with
        | some n => if off + n ≤ size then (match getList cs off n with | some l => some (.agg l) | none => none) else none
        | none => none
      | some false => if off < size then cs.get off else none
      | none => none
    | _ => none
  | _ => none
def allScalar : List IV → Bool
  | [] => true
  | v :: l => v.scalar && allScalar l
def storeI (P : Program) (h : H) (t : TypeId) (a v : IV) : Option H :=
  match a with
  | .ptr b off => match h.get b with
    | some (.cells true fz size cs) => match sizeT P t with
      | some n => if v.cells.length = n ∧ off + n ≤ size ∧ allScalar v.cells = true then some (h.put b (.cells true fz size (setList cs off v.cells))) else none
      | none => none
    | _ => none
  | _ => none
/-- new memory that holds these -/
def newI (h : H) (cs : List IV) : Option (IV × H) :=
  if allScalar cs then some (.ptr h.next 0, h.push (.cells true false cs.length (setList .leaf 0 cs))) else none
def placeL (cells : List IV) (off : Nat) : List IV → List IV
  | [] => cells
  | v :: l => placeL (cells.set off v) (off + 1) l
/-- parts put into cells, each of its size -/
def fillI (place : Nat → Option (Nat × Nat)) (cells : List IV) : List (Nat × IV) → Option (List IV)
  | [] => some cells
  | (i, v) :: rest => match place i with
    | none => none
    | some (off, size) => if v.cells.length ≠ size ∨ off + size > cells.length then none else fillI place (placeL cells off v.cells) rest
def fieldPlaces (P : Program) : List Field → Option (List (Nat × Nat))
  | [] => some []
  | f :: fs => match sizeT P f.type with
    | some n => match fieldPlaces P fs with
      | some l => some ((f.offset, n) :: l)
      | none => none
    | none => none
def evalParts (ev : Operand → Option IV) : List (Nat × Operand) → Option (List (Nat × IV))
  | [] => some []
  | (i, x) :: l => match ev x with
    | some v => match evalParts ev l with
      | some r => some ((i, v) :: r)
      | none => none
    | none => none
def evalAll (ev : Operand → Option IV) : List Operand → Option (List IV)
  | [] => some []
  | x :: l => match ev x with
    | some v => match evalAll ev l with
      | some r => some (v :: r)
      | none => none
    | none => none
def buildI (P : Program) (t : TypeId) (parts : List (Nat × IV)) : Option IV :=
  match zeroT P t with
  | some (.agg zero) => match P.underlying t with
    | some (.struct fields) => match fieldPlaces P fields.toList with
      | some places => match fillI (places[·]?) zero parts with
        | some l => some (.agg l)
        | none => none
      | none => none
    | _ => none
  | _ => none
def repCells (zero : List IV) : Nat → List IV
  | 0 => []
  | n + 1 => zero ++ repCells zero n
def buildSliceI (P : Program) (h : H) (t : TypeId) (len : Nat) (parts : List (Nat × IV)) : Option (IV × H) :=
  match elemT P t with
  | some e => match sizeT P e, zeroT P e with
    | some size, some z =>
      if z.cells.length ≠ size ∨ size = 0 ∨ len * size > 2 ^ 24 ∨ allScalar z.cells = false then none else
      match fillI (fun i => some (i * size, size)) (repCells z.cells len) parts with
      | some l => if allScalar l then some (.slice h.next 0 len size, h.push (.cells true false l.length (setList .leaf 0 l))) else none
      | none => none
    | _, _ => none
  | none => none
def makeSliceI (P : Program) (h : H) (t : TypeId) (len cap : IV) : Option (IV × H) :=
  match elemT P t, len, cap with
  | some e, .int _ l, .int _ c => match sizeT P e, bytesT P e, zeroT P e with
    | some size, some bytes, some z =>
      if z.cells.length ≠ size ∨ size = 0 ∨ allScalar z.cells = false then none else
      if 0 ≤ l ∧ l ≤ c ∧ bytes * c ≤ 2 ^ 40 ∧ c ≤ 2 ^ 40 then
        some (.slice h.next 0 l.toNat size, h.push (.cells true false (c.toNat * size) (setList .leaf 0 (repCells z.cells c.toNat))))
      else none
    | _, _, _ => none
  | _, _, _ => none
def boundI (x : Option IV) (most dflt : Nat) : Option Nat :=
  match x with
  | none => some dflt
  | some (.int _ i) => if 0 ≤ i ∧ i ≤ most then some i.toNat else none
  | some _ => none
def sliceI (P : Program) (t : TypeId) (x : IV) (lo hi mx : Option IV) : Option IV :=
  match x with
  | .str s => match P.underlying t, mx with
    | some .string, none => match boundI hi s.len s.len with
      | some h => match boundI lo h 0 with
        | some l => some (.str (s.ext l h))
        | none => none
      | none => none
    | _, _ => none
  | .slice b off len es => match P.underlying t with
    | some (.slice e) => match sizeT P e with
      | some n => if n = es then (match boundI mx len len with
        | some m => match boundI hi (if mx.isSome then m else len) len with
          | some h => match boundI lo h 0 with
            | some l => if mx.isSome = true ∧ hi.isNone = true then none else some (.slice b (off + l * es) (h - l) es)
            | none => none
          | none => none
        | none => none) else none
      | none => none
    | _ => none
  | .nilSlice => match P.underlying t with
    | some (.slice e) => match sizeT P e with
      | some _ => match mx with
        | none => match boundI hi 0 0 with
          | some h => match boundI lo h 0 with
            | some l => some .nilSlice
            | none => none
          | none => none
        | some _ => none
      | none => none
    | _ => none
  | _ => none
def fieldAddrI (P : Program) (s : TypeId) (x : IV) (f : Nat) : Option IV :=
  match x with
  | .ptr b off => match fieldT P s f with
    | some (o, t) => match sizeT P t with
      | some (_ + 1) => some (.ptr b (off + o))
      | _ => none
    | none => none
  | _ => none
def fieldI (P : Program) (s : TypeId) (x : IV) (f : Nat) : Option IV :=
  match x with
  | .agg cs => match fieldT P s f with
    | some (o, t) => partI P t cs o
    | none => none
  | _ => none
def indexAddrI (P : Program) (t : TypeId) (x i : IV) : Option IV :=
  match x, i with
  | .slice b off len es, .int _ n => match P.underlying t with
    | some (.slice e) => match sizeT P e with
      | some k => if k = es ∧ 0 ≤ n ∧ n < len then some (.ptr b (off + n.toNat * es)) else none
      | none => none
    | _ => none
  | .ptr b off, .int _ n => match P.underlying t with
    | some (.array len e) => match sizeT P e with
      | some k => if 0 ≤ n ∧ n < len then some (.ptr b (off + n.toNat * k)) else none
      | none => none
    | _ => none
  | _, _ => none
def indexI (P : Program) (t : TypeId) (x i : IV) : Option IV :=
  match x, i with
  | .str s, .int _ n => match P.underlying t with
    | some .string => if 0 ≤ n ∧ n < s.len then some (.int .u8 (s.at n.toNat)) else none
    | _ => none
  | .agg cs, .int _ n => match P.underlying t with
    | some (.array len e) => match sizeT P e with
      | some k => if 0 ≤ n ∧ n < len then partI P e cs (n.toNat * k) else none
      | none => none
    | _ => none
  | _, _ => none
/-- bytes of memory -/
def bytesI : List IV → Option Str
  | [] => some ⟨0, 0⟩
  | .int .u8 n :: l => match bytesI l with
    | some s => if 0 ≤ n ∧ n < 256 then some ⟨s.len + 1, n.toNat + 256 * s.val⟩ else none
    | none => none
  | _ => none
def byteCells : Nat → Nat → List IV
  | 0, _ => []
  | n + 1, v => .int .u8 (v % 256 : Nat) :: byteCells n (v / 256)
def convI (P : Program) (h : H) (src dst : TypeId) (x : IV) : Option (IV × H) :=
  match P.underlying src, P.underlying dst, x with
  | some _, some (.int k), .int _ n => some (.int k (wr k n), h)
  | some (.string), some (.string), .str s => some (.str s, h)
  | some (.string), some (.slice e), .str s => match P.underlying e with
    | some (.int .u8) => some (.slice h.next 0 s.len 1, h.push (.cells true true s.len (setList .leaf 0 (byteCells s.len s.val))))
    | _ => none
  | some (.slice e), some .string, .nilSlice => match P.underlying e with
    | some (.int .u8) => some (.str ⟨0, 0⟩, h)
    | _ => none
  | some (.slice e), some .string, .slice b off len _ => match P.underlying e with
    | some (.int .u8) => match h.get b with
      | some (.cells _ _ size cs) => if off + len ≤ size then (match getList cs off len with
        | some l => match bytesI l with
          | some s => some (.str s, h)
          | none => none
        | none => none) else none
      | _ => none
    | _ => none
  | _, _, _ => none

/-! ### maps: keys are texts or whole numbers -/
def keyEq : IV → IV → Option Bool
  | .str a, .str b => some (a.eq b)
  | .int j a, .int k b => if j = k then some (decide (a = b)) else none
  | _, _ => none
def keyT (P : Program) (t : TypeId) (k : IV) : Bool :=
  match P.underlying t, k with
  | some .string, .str _ => true
  | some (.int _), .int _ _ => true
  | _, _ => false
def findI (k : IV) : List (IV × IV × Nat) → Nat → Option (Option (Nat × IV))
  | [], _ => some none
  | (q, v, _) :: l, i => match keyEq k q with
    | some true => some (some (i, v))
    | some false => findI k l (i + 1)
    | none => none
def lookupI (P : Program) (h : H) (t : TypeId) (x k : IV) (commaOk : Bool) : Option IV :=
  match P.underlying t with
  | some (.map kt et) =>
    if !keyT P kt k then none else
    match (match x with
      | .nilMap => some []
      | .map b => match h.get b with
        | some (.map es _) => some es
        | _ => none
      | _ => none : Option (List (IV × IV × Nat))) with
    | some es => match findI k es 0 with
      | some (some (_, v)) => some (if commaOk then .tup [v, .bool true] else v)
      | some none => match zeroT P et with
        | some z => some (if commaOk then .tup [z, .bool false] else z)
        | none => none
      | none => none
    | none => none
  | _ => none
def mapUpdateI (P : Program) (h : H) (t : TypeId) (x k v : IV) : Option H :=
  match P.underlying t with
  | some (.map kt _) =>
    if !keyT P kt k then none else
    match x with
    | .map b => match h.get b with
      | some (.map es clock) => match findI k es 0 with
        | some (some (i, _)) => some (h.put b (.map (es.modify i fun e => (k, v, e.2.2)) clock))
        | some none => some (h.put b (.map (es ++ [(k, v, clock)]) (clock + 1)))
        | none => none
      | _ => none
    | _ => none
  | _ => none
def deleteI (P : Program) (h : H) (t : TypeId) (x k : IV) : Option H :=
  match P.underlying t with
  | some (.map kt _) =>
    if !keyT P kt k then none else
    match x with
    | .nilMap => some h
    | .map b => match h.get b with
      | some (.map es clock) => match findI k es 0 with
        | some (some (i, _)) => some (h.put b (.map (es.eraseIdx i) clock))
        | some none => some h
        | none => none
      | _ => none
    | _ => none
  | _ => none

/-! ### ranging: over a map only where nothing is left open (one entry to come at the most); over a text of ASCII -/
def rangeI (P : Program) (h : H) (t : TypeId) (x : IV) : Option (IV × H) :=
  match P.underlying t, x with
  | some .string, .str s => some (.ptr h.next 0, h.push (.siter s 0))
  | some (.map _ _), .nilMap => some (.ptr h.next 0, h.push (.iter none 0 [] 0))
  | some (.map _ _), .map m => match h.get m with
    | some (.map _ clock) => some (.ptr h.next 0, h.push (.iter (some m) clock [] clock))
    | _ => none
  | _, _ => none
def nextI (h : H) (x : IV) (isString : Bool) : Option (IV × H) :=
  match x with
  | .ptr r 0 => match h.get r, isString with
    | some (.siter s pos), true =>
      if pos < s.len then
        if s.at pos < 128 then some (.tup [.bool true, .int .i64 pos, .int .i32 (s.at pos)], h.put r (.siter s (pos + 1))) else none
      else some (.tup [.bool false], h)
    | some (.iter none _ _ _), false => some (.tup [.bool false], h)
    | some (.iter (some m) since seen last), false => match h.get m with
      | some (.map es clock) =>
        if !seen.isEmpty && !es.isEmpty && es.all (fun e => last ≤ e.2.2) then none else
        match es.filter (fun e => !seen.contains e.2.2) with
        | [] => some (.tup [.bool false], h)
        | [(k, v, b)] => if b < since then some (.tup [.bool true, k, v], h.put r (.iter (some m) since (seen ++ [b]) clock)) else none
        | _ => none
      | _ => none
    | _, _ => none
  | _ => none
def entryI (h : H) (x : IV) : Option IV :=
  match x with
  | .ptr r 0 => match h.get r with
    | some (.iter (some m) _ seen stepped) => match seen.getLast?, h.get m with
      | some stamp, some (.map es clock) =>
        if clock ≠ stepped then none else
        match es.find? (fun e => e.2.2 == stamp) with
        | some (k, v, _) => some (.tup [k, v])
        | none => none
      | _, _ => none
    | _ => none
  | _ => none

/-! ### built-in functions -/
def lenI (P : Program) (h : H) (t : TypeId) (x : IV) : Option IV :=
  match P.underlying t, x with
  | some .string, .str s => some (.int .i64 s.len)
  | some (.slice _), .nilSlice => some (.int .i64 0)
  | some (.slice _), .slice _ _ n _ => some (.int .i64 n)
  | some (.map _ _), .nilMap => some (.int .i64 0)
  | some (.map _ _), .map b => match h.get b with
    | some (.map es _) => some (.int .i64 es.length)
    | _ => none
  | _, _ => none
/-- the cells that are appended, and how many elements they are -/
def sourceI (h : H) (size : Nat) (x : IV) : Option (List IV × Nat) :=
  match x with
  | .nilSlice => some ([], 0)
  | .str s => if size = 1 then some (byteCells s.len s.val, s.len) else none
  | .slice b off len es => if len = 0 then some ([], 0) else match h.get b with
    | some (.cells _ _ sz cs) => if es = size ∧ off + len * es ≤ sz then (match getList cs off (len * es) with
      | some l => some (l, len)
      | none => none) else none
    | _ => none
  | _ => none
def isIntD : TypeDesc → Bool
  | .int _ => true
  | _ => false
def appendI (P : Program) (h : H) (t xt : TypeId) (s x : IV) : Option (IV × H) :=
  match elemT P t with
  | some e => match sizeT P e, bytesT P e, (P.underlying xt), zeroT P e with
    | some size, some bytes, some u, some z =>
      if size = 0 ∨ bytes = 0 ∨ z.cells.length ≠ size ∨ isIntD u = true then none else
      match sourceI h size x with
      | some (new, n) =>
        if allScalar new = false then none else
        match s with
        | .nilSlice =>
          if n = 0 then some (.nilSlice, h)
          else if (2 * n + 2000) * bytes ≤ 2 ^ 46 then
            some (.slice h.next 0 n size, h.push (.cells true false new.length (setList .leaf 0 new)))
          else none
        | .slice b off len es =>
          if es ≠ size then none else
          if n = 0 then some (.slice b off len es, h) else
          match h.get b with
          | some (.cells true fz sz cs) =>
            if off = 0 ∧ len * es ≤ sz ∧ (2 * (len + n) + 2000) * bytes ≤ 2 ^ 46 then
              some (.slice h.next 0 (len + n) es, (h.drop b).push (.cells true fz ((len + n) * es) (setList cs (len * es) new)))
            else none
          | _ => none
        | _ => none
      | none => none
    | _, _, _, _ => none
  | none => none
def copyI (P : Program) (h : H) (t : TypeId) (d s : IV) : Option (IV × H) :=
  match elemT P t, d with
  | some e, .slice b off len es => match sizeT P e with
    | some size => match sourceI h size s with
      | some (new, n) => match h.get b with
        | some (.cells true fz sz cs) =>
          if es = size ∧ allScalar new = true ∧ n ≤ len ∧ off + len * es ≤ sz then
            some (.int .i64 n, h.put b (.cells true fz sz (setList cs off new)))
          else none
        | _ => none
      | none => none
    | none => none
  | _, _ => none
def minI : IV → IV → Option IV
  | .int k x, .int _ y => some (.int k (if y < x then y else x))
  | _, _ => none
def maxI : IV → IV → Option IV
  | .int k x, .int _ y => some (.int k (if y > x then y else x))
  | _, _ => none

/-! ### one operation -/
structure Fr where
  tmps : T IV
  nt : Nat
  defers : List (FuncId × List IV)

inductive OpR where
  | val (v : IV) (h : H)
  | skip (h : H)
  | call (f : FuncId) (args : List IV)
  | dfr (f : FuncId) (args : List IV)
  | pan (v : IV)
  | rcv
  | fail

def ev (F : Fr) : Operand → Option IV
  | .tmp t => F.tmps.get t
  | .const v => ofV v
  | .func f => some (.func f [])
  | .global _ => none

def OpR.ofV (h : H) : Option IV → OpR
  | some v => .val v h
  | none => .fail
def OpR.ofVH : Option (IV × H) → OpR
  | some (v, h) => .val v h
  | none => .fail
def OpR.ofH : Option H → OpR
  | some h => .skip h
  | none => .fail
def evOpt (e : Operand → Option IV) : Option Operand → Option (Option IV)
  | none => some none
  | some x => match e x with
    | some v => some (some v)
    | none => none

def callI (P : Program) (h : H) (e : Operand → Option IV) (c : Call) : OpR :=
  match c.callee with
  | .value f => match e f, evalAll e c.args.toList with
    | some (.func g caps), some args => .call g (args ++ caps)
    | _, _ => .fail
  | .builtin b => match b, evalAll e c.args.toList with
    | .len, some [x] => match c.argTypes[0]? with
      | some t => OpR.ofV h (lenI P h t x)
      | none => .fail
    | .append, some [s, x] => match c.argTypes[0]?, c.argTypes[1]? with
      | some t, some u => OpR.ofVH (appendI P h t u s x)
      | _, _ => .fail
    | .copy, some [d, s] => match c.argTypes[0]? with
      | some t => OpR.ofVH (copyI P h t d s)
      | none => .fail
    | .delete, some [m, k] => match c.argTypes[0]? with
      | some t => match deleteI P h t m k with
        | some h' => .val (.tup []) h'
        | none => .fail
      | none => .fail
    | .min, some [x, y] => OpR.ofV h (minI x y)
    | .max, some [x, y] => OpR.ofV h (maxI x y)
    | .recover, some [] => .rcv
    | _, _ => .fail
  | .invoke _ _ => .fail

def opI (P : Program) (h : H) (e : Operand → Option IV) (o : Op) : OpR :=
  match o with
  | .move x | .assign x => OpR.ofV h (e x)
  | .pick c a b => match e c with
    | some (.bool t) => OpR.ofV h (if t then e a else e b)
    | _ => .fail
  | .alloc t => match zeroT P t with
    | some z => OpR.ofVH (newI h z.cells)
    | none => .fail
  | .box t x => match e x with
    | some v => OpR.ofVH (newI h v.cells)
    | none => .fail
  | .build t parts => match evalParts e parts.toList with
    | some ps => OpR.ofV h (buildI P t ps)
    | none => .fail
  | .buildSlice t len parts => match evalParts e parts.toList with
    | some ps => OpR.ofVH (buildSliceI P h t len ps)
    | none => .fail
  | .load t a => match e a with
    | some v => OpR.ofV h (loadI P h t v)
    | none => .fail
  | .store t a x => match e a, e x with
    | some v, some u => OpR.ofH (storeI P h t v u)
    | _, _ => .fail
  | .nilCheck x => match e x with
    | some (.ptr b off) => .val (.ptr b off) h
    | _ => .fail
  | .binOp op t x y _ => match e x, e y with
    | some v, some u => OpR.ofV h (binI P h op t x y v u)
    | _, _ => .fail
  | .unOp op _ x => match e x with
    | some v => OpR.ofV h (unI op v)
    | none => .fail
  | .convert src dst x => match e x with
    | some v => OpR.ofVH (convI P h src dst v)
    | none => .fail
  | .makeInterface t x => match e x with
    | some v => match P.underlying t with
      | some (.interface _) => .fail
      | some _ => .val (.iface t v) h
      | none => .fail
    | none => .fail
  | .makeFunc (.func f) first caps => match first.toList, evalAll e caps.toList with
    | [], some l => .val (.func f l) h
    | _, _ => .fail
  | .makeMap t r => match r with
    | none => .val (.map h.next) (h.push (.map [] 0))
    | some _ => .fail
  | .makeSlice t l c => match e l, e c with
    | some v, some u => OpR.ofVH (makeSliceI P h t v u)
    | _, _ => .fail
  | .slice t x lo hi mx => match e x, evOpt e lo, evOpt e hi, evOpt e mx with
    | some v, some l, some i, some m => OpR.ofV h (sliceI P t v l i m)
    | _, _, _, _ => .fail
  | .fieldAddr s x f => match e x with
    | some v => OpR.ofV h (fieldAddrI P s v f)
    | none => .fail
  | .field s x f => match e x with
    | some v => OpR.ofV h (fieldI P s v f)
    | none => .fail
  | .indexAddr t x i => match e x, e i with
    | some v, some u => OpR.ofV h (indexAddrI P t v u)
    | _, _ => .fail
  | .index t x i => match e x, e i with
    | some v, some u => OpR.ofV h (indexI P t v u)
    | _, _ => .fail
  | .lookup t x k ok => match e x, e k with
    | some v, some u => OpR.ofV h (lookupI P h t v u ok)
    | _, _ => .fail
  | .mapUpdate t m k v => match e m, e k, e v with
    | some x, some y, some z => OpR.ofH (mapUpdateI P h t x y z)
    | _, _, _ => .fail
  | .insert t m k v => match e m, e k, e v with
    | some x, some y, some z => OpR.ofH (mapUpdateI P h t x y z)
    | _, _, _ => .fail
  | .range t x => match e x with
    | some v => OpR.ofVH (rangeI P h t v)
    | none => .fail
  | .next it s => match e it with
    | some v => OpR.ofVH (nextI h v s)
    | none => .fail
  | .entry it => match e it with
    | some v => OpR.ofV h (entryI h v)
    | none => .fail
  | .typeAssert x xt at_ ok => match e x, P.underlying at_ with
    | some (.iface t v), some (.interface _) => .fail
    | some (.iface t v), some _ =>
      if t = at_ then .val (if ok then .tup [v, .bool true] else v) h
      else if ok then (match zeroT P at_ with | some z => .val (.tup [z, .bool false]) h | none => .fail) else .fail
    | some .nilIface, some (.interface _) => .fail
    | some .nilIface, some _ => if ok then (match zeroT P at_ with | some z => .val (.tup [z, .bool false]) h | none => .fail) else .fail
    | _, _ => .fail
  | .extract t i => match e t with
    | some (.tup vs) => OpR.ofV h vs[i]?
    | _ => .fail
  | .call c => callI P h e c
  | .defer c => match c.callee with
    | .value f => match e f, evalAll e c.args.toList with
      | some (.func g caps), some args => .dfr g (args ++ caps)
      | _, _ => .fail
    | _ => .fail
  | .panic x => match e x with
    | some (.iface t v) => .pan (.iface t v)
    | _ => .fail
  | _ => .fail

/-! ### code -/
inductive Out where
  | nrm (F : Fr) (h : H)
  | exit (id : Nat) (F : Fr) (h : H)
  | ret (F : Fr) (h : H)
  | pan (v : IV) (F : Fr) (h : H)
  | fail

inductive CRes where
  | ok (v : IV) (h : H)
  | pan (v : IV) (h : H)
  | fail

abbrev CallF := FuncId → List IV → H → CRes

def Fr.put (F : Fr) (d : Option Tmp) (v : IV) : Option Fr :=
  match d with
  | none => some F
  | some t => if t < F.nt then some { F with tmps := F.tmps.set t v } else none

/-- is an operation to be carried out, by its guard? -/
def wantI (all : Array Oper) (F : Fr) (g : Option (Nat × Bool)) : Option Bool :=
  match g with
  | none => some true
  | some (j, want) => match (all[j]?).bind (·.dst) with
    | some t => match F.tmps.get t with
      | some (.bool b) => some (b == want)
      | some (.tup []) => some false
      | _ => none
    | none => none

def runOps (P : Program) (cf : CallF) (all : Array Oper) : List Oper → Fr → H → Out
  | [], F, h => .nrm F h
  | o :: os, F, h =>
    match wantI all F o.guard with
    | none => .fail
    | some false => match F.put o.dst (.tup []) with
      | some F' => runOps P cf all os F' h
      | none => .fail
    | some true =>
      match opI P h (ev F) o.op with
      | .val v h' => match F.put o.dst v with
        | some F' => runOps P cf all os F' h'
        | none => .fail
      | .skip h' => match F.put o.dst (.tup []) with
        | some F' => runOps P cf all os F' h'
        | none => .fail
      | .call f args => match cf f args h with
        | .ok v h' => match F.put o.dst v with
          | some F' => runOps P cf all os F' h'
          | none => .fail
        | .pan v h' => .pan v F h'
        | .fail => .fail
      | .dfr f args => match ({ F with defers := (f, args) :: F.defers } : Fr).put o.dst (.tup []) with
        | some F' => runOps P cf all os F' h
        | none => .fail
      | .pan v => .pan v F h
      | .rcv => .fail
      | .fail => .fail

def loopN (body : Fr → H → Out) : Nat → Fr → H → Out
  | 0, _, _ => .fail
  | n + 1, F, h => match body F h with
    | .nrm F' h' => loopN body n F' h'
    | r => r

def exec (P : Program) (cf : CallF) (dr : Array Oper → Fr → H → Out) (m : Nat) : Code → Fr → H → Out
  | .skip, F, h => .nrm F h
  | .region _ ops false, F, h => runOps P cf ops ops.toList F h
  | .region _ ops true, F, h => dr ops F h
  | .seq a b, F, h => match exec P cf dr m a F h with
    | .nrm F' h' => exec P cf dr m b F' h'
    | r => r
  | .cond c a b, F, h => match ev F c with
    | some (.bool true) => exec P cf dr m a F h
    | some (.bool false) => exec P cf dr m b F h
    | _ => .fail
  | .block id c, F, h => match exec P cf dr m c F h with
    | .exit j F' h' => if j = id then .nrm F' h' else .exit j F' h'
    | r => r
  | .loop c, F, h => loopN (exec P cf dr m c) m F h
  | .exit id, F, h => .exit id F h
  | .ret, F, h => .ret F h
  | .label _, F, h => .nrm F h
  | _, _, _ => .fail

/-! ### deferred calls -/
inductive Mode where
  | ret
  | pan (v : IV)
  | done

def runOpsD (P : Program) (cf : CallF) (all : Array Oper) : List Oper → Mode → Fr → H → Mode × Out
  | [], st, F, h => (st, .nrm F h)
  | o :: os, st, F, h =>
    match wantI all F o.guard with
    | some true =>
      match opI P h (ev F) o.op with
      | .rcv => match st with
        | .pan v => match F.put o.dst v with
          | some F' => runOpsD P cf all os .done F' h
          | none => (st, .fail)
        | _ => match F.put o.dst .nilIface with
          | some F' => runOpsD P cf all os st F' h
          | none => (st, .fail)
      | .val v h' => match F.put o.dst v with
        | some F' => runOpsD P cf all os st F' h'
        | none => (st, .fail)
      | .skip h' => match F.put o.dst (.tup []) with
        | some F' => runOpsD P cf all os st F' h'
        | none => (st, .fail)
      | _ => (st, .fail)
    | _ => (st, .fail)

def execD (P : Program) (cf : CallF) (dr : Array Oper → Fr → H → Out) (m : Nat) : Code → Mode → Fr → H → Mode × Out
  | .seq a b, st, F, h => match execD P cf dr m a st F h with
    | (st', .nrm F' h') => execD P cf dr m b st' F' h'
    | r => r
  | .region _ ops false, st, F, h => runOpsD P cf ops ops.toList st F h
  | c, st, F, h => (st, exec P cf dr m c F h)

def argTmps : List IV → Nat → T IV → T IV
  | [], _, t => t
  | v :: l, i, t => argTmps l (i + 1) (t.set i v)
def enterI (fn : Func) (args : List IV) : Fr := ⟨argTmps args 0 .leaf, max fn.ntmps args.length, []⟩

/-- behind a deferred call: the next ones, in the mode that it left -/
def afterD (dfs : List (FuncId × List IV)) (st' st : Mode) (k : Mode → Option (Mode × H)) : Option (Mode × H) :=
  match dfs, st', st with
  | [], .done, _ => k .ret
  | [], .ret, .ret => k .ret
  | [], .pan v, .pan _ => k (.pan v)
  | _, _, _ => none
/-- the deferred calls of a frame, last one first -/
def leaveI (P : Program) (cf : CallF) (dr : Array Oper → Fr → H → Out) (m : Nat) : List (FuncId × List IV) → Mode → H → Option (Mode × H)
  | [], st, h => some (st, h)
  | (f, args) :: ds, st, h =>
    match P.funcs[f]? with
    | some fn => match fn.body, fn.results.toList with
      | some c, [] => match execD P cf dr m c st (enterI fn args) h with
        | (st', .nrm F' h') => afterD F'.defers st' st fun s => leaveI P cf dr m ds s h'
        | (st', .ret F' h') => afterD F'.defers st' st fun s => leaveI P cf dr m ds s h'
        | _ => none
      | _, _ => none
    | none => none

def resultsI (P : Program) (F : Fr) (h : H) : List ResultVar → Option (List IV)
  | [] => some []
  | .tmp t :: l => match F.tmps.get t with
    | some v => match resultsI P F h l with
      | some r => some (v :: r)
      | none => none
    | none => none
  | .cell a t :: l => match F.tmps.get a with
    | some p => match loadI P h t p with
      | some v => match resultsI P F h l with
        | some r => some (v :: r)
        | none => none
      | none => none
    | none => none
def oneOf : List IV → IV
  | [v] => v
  | vs => .tup vs

def finishI (P : Program) (fn : Func) (F : Fr) : Option (Mode × H) → CRes
  | some (.ret, h) => match resultsI P F h fn.results.toList with
    | some vs => .ok (oneOf vs) h
    | none => .fail
  | some (.pan v, h) => .pan v h
  | _ => .fail

def bodyI (P : Program) (cf : CallF) (dr : Array Oper → Fr → H → Out) (m : Nat) (f : FuncId) (args : List IV) (h : H) : CRes :=
  match P.funcs[f]? with
  | none => .fail
  | some fn => match fn.body with
    | none => .fail
    | some c =>
      match exec P cf dr m c (enterI fn args) h with
      | .nrm F h' => finishI P fn F (leaveI P cf dr m F.defers .ret h')
      | .ret F h' => finishI P fn F (leaveI P cf dr m F.defers .ret h')
      | .pan v F h' => finishI P fn F (leaveI P cf dr m F.defers (.pan v) h')
      | _ => .fail

/-- a call, so deep at the most; some functions are told by a table -/
def callN (P : Program) (ov : FuncId → Option (List IV → H → CRes)) (dr : CallF → Array Oper → Fr → H → Out) (m : Nat) : Nat → CallF
  | 0 => fun _ _ _ => .fail
  | n + 1 => fun f args h =>
    match ov f with
    | some g => g args h
    | none => bodyI P (callN P ov dr m n) (dr (callN P ov dr m n)) m f args h

end Go.Proofs.YtblgpcijbdbeiaaDoor.I
