import Derived.Test.YtelhoddamlkfhaaGreatDoorChecked
import Derived.Test.YtelhoddamlkfhaaGreatDoorM3
import Derived.Shelf.LaysM
set_option maxRecDepth 100000
set_option linter.unusedVariables false
namespace Go.Proofs.YtelhoddamlkfhaaGreatDoor
open Go I
noncomputable abbrev CL (T : Tab) : CallF := call Tryz.prog T
theorem noNum : NoNum Tryz.prog := by
  intro f fn hf
  have h : (Tryz.prog.funcs.all fun fn => !(fn.name == "runtime.NumGoroutine")) = true := by kernel_rfl
  simpa using Array.all_eq_true_iff_forall_mem.1 h fn (Array.mem_of_getElem? hf)
variable {T : Tab} {h : H} {r : CRes}
def z0 : List IV := [(.int .i64 0), (.str ⟨0, 0⟩), (.str ⟨0, 0⟩), (.bool false), .nilSlice, (.int .i64 0)]
def p1 : List (Nat × Nat) := [(0, 1), (1, 1), (2, 1), (3, 1), (4, 1), (5, 1)]
def z2 : List IV := [(.int .i64 0), (.str ⟨0, 0⟩), (.int .i64 0)]
def p3 : List (Nat × Nat) := [(0, 1), (1, 1), (2, 1)]
def z4 : List IV := [.nilSlice, (.int .i64 0), (.int .i64 0), (.int .i64 0)]
def p5 : List (Nat × Nat) := [(0, 1), (1, 1), (2, 2)]
def z6 : List IV := [(.str ⟨0, 0⟩), .nilSlice, .nilSlice, .nilSlice, (.int .i64 0)]
def z7 : List IV := [(.int .i64 0), (.str ⟨0, 0⟩), .nilSlice, (.bool false), (.int .i64 0), (.str ⟨0, 0⟩), (.str ⟨0, 0⟩), (.bool false), .nilSlice, (.int .i64 0), (.int .i64 0), (.str ⟨0, 0⟩), (.str ⟨0, 0⟩), (.bool false), .nilSlice, (.int .i64 0), (.bool false), (.int .i64 0), (.str ⟨0, 0⟩), (.str ⟨0, 0⟩), (.bool false), .nilSlice, (.int .i64 0), (.int .i64 0), (.str ⟨0, 0⟩), (.str ⟨0, 0⟩), (.bool false), .nilSlice, (.int .i64 0), (.int .i64 0), (.str ⟨0, 0⟩), (.str ⟨0, 0⟩), (.bool false), .nilSlice, (.int .i64 0), (.int .i64 0), (.str ⟨0, 0⟩), (.str ⟨0, 0⟩), (.bool false), .nilSlice, (.int .i64 0), (.str ⟨0, 0⟩), (.str ⟨0, 0⟩), .nilSlice, .nilSlice, .nilSlice, .nilSlice, (.int .i64 0)]
def p8 : List (Nat × Nat) := [(0, 1), (1, 1), (2, 1), (3, 1), (4, 1)]
def z9 : List IV := [(.bool false), (.bool false), (.bool false), (.int .i64 0), (.str ⟨0, 0⟩), (.str ⟨0, 0⟩), (.bool false), .nilSlice, (.int .i64 0), (.int .i64 0), (.str ⟨0, 0⟩), (.str ⟨0, 0⟩), (.bool false), .nilSlice, (.int .i64 0), (.str ⟨0, 0⟩), (.int .i64 0)]
def z10 : List IV := [(.str ⟨0, 0⟩), (.int .i64 0), (.str ⟨0, 0⟩), (.str ⟨0, 0⟩), (.bool false), .nilSlice, (.int .i64 0), (.int .i64 0)]
def p11 : List (Nat × Nat) := [(0, 1), (1, 1), (2, 1), (3, 6), (9, 6), (15, 1), (16, 1)]
def p12 : List (Nat × Nat) := [(0, 1), (1, 6), (7, 1)]
def p13 : List (Nat × Nat) := [(0, 1), (1, 1), (2, 1), (3, 1), (4, 6), (10, 6), (16, 1), (17, 6), (23, 6), (29, 6), (35, 6), (41, 1), (42, 1), (43, 1), (44, 1), (45, 1), (46, 1), (47, 1)]
def js7 : List Jn := [⟨[], [0, 1, 2]⟩, ⟨[1, 1, 1, 1, 1, 1, 1, 1, 1], [2, 8, 10, 12, 13, 14]⟩, ⟨[1, 0, 1, 1, 1, 1, 1, 1, 1, 1], [2, 8, 10, 12, 13, 14, 71]⟩, ⟨[1, 1, 1, 1, 1, 1, 1, 1, 1, 1, 1], [13, 15]⟩]
noncomputable def J7 (T : Tab) : Rec := fj Tryz.prog (CL T) Tryz.f7 js7
noncomputable def t7_0 (cf : CallF) (R : Rec) (a0 a1 a2 : IV) (h : H) : CRes :=
 obind2 (bslK true 1 [(.int .i64 0)] 15 [(0, (.int .i64 27)), (1, (.int .i64 26)), (2, (.int .i64 25)), (3, (.int .i64 24)), (4, (.int .i64 23)), (5, (.int .i64 21)), (6, (.int .i64 22)), (7, (.int .i64 17)), (8, (.int .i64 18)), (9, (.int .i64 19)), (10, (.int .i64 20)), (11, (.int .i64 15)), (12, (.int .i64 16)), (13, (.int .i64 13)), (14, (.int .i64 14))] h) fun x1 h2 =>
 obind2 (bslK false 1 [(.str ⟨0, 0⟩)] 15 [(0, (.str ⟨2, 31868⟩)), (1, (.str ⟨2, 9766⟩)), (2, (.str ⟨1, 124⟩)), (3, (.str ⟨1, 94⟩)), (4, (.str ⟨1, 38⟩)), (5, (.str ⟨2, 15677⟩)), (6, (.str ⟨2, 15649⟩)), (7, (.str ⟨1, 60⟩)), (8, (.str ⟨2, 15676⟩)), (9, (.str ⟨1, 62⟩)), (10, (.str ⟨2, 15678⟩)), (11, (.str ⟨2, 15420⟩)), (12, (.str ⟨2, 15934⟩)), (13, (.str ⟨1, 43⟩)), (14, (.str ⟨1, 45⟩))] h2) fun x3 h4 =>
 obind2 (bslK true 1 [(.int .i64 0)] 15 [(0, (.int .i64 1)), (1, (.int .i64 2)), (2, (.int .i64 3)), (3, (.int .i64 4)), (4, (.int .i64 5)), (5, (.int .i64 6)), (6, (.int .i64 6)), (7, (.int .i64 7)), (8, (.int .i64 7)), (9, (.int .i64 7)), (10, (.int .i64 7)), (11, (.int .i64 8)), (12, (.int .i64 8)), (13, (.int .i64 9)), (14, (.int .i64 9))] h4) fun x5 h6 =>
 obind (binN .and a0 (.int .i64 65535)) fun x7 =>
 obind (binN .rem x7 (.int .i64 15)) fun x8 =>
 obind (binN .and a1 (.int .i64 65535)) fun x9 =>
 obind (binN .rem x9 (.int .i64 15)) fun x10 =>
 obind (ixS 1 x1 x10) fun x11 =>
 obind (ld0 h6 x11) fun x12 =>
 callP (cf 17 [(.str ⟨1, 98⟩)] h6) (fun v13 h14 =>
 .pan v13 h14) fun x15 h16 =>
 obind (ld0 h16 x11) fun x17 =>
 bif IV.beq x17 x12 then
 callP (cf 17 [(.str ⟨1, 99⟩)] h16) (fun v18 h19 =>
 .pan v18 h19) fun x20 h21 =>
 obind (ld0 h21 x11) fun x22 =>
 bif IV.beq x22 x12 then
 obind2 (bslK false 6 z0 2 [(0, x15), (1, x20)] h21) fun x23 h24 =>
 obind (ld0 h24 x11) fun x25 =>
 bif IV.beq x25 x12 then
 obind (bldK z0 p1 [(0, x12), (4, x23)]) fun x26 =>
 obind2 (newI h24 z0) fun x27 h28 =>
 obind (ld0 h28 x11) fun x29 =>
 bif IV.beq x29 x12 then
 obindH (stA 6 h28 x27 x26) fun h30 =>
 obind (ixS 1 x1 x8) fun x31 =>
 obind (ld0 h30 x31) fun x32 =>
 obind (ldA 6 h30 x27) fun x33 =>
 callP (cf 17 [(.str ⟨1, 97⟩)] h30) (fun v34 h35 =>
 .pan v34 h35) fun x36 h37 =>
 obind (ldA 6 h37 x27) fun x38 =>
 bif IV.beq x38 x33 then
 obind (ld0 h37 x31) fun x39 =>
 bif IV.beq x39 x32 then
 obind2 (bslK false 6 z0 2 [(0, x33), (1, x36)] h37) fun x40 h41 =>
 obind (ld0 h41 x31) fun x42 =>
 bif IV.beq x42 x32 then
 obind (bldK z0 p1 [(0, x32), (4, x40)]) fun x43 =>
 obind2 (newI h41 z0) fun x44 h45 =>
 obind (ld0 h45 x31) fun x46 =>
 bif IV.beq x46 x32 then
 obindH (stA 6 h45 x44 x43) fun h47 =>
 obind (ixS 1 x3 x10) fun x48 =>
 obind (ld0 h47 x48) fun x49 =>
 obind (binS .add (.str ⟨2, 8290⟩) x49) fun x50 =>
 obind (binS .add x50 (.str ⟨2, 25376⟩)) fun x51 =>
 obind (ixS 1 x5 x10) fun x52 =>
 obind (ld0 h47 x52) fun x53 =>
 obind (ixS 1 x5 x8) fun x54 =>
 obind (ld0 h47 x54) fun x55 =>
 obind (binN .lss x53 x55) fun x56 =>
 guardK x56 (R 2 [a2, x3, x8, x27, x44, x51, (.bool true)] h47)
 (guardK a2 (obind (ixS 1 x5 x10) fun x57 =>
 obind (ld0 h47 x57) fun x58 =>
 obind (ixS 1 x5 x8) fun x59 =>
 obind (ld0 h47 x59) fun x60 =>
 obind (binN .eql x58 x60) fun x61 =>
 R 2 [a2, x3, x8, x27, x44, x51, x61] h47)
 (R 2 [a2, x3, x8, x27, x44, x51, (.bool false)] h47)
 (CRes.fail))
 (CRes.fail)
 else .fail
 else .fail
 else .fail
 else .fail
 else .fail
 else .fail
 else .fail
 else .fail
theorem e7_0 {a0 a1 a2 : IV} (e : t7_0 (CL T) (J7 T) a0 a1 a2 h = r) (hr : r ≠ .fail) : J7 T 0 [a0, a1, a2] h = r := fj_step (by kernel_rfl) e hr
noncomputable def t7_2 (cf : CallF) (R : Rec) (a2 a8 a10 a12 a13 a14 a71 : IV) (h : H) : CRes :=
 condK a71
 (obind (binS .add (.str ⟨2, 8232⟩) a14) fun x62 =>
 obind (binS .add x62 (.str ⟨2, 10528⟩)) fun x63 =>
 R 1 [a2, a8, a10, a12, a13, x63] h)
 (R 1 [a2, a8, a10, a12, a13, a14] h)
theorem e7_2 {a2 a8 a10 a12 a13 a14 a71 : IV} (e : t7_2 (CL T) (J7 T) a2 a8 a10 a12 a13 a14 a71 h = r) (hr : r ≠ .fail) : J7 T 2 [a2, a8, a10, a12, a13, a14, a71] h = r := fj_step (by kernel_rfl) e hr
noncomputable def t7_1 (cf : CallF) (R : Rec) (a2 a8 a10 a12 a13 a14 : IV) (h : H) : CRes :=
 obind (binS .add a14 (.str ⟨1, 32⟩)) fun x64 =>
 obind (ixS 1 a8 a10) fun x65 =>
 obind (ld0 h x65) fun x66 =>
 obind (binS .add x64 x66) fun x67 =>
 obind (binS .add x67 (.str ⟨3, 2122016⟩)) fun x68 =>
 condK a2
 (callP (cf 17 [(.str ⟨1, 97⟩)] h) (fun v69 h70 =>
 obind (ldA 6 h a12) fun x71 =>
 .pan v69 h70) fun x72 h73 =>
 obind (ldA 6 h73 a12) fun x74 =>
 obind (ldA 6 h a12) fun x75 =>
 bif IV.beq x75 x74 then
 obind2 (bslK false 6 z0 2 [(0, x72), (1, x74)] h73) fun x76 h77 =>
 obind (fadK 4 a13) fun x78 =>
 obindH (stA 1 h77 x78 x76) fun h79 =>
 obind (ixS 1 a8 a10) fun x80 =>
 obind (ld0 h79 x80) fun x81 =>
 obind (binS .add (.str ⟨2, 8289⟩) x81) fun x82 =>
 obind (binS .add x82 (.str ⟨1, 32⟩)) fun x83 =>
 obind (binS .add x83 a14) fun x84 =>
 obind (binS .add x84 (.str ⟨1, 32⟩)) fun x85 =>
 R 3 [a13, x85] h79
 else .fail)
 (R 3 [a13, x68] h)
theorem e7_1 {a2 a8 a10 a12 a13 a14 : IV} (e : t7_1 (CL T) (J7 T) a2 a8 a10 a12 a13 a14 h = r) (hr : r ≠ .fail) : J7 T 1 [a2, a8, a10, a12, a13, a14] h = r := fj_step (by kernel_rfl) e hr
noncomputable def t7_3 (cf : CallF) (R : Rec) (a13 a15 : IV) (h : H) : CRes :=
 obind (ldA 6 h a13) fun x86 =>
 callP (cf 14 [x86] h) .pan fun x87 h88 =>
 obind (extractI x87 0) fun x89 =>
 obind (extractI x87 1) fun x90 =>
 obind (binS .eql x89 a15) fun x91 =>
 spanK x91 true h88 (fun k92 =>
 obind (binN .eql x90 (.int .i64 0)) fun x95 =>
 k92 x95 h88) fun x93 h94 =>
 obind (pickI x91 (some x93) (some (.bool false))) fun x96 =>
 spanK x96 true h94 (fun k97 =>
 callP (cf 12 [] h94) .pan fun x100 h101 =>
 k97 x100 h101) fun x98 h99 =>
 obind (pickI x96 (some x98) (some (.bool false))) fun x102 =>
 .ok x102 h99
theorem e7_3 {a13 a15 : IV} (e : t7_3 (CL T) (J7 T) a13 a15 h = r) (hr : r ≠ .fail) : J7 T 3 [a13, a15] h = r := fj_step (by kernel_rfl) e hr
theorem c7 (hT : OvStep T) (ho : T.ov 7 = none) (hp : T.pol 7 = true) {a0 a1 a2 : IV} (hg : Gd h) (e : t7_0 (CL T) (J7 T) a0 a1 a2 h = r) (hr : r ≠ .fail) : CL T 7 [a0, a1, a2] h = r := call_good ho Tryz.func7 rfl rfl rfl hp hg hT (e7_0 e hr) hr
def js9 : List Jn := [⟨[], [0]⟩, ⟨[0, 1, 0, 1, 1, 1], [3, 5]⟩]
noncomputable def J9 (T : Tab) : Rec := fj Tryz.prog (CL T) Tryz.f9 js9
noncomputable def t9_0 (cf : CallF) (R : Rec) (a0 : IV) (h : H) : CRes :=
 callP (cf 18 [a0] h) .pan fun x1 h2 =>
 obind (extractI x1 0) fun x3 =>
 obind (extractI x1 1) fun x4 =>
 obind (lenS x4) fun x5 =>
 obind (binN .gtr x5 (.int .i64 0)) fun x6 =>
 condK x6
 (.ok .nilSlice h2)
 (R 1 [x3, (.int .i64 0)] h2)
theorem e9_0 {a0 : IV} (e : t9_0 (CL T) (J9 T) a0 h = r) (hr : r ≠ .fail) : J9 T 0 [a0] h = r := fj_step (by kernel_rfl) e hr
noncomputable def t9_1 (cf : CallF) (R : Rec) (a3 a5 : IV) (h : H) : CRes :=
 obind (lenS a3) fun x7 =>
 obind (binN .lss a5 x7) fun x8 =>
 condK x8
 (obind (ixS 3 a3 a5) fun x9 =>
 obind (fadK 0 x9) fun x10 =>
 obind (ld0 h x10) fun x11 =>
 obind (binN .eql x11 (.int .i64 4)) fun x12 =>
 spanK x12 false h (fun k13 =>
 obind (ixS 3 a3 a5) fun x16 =>
 obind (fadK 0 x16) fun x17 =>
 obind (ld0 h x17) fun x18 =>
 obind (binN .eql x18 (.int .i64 5)) fun x19 =>
 k13 x19 h) fun x14 h15 =>
 obind (pickI x12 (some (.bool true)) (some x14)) fun x20 =>
 condK x20
 (.ok .nilSlice h15)
 (obind (binN .add a5 (.int .i64 1)) fun x21 =>
 R 1 [a3, x21] h15))
 (callP (cf 19 [a3] h) .pan fun x22 h23 =>
 obind (extractI x22 0) fun x24 =>
 obind (extractI x22 1) fun x25 =>
 .ok x24 h23)
theorem e9_1 {a3 a5 : IV} (e : t9_1 (CL T) (J9 T) a3 a5 h = r) (hr : r ≠ .fail) : J9 T 1 [a3, a5] h = r := fj_step (by kernel_rfl) e hr
def js10 : List Jn := [⟨[], [0]⟩, ⟨[1, 0, 1, 1], [4, 24]⟩]
noncomputable def J10 (T : Tab) : Rec := fj Tryz.prog (CL T) Tryz.f10 js10
noncomputable def t10_0 (cf : CallF) (R : Rec) (a0 : IV) (h : H) : CRes :=
 obind2 (newI h (IV.cells a0)) fun x1 h2 =>
 callP (cf 20 [(.func 21 [x1])] h2) .pan fun x3 h4 =>
 obind (extractI x3 0) fun x5 =>
 obind (extractI x3 1) fun x6 =>
 obind (unI .not x6) fun x7 =>
 guardK x7 (R 1 [x5, (.bool true)] h4)
 (obind (ld0 h4 x1) fun x8 =>
 obind (lenS x8) fun x9 =>
 obind (binN .eql x9 (.int .i64 0)) fun x10 =>
 guardK x10 (R 1 [x5, (.bool true)] h4)
 (callP (cf 24 [x5] h4) (fun v11 h12 =>
 obind (ld0 h4 x1) fun x13 =>
 .pan v11 h12) fun x14 h15 =>
 obind (ld0 h15 x1) fun x16 =>
 obind (ld0 h4 x1) fun x17 =>
 bif IV.beq x17 x16 then
 callP (cf 23 [x14, x16, (.func 25 [])] h15) (fun v18 h19 =>
 .pan v18 h19) fun x20 h21 =>
 obind (unI .not x20) fun x22 =>
 R 1 [x5, x22] h21
 else .fail)
 (CRes.fail))
 (CRes.fail)
theorem e10_0 {a0 : IV} (e : t10_0 (CL T) (J10 T) a0 h = r) (hr : r ≠ .fail) : J10 T 0 [a0] h = r := fj_step (by kernel_rfl) e hr
noncomputable def t10_1 (cf : CallF) (R : Rec) (a4 a24 : IV) (h : H) : CRes :=
 condK a24
 (.ok (.tup [(.str ⟨0, 0⟩), (.int .i64 1)]) h)
 (.ok (.tup [a4, (.int .i64 0)]) h)
theorem e10_1 {a4 a24 : IV} (e : t10_1 (CL T) (J10 T) a4 a24 h = r) (hr : r ≠ .fail) : J10 T 1 [a4, a24] h = r := fj_step (by kernel_rfl) e hr
theorem c10 (hT : OvStep T) (ho : T.ov 10 = none) (hp : T.pol 10 = true) {a0 : IV} (hg : Gd h) (e : t10_0 (CL T) (J10 T) a0 h = r) (hr : r ≠ .fail) : CL T 10 [a0] h = r := call_good ho Tryz.func10 rfl rfl rfl hp hg hT (e10_0 e hr) hr
def js12 : List Jn := [⟨[], []⟩]
noncomputable def J12 (T : Tab) : Rec := fj Tryz.prog (CL T) Tryz.f12 js12
noncomputable def t12_0 (cf : CallF) (R : Rec) (h : H) : CRes :=
 callP (cf 17 [(.str ⟨1, 98⟩)] h) .pan fun x1 h2 =>
 callP (cf 17 [(.str ⟨1, 99⟩)] h2) .pan fun x3 h4 =>
 obind2 (bslK false 6 z0 2 [(0, x1), (1, x3)] h4) fun x5 h6 =>
 obind (bldK z0 p1 [(0, (.int .i64 14)), (4, x5)]) fun x7 =>
 obind2 (newI h6 z0) fun x8 h9 =>
 obindH (stA 6 h9 x8 x7) fun h10 =>
 callP (cf 17 [(.str ⟨1, 97⟩)] h10) (fun v11 h12 =>
 obind (ldA 6 h10 x8) fun x13 =>
 .pan v11 h12) fun x14 h15 =>
 obind (ldA 6 h15 x8) fun x16 =>
 obind (ldA 6 h10 x8) fun x17 =>
 bif IV.beq x17 x16 then
 obind2 (bslK false 6 z0 2 [(0, x14), (1, x16)] h15) fun x18 h19 =>
 obind (bldK z0 p1 [(0, (.int .i64 13)), (4, x18)]) fun x20 =>
 callP (cf 14 [x20] h19) (fun v21 h22 =>
 .pan v21 h22) fun x23 h24 =>
 obind (extractI x23 0) fun x25 =>
 obind (extractI x23 1) fun x26 =>
 callP (cf 9 [(.str ⟨28, 10681158723765490042392609860334637361368255557773694012939951173485⟩)] h24) .pan fun x27 h28 =>
 callP (cf 10 [x27] h28) .pan fun x29 h30 =>
 obind (extractI x29 0) fun x31 =>
 obind (extractI x29 1) fun x32 =>
 obind (binS .eql x25 (.str ⟨14, 652295485335856880696194050498657⟩)) fun x33 =>
 spanK x33 true h30 (fun k34 =>
 obind (binN .eql x26 (.int .i64 0)) fun x37 =>
 k34 x37 h30) fun x35 h36 =>
 obind (pickI x33 (some x35) (some (.bool false))) fun x38 =>
 spanK x38 true h36 (fun k39 =>
 obind (binS .eql x31 (.str ⟨33, 1203796119775119831941197655834261563115419653599119637621631311691440101551981⟩)) fun x42 =>
 k39 x42 h36) fun x40 h41 =>
 obind (pickI x38 (some x40) (some (.bool false))) fun x43 =>
 spanK x43 true h41 (fun k44 =>
 obind (binN .eql x32 (.int .i64 0)) fun x47 =>
 k44 x47 h41) fun x45 h46 =>
 obind (pickI x43 (some x45) (some (.bool false))) fun x48 =>
 .ok x48 h46
 else .fail
theorem e12_0 (e : t12_0 (CL T) (J12 T) h = r) (hr : r ≠ .fail) : J12 T 0 [] h = r := fj_step (by kernel_rfl) e hr
def js14 : List Jn := [⟨[], [0]⟩, ⟨[1, 0, 1, 1, 1, 1], [4, 45]⟩]
noncomputable def J14 (T : Tab) : Rec := fj Tryz.prog (CL T) Tryz.f14 js14
noncomputable def t14_0 (cf : CallF) (R : Rec) (a0 : IV) (h : H) : CRes :=
 obind2 (newI h (IV.cells a0)) fun x1 h2 =>
 callP (cf 20 [(.func 27 [x1])] h2) .pan fun x3 h4 =>
 obind (extractI x3 0) fun x5 =>
 obind (extractI x3 1) fun x6 =>
 obind (unI .not x6) fun x7 =>
 spanK x7 false h4 (fun k8 =>
 obind (lenStr x5) fun x11 =>
 obind (binN .gtr x11 (.int .i64 65472)) fun x12 =>
 k8 x12 h4) fun x9 h10 =>
 obind (pickI x7 (some (.bool true)) (some x9)) fun x13 =>
 condK x13
 (.ok (.tup [(.str ⟨0, 0⟩), (.int .i64 1)]) h10)
 (obind (binS .add (.str ⟨26, 51805714562751393149289424451589147550849002627845025786261357⟩) x5) fun x14 =>
 obind (binS .add x14 (.str ⟨12, 3217463787080858183917701691⟩)) fun x15 =>
 callP (cf 24 [x15] h10) .pan fun x16 h17 =>
 obind (lenS x16) fun x18 =>
 obind (binN .neq x18 (.int .i64 1)) fun x19 =>
 guardK x19 (R 1 [x5, (.bool true)] h17)
 (obind (ixS 5 x16 (.int .i64 0)) fun x20 =>
 obind (fadK 3 x20) fun x21 =>
 obind (ld0 h17 x21) fun x22 =>
 obind (lenS x22) fun x23 =>
 obind (binN .neq x23 (.int .i64 1)) fun x24 =>
 guardK x24 (R 1 [x5, (.bool true)] h17)
 (obind (ixS 5 x16 (.int .i64 0)) fun x25 =>
 obind (fadK 3 x25) fun x26 =>
 obind (ld0 h17 x26) fun x27 =>
 obind (ixS 48 x27 (.int .i64 0)) fun x28 =>
 obind (fadK 23 x28) fun x29 =>
 obind (ldA 6 h17 x29) fun x30 =>
 obind (ldA 6 h17 x1) fun x31 =>
 callP (cf 29 [x30, x31] h17) (fun v32 h33 =>
 .pan v32 h33) fun x34 h35 =>
 obind (unI .not x34) fun x36 =>
 R 1 [x5, x36] h35)
 (CRes.fail))
 (CRes.fail))
theorem e14_0 {a0 : IV} (e : t14_0 (CL T) (J14 T) a0 h = r) (hr : r ≠ .fail) : J14 T 0 [a0] h = r := fj_step (by kernel_rfl) e hr
noncomputable def t14_1 (cf : CallF) (R : Rec) (a4 a45 : IV) (h : H) : CRes :=
 condK a45
 (.ok (.tup [(.str ⟨0, 0⟩), (.int .i64 1)]) h)
 (.ok (.tup [a4, (.int .i64 0)]) h)
theorem e14_1 {a4 a45 : IV} (e : t14_1 (CL T) (J14 T) a4 a45 h = r) (hr : r ≠ .fail) : J14 T 1 [a4, a45] h = r := fj_step (by kernel_rfl) e hr
theorem c14 (hT : OvStep T) (ho : T.ov 14 = none) (hp : T.pol 14 = true) {a0 : IV} (hg : Gd h) (e : t14_0 (CL T) (J14 T) a0 h = r) (hr : r ≠ .fail) : CL T 14 [a0] h = r := call_good ho Tryz.func14 rfl rfl rfl hp hg hT (e14_0 e hr) hr
def js17 : List Jn := [⟨[], [0]⟩]
noncomputable def J17 (T : Tab) : Rec := fj Tryz.prog (CL T) Tryz.f17 js17
noncomputable def t17_0 (cf : CallF) (R : Rec) (a0 : IV) (h : H) : CRes :=
 obind2 (newI h z0) fun x1 h2 =>
 obind (bldK z0 p1 [(0, (.int .i64 2)), (1, a0)]) fun x3 =>
 obindH (stA 6 h2 x1 x3) fun h4 =>
 obind (ldA 6 h4 x1) fun x5 =>
 .ok x5 h4
theorem e17_0 {a0 : IV} (e : t17_0 (CL T) (J17 T) a0 h = r) (hr : r ≠ .fail) : J17 T 0 [a0] h = r := fj_step (by kernel_rfl) e hr
theorem c17 (hT : OvStep T) (ho : T.ov 17 = none) (hp : T.pol 17 = true) {a0 : IV} (hg : Gd h) (e : t17_0 (CL T) (J17 T) a0 h = r) (hr : r ≠ .fail) : CL T 17 [a0] h = r := call_good ho Tryz.func17 rfl rfl rfl hp hg hT (e17_0 e hr) hr
def js18 : List Jn := [⟨[], [0]⟩, ⟨[0, 0, 1, 1, 1, 1, 1], [0, 4, 5, 6]⟩, ⟨[1, 1, 0, 1, 0, 0, 0, 1, 1, 1, 1, 1], [0, 4, 5, 6]⟩]
noncomputable def J18 (T : Tab) : Rec := fj Tryz.prog (CL T) Tryz.f18 js18
noncomputable def t18_0 (cf : CallF) (R : Rec) (a0 : IV) (h : H) : CRes :=
 obind (lenStr a0) fun x1 =>
 obind (binN .gtr x1 (.int .i64 65536)) fun x2 =>
 condK x2
 (callP (cf 34 [(.int .i64 0), (.int .i64 4)] h) .pan fun x3 h4 =>
 .ok (.tup [.nilSlice, x3]) h4)
 (R 1 [a0, .nilSlice, (.bool false), (.int .i64 0)] h)
theorem e18_0 {a0 : IV} (e : t18_0 (CL T) (J18 T) a0 h = r) (hr : r ≠ .fail) : J18 T 0 [a0] h = r := fj_step (by kernel_rfl) e hr
noncomputable def t18_1 (cf : CallF) (R : Rec) (a0 a4 a5 a6 : IV) (h : H) : CRes :=
 obind (lenStr a0) fun x5 =>
 obind (binN .lss a6 x5) fun x6 =>
 condK x6
 (obind (ixStr a0 a6) fun x7 =>
 obind (binN .eql x7 (.int .u8 10)) fun x8 =>
 spanK x8 true h (fun k9 =>
 k9 a5 h) fun x10 h11 =>
 obind (pickI x8 (some x10) (some (.bool false))) fun x12 =>
 condK x12
 (obind (bldK z2 p3 [(0, (.int .i64 5)), (2, a6)]) fun x13 =>
 obind2 (bslK false 3 z2 1 [(0, x13)] h11) fun x14 h15 =>
 obind2 (appK 3 32 h15 a4 x14) fun x16 h17 =>
 obind (binN .add a6 (.int .i64 1)) fun x18 =>
 R 2 [a0, x16, (.bool false), x18] h17)
 (obind (binN .eql x7 (.int .u8 32)) fun x19 =>
 spanK x19 false h11 (fun k20 =>
 obind (binN .eql x7 (.int .u8 9)) fun x23 =>
 k20 x23 h11) fun x21 h22 =>
 obind (pickI x19 (some (.bool true)) (some x21)) fun x24 =>
 spanK x24 false h22 (fun k25 =>
 obind (binN .eql x7 (.int .u8 10)) fun x28 =>
 k25 x28 h22) fun x26 h27 =>
 obind (pickI x24 (some (.bool true)) (some x26)) fun x29 =>
 spanK x29 false h27 (fun k30 =>
 obind (binN .eql x7 (.int .u8 13)) fun x33 =>
 k30 x33 h27) fun x31 h32 =>
 obind (pickI x29 (some (.bool true)) (some x31)) fun x34 =>
 condK x34
 (obind (binN .add a6 (.int .i64 1)) fun x35 =>
 R 1 [a0, a4, a5, x35] h32)
 (callP (cf 35 [a0, a6, (.str ⟨2, 12079⟩)] h32) .pan fun x36 h37 =>
 spanK x36 false h37 (fun k38 =>
 callP (cf 35 [a0, a6, (.str ⟨2, 10799⟩)] h37) .pan fun x41 h42 =>
 k38 x41 h42) fun x39 h40 =>
 obind (pickI x36 (some (.bool true)) (some x39)) fun x43 =>
 condK x43
 (callP (cf 36 [a0, a6] h40) .pan fun x44 h45 =>
 obind (binN .lss x44 (.int .i64 0)) fun x46 =>
 condK x46
 (callP (cf 34 [a6, (.int .i64 20)] h45) .pan fun x47 h48 =>
 .ok (.tup [.nilSlice, x47]) h48)
 (R 1 [a0, a4, a5, x44] h45))
 (callP (cf 37 [a0, a6] h40) .pan fun x49 h50 =>
 obind (extractI x49 0) fun x51 =>
 obind (extractI x49 1) fun x52 =>
 obind (extractI x49 2) fun x53 =>
 obind2 (newI h50 z2) fun x54 h55 =>
 obindH (stA 3 h55 x54 x51) fun h56 =>
 obind (binN .neq x53 (.int .i64 0)) fun x57 =>
 condK x57
 (callP (cf 34 [a6, x53] h56) .pan fun x58 h59 =>
 .ok (.tup [.nilSlice, x58]) h59)
 (spanK a5 false h56 (fun k60 =>
 obind (fadK 0 x54) fun x63 =>
 obind (ld0 h56 x63) fun x64 =>
 obind (binN .eql x64 (.int .i64 4)) fun x65 =>
 k60 x65 h56) fun x61 h62 =>
 spanK x61 true h62 (fun k66 =>
 obind (fadK 1 x54) fun x69 =>
 obind (ld0 h62 x69) fun x70 =>
 obind (binS .eql x70 (.str ⟨6, 111524889126244⟩)) fun x71 =>
 k66 x71 h62) fun x67 h68 =>
 spanK a5 false h68 (fun k72 =>
 obind (pickI x61 (some x67) (some (.bool false))) fun x75 =>
 k72 x75 h68) fun x73 h74 =>
 obind (pickI a5 (some (.bool true)) (some x73)) fun x76 =>
 obind (ldA 3 h74 x54) fun x77 =>
 obind2 (bslK false 3 z2 1 [(0, x77)] h74) fun x78 h79 =>
 obind2 (appK 3 32 h79 a4 x78) fun x80 h81 =>
 R 2 [a0, x80, x76, x52] h81)))))
 (obind (lenStr a0) fun x82 =>
 obind (bldK z2 p3 [(0, (.int .i64 6)), (2, x82)]) fun x83 =>
 obind2 (bslK false 3 z2 1 [(0, x83)] h) fun x84 h85 =>
 obind2 (appK 3 32 h85 a4 x84) fun x86 h87 =>
 .ok (.tup [x86, .nilSlice]) h87)
theorem e18_1 {a0 a4 a5 a6 : IV} (e : t18_1 (CL T) (J18 T) a0 a4 a5 a6 h = r) (hr : r ≠ .fail) : J18 T 1 [a0, a4, a5, a6] h = r := fj_step (by kernel_rfl) e hr
noncomputable def t18_2 (cf : CallF) (R : Rec) (a0 a4 a5 a6 : IV) (h : H) : CRes :=
 obind (lenS a4) fun x88 =>
 obind (binN .gtr x88 (.int .i64 16384)) fun x89 =>
 condK x89
 (obind (lenS a4) fun x90 =>
 obind (binN .sub x90 (.int .i64 1)) fun x91 =>
 obind (ixS 3 a4 x91) fun x92 =>
 obind (fadK 2 x92) fun x93 =>
 obind (ld0 h x93) fun x94 =>
 callP (cf 34 [x94, (.int .i64 2)] h) .pan fun x95 h96 =>
 .ok (.tup [.nilSlice, x95]) h96)
 (R 1 [a0, a4, a5, a6] h)
theorem e18_2 {a0 a4 a5 a6 : IV} (e : t18_2 (CL T) (J18 T) a0 a4 a5 a6 h = r) (hr : r ≠ .fail) : J18 T 2 [a0, a4, a5, a6] h = r := fj_step (by kernel_rfl) e hr
def js19 : List Jn := [⟨[], [0]⟩, ⟨[0, 0, 1, 1, 1], [4, 5]⟩, ⟨[1, 0, 0, 0, 0, 1, 1, 1], [4, 5, 27]⟩]
noncomputable def J19 (T : Tab) : Rec := fj Tryz.prog (CL T) Tryz.f19 js19
noncomputable def t19_0 (cf : CallF) (R : Rec) (a0 : IV) (h : H) : CRes :=
 obind (bldK z4 p5 [(0, a0)]) fun x1 =>
 obind2 (newI h (IV.cells x1)) fun x2 h3 =>
 callP (cf 38 [x2] h3) .pan fun x4 h5 =>
 obind2 (bslK false 5 z6 1 [(0, x4)] h5) fun x6 h7 =>
 R 1 [x2, x6] h7
theorem e19_0 {a0 : IV} (e : t19_0 (CL T) (J19 T) a0 h = r) (hr : r ≠ .fail) : J19 T 0 [a0] h = r := fj_step (by kernel_rfl) e hr
noncomputable def t19_1 (cf : CallF) (R : Rec) (a4 a5 : IV) (h : H) : CRes :=
 callP (cf 39 [a4] h) (fun v8 h9 =>
 .pan v8 h9) fun x10 h11 =>
 guardK x10 (obind (nilI a4) fun x12 =>
 obind (fadK 0 x12) fun x13 =>
 obind (ld0 h11 x13) fun x14 =>
 obind (nilI a4) fun x15 =>
 obind (fadK 1 x15) fun x16 =>
 obind (ld0 h11 x16) fun x17 =>
 obind (ixS 3 x14 x17) fun x18 =>
 obind (fadK 0 x18) fun x19 =>
 obind (ld0 h11 x19) fun x20 =>
 obind (binN .neq x20 (.int .i64 6)) fun x21 =>
 R 2 [a4, a5, x21] h11)
 (R 2 [a4, a5, (.bool false)] h11)
 (CRes.fail)
theorem e19_1 {a4 a5 : IV} (e : t19_1 (CL T) (J19 T) a4 a5 h = r) (hr : r ≠ .fail) : J19 T 1 [a4, a5] h = r := fj_step (by kernel_rfl) e hr
noncomputable def t19_2 (cf : CallF) (R : Rec) (a4 a5 a27 : IV) (h : H) : CRes :=
 condK a27
 (callP (cf 38 [a4] h) .pan fun x22 h23 =>
 obind2 (bslK false 5 z6 1 [(0, x22)] h23) fun x24 h25 =>
 obind2 (appK 5 96 h25 a5 x24) fun x26 h27 =>
 R 1 [a4, x26] h27)
 (callP (cf 39 [a4] h) .pan fun x28 h29 =>
 obind (unI .not x28) fun x30 =>
 condK x30
 (obind (nilI a4) fun x31 =>
 obind (fadK 2 x31) fun x32 =>
 obind (ldA 2 h29 x32) fun x33 =>
 obind2 (bslK false 2 [(.int .i64 0), (.int .i64 0)] 1 [(0, x33)] h29) fun x34 h35 =>
 .ok (.tup [.nilSlice, x34]) h35)
 (.ok (.tup [a5, .nilSlice]) h29))
theorem e19_2 {a4 a5 a27 : IV} (e : t19_2 (CL T) (J19 T) a4 a5 a27 h = r) (hr : r ≠ .fail) : J19 T 2 [a4, a5, a27] h = r := fj_step (by kernel_rfl) e hr
def js20 : List Jn := [⟨[], [0]⟩]
noncomputable def J20 (T : Tab) : Rec := fj Tryz.prog (CL T) Tryz.f20 js20
noncomputable def t20_0 (cf : CallF) (R : Rec) (a0 : IV) (h : H) : CRes :=
 obind2 (newI h [(.str ⟨0, 0⟩)]) fun x1 h2 =>
 obind2 (newI h2 [(.bool false)]) fun x3 h4 =>
 obind (bldK [.nilPtr, .nilSlice] [(0, 2)] []) fun x5 =>
 obind2 (newB h4 (IV.cells x5) 93) fun x6 h7 =>
 funK a0 fun f13 c14 => callP (cf f13 ([x6] ++ c14) h7) (dfP (LV Tryz.prog cf 40 [x1, x3]) fun h8 =>
 obind (ld0 h8 x1) fun x9 =>
 obind (ld0 h8 x3) fun x10 =>
 .ok (.tup [x9, x10]) h8) fun x11 h12 =>
 obind (nilI x6) fun x15 =>
 obind (fadK 0 x15) fun x16 =>
 callP (cf 41 [x16] h12) (fun v17 h18 =>
 obind (nilI x6) fun x22 =>
 obind (fadK 0 x22) fun x23 =>
 (dfP (LV Tryz.prog cf 40 [x1, x3]) fun h19 =>
 obind (ld0 h19 x1) fun x20 =>
 obind (ld0 h19 x3) fun x21 =>
 .ok (.tup [x20, x21]) h19) v17 h18) fun x24 h25 =>
 obind (nilI x6) fun x26 =>
 obind (fadK 0 x26) fun x27 =>
 callP (cf 42 [x27] h25) (fun v28 h29 =>
 (dfP (LV Tryz.prog cf 40 [x1, x3]) fun h30 =>
 obind (ld0 h30 x1) fun x31 =>
 obind (ld0 h30 x3) fun x32 =>
 .ok (.tup [x31, x32]) h30) v28 h29) fun x33 h34 =>
 obind (binN .leq x33 (.int .i64 65536)) fun x35 =>
 obindH (stA 1 h34 x1 x24) fun h36 =>
 obind (binN .leq x33 (.int .i64 65536)) fun x37 =>
 bif IV.beq x37 x35 then
 obindH (stA 1 h36 x3 x35) fun h38 =>
 dfK (LV Tryz.prog cf 40 [x1, x3] .ret h38) fun h39 =>
 obind (ld0 h39 x1) fun x40 =>
 obind (ld0 h39 x3) fun x41 =>
 .ok (.tup [x40, x41]) h39
 else .fail
theorem e20_0 {a0 : IV} (e : t20_0 (CL T) (J20 T) a0 h = r) (hr : r ≠ .fail) : J20 T 0 [a0] h = r := fj_step (by kernel_rfl) e hr
def js21 : List Jn := [⟨[], [0, 1]⟩, ⟨[0, 1], [0, 5, 6, 7]⟩]
noncomputable def J21 (T : Tab) : Rec := fj Tryz.prog (CL T) Tryz.f21 js21
noncomputable def t21_0 (cf : CallF) (R : Rec) (a0 a1 : IV) (h : H) : CRes :=
 obind (ld0 h a1) fun x1 =>
 obind (lenS x1) fun x2 =>
 R 1 [a0, x1, x2, (.int .i64 0)] h
theorem e21_0 {a0 a1 : IV} (e : t21_0 (CL T) (J21 T) a0 a1 h = r) (hr : r ≠ .fail) : J21 T 0 [a0, a1] h = r := fj_step (by kernel_rfl) e hr
noncomputable def t21_1 (cf : CallF) (R : Rec) (a0 a5 a6 a7 : IV) (h : H) : CRes :=
 obind (binN .lss a7 a6) fun x3 =>
 condK x3
 (obind (ixS 5 a5 a7) fun x4 =>
 obind (ldA 5 h x4) fun x5 =>
 obind2 (newI h z6) fun x6 h7 =>
 obindH (stA 5 h7 x6 x5) fun h8 =>
 obind (ldA 5 h8 x6) fun x9 =>
 callP (cf 22 [a0, x9] h8) .pan fun x10 h11 =>
 obind (binN .add a7 (.int .i64 1)) fun x12 =>
 R 1 [a0, a5, a6, x12] h11)
 (.ok (.tup []) h)
theorem e21_1 {a0 a5 a6 a7 : IV} (e : t21_1 (CL T) (J21 T) a0 a5 a6 a7 h = r) (hr : r ≠ .fail) : J21 T 1 [a0, a5, a6, a7] h = r := fj_step (by kernel_rfl) e hr
theorem c21 (hT : OvStep T) (ho : T.ov 21 = none) (hp : T.pol 21 = true) {a0 a1 : IV} (hg : Gd h) (e : t21_0 (CL T) (J21 T) a0 a1 h = r) (hr : r ≠ .fail) : CL T 21 [a0, a1] h = r := call_good ho Tryz.func21 rfl rfl rfl hp hg hT (e21_0 e hr) hr
def js22 : List Jn := [⟨[], [0, 1]⟩, ⟨[1, 1, 1], [2, 3]⟩, ⟨[0, 1, 0, 1, 1, 1, 1, 1, 1, 1], [2, 42, 43, 44]⟩]
noncomputable def J22 (T : Tab) : Rec := fj Tryz.prog (CL T) Tryz.f22 js22
noncomputable def t22_0 (cf : CallF) (R : Rec) (a0 a1 : IV) (h : H) : CRes :=
 obind2 (newI h (IV.cells a0)) fun x1 h2 =>
 obind2 (newI h2 (IV.cells a1)) fun x3 h4 =>
 obind (ld0 h4 x1) fun x5 =>
 obind (fadK 0 x3) fun x6 =>
 obind (ld0 h4 x6) fun x7 =>
 obind2 (bslK false 1 [(.str ⟨0, 0⟩)] 2 [(0, (.str ⟨6, 111516500389741⟩)), (1, x7)] h4) fun x8 h9 =>
 callP (cf 43 [x5, x8] h9) .pan fun x10 h11 =>
 obind (fadK 1 x3) fun x12 =>
 obind (ld0 h11 x12) fun x13 =>
 obind (lenS x13) fun x14 =>
 obind (binN .gtr x14 (.int .i64 0)) fun x15 =>
 condK x15
 (obind (ld0 h11 x1) fun x16 =>
 obind2 (bslK false 1 [(.str ⟨0, 0⟩)] 2 [(0, (.str ⟨1, 35⟩)), (1, (.str ⟨1, 40⟩))] h11) fun x17 h18 =>
 callP (cf 43 [x16, x17] h18) .pan fun x19 h20 =>
 obind (ld0 h20 x1) fun x21 =>
 obind (fadK 1 x3) fun x22 =>
 obind (ld0 h20 x22) fun x23 =>
 obind (lenS x23) fun x24 =>
 callP (cf 44 [x21, x24, (.func 45 [x1, x3])] h20) .pan fun x25 h26 =>
 obind (ld0 h26 x1) fun x27 =>
 obind2 (bslK false 1 [(.str ⟨0, 0⟩)] 1 [(0, (.str ⟨1, 41⟩))] h26) fun x28 h29 =>
 callP (cf 43 [x27, x28] h29) .pan fun x30 h31 =>
 R 1 [x1, x3] h31)
 (R 1 [x1, x3] h11)
theorem e22_0 {a0 a1 : IV} (e : t22_0 (CL T) (J22 T) a0 a1 h = r) (hr : r ≠ .fail) : J22 T 0 [a0, a1] h = r := fj_step (by kernel_rfl) e hr
noncomputable def t22_1 (cf : CallF) (R : Rec) (a2 a3 : IV) (h : H) : CRes :=
 obind (ld0 h a2) fun x32 =>
 obind2 (bslK false 1 [(.str ⟨0, 0⟩)] 1 [(0, (.str ⟨1, 40⟩))] h) fun x33 h34 =>
 callP (cf 43 [x32, x33] h34) .pan fun x35 h36 =>
 obind (ld0 h36 a2) fun x37 =>
 obind (fadK 2 a3) fun x38 =>
 obind (ld0 h36 x38) fun x39 =>
 obind (lenS x39) fun x40 =>
 callP (cf 44 [x37, x40, (.func 47 [a2, a3])] h36) .pan fun x41 h42 =>
 obind (ld0 h42 a2) fun x43 =>
 obind2 (bslK false 1 [(.str ⟨0, 0⟩)] 1 [(0, (.str ⟨1, 41⟩))] h42) fun x44 h45 =>
 callP (cf 43 [x43, x44] h45) .pan fun x46 h47 =>
 obind (ld0 h47 a2) fun x48 =>
 callP (cf 49 [x48, (.str ⟨1, 59⟩)] h47) .pan fun x49 h50 =>
 obind (fadK 3 a3) fun x51 =>
 obind (ld0 h50 x51) fun x52 =>
 obind (lenS x52) fun x53 =>
 R 2 [a2, x52, x53, (.int .i64 0)] h50
theorem e22_1 {a2 a3 : IV} (e : t22_1 (CL T) (J22 T) a2 a3 h = r) (hr : r ≠ .fail) : J22 T 1 [a2, a3] h = r := fj_step (by kernel_rfl) e hr
noncomputable def t22_2 (cf : CallF) (R : Rec) (a2 a42 a43 a44 : IV) (h : H) : CRes :=
 obind (binN .lss a44 a43) fun x54 =>
 condK x54
 (obind (ixS 48 a42 a44) fun x55 =>
 obind (ldA 48 h x55) fun x56 =>
 obind2 (newI h z7) fun x57 h58 =>
 obindH (stA 48 h58 x57 x56) fun h59 =>
 obind (ld0 h59 a2) fun x60 =>
 obind (ldA 48 h59 x57) fun x61 =>
 callP (cf 50 [x60, x61] h59) .pan fun x62 h63 =>
 obind (binN .add a44 (.int .i64 1)) fun x64 =>
 R 2 [a2, a42, a43, x64] h63)
 (obind (ld0 h a2) fun x65 =>
 callP (cf 49 [x65, (.str ⟨9, 1870936414602775522917⟩)] h) .pan fun x66 h67 =>
 .ok (.tup []) h67)
theorem e22_2 {a2 a42 a43 a44 : IV} (e : t22_2 (CL T) (J22 T) a2 a42 a43 a44 h = r) (hr : r ≠ .fail) : J22 T 2 [a2, a42, a43, a44] h = r := fj_step (by kernel_rfl) e hr
def js23 : List Jn := [⟨[], [0, 1, 2]⟩, ⟨[0, 1, 0, 1, 1], [1, 2, 15, 16, 17]⟩]
noncomputable def J23 (T : Tab) : Rec := fj Tryz.prog (CL T) Tryz.f23 js23
noncomputable def t23_0 (cf : CallF) (R : Rec) (a0 a1 a2 : IV) (h : H) : CRes :=
 obind (lenS a0) fun x1 =>
 obind (lenS a1) fun x2 =>
 obind (binN .neq x1 x2) fun x3 =>
 condK x3
 (.ok (.bool false) h)
 (obind (lenS a0) fun x4 =>
 R 1 [a1, a2, a0, x4, (.int .i64 0)] h)
theorem e23_0 {a0 a1 a2 : IV} (e : t23_0 (CL T) (J23 T) a0 a1 a2 h = r) (hr : r ≠ .fail) : J23 T 0 [a0, a1, a2] h = r := fj_step (by kernel_rfl) e hr
noncomputable def t23_1 (cf : CallF) (R : Rec) (a1 a2 a15 a16 a17 : IV) (h : H) : CRes :=
 obind (binN .lss a17 a16) fun x5 =>
 condK x5
 (obind (ixS 5 a15 a17) fun x6 =>
 obind (ldA 5 h x6) fun x7 =>
 obind2 (newI h z6) fun x8 h9 =>
 obindH (stA 5 h9 x8 x7) fun h10 =>
 obind (ixS 5 a1 a17) fun x11 =>
 obind (ldA 5 h10 x11) fun x12 =>
 obind2 (newI h10 z6) fun x13 h14 =>
 obindH (stA 5 h14 x13 x12) fun h15 =>
 obind (ldA 5 h15 x8) fun x16 =>
 obind (ldA 5 h15 x13) fun x17 =>
 funK a2 fun f20 c21 => callP (cf f20 ([x16, x17] ++ c21) h15) .pan fun x18 h19 =>
 obind (unI .not x18) fun x22 =>
 condK x22
 (.ok (.bool false) h19)
 (obind (binN .add a17 (.int .i64 1)) fun x23 =>
 R 1 [a1, a2, a15, a16, x23] h19))
 (.ok (.bool true) h)
theorem e23_1 {a1 a2 a15 a16 a17 : IV} (e : t23_1 (CL T) (J23 T) a1 a2 a15 a16 a17 h = r) (hr : r ≠ .fail) : J23 T 1 [a1, a2, a15, a16, a17] h = r := fj_step (by kernel_rfl) e hr
def js24 : List Jn := [⟨[], [0]⟩]
noncomputable def J24 (T : Tab) : Rec := fj Tryz.prog (CL T) Tryz.f24 js24
noncomputable def t24_0 (cf : CallF) (R : Rec) (a0 : IV) (h : H) : CRes :=
 callP (cf 51 [a0] h) .pan fun x1 h2 =>
 obind (extractI x1 0) fun x3 =>
 obind (extractI x1 1) fun x4 =>
 obind (lenS x4) fun x5 =>
 obind (binN .gtr x5 (.int .i64 0)) fun x6 =>
 spanK x6 false h2 (fun k7 =>
 callP (cf 52 [x3, (.func 53 [])] h2) .pan fun x10 h11 =>
 k7 x10 h11) fun x8 h9 =>
 obind (pickI x6 (some (.bool true)) (some x8)) fun x12 =>
 condK x12
 (.ok .nilSlice h9)
 (callP (cf 54 [x3] h9) .pan fun x13 h14 =>
 obind (extractI x13 0) fun x15 =>
 obind (extractI x13 1) fun x16 =>
 .ok x15 h14)
theorem e24_0 {a0 : IV} (e : t24_0 (CL T) (J24 T) a0 h = r) (hr : r ≠ .fail) : J24 T 0 [a0] h = r := fj_step (by kernel_rfl) e hr
def js25 : List Jn := [⟨[], [0, 1]⟩]
noncomputable def J25 (T : Tab) : Rec := fj Tryz.prog (CL T) Tryz.f25 js25
noncomputable def t25_0 (cf : CallF) (R : Rec) (a0 a1 : IV) (h : H) : CRes :=
 obind2 (newI h (IV.cells a0)) fun x1 h2 =>
 obind2 (newI h2 (IV.cells a1)) fun x3 h4 =>
 obind (fadK 0 x1) fun x5 =>
 obind (ld0 h4 x5) fun x6 =>
 obind (fadK 0 x3) fun x7 =>
 obind (ld0 h4 x7) fun x8 =>
 obind (binS .eql x6 x8) fun x9 =>
 spanK x9 true h4 (fun k10 =>
 obind (fadK 1 x1) fun x13 =>
 obind (ld0 h4 x13) fun x14 =>
 obind (fadK 1 x3) fun x15 =>
 obind (ld0 h4 x15) fun x16 =>
 callP (cf 55 [x14, x16, (.func 56 [])] h4) .pan fun x17 h18 =>
 k10 x17 h18) fun x11 h12 =>
 obind (pickI x9 (some x11) (some (.bool false))) fun x19 =>
 spanK x19 true h12 (fun k20 =>
 obind (fadK 2 x1) fun x23 =>
 obind (ld0 h12 x23) fun x24 =>
 obind (fadK 2 x3) fun x25 =>
 obind (ld0 h12 x25) fun x26 =>
 callP (cf 57 [x24, x26, (.func 58 [])] h12) .pan fun x27 h28 =>
 k20 x27 h28) fun x21 h22 =>
 obind (pickI x19 (some x21) (some (.bool false))) fun x29 =>
 spanK x29 true h22 (fun k30 =>
 obind (fadK 3 x1) fun x33 =>
 obind (ld0 h22 x33) fun x34 =>
 obind (fadK 3 x3) fun x35 =>
 obind (ld0 h22 x35) fun x36 =>
 callP (cf 59 [x34, x36, (.func 60 [])] h22) .pan fun x37 h38 =>
 k30 x37 h38) fun x31 h32 =>
 obind (pickI x29 (some x31) (some (.bool false))) fun x39 =>
 .ok x39 h32
theorem e25_0 {a0 a1 : IV} (e : t25_0 (CL T) (J25 T) a0 a1 h = r) (hr : r ≠ .fail) : J25 T 0 [a0, a1] h = r := fj_step (by kernel_rfl) e hr
def js27 : List Jn := [⟨[], [0, 1]⟩]
noncomputable def J27 (T : Tab) : Rec := fj Tryz.prog (CL T) Tryz.f27 js27
noncomputable def t27_0 (cf : CallF) (R : Rec) (a0 a1 : IV) (h : H) : CRes :=
 obind (ldA 6 h a1) fun x1 =>
 callP (cf 28 [a0, x1] h) .pan fun x2 h3 =>
 .ok (.tup []) h3
theorem e27_0 {a0 a1 : IV} (e : t27_0 (CL T) (J27 T) a0 a1 h = r) (hr : r ≠ .fail) : J27 T 0 [a0, a1] h = r := fj_step (by kernel_rfl) e hr
def js28 : List Jn := [⟨[], [0, 1]⟩, ⟨[1, 1, 1, 1, 1, 1, 1, 1, 1, 1, 1, 1, 0, 1, 1], [2, 3]⟩, ⟨[1, 1, 1, 1, 1, 1, 1, 1, 1, 1, 1, 1, 1, 0, 1, 1], [2, 3]⟩]
noncomputable def J28 (T : Tab) : Rec := fj Tryz.prog (CL T) Tryz.f28 js28
noncomputable def t28_0 (cf : CallF) (R : Rec) (a0 a1 : IV) (h : H) : CRes :=
 obind2 (newI h (IV.cells a0)) fun x1 h2 =>
 obind2 (newI h2 (IV.cells a1)) fun x3 h4 =>
 obind (fadK 0 x3) fun x5 =>
 obind (ld0 h4 x5) fun x6 =>
 callP (cf 66 [x6] h4) .pan fun x7 h8 =>
 obind (extractI x7 0) fun x9 =>
 obind (extractI x7 1) fun x10 =>
 obind (binN .eql x10 (.int .i64 0)) fun x11 =>
 spanK x11 true h8 (fun k12 =>
 obind (fadK 4 x3) fun x15 =>
 obind (ld0 h8 x15) fun x16 =>
 obind (lenS x16) fun x17 =>
 obind (binN .eql x17 (.int .i64 3)) fun x18 =>
 k12 x18 h8) fun x13 h14 =>
 obind (pickI x11 (some x13) (some (.bool false))) fun x19 =>
 condK x19
 (obind (ld0 h14 x1) fun x20 =>
 obind (fadK 4 x3) fun x21 =>
 obind (ld0 h14 x21) fun x22 =>
 obind (ixS 6 x22 (.int .i64 0)) fun x23 =>
 obind (ldA 6 h14 x23) fun x24 =>
 callP (cf 67 [x20, x24, (.int .i64 1)] h14) (fun v25 h26 =>
 .pan v25 h26) fun x27 h28 =>
 obind (ld0 h28 x1) fun x29 =>
 obind2 (bslK false 1 [(.str ⟨0, 0⟩)] 1 [(0, x9)] h28) fun x30 h31 =>
 callP (cf 43 [x29, x30] h31) .pan fun x32 h33 =>
 obind (ld0 h33 x1) fun x34 =>
 obind (fadK 4 x3) fun x35 =>
 obind (ld0 h33 x35) fun x36 =>
 obind (ixS 6 x36 (.int .i64 1)) fun x37 =>
 obind (ldA 6 h33 x37) fun x38 =>
 callP (cf 28 [x34, x38] h33) (fun v39 h40 =>
 .pan v39 h40) fun x41 h42 =>
 obind (ld0 h42 x1) fun x43 =>
 obind2 (bslK false 1 [(.str ⟨0, 0⟩)] 1 [(0, (.str ⟨1, 58⟩))] h42) fun x44 h45 =>
 callP (cf 43 [x43, x44] h45) .pan fun x46 h47 =>
 obind (ld0 h47 x1) fun x48 =>
 obind (fadK 4 x3) fun x49 =>
 obind (ld0 h47 x49) fun x50 =>
 obind (ixS 6 x50 (.int .i64 2)) fun x51 =>
 obind (ldA 6 h47 x51) fun x52 =>
 callP (cf 28 [x48, x52] h47) (fun v53 h54 =>
 .pan v53 h54) fun x55 h56 =>
 .ok (.tup []) h56)
 (obind (binN .eql x10 (.int .i64 10)) fun x57 =>
 spanK x57 true h14 (fun k58 =>
 obind (fadK 4 x3) fun x61 =>
 obind (ld0 h14 x61) fun x62 =>
 obind (lenS x62) fun x63 =>
 obind (binN .eql x63 (.int .i64 1)) fun x64 =>
 k58 x64 h14) fun x59 h60 =>
 obind (pickI x57 (some x59) (some (.bool false))) fun x65 =>
 condK x65
 (obind (ld0 h60 x1) fun x66 =>
 obind2 (bslK false 1 [(.str ⟨0, 0⟩)] 1 [(0, x9)] h60) fun x67 h68 =>
 callP (cf 43 [x66, x67] h68) .pan fun x69 h70 =>
 obind (ld0 h70 x1) fun x71 =>
 obind (fadK 4 x3) fun x72 =>
 obind (ld0 h70 x72) fun x73 =>
 obind (ixS 6 x73 (.int .i64 0)) fun x74 =>
 obind (ldA 6 h70 x74) fun x75 =>
 callP (cf 67 [x71, x75, (.int .i64 10)] h70) (fun v76 h77 =>
 .pan v76 h77) fun x78 h79 =>
 .ok (.tup []) h79)
 (obind (binN .gtr x10 (.int .i64 0)) fun x80 =>
 spanK x80 true h60 (fun k81 =>
 obind (binN .lss x10 (.int .i64 10)) fun x84 =>
 k81 x84 h60) fun x82 h83 =>
 obind (pickI x80 (some x82) (some (.bool false))) fun x85 =>
 spanK x85 true h83 (fun k86 =>
 obind (fadK 4 x3) fun x89 =>
 obind (ld0 h83 x89) fun x90 =>
 obind (lenS x90) fun x91 =>
 obind (binN .eql x91 (.int .i64 2)) fun x92 =>
 k86 x92 h83) fun x87 h88 =>
 obind (pickI x85 (some x87) (some (.bool false))) fun x93 =>
 condK x93
 (obind (ld0 h88 x1) fun x94 =>
 obind (fadK 4 x3) fun x95 =>
 obind (ld0 h88 x95) fun x96 =>
 obind (ixS 6 x96 (.int .i64 0)) fun x97 =>
 obind (ldA 6 h88 x97) fun x98 =>
 callP (cf 67 [x94, x98, x10] h88) (fun v99 h100 =>
 .pan v99 h100) fun x101 h102 =>
 obind (ld0 h102 x1) fun x103 =>
 obind2 (bslK false 1 [(.str ⟨0, 0⟩)] 1 [(0, x9)] h102) fun x104 h105 =>
 callP (cf 43 [x103, x104] h105) .pan fun x106 h107 =>
 obind (ld0 h107 x1) fun x108 =>
 obind (fadK 4 x3) fun x109 =>
 obind (ld0 h107 x109) fun x110 =>
 obind (ixS 6 x110 (.int .i64 1)) fun x111 =>
 obind (ldA 6 h107 x111) fun x112 =>
 obind (binN .add x10 (.int .i64 1)) fun x113 =>
 callP (cf 67 [x108, x112, x113] h107) (fun v114 h115 =>
 .pan v114 h115) fun x116 h117 =>
 .ok (.tup []) h117)
 (obind (fadK 0 x3) fun x118 =>
 obind (ld0 h88 x118) fun x119 =>
 obind (binN .eql x119 (.int .i64 1)) fun x120 =>
 condK x120
 (obind (ld0 h88 x1) fun x121 =>
 obind (ldA 6 h88 x3) fun x122 =>
 callP (cf 68 [x122] h88) (fun v123 h124 =>
 .pan v123 h124) fun x125 h126 =>
 obind (ld0 h126 x1) fun x127 =>
 bif IV.beq x127 x121 then
 obind2 (bslK false 1 [(.str ⟨0, 0⟩)] 1 [(0, x125)] h126) fun x128 h129 =>
 obind (ld0 h129 x1) fun x130 =>
 bif IV.beq x130 x121 then
 callP (cf 43 [x121, x128] h129) (fun v131 h132 =>
 .pan v131 h132) fun x133 h134 =>
 .ok (.tup []) h134
 else .fail
 else .fail)
 (obind (fadK 0 x3) fun x135 =>
 obind (ld0 h88 x135) fun x136 =>
 obind (binN .eql x136 (.int .i64 5)) fun x137 =>
 condK x137
 (obind (ld0 h88 x1) fun x138 =>
 obind2 (bslK false 1 [(.str ⟨0, 0⟩)] 1 [(0, (.str ⟨1, 123⟩))] h88) fun x139 h140 =>
 callP (cf 43 [x138, x139] h140) .pan fun x141 h142 =>
 obind (ld0 h142 x1) fun x143 =>
 obind (fadK 4 x3) fun x144 =>
 obind (ld0 h142 x144) fun x145 =>
 obind (lenS x145) fun x146 =>
 callP (cf 44 [x143, x146, (.func 69 [x1, x3])] h142) .pan fun x147 h148 =>
 obind (ld0 h148 x1) fun x149 =>
 obind2 (bslK false 1 [(.str ⟨0, 0⟩)] 1 [(0, (.str ⟨1, 125⟩))] h148) fun x150 h151 =>
 callP (cf 43 [x149, x150] h151) .pan fun x152 h153 =>
 .ok (.tup []) h153)
 (obind (ld0 h88 x1) fun x154 =>
 obind (fadK 1 x3) fun x155 =>
 obind (ld0 h88 x155) fun x156 =>
 obind2 (bslK false 1 [(.str ⟨0, 0⟩)] 1 [(0, x156)] h88) fun x157 h158 =>
 callP (cf 43 [x154, x157] h158) .pan fun x159 h160 =>
 obind (fadK 4 x3) fun x161 =>
 obind (ld0 h160 x161) fun x162 =>
 obind (lenS x162) fun x163 =>
 obind (binN .gtr x163 (.int .i64 0)) fun x164 =>
 condK x164
 (obind (ld0 h160 x1) fun x165 =>
 obind2 (bslK false 1 [(.str ⟨0, 0⟩)] 1 [(0, (.str ⟨1, 91⟩))] h160) fun x166 h167 =>
 callP (cf 43 [x165, x166] h167) .pan fun x168 h169 =>
 obind (ld0 h169 x1) fun x170 =>
 obind (fadK 4 x3) fun x171 =>
 obind (ld0 h169 x171) fun x172 =>
 obind (ixS 6 x172 (.int .i64 0)) fun x173 =>
 obind (ldA 6 h169 x173) fun x174 =>
 callP (cf 28 [x170, x174] h169) (fun v175 h176 =>
 .pan v175 h176) fun x177 h178 =>
 R 1 [x1, x3] h178)
 (R 1 [x1, x3] h160))))))
theorem e28_0 {a0 a1 : IV} (e : t28_0 (CL T) (J28 T) a0 a1 h = r) (hr : r ≠ .fail) : J28 T 0 [a0, a1] h = r := fj_step (by kernel_rfl) e hr
noncomputable def t28_1 (cf : CallF) (R : Rec) (a2 a3 : IV) (h : H) : CRes :=
 obind (fadK 4 a3) fun x179 =>
 obind (ld0 h x179) fun x180 =>
 obind (lenS x180) fun x181 =>
 obind (binN .gtr x181 (.int .i64 1)) fun x182 =>
 condK x182
 (obind (ld0 h a2) fun x183 =>
 obind2 (bslK false 1 [(.str ⟨0, 0⟩)] 1 [(0, (.str ⟨1, 58⟩))] h) fun x184 h185 =>
 callP (cf 43 [x183, x184] h185) .pan fun x186 h187 =>
 obind (ld0 h187 a2) fun x188 =>
 obind (fadK 4 a3) fun x189 =>
 obind (ld0 h187 x189) fun x190 =>
 obind (ixS 6 x190 (.int .i64 1)) fun x191 =>
 obind (ldA 6 h187 x191) fun x192 =>
 callP (cf 28 [x188, x192] h187) (fun v193 h194 =>
 .pan v193 h194) fun x195 h196 =>
 R 2 [a2, a3] h196)
 (R 2 [a2, a3] h)
theorem e28_1 {a2 a3 : IV} (e : t28_1 (CL T) (J28 T) a2 a3 h = r) (hr : r ≠ .fail) : J28 T 1 [a2, a3] h = r := fj_step (by kernel_rfl) e hr
noncomputable def t28_2 (cf : CallF) (R : Rec) (a2 a3 : IV) (h : H) : CRes :=
 obind (fadK 4 a3) fun x197 =>
 obind (ld0 h x197) fun x198 =>
 obind (lenS x198) fun x199 =>
 obind (binN .gtr x199 (.int .i64 0)) fun x200 =>
 condK x200
 (obind (ld0 h a2) fun x201 =>
 obind2 (bslK false 1 [(.str ⟨0, 0⟩)] 1 [(0, (.str ⟨1, 93⟩))] h) fun x202 h203 =>
 callP (cf 43 [x201, x202] h203) .pan fun x204 h205 =>
 .ok (.tup []) h205)
 (.ok (.tup []) h)
theorem e28_2 {a2 a3 : IV} (e : t28_2 (CL T) (J28 T) a2 a3 h = r) (hr : r ≠ .fail) : J28 T 2 [a2, a3] h = r := fj_step (by kernel_rfl) e hr
def js29 : List Jn := [⟨[], [0, 1]⟩]
noncomputable def J29 (T : Tab) : Rec := fj Tryz.prog (CL T) Tryz.f29 js29
noncomputable def t29_0 (cf : CallF) (R : Rec) (a0 a1 : IV) (h : H) : CRes :=
 obind2 (newI h (IV.cells a0)) fun x1 h2 =>
 obind2 (newI h2 (IV.cells a1)) fun x3 h4 =>
 obind (fadK 0 x1) fun x5 =>
 obind (ld0 h4 x5) fun x6 =>
 obind (fadK 0 x3) fun x7 =>
 obind (ld0 h4 x7) fun x8 =>
 obind (binN .eql x6 x8) fun x9 =>
 spanK x9 true h4 (fun k10 =>
 obind (fadK 1 x1) fun x13 =>
 obind (ld0 h4 x13) fun x14 =>
 obind (fadK 1 x3) fun x15 =>
 obind (ld0 h4 x15) fun x16 =>
 obind (binS .eql x14 x16) fun x17 =>
 k10 x17 h4) fun x11 h12 =>
 obind (pickI x9 (some x11) (some (.bool false))) fun x18 =>
 spanK x18 true h12 (fun k19 =>
 obind (fadK 2 x1) fun x22 =>
 obind (ld0 h12 x22) fun x23 =>
 obind (fadK 2 x3) fun x24 =>
 obind (ld0 h12 x24) fun x25 =>
 obind (binS .eql x23 x25) fun x26 =>
 k19 x26 h12) fun x20 h21 =>
 obind (pickI x18 (some x20) (some (.bool false))) fun x27 =>
 spanK x27 true h21 (fun k28 =>
 obind (fadK 3 x1) fun x31 =>
 obind (ld0 h21 x31) fun x32 =>
 obind (fadK 3 x3) fun x33 =>
 obind (ld0 h21 x33) fun x34 =>
 obind (eqB .eql x32 x34) fun x35 =>
 k28 x35 h21) fun x29 h30 =>
 obind (pickI x27 (some x29) (some (.bool false))) fun x36 =>
 spanK x36 true h30 (fun k37 =>
 obind (fadK 4 x1) fun x40 =>
 obind (ld0 h30 x40) fun x41 =>
 obind (fadK 4 x3) fun x42 =>
 obind (ld0 h30 x42) fun x43 =>
 callP (cf 70 [x41, x43, (.func 29 [])] h30) .pan fun x44 h45 =>
 k37 x44 h45) fun x38 h39 =>
 obind (pickI x36 (some x38) (some (.bool false))) fun x46 =>
 .ok x46 h39
theorem e29_0 {a0 a1 : IV} (e : t29_0 (CL T) (J29 T) a0 a1 h = r) (hr : r ≠ .fail) : J29 T 0 [a0, a1] h = r := fj_step (by kernel_rfl) e hr
def js35 : List Jn := [⟨[], [0, 1, 2]⟩]
noncomputable def J35 (T : Tab) : Rec := fj Tryz.prog (CL T) Tryz.f35 js35
noncomputable def t35_0 (cf : CallF) (R : Rec) (a0 a1 a2 : IV) (h : H) : CRes :=
 obind (lenStr a0) fun x1 =>
 obind (binN .sub x1 a1) fun x2 =>
 obind (lenStr a2) fun x3 =>
 obind (binN .geq x2 x3) fun x4 =>
 spanK x4 true h (fun k5 =>
 obind (lenStr a2) fun x8 =>
 obind (binN .add a1 x8) fun x9 =>
 obind (slcStr a0 (some a1) (some x9)) fun x10 =>
 obind (binS .eql x10 a2) fun x11 =>
 k5 x11 h) fun x6 h7 =>
 obind (pickI x4 (some x6) (some (.bool false))) fun x12 =>
 .ok x12 h7
theorem e35_0 {a0 a1 a2 : IV} (e : t35_0 (CL T) (J35 T) a0 a1 a2 h = r) (hr : r ≠ .fail) : J35 T 0 [a0, a1, a2] h = r := fj_step (by kernel_rfl) e hr
def js36 : List Jn := [⟨[], [0, 1]⟩, ⟨[0, 0, 0, 1, 0, 1], [0, 1]⟩, ⟨[0, 1, 0, 1, 1, 1], [0, 5]⟩]
noncomputable def J36 (T : Tab) : Rec := fj Tryz.prog (CL T) Tryz.f36 js36
noncomputable def t36_0 (cf : CallF) (R : Rec) (a0 a1 : IV) (h : H) : CRes :=
 callP (cf 35 [a0, a1, (.str ⟨2, 12079⟩)] h) .pan fun x1 h2 =>
 condK x1
 (R 1 [a0, a1] h2)
 (callP (cf 35 [a0, a1, (.str ⟨2, 10799⟩)] h2) .pan fun x3 h4 =>
 obind (unI .not x3) fun x5 =>
 condK x5
 (.ok (.int .i64 (-1)) h4)
 (obind (binN .add a1 (.int .i64 2)) fun x6 =>
 R 2 [a0, x6] h4))
theorem e36_0 {a0 a1 : IV} (e : t36_0 (CL T) (J36 T) a0 a1 h = r) (hr : r ≠ .fail) : J36 T 0 [a0, a1] h = r := fj_step (by kernel_rfl) e hr
noncomputable def t36_1 (cf : CallF) (R : Rec) (a0 a1 : IV) (h : H) : CRes :=
 obind (lenStr a0) fun x7 =>
 obind (binN .lss a1 x7) fun x8 =>
 spanK x8 true h (fun k9 =>
 obind (ixStr a0 a1) fun x12 =>
 obind (binN .neq x12 (.int .u8 10)) fun x13 =>
 k9 x13 h) fun x10 h11 =>
 obind (pickI x8 (some x10) (some (.bool false))) fun x14 =>
 condK x14
 (obind (binN .add a1 (.int .i64 1)) fun x15 =>
 R 1 [a0, x15] h11)
 (.ok a1 h11)
theorem e36_1 {a0 a1 : IV} (e : t36_1 (CL T) (J36 T) a0 a1 h = r) (hr : r ≠ .fail) : J36 T 1 [a0, a1] h = r := fj_step (by kernel_rfl) e hr
noncomputable def t36_2 (cf : CallF) (R : Rec) (a0 a5 : IV) (h : H) : CRes :=
 obind (lenStr a0) fun x16 =>
 obind (binN .lss a5 x16) fun x17 =>
 condK x17
 (callP (cf 35 [a0, a5, (.str ⟨2, 12074⟩)] h) .pan fun x18 h19 =>
 condK x18
 (obind (binN .add a5 (.int .i64 2)) fun x20 =>
 .ok x20 h19)
 (obind (binN .add a5 (.int .i64 1)) fun x21 =>
 R 2 [a0, x21] h19))
 (.ok (.int .i64 (-1)) h)
theorem e36_2 {a0 a5 : IV} (e : t36_2 (CL T) (J36 T) a0 a5 h = r) (hr : r ≠ .fail) : J36 T 2 [a0, a5] h = r := fj_step (by kernel_rfl) e hr
def js37 : List Jn := [⟨[], [0, 1]⟩, ⟨[1, 1, 1], [0, 1, 4, 7]⟩, ⟨[0, 0, 1, 0, 1, 0, 1, 1, 1], [0, 1, 4, 7, 8]⟩, ⟨[1, 1, 1, 1, 1, 0, 1, 0, 1, 1, 1], [0, 1, 4, 7, 8, 9]⟩, ⟨[0, 0, 0, 1, 0, 1, 1, 1, 1], [0, 1, 4, 7]⟩]
noncomputable def J37 (T : Tab) : Rec := fj Tryz.prog (CL T) Tryz.f37 js37
noncomputable def t37_0 (cf : CallF) (R : Rec) (a0 a1 : IV) (h : H) : CRes :=
 obind2 (newI h z2) fun x1 h2 =>
 obind (ixStr a0 a1) fun x3 =>
 obind (binN .eql x3 (.int .u8 96)) fun x4 =>
 condK x4
 (obind (binN .add a1 (.int .i64 1)) fun x5 =>
 R 1 [a0, a1, x1, x5] h2)
 (R 1 [a0, a1, x1, a1] h2)
theorem e37_0 {a0 a1 : IV} (e : t37_0 (CL T) (J37 T) a0 a1 h = r) (hr : r ≠ .fail) : J37 T 0 [a0, a1] h = r := fj_step (by kernel_rfl) e hr
noncomputable def t37_1 (cf : CallF) (R : Rec) (a0 a1 a4 a7 : IV) (h : H) : CRes :=
 obind (lenStr a0) fun x6 =>
 obind (binN .lss a7 x6) fun x7 =>
 spanK x7 true h (fun k8 =>
 obind (ixStr a0 a7) fun x11 =>
 callP (cf 75 [x11] h) .pan fun x12 h13 =>
 k8 x12 h13) fun x9 h10 =>
 obind (pickI x7 (some x9) (some (.bool false))) fun x14 =>
 condK x14
 (R 2 [a0, a1, a4, a7, a7] h10)
 (obind (ixStr a0 a1) fun x15 =>
 callP (cf 77 [x15] h10) .pan fun x16 h17 =>
 condK x16
 (R 4 [a0, a1, a4, a7] h17)
 (callP (cf 79 [a0, a1] h17) .pan fun x18 h19 =>
 obind (binS .eql x18 (.str ⟨0, 0⟩)) fun x20 =>
 condK x20
 (obind (bldK z2 p3 []) fun x21 =>
 obindH (stA 3 h19 a4 x21) fun h22 =>
 obind (ldA 3 h22 a4) fun x23 =>
 .ok (.tup [x23, (.int .i64 0), (.int .i64 20)]) h22)
 (obind (bldK z2 p3 [(0, (.int .i64 3)), (1, x18), (2, a1)]) fun x24 =>
 obind (lenStr x18) fun x25 =>
 obind (binN .add a1 x25) fun x26 =>
 obindH (stA 3 h19 a4 x24) fun h27 =>
 obind (ldA 3 h27 a4) fun x28 =>
 .ok (.tup [x28, x26, (.int .i64 0)]) h27)))
theorem e37_1 {a0 a1 a4 a7 : IV} (e : t37_1 (CL T) (J37 T) a0 a1 a4 a7 h = r) (hr : r ≠ .fail) : J37 T 1 [a0, a1, a4, a7] h = r := fj_step (by kernel_rfl) e hr
noncomputable def t37_2 (cf : CallF) (R : Rec) (a0 a1 a4 a7 a8 : IV) (h : H) : CRes :=
 obind (lenStr a0) fun x29 =>
 obind (binN .lss a7 x29) fun x30 =>
 spanK x30 true h (fun k31 =>
 obind (ixStr a0 a7) fun x34 =>
 callP (cf 76 [x34] h) .pan fun x35 h36 =>
 k31 x35 h36) fun x32 h33 =>
 obind (pickI x30 (some x32) (some (.bool false))) fun x37 =>
 condK x37
 (obind (binN .add a7 (.int .i64 1)) fun x38 =>
 R 2 [a0, a1, a4, x38, a8] h33)
 (obind (binN .sub a7 a8) fun x39 =>
 obind (binN .gtr x39 (.int .i64 64)) fun x40 =>
 condK x40
 (obind (bldK z2 p3 []) fun x41 =>
 obindH (stA 3 h33 a4 x41) fun h42 =>
 obind (ldA 3 h42 a4) fun x43 =>
 .ok (.tup [x43, (.int .i64 0), (.int .i64 4)]) h42)
 (obind (ixStr a0 a1) fun x44 =>
 obind (binN .eql x44 (.int .u8 96)) fun x45 =>
 condK x45
 (R 3 [a0, a1, a4, a7, a8, (.int .i64 4)] h33)
 (R 3 [a0, a1, a4, a7, a8, (.int .i64 1)] h33)))
theorem e37_2 {a0 a1 a4 a7 a8 : IV} (e : t37_2 (CL T) (J37 T) a0 a1 a4 a7 a8 h = r) (hr : r ≠ .fail) : J37 T 2 [a0, a1, a4, a7, a8] h = r := fj_step (by kernel_rfl) e hr
noncomputable def t37_4 (cf : CallF) (R : Rec) (a0 a1 a4 a7 : IV) (h : H) : CRes :=
 obind (lenStr a0) fun x46 =>
 obind (binN .lss a7 x46) fun x47 =>
 spanK x47 true h (fun k48 =>
 obind (ixStr a0 a7) fun x51 =>
 callP (cf 76 [x51] h) .pan fun x52 h53 =>
 k48 x52 h53) fun x49 h50 =>
 spanK x49 false h50 (fun k54 =>
 obind (ixStr a0 a7) fun x57 =>
 obind (binN .eql x57 (.int .u8 39)) fun x58 =>
 k54 x58 h50) fun x55 h56 =>
 spanK x47 true h56 (fun k59 =>
 obind (pickI x49 (some (.bool true)) (some x55)) fun x62 =>
 k59 x62 h56) fun x60 h61 =>
 obind (pickI x47 (some x60) (some (.bool false))) fun x63 =>
 condK x63
 (obind (binN .add a7 (.int .i64 1)) fun x64 =>
 R 4 [a0, a1, a4, x64] h61)
 (obind (slcStr a0 (some a1) (some a7)) fun x65 =>
 callP (cf 78 [x65] h61) .pan fun x66 h67 =>
 obind (extractI x66 0) fun x68 =>
 obind (extractI x66 1) fun x69 =>
 obind (extractI x66 2) fun x70 =>
 obind (binN .neq x70 (.int .i64 0)) fun x71 =>
 condK x71
 (obind (bldK z2 p3 []) fun x72 =>
 obindH (stA 3 h67 a4 x72) fun h73 =>
 obind (ldA 3 h73 a4) fun x74 =>
 .ok (.tup [x74, (.int .i64 0), x70]) h73)
 (obind (slcStr a0 (some a1) (some a7)) fun x75 =>
 obind (bldK z2 p3 [(0, (.int .i64 2)), (1, x75), (2, a1)]) fun x76 =>
 obindH (stA 3 h67 a4 x76) fun h77 =>
 obind (ldA 3 h77 a4) fun x78 =>
 .ok (.tup [x78, a7, (.int .i64 0)]) h77))
theorem e37_4 {a0 a1 a4 a7 : IV} (e : t37_4 (CL T) (J37 T) a0 a1 a4 a7 h = r) (hr : r ≠ .fail) : J37 T 4 [a0, a1, a4, a7] h = r := fj_step (by kernel_rfl) e hr
noncomputable def t37_3 (cf : CallF) (R : Rec) (a0 a1 a4 a7 a8 a9 : IV) (h : H) : CRes :=
 obind (slcStr a0 (some a8) (some a7)) fun x79 =>
 obind (bldK z2 p3 [(0, a9), (1, x79), (2, a1)]) fun x80 =>
 obindH (stA 3 h a4 x80) fun h81 =>
 obind (ldA 3 h81 a4) fun x82 =>
 .ok (.tup [x82, a7, (.int .i64 0)]) h81
theorem e37_3 {a0 a1 a4 a7 a8 a9 : IV} (e : t37_3 (CL T) (J37 T) a0 a1 a4 a7 a8 a9 h = r) (hr : r ≠ .fail) : J37 T 3 [a0, a1, a4, a7, a8, a9] h = r := fj_step (by kernel_rfl) e hr
def js38 : List Jn := [⟨[], [0]⟩, ⟨[1, 1, 1, 1, 1], [0, 2, 3]⟩, ⟨[1, 1, 1, 1, 1, 1, 1], [0, 2, 3]⟩, ⟨[1, 0, 1, 0, 1, 1, 1, 1, 1, 1], [0, 2, 3]⟩, ⟨[0, 0, 0, 1, 0, 1, 1, 1, 1, 1, 1], [0, 2, 3]⟩]
noncomputable def J38 (T : Tab) : Rec := fj Tryz.prog (CL T) Tryz.f38 js38
noncomputable def t38_0 (cf : CallF) (R : Rec) (a0 : IV) (h : H) : CRes :=
 obind2 (newI h z6) fun x1 h2 =>
 callP (cf 80 [a0] h2) .pan fun x3 h4 =>
 obind (bldK z6 p8 [(4, x3)]) fun x5 =>
 obind2 (newI h4 z6) fun x6 h7 =>
 obindH (stA 5 h7 x6 x5) fun h8 =>
 callP (cf 81 [a0, (.str ⟨6, 111516500389741⟩)] h8) .pan fun x9 h10 =>
 callP (cf 82 [a0] h10) .pan fun x11 h12 =>
 obind (fadK 0 x6) fun x13 =>
 obindH (stA 1 h12 x13 x11) fun h14 =>
 callP (cf 83 [a0, (.str ⟨1, 35⟩)] h14) .pan fun x15 h16 =>
 condK x15
 (callP (cf 84 [a0] h16) .pan fun x17 h18 =>
 obind (fadK 1 x6) fun x19 =>
 obindH (stA 1 h18 x19 x17) fun h20 =>
 R 1 [a0, x1, x6] h20)
 (R 1 [a0, x1, x6] h16)
theorem e38_0 {a0 : IV} (e : t38_0 (CL T) (J38 T) a0 h = r) (hr : r ≠ .fail) : J38 T 0 [a0] h = r := fj_step (by kernel_rfl) e hr
noncomputable def t38_1 (cf : CallF) (R : Rec) (a0 a2 a3 : IV) (h : H) : CRes :=
 callP (cf 81 [a0, (.str ⟨1, 40⟩)] h) .pan fun x21 h22 =>
 callP (cf 83 [a0, (.str ⟨1, 41⟩)] h22) .pan fun x23 h24 =>
 obind (unI .not x23) fun x25 =>
 condK x25
 (R 4 [a0, a2, a3] h24)
 (R 2 [a0, a2, a3] h24)
theorem e38_1 {a0 a2 a3 : IV} (e : t38_1 (CL T) (J38 T) a0 a2 a3 h = r) (hr : r ≠ .fail) : J38 T 1 [a0, a2, a3] h = r := fj_step (by kernel_rfl) e hr
noncomputable def t38_2 (cf : CallF) (R : Rec) (a0 a2 a3 : IV) (h : H) : CRes :=
 callP (cf 81 [a0, (.str ⟨1, 59⟩)] h) .pan fun x26 h27 =>
 callP (cf 86 [a0, (.str ⟨9, 1870936414602775522917⟩), (.int .i64 1)] h27) .pan fun x28 h29 =>
 obind (fadK 3 a3) fun x30 =>
 obindH (stA 1 h29 x30 x28) fun h31 =>
 obind (ldA 5 h31 a3) fun x32 =>
 obindH (stA 5 h31 a2 x32) fun h33 =>
 obind (ldA 5 h33 a2) fun x34 =>
 .ok x34 h33
theorem e38_2 {a0 a2 a3 : IV} (e : t38_2 (CL T) (J38 T) a0 a2 a3 h = r) (hr : r ≠ .fail) : J38 T 2 [a0, a2, a3] h = r := fj_step (by kernel_rfl) e hr
noncomputable def t38_4 (cf : CallF) (R : Rec) (a0 a2 a3 : IV) (h : H) : CRes :=
 callP (cf 39 [a0] h) .pan fun x35 h36 =>
 condK x35
 (obind (fadK 2 a3) fun x37 =>
 obind (ld0 h36 x37) fun x38 =>
 callP (cf 85 [a0] h36) (fun v39 h40 =>
 .pan v39 h40) fun x41 h42 =>
 obind (ld0 h42 x37) fun x43 =>
 bif IV.beq x43 x38 then
 obind2 (bslK false 17 z9 1 [(0, x41)] h42) fun x44 h45 =>
 obind (ld0 h45 x37) fun x46 =>
 bif IV.beq x46 x38 then
 obind2 (appK 17 192 h45 x38 x44) fun x47 h48 =>
 obind (fadK 2 a3) fun x49 =>
 obindH (stA 1 h48 x49 x47) fun h50 =>
 callP (cf 83 [a0, (.str ⟨1, 44⟩)] h50) .pan fun x51 h52 =>
 obind (unI .not x51) fun x53 =>
 condK x53
 (R 3 [a0, a2, a3] h52)
 (R 4 [a0, a2, a3] h52)
 else .fail
 else .fail)
 (R 3 [a0, a2, a3] h36)
theorem e38_4 {a0 a2 a3 : IV} (e : t38_4 (CL T) (J38 T) a0 a2 a3 h = r) (hr : r ≠ .fail) : J38 T 4 [a0, a2, a3] h = r := fj_step (by kernel_rfl) e hr
noncomputable def t38_3 (cf : CallF) (R : Rec) (a0 a2 a3 : IV) (h : H) : CRes :=
 callP (cf 81 [a0, (.str ⟨1, 41⟩)] h) .pan fun x54 h55 =>
 R 2 [a0, a2, a3] h55
theorem e38_3 {a0 a2 a3 : IV} (e : t38_3 (CL T) (J38 T) a0 a2 a3 h = r) (hr : r ≠ .fail) : J38 T 3 [a0, a2, a3] h = r := fj_step (by kernel_rfl) e hr
def js39 : List Jn := [⟨[], [0]⟩]
noncomputable def J39 (T : Tab) : Rec := fj Tryz.prog (CL T) Tryz.f39 js39
noncomputable def t39_0 (cf : CallF) (R : Rec) (a0 : IV) (h : H) : CRes :=
 obind (nilI a0) fun x1 =>
 obind (fadK 2 x1) fun x2 =>
 obind (fadK 1 x2) fun x3 =>
 obind (ld0 h x3) fun x4 =>
 obind (binN .eql x4 (.int .i64 0)) fun x5 =>
 .ok x5 h
theorem e39_0 {a0 : IV} (e : t39_0 (CL T) (J39 T) a0 h = r) (hr : r ≠ .fail) : J39 T 0 [a0] h = r := fj_step (by kernel_rfl) e hr
def js40 : List Jn := [⟨[1], [0, 1, 5]⟩]
noncomputable def J40 (T : Tab) : Rec := cj Tryz.prog (CL T) Tryz.f40 js40
noncomputable def t40_0 (cf : CallF) (R : Rec) (a0 a1 a5 : IV) (h : H) : CRes :=
 obind (eqIf .eql true a5 .nilIface) fun x1 =>
 condK x1
 (.ok (.tup []) h)
 (obind (assertI 88 true (some (.agg [])) a5) fun x2 =>
 obind (extractI x2 1) fun x3 =>
 obind (extractI x2 0) fun x4 =>
 condK x3
 (obind2 (newI h []) fun x5 h6 =>
 obindH (stA 0 h6 x5 x4) fun h7 =>
 obindH (stA 1 h7 a0 (.str ⟨0, 0⟩)) fun h8 =>
 obindH (stA 1 h8 a1 (.bool false)) fun h9 =>
 .ok (.tup []) h9)
 (panK a5 h nop))
theorem e40_0 {a0 a1 a5 : IV} (e : t40_0 (CL T) (J40 T) a0 a1 a5 h = r) (hr : r ≠ .fail) : J40 T 0 [a0, a1, a5] h = r := cj_step (by kernel_rfl) e hr
theorem l40 {T : Tab} {a0 a1 : IV} {st : I.Mode} {h h' : H} {v : IV} (hst : st ≠ .done) (e : t40_0 (CL T) (J40 T) a0 a1 (recV st) h = .ok v h') : LV Tryz.prog (CL T) 40 [a0, a1] st h = some (.ret, h') := LV_of Tryz.func40 rfl rfl (rfl) (of_decide_eq_true (by kernel_rfl)) hst rfl rfl (of_decide_eq_true (by kernel_rfl)) (e40_0 e (by simp))
def js41 : List Jn := [⟨[], [0]⟩]
noncomputable def J41 (T : Tab) : Rec := fj Tryz.prog (CL T) Tryz.f41 js41
noncomputable def t41_0 (cf : CallF) (R : Rec) (a0 : IV) (h : H) : CRes :=
 obind (nilI a0) fun x1 =>
 obind (fadK 1 x1) fun x2 =>
 obind (ld0 h x2) fun x3 =>
 obind (sliceDataI x3) fun x4 =>
 obind (nilI a0) fun x5 =>
 obind (fadK 1 x5) fun x6 =>
 obind (ld0 h x6) fun x7 =>
 obind (ld0 h x6) fun x8 =>
 bif IV.beq x8 x7 then
 obind (lenS x7) fun x9 =>
 obind (lenS x7) fun x10 =>
 bif IV.beq x10 x9 then
 obind2 (bytesStr 5 h x4 x9) fun x11 h12 =>
 .ok x11 h12
 else .fail
 else .fail
theorem e41_0 {a0 : IV} (e : t41_0 (CL T) (J41 T) a0 h = r) (hr : r ≠ .fail) : J41 T 0 [a0] h = r := fj_step (by kernel_rfl) e hr
def js42 : List Jn := [⟨[], [0]⟩]
noncomputable def J42 (T : Tab) : Rec := fj Tryz.prog (CL T) Tryz.f42 js42
noncomputable def t42_0 (cf : CallF) (R : Rec) (a0 : IV) (h : H) : CRes :=
 obind (nilI a0) fun x1 =>
 obind (fadK 1 x1) fun x2 =>
 obind (ld0 h x2) fun x3 =>
 obind (lenS x3) fun x4 =>
 .ok x4 h
theorem e42_0 {a0 : IV} (e : t42_0 (CL T) (J42 T) a0 h = r) (hr : r ≠ .fail) : J42 T 0 [a0] h = r := fj_step (by kernel_rfl) e hr
def js43 : List Jn := [⟨[], [0, 1]⟩, ⟨[0, 1, 0], [0, 6, 7, 8]⟩]
noncomputable def J43 (T : Tab) : Rec := fj Tryz.prog (CL T) Tryz.f43 js43
noncomputable def t43_0 (cf : CallF) (R : Rec) (a0 a1 : IV) (h : H) : CRes :=
 obind (lenS a1) fun x1 =>
 R 1 [a0, a1, x1, (.int .i64 0)] h
theorem e43_0 {a0 a1 : IV} (e : t43_0 (CL T) (J43 T) a0 a1 h = r) (hr : r ≠ .fail) : J43 T 0 [a0, a1] h = r := fj_step (by kernel_rfl) e hr
noncomputable def t43_1 (cf : CallF) (R : Rec) (a0 a6 a7 a8 : IV) (h : H) : CRes :=
 obind (binN .lss a8 a7) fun x2 =>
 condK x2
 (obind (ixS 1 a6 a8) fun x3 =>
 obind (ld0 h x3) fun x4 =>
 obind (nilI a0) fun x5 =>
 obind (fadK 0 x5) fun x6 =>
 obind (binS .add x4 (.str ⟨1, 32⟩)) fun x7 =>
 callP (cf 87 [x6, x7] h) .pan fun x8 h9 =>
 obind (binN .add a8 (.int .i64 1)) fun x10 =>
 R 1 [a0, a6, a7, x10] h9)
 (obind (nilI a0) fun x11 =>
 obind (fadK 0 x11) fun x12 =>
 callP (cf 42 [x12] h) .pan fun x13 h14 =>
 obind (binN .gtr x13 (.int .i64 65536)) fun x15 =>
 condK x15
 (obind (bldK [] [] []) fun x16 =>
 panK (.iface 88 x16) h14 .pan)
 (.ok (.tup []) h14))
theorem e43_1 {a0 a6 a7 a8 : IV} (e : t43_1 (CL T) (J43 T) a0 a6 a7 a8 h = r) (hr : r ≠ .fail) : J43 T 1 [a0, a6, a7, a8] h = r := fj_step (by kernel_rfl) e hr
def js44 : List Jn := [⟨[], [0, 1, 2]⟩, ⟨[0, 1], [0, 2, 7, 8]⟩, ⟨[1, 1, 0, 0, 1, 1, 0, 0, 1], [0, 2, 6, 7, 8]⟩]
noncomputable def J44 (T : Tab) : Rec := fj Tryz.prog (CL T) Tryz.f44 js44
noncomputable def t44_0 (cf : CallF) (R : Rec) (a0 a1 a2 : IV) (h : H) : CRes :=
 R 1 [a0, a2, a1, (.int .i64 0)] h
theorem e44_0 {a0 a1 a2 : IV} (e : t44_0 (CL T) (J44 T) a0 a1 a2 h = r) (hr : r ≠ .fail) : J44 T 0 [a0, a1, a2] h = r := fj_step (by kernel_rfl) e hr
noncomputable def t44_1 (cf : CallF) (R : Rec) (a0 a2 a7 a8 : IV) (h : H) : CRes :=
 obind (binN .lss a8 a7) fun x1 =>
 condK x1
 (obind (binN .gtr a8 (.int .i64 0)) fun x2 =>
 condK x2
 (obind2 (bslK false 1 [(.str ⟨0, 0⟩)] 1 [(0, (.str ⟨1, 44⟩))] h) fun x3 h4 =>
 callP (cf 43 [a0, x3] h4) .pan fun x5 h6 =>
 R 2 [a0, a2, a8, a7, a8] h6)
 (R 2 [a0, a2, a8, a7, a8] h))
 (.ok (.tup []) h)
theorem e44_1 {a0 a2 a7 a8 : IV} (e : t44_1 (CL T) (J44 T) a0 a2 a7 a8 h = r) (hr : r ≠ .fail) : J44 T 1 [a0, a2, a7, a8] h = r := fj_step (by kernel_rfl) e hr
noncomputable def t44_2 (cf : CallF) (R : Rec) (a0 a2 a6 a7 a8 : IV) (h : H) : CRes :=
 funK a2 fun f9 c10 => callP (cf f9 ([a6] ++ c10) h) .pan fun x7 h8 =>
 obind (binN .add a8 (.int .i64 1)) fun x11 =>
 R 1 [a0, a2, a7, x11] h8
theorem e44_2 {a0 a2 a6 a7 a8 : IV} (e : t44_2 (CL T) (J44 T) a0 a2 a6 a7 a8 h = r) (hr : r ≠ .fail) : J44 T 2 [a0, a2, a6, a7, a8] h = r := fj_step (by kernel_rfl) e hr
def js45 : List Jn := [⟨[], [0, 1, 2]⟩]
noncomputable def J45 (T : Tab) : Rec := fj Tryz.prog (CL T) Tryz.f45 js45
noncomputable def t45_0 (cf : CallF) (R : Rec) (a0 a1 a2 : IV) (h : H) : CRes :=
 obind (ld0 h a1) fun x1 =>
 obind2 (bslK false 1 [(.str ⟨0, 0⟩)] 1 [(0, (.str ⟨9, 2110239404018478768496⟩))] h) fun x2 h3 =>
 callP (cf 43 [x1, x2] h3) .pan fun x4 h5 =>
 obind (ld0 h5 a1) fun x6 =>
 obind (fadK 1 a2) fun x7 =>
 obind (ld0 h5 x7) fun x8 =>
 obind (ixS 8 x8 a0) fun x9 =>
 obind (fadK 0 x9) fun x10 =>
 obind (ld0 h5 x10) fun x11 =>
 obind (fadK 1 a2) fun x12 =>
 obind (ld0 h5 x12) fun x13 =>
 obind (ixS 8 x13 a0) fun x14 =>
 obind (fadK 1 x14) fun x15 =>
 obind (ldA 6 h5 x15) fun x16 =>
 callP (cf 46 [x6, x11, x16] h5) (fun v17 h18 =>
 .pan v17 h18) fun x19 h20 =>
 .ok (.tup []) h20
theorem e45_0 {a0 a1 a2 : IV} (e : t45_0 (CL T) (J45 T) a0 a1 a2 h = r) (hr : r ≠ .fail) : J45 T 0 [a0, a1, a2] h = r := fj_step (by kernel_rfl) e hr
theorem c45 (hT : OvStep T) (ho : T.ov 45 = none) (hp : T.pol 45 = true) {a0 a1 a2 : IV} (hg : Gd h) (e : t45_0 (CL T) (J45 T) a0 a1 a2 h = r) (hr : r ≠ .fail) : CL T 45 [a0, a1, a2] h = r := call_good ho Tryz.func45 rfl rfl rfl hp hg hT (e45_0 e hr) hr
def js47 : List Jn := [⟨[], [0, 1, 2]⟩]
noncomputable def J47 (T : Tab) : Rec := fj Tryz.prog (CL T) Tryz.f47 js47
noncomputable def t47_0 (cf : CallF) (R : Rec) (a0 a1 a2 : IV) (h : H) : CRes :=
 obind (ld0 h a1) fun x1 =>
 obind (fadK 2 a2) fun x2 =>
 obind (ld0 h x2) fun x3 =>
 obind (ixS 17 x3 a0) fun x4 =>
 obind (ldA 17 h x4) fun x5 =>
 callP (cf 48 [x1, x5] h) (fun v6 h7 =>
 .pan v6 h7) fun x8 h9 =>
 .ok (.tup []) h9
theorem e47_0 {a0 a1 a2 : IV} (e : t47_0 (CL T) (J47 T) a0 a1 a2 h = r) (hr : r ≠ .fail) : J47 T 0 [a0, a1, a2] h = r := fj_step (by kernel_rfl) e hr
def js48 : List Jn := [⟨[], [0, 1]⟩, ⟨[1, 1], [0, 3]⟩, ⟨[1, 1, 1], [0, 3]⟩]
noncomputable def J48 (T : Tab) : Rec := fj Tryz.prog (CL T) Tryz.f48 js48
noncomputable def t48_0 (cf : CallF) (R : Rec) (a0 a1 : IV) (h : H) : CRes :=
 obind2 (newI h (IV.cells a1)) fun x1 h2 =>
 obind (fadK 0 x1) fun x3 =>
 obind (ld0 h2 x3) fun x4 =>
 condK x4
 (obind2 (bslK false 1 [(.str ⟨0, 0⟩)] 1 [(0, (.str ⟨6, 128047746676079⟩))] h2) fun x5 h6 =>
 callP (cf 43 [a0, x5] h6) .pan fun x7 h8 =>
 R 1 [a0, x1] h8)
 (obind2 (bslK false 1 [(.str ⟨0, 0⟩)] 1 [(0, (.str ⟨5, 500186508905⟩))] h2) fun x9 h10 =>
 callP (cf 43 [a0, x9] h10) .pan fun x11 h12 =>
 R 1 [a0, x1] h12)
theorem e48_0 {a0 a1 : IV} (e : t48_0 (CL T) (J48 T) a0 a1 h = r) (hr : r ≠ .fail) : J48 T 0 [a0, a1] h = r := fj_step (by kernel_rfl) e hr
noncomputable def t48_1 (cf : CallF) (R : Rec) (a0 a3 : IV) (h : H) : CRes :=
 obind (fadK 1 a3) fun x13 =>
 obind (ld0 h x13) fun x14 =>
 condK x14
 (obind2 (bslK false 1 [(.str ⟨0, 0⟩)] 1 [(0, (.str ⟨3, 6776178⟩))] h) fun x15 h16 =>
 callP (cf 43 [a0, x15] h16) .pan fun x17 h18 =>
 R 2 [a0, a3] h18)
 (R 2 [a0, a3] h)
theorem e48_1 {a0 a3 : IV} (e : t48_1 (CL T) (J48 T) a0 a3 h = r) (hr : r ≠ .fail) : J48 T 1 [a0, a3] h = r := fj_step (by kernel_rfl) e hr
noncomputable def t48_2 (cf : CallF) (R : Rec) (a0 a3 : IV) (h : H) : CRes :=
 obind (fadK 2 a3) fun x19 =>
 obind (ld0 h x19) fun x20 =>
 obind (fadK 3 a3) fun x21 =>
 obind (ldA 6 h x21) fun x22 =>
 obind (fadK 9 a3) fun x23 =>
 obind (ldA 6 h x23) fun x24 =>
 callP (cf 88 [a0, x20, x22, x24] h) .pan fun x25 h26 =>
 obind (fadK 15 a3) fun x27 =>
 obind (ld0 h26 x27) fun x28 =>
 obind2 (bslK false 1 [(.str ⟨0, 0⟩)] 1 [(0, x28)] h26) fun x29 h30 =>
 callP (cf 43 [a0, x29] h30) .pan fun x31 h32 =>
 .ok (.tup []) h32
theorem e48_2 {a0 a3 : IV} (e : t48_2 (CL T) (J48 T) a0 a3 h = r) (hr : r ≠ .fail) : J48 T 2 [a0, a3] h = r := fj_step (by kernel_rfl) e hr
def js49 : List Jn := [⟨[], [0, 1]⟩]
noncomputable def J49 (T : Tab) : Rec := fj Tryz.prog (CL T) Tryz.f49 js49
noncomputable def t49_0 (cf : CallF) (R : Rec) (a0 a1 : IV) (h : H) : CRes :=
 obind (nilI a0) fun x1 =>
 obind (fadK 0 x1) fun x2 =>
 obind (binS .add a1 (.str ⟨1, 10⟩)) fun x3 =>
 callP (cf 87 [x2, x3] h) .pan fun x4 h5 =>
 .ok (.tup []) h5
theorem e49_0 {a0 a1 : IV} (e : t49_0 (CL T) (J49 T) a0 a1 h = r) (hr : r ≠ .fail) : J49 T 0 [a0, a1] h = r := fj_step (by kernel_rfl) e hr
def js51 : List Jn := [⟨[], [0]⟩, ⟨[0, 1, 0, 1, 1, 1, 1], [0, 4, 5, 6]⟩, ⟨[1, 1, 1, 0, 1, 0, 0, 1, 0, 1, 1, 1, 1], [0, 4, 5, 6, 9, 10]⟩]
noncomputable def J51 (T : Tab) : Rec := fj Tryz.prog (CL T) Tryz.f51 js51
noncomputable def t51_0 (cf : CallF) (R : Rec) (a0 : IV) (h : H) : CRes :=
 obind (lenStr a0) fun x1 =>
 obind (binN .gtr x1 (.int .i64 65536)) fun x2 =>
 condK x2
 (callP (cf 93 [(.int .i64 0), (.int .i64 4)] h) .pan fun x3 h4 =>
 .ok (.tup [.nilSlice, x3]) h4)
 (R 1 [a0, .nilSlice, (.bool false), (.int .i64 0)] h)
theorem e51_0 {a0 : IV} (e : t51_0 (CL T) (J51 T) a0 h = r) (hr : r ≠ .fail) : J51 T 0 [a0] h = r := fj_step (by kernel_rfl) e hr
noncomputable def t51_1 (cf : CallF) (R : Rec) (a0 a4 a5 a6 : IV) (h : H) : CRes :=
 obind (lenStr a0) fun x5 =>
 obind (binN .lss a6 x5) fun x6 =>
 condK x6
 (callP (cf 94 [a0, a6] h) .pan fun x7 h8 =>
 obind (extractI x7 0) fun x9 =>
 obind (extractI x7 1) fun x10 =>
 condK x10
 (obind (binN .lss x9 (.int .i64 0)) fun x11 =>
 condK x11
 (callP (cf 93 [a6, (.int .i64 20)] h8) .pan fun x12 h13 =>
 .ok (.tup [.nilSlice, x12]) h13)
 (R 1 [a0, a4, a5, x9] h8))
 (obind (bldK z2 p3 [(0, (.int .i64 5)), (2, a6)]) fun x14 =>
 obind (binN .add a6 (.int .i64 1)) fun x15 =>
 obind2 (newI h8 z2) fun x16 h17 =>
 obindH (stA 3 h17 x16 x14) fun h18 =>
 obind (ixStr a0 a6) fun x19 =>
 obind (binN .eql x19 (.int .u8 10)) fun x20 =>
 spanK x20 true h18 (fun k21 =>
 k21 a5 h18) fun x22 h23 =>
 obind (pickI x20 (some x22) (some (.bool false))) fun x24 =>
 condK x24
 (R 2 [a0, a4, (.bool false), a6, x16, x15] h23)
 (obind (ixStr a0 a6) fun x25 =>
 callP (cf 95 [x25] h23) .pan fun x26 h27 =>
 obind (binN .eql x26 (.int .i64 1)) fun x28 =>
 condK x28
 (obind (binN .add a6 (.int .i64 1)) fun x29 =>
 R 1 [a0, a4, a5, x29] h27)
 (callP (cf 96 [a0, a6] h27) .pan fun x30 h31 =>
 obind (extractI x30 0) fun x32 =>
 obind (extractI x30 1) fun x33 =>
 obind (extractI x30 2) fun x34 =>
 obindH (stA 3 h31 x16 x32) fun h35 =>
 obind (binN .neq x34 (.int .i64 0)) fun x36 =>
 condK x36
 (callP (cf 93 [a6, x34] h35) .pan fun x37 h38 =>
 .ok (.tup [.nilSlice, x37]) h38)
 (spanK a5 false h35 (fun k39 =>
 obind (fadK 0 x16) fun x42 =>
 obind (ld0 h35 x42) fun x43 =>
 obind (binN .eql x43 (.int .i64 4)) fun x44 =>
 k39 x44 h35) fun x40 h41 =>
 spanK x40 true h41 (fun k45 =>
 obind (fadK 1 x16) fun x48 =>
 obind (ld0 h41 x48) fun x49 =>
 obind (binS .eql x49 (.str ⟨6, 111524889126244⟩)) fun x50 =>
 k45 x50 h41) fun x46 h47 =>
 spanK a5 false h47 (fun k51 =>
 obind (pickI x40 (some x46) (some (.bool false))) fun x54 =>
 k51 x54 h47) fun x52 h53 =>
 obind (pickI a5 (some (.bool true)) (some x52)) fun x55 =>
 R 2 [a0, a4, x55, a6, x16, x33] h53)))))
 (obind (lenStr a0) fun x56 =>
 obind (bldK z2 p3 [(0, (.int .i64 6)), (2, x56)]) fun x57 =>
 obind2 (bslK false 3 z2 1 [(0, x57)] h) fun x58 h59 =>
 obind2 (appK 3 32 h59 a4 x58) fun x60 h61 =>
 .ok (.tup [x60, .nilSlice]) h61)
theorem e51_1 {a0 a4 a5 a6 : IV} (e : t51_1 (CL T) (J51 T) a0 a4 a5 a6 h = r) (hr : r ≠ .fail) : J51 T 1 [a0, a4, a5, a6] h = r := fj_step (by kernel_rfl) e hr
noncomputable def t51_2 (cf : CallF) (R : Rec) (a0 a4 a5 a6 a9 a10 : IV) (h : H) : CRes :=
 obind (lenS a4) fun x62 =>
 obind (binN .eql x62 (.int .i64 16384)) fun x63 =>
 condK x63
 (callP (cf 93 [a6, (.int .i64 2)] h) .pan fun x64 h65 =>
 .ok (.tup [.nilSlice, x64]) h65)
 (obind (ldA 3 h a9) fun x66 =>
 obind2 (bslK false 3 z2 1 [(0, x66)] h) fun x67 h68 =>
 obind2 (appK 3 32 h68 a4 x67) fun x69 h70 =>
 R 1 [a0, x69, a5, a10] h70)
theorem e51_2 {a0 a4 a5 a6 a9 a10 : IV} (e : t51_2 (CL T) (J51 T) a0 a4 a5 a6 a9 a10 h = r) (hr : r ≠ .fail) : J51 T 2 [a0, a4, a5, a6, a9, a10] h = r := fj_step (by kernel_rfl) e hr
def js52 : List Jn := [⟨[], [0, 1]⟩]
noncomputable def J52 (T : Tab) : Rec := fj Tryz.prog (CL T) Tryz.f52 js52
noncomputable def t52_0 (cf : CallF) (R : Rec) (a0 a1 : IV) (h : H) : CRes :=
 callP (cf 97 [a0, a1] h) .pan fun x1 h2 =>
 obind (binN .geq x1 (.int .i64 0)) fun x3 =>
 .ok x3 h2
theorem e52_0 {a0 a1 : IV} (e : t52_0 (CL T) (J52 T) a0 a1 h = r) (hr : r ≠ .fail) : J52 T 0 [a0, a1] h = r := fj_step (by kernel_rfl) e hr
def js53 : List Jn := [⟨[], [0]⟩]
noncomputable def J53 (T : Tab) : Rec := fj Tryz.prog (CL T) Tryz.f53 js53
noncomputable def t53_0 (cf : CallF) (R : Rec) (a0 : IV) (h : H) : CRes :=
 obind2 (newI h (IV.cells a0)) fun x1 h2 =>
 obind (fadK 0 x1) fun x3 =>
 obind (ld0 h2 x3) fun x4 =>
 obind (binN .eql x4 (.int .i64 4)) fun x5 =>
 .ok x5 h2
theorem e53_0 {a0 : IV} (e : t53_0 (CL T) (J53 T) a0 h = r) (hr : r ≠ .fail) : J53 T 0 [a0] h = r := fj_step (by kernel_rfl) e hr
def js54 : List Jn := [⟨[], [0]⟩, ⟨[0, 1, 0, 1, 1, 1, 1], [2, 3, 4, 5]⟩]
noncomputable def J54 (T : Tab) : Rec := fj Tryz.prog (CL T) Tryz.f54 js54
noncomputable def J54d (T : Tab) (d0 d1 : IV) : Rec := fj1 Tryz.prog (CL T) Tryz.f54 js54 98 [d0, d1]
noncomputable def t54_0 (cf : CallF) (R : Rec) (a0 : IV) (h : H) : CRes :=
 obind2 (newI h [.nilSlice]) fun x1 h2 =>
 obind2 (newI h2 [.nilSlice]) fun x3 h4 =>
 obind (lenS a0) fun x5 =>
 obind (binN .eql x5 (.int .i64 0)) fun x6 =>
 spanK x6 false h4 (fun k7 =>
 obind (lenS a0) fun x10 =>
 obind (binN .sub x10 (.int .i64 1)) fun x11 =>
 obind (ixS 3 a0 x11) fun x12 =>
 obind (fadK 0 x12) fun x13 =>
 obind (ld0 h4 x13) fun x14 =>
 obind (binN .neq x14 (.int .i64 6)) fun x15 =>
 k7 x15 h4) fun x8 h9 =>
 obind (pickI x6 (some (.bool true)) (some x8)) fun x16 =>
 condK x16
 (obind (bldK [(.int .i64 0), (.int .i64 0)] [(0, 1), (1, 1)] [(1, (.int .i64 1))]) fun x17 =>
 obind2 (bslK false 2 [(.int .i64 0), (.int .i64 0)] 1 [(0, x17)] h9) fun x18 h19 =>
 obindH (stA 1 h19 x1 .nilSlice) fun h20 =>
 obindH (stA 1 h20 x3 x18) fun h21 =>
 obind (ld0 h21 x1) fun x22 =>
 obind (ld0 h21 x3) fun x23 =>
 .ok (.tup [x22, x23]) h21)
 (obind (bldK [.nilSlice] [(0, 1)] [(0, a0)]) fun x24 =>
 obind2 (newI h9 (IV.cells x24)) fun x25 h26 =>
 fj1 Tryz.prog cf Tryz.f54 js54 98 [x1, x3] 1 [x1, x3, x25, (.bool true)] h26)
theorem e54_0 {a0 : IV} (e : t54_0 (CL T) (J54 T) a0 h = r) (hr : r ≠ .fail) : J54 T 0 [a0] h = r := fj_step (by kernel_rfl) e hr
noncomputable def t54_1d (cf : CallF) (R : Rec) (d0 d1 a2 a3 a4 a5 : IV) (h : H) : CRes :=
 spanK a5 false h (fun k27 =>
 obind2 (bslK false 1 [(.str ⟨0, 0⟩)] 1 [(0, (.str ⟨0, 0⟩))] h) fun x30 h31 =>
 callP (cf 99 [a4, x30] h31) (dfP (LV Tryz.prog cf 98 [d0, d1]) fun h32 =>
 obind (ld0 h32 a2) fun x33 =>
 obind (ld0 h32 a3) fun x34 =>
 .ok (.tup [x33, x34]) h32) fun x35 h36 =>
 obind (unI .not x35) fun x37 =>
 k27 x37 h36) fun x28 h29 =>
 obind (pickI a5 (some (.bool true)) (some x28)) fun x38 =>
 condK x38
 (obind (ld0 h29 a2) fun x39 =>
 callP (cf 100 [a4] h29) (fun v40 h41 =>
 (dfP (LV Tryz.prog cf 98 [d0, d1]) fun h42 =>
 obind (ld0 h42 a2) fun x43 =>
 obind (ld0 h42 a3) fun x44 =>
 .ok (.tup [x43, x44]) h42) v40 h41) fun x45 h46 =>
 obind (ld0 h46 a2) fun x47 =>
 bif IV.beq x47 x39 then
 obind2 (bslK false 5 z6 1 [(0, x45)] h46) fun x48 h49 =>
 obind (ld0 h49 a2) fun x50 =>
 bif IV.beq x50 x39 then
 obind2 (appK 5 96 h49 x39 x48) fun x51 h52 =>
 obindH (stA 1 h52 a2 x51) fun h53 =>
 R 1 [a2, a3, a4, (.bool false)] h53
 else .fail
 else .fail)
 (obind (ld0 h29 a2) fun x54 =>
 obindH (stA 1 h29 a2 x54) fun h55 =>
 obindH (stA 1 h55 a3 .nilSlice) fun h56 =>
 dfK (LV Tryz.prog cf 98 [d0, d1] .ret h56) fun h57 =>
 obind (ld0 h57 a2) fun x58 =>
 obind (ld0 h57 a3) fun x59 =>
 .ok (.tup [x58, x59]) h57)
theorem e54_1d {d0 d1 a2 a3 a4 a5 : IV} (e : t54_1d (CL T) (J54d T d0 d1) d0 d1 a2 a3 a4 a5 h = r) (hr : r ≠ .fail) : J54d T d0 d1 1 [a2, a3, a4, a5] h = r := fj1_step (by kernel_rfl) e hr
def js55 : List Jn := [⟨[], [0, 1, 2]⟩, ⟨[0, 1, 0, 1, 1], [1, 2, 15, 16, 17]⟩]
noncomputable def J55 (T : Tab) : Rec := fj Tryz.prog (CL T) Tryz.f55 js55
noncomputable def t55_0 (cf : CallF) (R : Rec) (a0 a1 a2 : IV) (h : H) : CRes :=
 obind (lenS a0) fun x1 =>
 obind (lenS a1) fun x2 =>
 obind (binN .neq x1 x2) fun x3 =>
 condK x3
 (.ok (.bool false) h)
 (obind (lenS a0) fun x4 =>
 R 1 [a1, a2, a0, x4, (.int .i64 0)] h)
theorem e55_0 {a0 a1 a2 : IV} (e : t55_0 (CL T) (J55 T) a0 a1 a2 h = r) (hr : r ≠ .fail) : J55 T 0 [a0, a1, a2] h = r := fj_step (by kernel_rfl) e hr
noncomputable def t55_1 (cf : CallF) (R : Rec) (a1 a2 a15 a16 a17 : IV) (h : H) : CRes :=
 obind (binN .lss a17 a16) fun x5 =>
 condK x5
 (obind (ixS 8 a15 a17) fun x6 =>
 obind (ldA 8 h x6) fun x7 =>
 obind2 (newI h z10) fun x8 h9 =>
 obindH (stA 8 h9 x8 x7) fun h10 =>
 obind (ixS 8 a1 a17) fun x11 =>
 obind (ldA 8 h10 x11) fun x12 =>
 obind2 (newI h10 z10) fun x13 h14 =>
 obindH (stA 8 h14 x13 x12) fun h15 =>
 obind (ldA 8 h15 x8) fun x16 =>
 obind (ldA 8 h15 x13) fun x17 =>
 funK a2 fun f20 c21 => callP (cf f20 ([x16, x17] ++ c21) h15) .pan fun x18 h19 =>
 obind (unI .not x18) fun x22 =>
 condK x22
 (.ok (.bool false) h19)
 (obind (binN .add a17 (.int .i64 1)) fun x23 =>
 R 1 [a1, a2, a15, a16, x23] h19))
 (.ok (.bool true) h)
theorem e55_1 {a1 a2 a15 a16 a17 : IV} (e : t55_1 (CL T) (J55 T) a1 a2 a15 a16 a17 h = r) (hr : r ≠ .fail) : J55 T 1 [a1, a2, a15, a16, a17] h = r := fj_step (by kernel_rfl) e hr
def js57 : List Jn := [⟨[], [0, 1, 2]⟩, ⟨[0, 1, 0, 1, 1], [1, 2, 15, 16, 17]⟩]
noncomputable def J57 (T : Tab) : Rec := fj Tryz.prog (CL T) Tryz.f57 js57
noncomputable def t57_0 (cf : CallF) (R : Rec) (a0 a1 a2 : IV) (h : H) : CRes :=
 obind (lenS a0) fun x1 =>
 obind (lenS a1) fun x2 =>
 obind (binN .neq x1 x2) fun x3 =>
 condK x3
 (.ok (.bool false) h)
 (obind (lenS a0) fun x4 =>
 R 1 [a1, a2, a0, x4, (.int .i64 0)] h)
theorem e57_0 {a0 a1 a2 : IV} (e : t57_0 (CL T) (J57 T) a0 a1 a2 h = r) (hr : r ≠ .fail) : J57 T 0 [a0, a1, a2] h = r := fj_step (by kernel_rfl) e hr
noncomputable def t57_1 (cf : CallF) (R : Rec) (a1 a2 a15 a16 a17 : IV) (h : H) : CRes :=
 obind (binN .lss a17 a16) fun x5 =>
 condK x5
 (obind (ixS 17 a15 a17) fun x6 =>
 obind (ldA 17 h x6) fun x7 =>
 obind2 (newI h z9) fun x8 h9 =>
 obindH (stA 17 h9 x8 x7) fun h10 =>
 obind (ixS 17 a1 a17) fun x11 =>
 obind (ldA 17 h10 x11) fun x12 =>
 obind2 (newI h10 z9) fun x13 h14 =>
 obindH (stA 17 h14 x13 x12) fun h15 =>
 obind (ldA 17 h15 x8) fun x16 =>
 obind (ldA 17 h15 x13) fun x17 =>
 funK a2 fun f20 c21 => callP (cf f20 ([x16, x17] ++ c21) h15) .pan fun x18 h19 =>
 obind (unI .not x18) fun x22 =>
 condK x22
 (.ok (.bool false) h19)
 (obind (binN .add a17 (.int .i64 1)) fun x23 =>
 R 1 [a1, a2, a15, a16, x23] h19))
 (.ok (.bool true) h)
theorem e57_1 {a1 a2 a15 a16 a17 : IV} (e : t57_1 (CL T) (J57 T) a1 a2 a15 a16 a17 h = r) (hr : r ≠ .fail) : J57 T 1 [a1, a2, a15, a16, a17] h = r := fj_step (by kernel_rfl) e hr
def js58 : List Jn := [⟨[], [0, 1]⟩]
noncomputable def J58 (T : Tab) : Rec := fj Tryz.prog (CL T) Tryz.f58 js58
noncomputable def t58_0 (cf : CallF) (R : Rec) (a0 a1 : IV) (h : H) : CRes :=
 obind2 (newI h (IV.cells a0)) fun x1 h2 =>
 obind2 (newI h2 (IV.cells a1)) fun x3 h4 =>
 obind (fadK 0 x1) fun x5 =>
 obind (ld0 h4 x5) fun x6 =>
 obind (fadK 0 x3) fun x7 =>
 obind (ld0 h4 x7) fun x8 =>
 obind (eqB .eql x6 x8) fun x9 =>
 spanK x9 true h4 (fun k10 =>
 obind (fadK 1 x1) fun x13 =>
 obind (ld0 h4 x13) fun x14 =>
 obind (fadK 1 x3) fun x15 =>
 obind (ld0 h4 x15) fun x16 =>
 obind (eqB .eql x14 x16) fun x17 =>
 k10 x17 h4) fun x11 h12 =>
 obind (pickI x9 (some x11) (some (.bool false))) fun x18 =>
 spanK x18 true h12 (fun k19 =>
 obind (fadK 2 x1) fun x22 =>
 obind (ld0 h12 x22) fun x23 =>
 obind (fadK 2 x3) fun x24 =>
 obind (ld0 h12 x24) fun x25 =>
 obind (eqB .eql x23 x25) fun x26 =>
 k19 x26 h12) fun x20 h21 =>
 obind (pickI x18 (some x20) (some (.bool false))) fun x27 =>
 spanK x27 true h21 (fun k28 =>
 obind (fadK 15 x1) fun x31 =>
 obind (ld0 h21 x31) fun x32 =>
 obind (fadK 15 x3) fun x33 =>
 obind (ld0 h21 x33) fun x34 =>
 obind (binS .eql x32 x34) fun x35 =>
 k28 x35 h21) fun x29 h30 =>
 obind (pickI x27 (some x29) (some (.bool false))) fun x36 =>
 spanK x36 true h30 (fun k37 =>
 obind (fadK 3 x1) fun x40 =>
 obind (ldA 6 h30 x40) fun x41 =>
 obind (fadK 3 x3) fun x42 =>
 obind (ldA 6 h30 x42) fun x43 =>
 callP (cf 29 [x41, x43] h30) .pan fun x44 h45 =>
 k37 x44 h45) fun x38 h39 =>
 obind (pickI x36 (some x38) (some (.bool false))) fun x46 =>
 spanK x46 true h39 (fun k47 =>
 obind (fadK 9 x1) fun x50 =>
 obind (ldA 6 h39 x50) fun x51 =>
 obind (fadK 9 x3) fun x52 =>
 obind (ldA 6 h39 x52) fun x53 =>
 callP (cf 29 [x51, x53] h39) .pan fun x54 h55 =>
 k47 x54 h55) fun x48 h49 =>
 obind (pickI x46 (some x48) (some (.bool false))) fun x56 =>
 .ok x56 h49
theorem e58_0 {a0 a1 : IV} (e : t58_0 (CL T) (J58 T) a0 a1 h = r) (hr : r ≠ .fail) : J58 T 0 [a0, a1] h = r := fj_step (by kernel_rfl) e hr
def js59 : List Jn := [⟨[], [0, 1, 2]⟩, ⟨[0, 1, 0, 1, 1], [1, 2, 15, 16, 17]⟩]
noncomputable def J59 (T : Tab) : Rec := fj Tryz.prog (CL T) Tryz.f59 js59
noncomputable def t59_0 (cf : CallF) (R : Rec) (a0 a1 a2 : IV) (h : H) : CRes :=
 obind (lenS a0) fun x1 =>
 obind (lenS a1) fun x2 =>
 obind (binN .neq x1 x2) fun x3 =>
 condK x3
 (.ok (.bool false) h)
 (obind (lenS a0) fun x4 =>
 R 1 [a1, a2, a0, x4, (.int .i64 0)] h)
theorem e59_0 {a0 a1 a2 : IV} (e : t59_0 (CL T) (J59 T) a0 a1 a2 h = r) (hr : r ≠ .fail) : J59 T 0 [a0, a1, a2] h = r := fj_step (by kernel_rfl) e hr
noncomputable def t59_1 (cf : CallF) (R : Rec) (a1 a2 a15 a16 a17 : IV) (h : H) : CRes :=
 obind (binN .lss a17 a16) fun x5 =>
 condK x5
 (obind (ixS 48 a15 a17) fun x6 =>
 obind (ldA 48 h x6) fun x7 =>
 obind2 (newI h z7) fun x8 h9 =>
 obindH (stA 48 h9 x8 x7) fun h10 =>
 obind (ixS 48 a1 a17) fun x11 =>
 obind (ldA 48 h10 x11) fun x12 =>
 obind2 (newI h10 z7) fun x13 h14 =>
 obindH (stA 48 h14 x13 x12) fun h15 =>
 obind (ldA 48 h15 x8) fun x16 =>
 obind (ldA 48 h15 x13) fun x17 =>
 funK a2 fun f20 c21 => callP (cf f20 ([x16, x17] ++ c21) h15) .pan fun x18 h19 =>
 obind (unI .not x18) fun x22 =>
 condK x22
 (.ok (.bool false) h19)
 (obind (binN .add a17 (.int .i64 1)) fun x23 =>
 R 1 [a1, a2, a15, a16, x23] h19))
 (.ok (.bool true) h)
theorem e59_1 {a1 a2 a15 a16 a17 : IV} (e : t59_1 (CL T) (J59 T) a1 a2 a15 a16 a17 h = r) (hr : r ≠ .fail) : J59 T 1 [a1, a2, a15, a16, a17] h = r := fj_step (by kernel_rfl) e hr
def js66 : List Jn := [⟨[], [0]⟩]
noncomputable def J66 (T : Tab) : Rec := fj Tryz.prog (CL T) Tryz.f66 js66
noncomputable def t66_0 (cf : CallF) (R : Rec) (a0 : IV) (h : H) : CRes :=
 obind (binN .eql a0 (.int .i64 6)) fun x1 =>
 condK x1
 (.ok (.tup [(.str ⟨1, 63⟩), (.int .i64 0)]) h)
 (obind (binN .eql a0 (.int .i64 27)) fun x2 =>
 condK x2
 (.ok (.tup [(.str ⟨2, 31868⟩), (.int .i64 1)]) h)
 (obind (binN .eql a0 (.int .i64 26)) fun x3 =>
 condK x3
 (.ok (.tup [(.str ⟨2, 9766⟩), (.int .i64 2)]) h)
 (obind (binN .eql a0 (.int .i64 25)) fun x4 =>
 condK x4
 (.ok (.tup [(.str ⟨1, 124⟩), (.int .i64 3)]) h)
 (obind (binN .eql a0 (.int .i64 24)) fun x5 =>
 condK x5
 (.ok (.tup [(.str ⟨1, 94⟩), (.int .i64 4)]) h)
 (obind (binN .eql a0 (.int .i64 23)) fun x6 =>
 condK x6
 (.ok (.tup [(.str ⟨1, 38⟩), (.int .i64 5)]) h)
 (obind (binN .eql a0 (.int .i64 21)) fun x7 =>
 condK x7
 (.ok (.tup [(.str ⟨2, 15677⟩), (.int .i64 6)]) h)
 (obind (binN .eql a0 (.int .i64 22)) fun x8 =>
 condK x8
 (.ok (.tup [(.str ⟨2, 15649⟩), (.int .i64 6)]) h)
 (obind (binN .eql a0 (.int .i64 17)) fun x9 =>
 condK x9
 (.ok (.tup [(.str ⟨1, 60⟩), (.int .i64 7)]) h)
 (obind (binN .eql a0 (.int .i64 18)) fun x10 =>
 condK x10
 (.ok (.tup [(.str ⟨2, 15676⟩), (.int .i64 7)]) h)
 (obind (binN .eql a0 (.int .i64 19)) fun x11 =>
 condK x11
 (.ok (.tup [(.str ⟨1, 62⟩), (.int .i64 7)]) h)
 (obind (binN .eql a0 (.int .i64 20)) fun x12 =>
 condK x12
 (.ok (.tup [(.str ⟨2, 15678⟩), (.int .i64 7)]) h)
 (obind (binN .eql a0 (.int .i64 15)) fun x13 =>
 condK x13
 (.ok (.tup [(.str ⟨2, 15420⟩), (.int .i64 8)]) h)
 (obind (binN .eql a0 (.int .i64 16)) fun x14 =>
 condK x14
 (.ok (.tup [(.str ⟨2, 15934⟩), (.int .i64 8)]) h)
 (obind (binN .eql a0 (.int .i64 13)) fun x15 =>
 condK x15
 (.ok (.tup [(.str ⟨1, 43⟩), (.int .i64 9)]) h)
 (obind (binN .eql a0 (.int .i64 14)) fun x16 =>
 condK x16
 (.ok (.tup [(.str ⟨1, 45⟩), (.int .i64 9)]) h)
 (obind (binN .eql a0 (.int .i64 7)) fun x17 =>
 condK x17
 (.ok (.tup [(.str ⟨1, 126⟩), (.int .i64 10)]) h)
 (obind (binN .eql a0 (.int .i64 8)) fun x18 =>
 condK x18
 (.ok (.tup [(.str ⟨1, 33⟩), (.int .i64 10)]) h)
 (obind (binN .eql a0 (.int .i64 9)) fun x19 =>
 condK x19
 (.ok (.tup [(.str ⟨1, 45⟩), (.int .i64 10)]) h)
 (obind (binN .eql a0 (.int .i64 10)) fun x20 =>
 condK x20
 (.ok (.tup [(.str ⟨1, 38⟩), (.int .i64 10)]) h)
 (obind (binN .eql a0 (.int .i64 11)) fun x21 =>
 condK x21
 (.ok (.tup [(.str ⟨1, 124⟩), (.int .i64 10)]) h)
 (obind (binN .eql a0 (.int .i64 12)) fun x22 =>
 condK x22
 (.ok (.tup [(.str ⟨1, 94⟩), (.int .i64 10)]) h)
 (.ok (.tup [(.str ⟨0, 0⟩), (.int .i64 11)]) h))))))))))))))))))))))
theorem e66_0 {a0 : IV} (e : t66_0 (CL T) (J66 T) a0 h = r) (hr : r ≠ .fail) : J66 T 0 [a0] h = r := fj_step (by kernel_rfl) e hr
def js67 : List Jn := [⟨[], [0, 1, 2]⟩]
noncomputable def J67 (T : Tab) : Rec := fj Tryz.prog (CL T) Tryz.f67 js67
noncomputable def t67_0 (cf : CallF) (R : Rec) (a0 a1 a2 : IV) (h : H) : CRes :=
 obind2 (newI h (IV.cells a1)) fun x1 h2 =>
 obind (fadK 0 x1) fun x3 =>
 obind (ld0 h2 x3) fun x4 =>
 callP (cf 66 [x4] h2) .pan fun x5 h6 =>
 obind (extractI x5 0) fun x7 =>
 obind (extractI x5 1) fun x8 =>
 obind (binN .geq x8 a2) fun x9 =>
 condK x9
 (obind (ldA 6 h6 x1) fun x10 =>
 callP (cf 28 [a0, x10] h6) .pan fun x11 h12 =>
 .ok (.tup []) h12)
 (obind2 (bslK false 1 [(.str ⟨0, 0⟩)] 1 [(0, (.str ⟨1, 40⟩))] h6) fun x13 h14 =>
 callP (cf 43 [a0, x13] h14) .pan fun x15 h16 =>
 obind (ldA 6 h16 x1) fun x17 =>
 callP (cf 28 [a0, x17] h16) .pan fun x18 h19 =>
 obind2 (bslK false 1 [(.str ⟨0, 0⟩)] 1 [(0, (.str ⟨1, 41⟩))] h19) fun x20 h21 =>
 callP (cf 43 [a0, x20] h21) .pan fun x22 h23 =>
 .ok (.tup []) h23)
theorem e67_0 {a0 a1 a2 : IV} (e : t67_0 (CL T) (J67 T) a0 a1 a2 h = r) (hr : r ≠ .fail) : J67 T 0 [a0, a1, a2] h = r := fj_step (by kernel_rfl) e hr
def js70 : List Jn := [⟨[], [0, 1, 2]⟩, ⟨[0, 1, 0, 1, 1], [1, 2, 15, 16, 17]⟩]
noncomputable def J70 (T : Tab) : Rec := fj Tryz.prog (CL T) Tryz.f70 js70
noncomputable def t70_0 (cf : CallF) (R : Rec) (a0 a1 a2 : IV) (h : H) : CRes :=
 obind (lenS a0) fun x1 =>
 obind (lenS a1) fun x2 =>
 obind (binN .neq x1 x2) fun x3 =>
 condK x3
 (.ok (.bool false) h)
 (obind (lenS a0) fun x4 =>
 R 1 [a1, a2, a0, x4, (.int .i64 0)] h)
theorem e70_0 {a0 a1 a2 : IV} (e : t70_0 (CL T) (J70 T) a0 a1 a2 h = r) (hr : r ≠ .fail) : J70 T 0 [a0, a1, a2] h = r := fj_step (by kernel_rfl) e hr
noncomputable def t70_1 (cf : CallF) (R : Rec) (a1 a2 a15 a16 a17 : IV) (h : H) : CRes :=
 obind (binN .lss a17 a16) fun x5 =>
 condK x5
 (obind (ixS 6 a15 a17) fun x6 =>
 obind (ldA 6 h x6) fun x7 =>
 obind2 (newI h z0) fun x8 h9 =>
 obindH (stA 6 h9 x8 x7) fun h10 =>
 obind (ixS 6 a1 a17) fun x11 =>
 obind (ldA 6 h10 x11) fun x12 =>
 obind2 (newI h10 z0) fun x13 h14 =>
 obindH (stA 6 h14 x13 x12) fun h15 =>
 obind (ldA 6 h15 x8) fun x16 =>
 obind (ldA 6 h15 x13) fun x17 =>
 funK a2 fun f20 c21 => callP (cf f20 ([x16, x17] ++ c21) h15) .pan fun x18 h19 =>
 obind (unI .not x18) fun x22 =>
 condK x22
 (.ok (.bool false) h19)
 (obind (binN .add a17 (.int .i64 1)) fun x23 =>
 R 1 [a1, a2, a15, a16, x23] h19))
 (.ok (.bool true) h)
theorem e70_1 {a1 a2 a15 a16 a17 : IV} (e : t70_1 (CL T) (J70 T) a1 a2 a15 a16 a17 h = r) (hr : r ≠ .fail) : J70 T 1 [a1, a2, a15, a16, a17] h = r := fj_step (by kernel_rfl) e hr
def js75 : List Jn := [⟨[], [0]⟩]
noncomputable def J75 (T : Tab) : Rec := fj Tryz.prog (CL T) Tryz.f75 js75
noncomputable def t75_0 (cf : CallF) (R : Rec) (a0 : IV) (h : H) : CRes :=
 obind (binN .geq a0 (.int .u8 97)) fun x1 =>
 spanK x1 true h (fun k2 =>
 obind (binN .leq a0 (.int .u8 122)) fun x5 =>
 k2 x5 h) fun x3 h4 =>
 obind (pickI x1 (some x3) (some (.bool false))) fun x6 =>
 spanK x6 false h4 (fun k7 =>
 obind (binN .geq a0 (.int .u8 65)) fun x10 =>
 k7 x10 h4) fun x8 h9 =>
 spanK x8 true h9 (fun k11 =>
 obind (binN .leq a0 (.int .u8 90)) fun x14 =>
 k11 x14 h9) fun x12 h13 =>
 spanK x6 false h13 (fun k15 =>
 obind (pickI x8 (some x12) (some (.bool false))) fun x18 =>
 k15 x18 h13) fun x16 h17 =>
 obind (pickI x6 (some (.bool true)) (some x16)) fun x19 =>
 spanK x19 false h17 (fun k20 =>
 obind (binN .eql a0 (.int .u8 95)) fun x23 =>
 k20 x23 h17) fun x21 h22 =>
 obind (pickI x19 (some (.bool true)) (some x21)) fun x24 =>
 .ok x24 h22
theorem e75_0 {a0 : IV} (e : t75_0 (CL T) (J75 T) a0 h = r) (hr : r ≠ .fail) : J75 T 0 [a0] h = r := fj_step (by kernel_rfl) e hr
def js76 : List Jn := [⟨[], [0]⟩]
noncomputable def J76 (T : Tab) : Rec := fj Tryz.prog (CL T) Tryz.f76 js76
noncomputable def t76_0 (cf : CallF) (R : Rec) (a0 : IV) (h : H) : CRes :=
 callP (cf 75 [a0] h) .pan fun x1 h2 =>
 spanK x1 false h2 (fun k3 =>
 callP (cf 77 [a0] h2) .pan fun x6 h7 =>
 k3 x6 h7) fun x4 h5 =>
 obind (pickI x1 (some (.bool true)) (some x4)) fun x8 =>
 .ok x8 h5
theorem e76_0 {a0 : IV} (e : t76_0 (CL T) (J76 T) a0 h = r) (hr : r ≠ .fail) : J76 T 0 [a0] h = r := fj_step (by kernel_rfl) e hr
def js77 : List Jn := [⟨[], [0]⟩]
noncomputable def J77 (T : Tab) : Rec := fj Tryz.prog (CL T) Tryz.f77 js77
noncomputable def t77_0 (cf : CallF) (R : Rec) (a0 : IV) (h : H) : CRes :=
 obind (binN .geq a0 (.int .u8 48)) fun x1 =>
 spanK x1 true h (fun k2 =>
 obind (binN .leq a0 (.int .u8 57)) fun x5 =>
 k2 x5 h) fun x3 h4 =>
 obind (pickI x1 (some x3) (some (.bool false))) fun x6 =>
 .ok x6 h4
theorem e77_0 {a0 : IV} (e : t77_0 (CL T) (J77 T) a0 h = r) (hr : r ≠ .fail) : J77 T 0 [a0] h = r := fj_step (by kernel_rfl) e hr
def js79 : List Jn := [⟨[], [0, 1]⟩, ⟨[0, 1, 0, 1, 1], [0, 1, 5, 6]⟩, ⟨[0, 1, 0, 1, 1, 1, 1], [0, 1, 7, 8]⟩]
noncomputable def J79 (T : Tab) : Rec := fj Tryz.prog (CL T) Tryz.f79 js79
noncomputable def t79_0 (cf : CallF) (R : Rec) (a0 a1 : IV) (h : H) : CRes :=
 obind2 (bslK false 1 [(.str ⟨0, 0⟩)] 8 [(0, (.str ⟨2, 9766⟩)), (1, (.str ⟨2, 31868⟩)), (2, (.str ⟨2, 15677⟩)), (3, (.str ⟨2, 15649⟩)), (4, (.str ⟨2, 15676⟩)), (5, (.str ⟨2, 15678⟩)), (6, (.str ⟨2, 15420⟩)), (7, (.str ⟨2, 15934⟩))] h) fun x1 h2 =>
 R 1 [a0, a1, x1, (.int .i64 0)] h2
theorem e79_0 {a0 a1 : IV} (e : t79_0 (CL T) (J79 T) a0 a1 h = r) (hr : r ≠ .fail) : J79 T 0 [a0, a1] h = r := fj_step (by kernel_rfl) e hr
noncomputable def t79_1 (cf : CallF) (R : Rec) (a0 a1 a5 a6 : IV) (h : H) : CRes :=
 obind (lenS a5) fun x3 =>
 obind (binN .lss a6 x3) fun x4 =>
 condK x4
 (obind (ixS 1 a5 a6) fun x5 =>
 obind (ld0 h x5) fun x6 =>
 callP (cf 35 [a0, a1, x6] h) .pan fun x7 h8 =>
 condK x7
 (obind (ixS 1 a5 a6) fun x9 =>
 obind (ld0 h8 x9) fun x10 =>
 .ok x10 h8)
 (obind (binN .add a6 (.int .i64 1)) fun x11 =>
 R 1 [a0, a1, a5, x11] h8))
 (R 2 [a0, a1, (.str ⟨24, 1035797962038895658522808901809198590842054073607314417960⟩), (.int .i64 0)] h)
theorem e79_1 {a0 a1 a5 a6 : IV} (e : t79_1 (CL T) (J79 T) a0 a1 a5 a6 h = r) (hr : r ≠ .fail) : J79 T 1 [a0, a1, a5, a6] h = r := fj_step (by kernel_rfl) e hr
noncomputable def t79_2 (cf : CallF) (R : Rec) (a0 a1 a7 a8 : IV) (h : H) : CRes :=
 obind (lenStr a7) fun x12 =>
 obind (binN .lss a8 x12) fun x13 =>
 condK x13
 (obind (ixStr a0 a1) fun x14 =>
 obind (ixStr a7 a8) fun x15 =>
 obind (binN .eql x14 x15) fun x16 =>
 condK x16
 (obind (binN .add a8 (.int .i64 1)) fun x17 =>
 obind (slcStr a7 (some a8) (some x17)) fun x18 =>
 .ok x18 h)
 (obind (binN .add a8 (.int .i64 1)) fun x19 =>
 R 2 [a0, a1, a7, x19] h))
 (.ok (.str ⟨0, 0⟩) h)
theorem e79_2 {a0 a1 a7 a8 : IV} (e : t79_2 (CL T) (J79 T) a0 a1 a7 a8 h = r) (hr : r ≠ .fail) : J79 T 2 [a0, a1, a7, a8] h = r := fj_step (by kernel_rfl) e hr
def js80 : List Jn := [⟨[], [0]⟩]
noncomputable def J80 (T : Tab) : Rec := fj Tryz.prog (CL T) Tryz.f80 js80
noncomputable def t80_0 (cf : CallF) (R : Rec) (a0 : IV) (h : H) : CRes :=
 obind (nilI a0) fun x1 =>
 obind (fadK 0 x1) fun x2 =>
 obind (ld0 h x2) fun x3 =>
 obind (nilI a0) fun x4 =>
 obind (fadK 1 x4) fun x5 =>
 obind (ld0 h x5) fun x6 =>
 obind (ixS 3 x3 x6) fun x7 =>
 obind (fadK 2 x7) fun x8 =>
 obind (ld0 h x8) fun x9 =>
 .ok x9 h
theorem e80_0 {a0 : IV} (e : t80_0 (CL T) (J80 T) a0 h = r) (hr : r ≠ .fail) : J80 T 0 [a0] h = r := fj_step (by kernel_rfl) e hr
def js81 : List Jn := [⟨[], [0, 1]⟩]
noncomputable def J81 (T : Tab) : Rec := fj Tryz.prog (CL T) Tryz.f81 js81
noncomputable def t81_0 (cf : CallF) (R : Rec) (a0 a1 : IV) (h : H) : CRes :=
 callP (cf 83 [a0, a1] h) .pan fun x1 h2 =>
 obind (unI .not x1) fun x3 =>
 condK x3
 (callP (cf 114 [a0, (.int .i64 40)] h2) .pan fun x4 h5 =>
 .ok (.tup []) h5)
 (.ok (.tup []) h2)
theorem e81_0 {a0 a1 : IV} (e : t81_0 (CL T) (J81 T) a0 a1 h = r) (hr : r ≠ .fail) : J81 T 0 [a0, a1] h = r := fj_step (by kernel_rfl) e hr
def js82 : List Jn := [⟨[], [0]⟩]
noncomputable def J82 (T : Tab) : Rec := fj Tryz.prog (CL T) Tryz.f82 js82
noncomputable def t82_0 (cf : CallF) (R : Rec) (a0 : IV) (h : H) : CRes :=
 callP (cf 115 [a0] h) .pan fun x1 h2 =>
 obind (unI .not x1) fun x3 =>
 condK x3
 (callP (cf 114 [a0, (.int .i64 40)] h2) .pan fun x4 h5 =>
 .ok (.str ⟨0, 0⟩) h5)
 (obind (nilI a0) fun x6 =>
 obind (fadK 1 x6) fun x7 =>
 obind (ld0 h2 x7) fun x8 =>
 obind (binN .add x8 (.int .i64 1)) fun x9 =>
 obind (nilI a0) fun x10 =>
 obind (fadK 1 x10) fun x11 =>
 obindH (stA 1 h2 x11 x9) fun h12 =>
 obind (nilI a0) fun x13 =>
 obind (fadK 0 x13) fun x14 =>
 obind (ld0 h12 x14) fun x15 =>
 obind (nilI a0) fun x16 =>
 obind (fadK 1 x16) fun x17 =>
 obind (ld0 h12 x17) fun x18 =>
 obind (binN .sub x18 (.int .i64 1)) fun x19 =>
 obind (ixS 3 x15 x19) fun x20 =>
 obind (fadK 1 x20) fun x21 =>
 obind (ld0 h12 x21) fun x22 =>
 .ok x22 h12)
theorem e82_0 {a0 : IV} (e : t82_0 (CL T) (J82 T) a0 h = r) (hr : r ≠ .fail) : J82 T 0 [a0] h = r := fj_step (by kernel_rfl) e hr
def js83 : List Jn := [⟨[], [0, 1]⟩]
noncomputable def J83 (T : Tab) : Rec := fj Tryz.prog (CL T) Tryz.f83 js83
noncomputable def t83_0 (cf : CallF) (R : Rec) (a0 a1 : IV) (h : H) : CRes :=
 callP (cf 116 [a0, a1] h) .pan fun x1 h2 =>
 obind (unI .not x1) fun x3 =>
 condK x3
 (.ok (.bool false) h2)
 (obind (nilI a0) fun x4 =>
 obind (fadK 1 x4) fun x5 =>
 obind (ld0 h2 x5) fun x6 =>
 obind (binN .add x6 (.int .i64 1)) fun x7 =>
 obind (nilI a0) fun x8 =>
 obind (fadK 1 x8) fun x9 =>
 obindH (stA 1 h2 x9 x7) fun h10 =>
 .ok (.bool true) h10)
theorem e83_0 {a0 a1 : IV} (e : t83_0 (CL T) (J83 T) a0 a1 h = r) (hr : r ≠ .fail) : J83 T 0 [a0, a1] h = r := fj_step (by kernel_rfl) e hr
def js85 : List Jn := [⟨[], [0]⟩, ⟨[1, 1, 1], [0, 2, 3]⟩]
noncomputable def J85 (T : Tab) : Rec := fj Tryz.prog (CL T) Tryz.f85 js85
noncomputable def t85_0 (cf : CallF) (R : Rec) (a0 : IV) (h : H) : CRes :=
 obind2 (newI h z9) fun x1 h2 =>
 callP (cf 80 [a0] h2) .pan fun x3 h4 =>
 obind (bldK z9 p11 [(6, x3)]) fun x5 =>
 obind2 (newI h4 z9) fun x6 h7 =>
 obindH (stA 17 h7 x6 x5) fun h8 =>
 callP (cf 83 [a0, (.str ⟨6, 128047746676079⟩)] h8) .pan fun x9 h10 =>
 condK x9
 (obind (fadK 0 x6) fun x11 =>
 obindH (stA 1 h10 x11 (.bool true)) fun h12 =>
 callP (cf 83 [a0, (.str ⟨3, 6776178⟩)] h12) .pan fun x13 h14 =>
 obind (fadK 1 x6) fun x15 =>
 obindH (stA 1 h14 x15 x13) fun h16 =>
 R 1 [a0, x1, x6] h16)
 (callP (cf 81 [a0, (.str ⟨5, 500186508905⟩)] h10) .pan fun x17 h18 =>
 R 1 [a0, x1, x6] h18)
theorem e85_0 {a0 : IV} (e : t85_0 (CL T) (J85 T) a0 h = r) (hr : r ≠ .fail) : J85 T 0 [a0] h = r := fj_step (by kernel_rfl) e hr
noncomputable def t85_1 (cf : CallF) (R : Rec) (a0 a2 a3 : IV) (h : H) : CRes :=
 callP (cf 118 [a0] h) .pan fun x19 h20 =>
 obind (extractI x19 0) fun x21 =>
 obind (extractI x19 1) fun x22 =>
 obind (extractI x19 2) fun x23 =>
 obind (fadK 2 a3) fun x24 =>
 obindH (stA 1 h20 x24 x21) fun h25 =>
 obind (fadK 3 a3) fun x26 =>
 obindH (stA 6 h25 x26 x22) fun h27 =>
 obind (fadK 9 a3) fun x28 =>
 obindH (stA 6 h27 x28 x23) fun h29 =>
 callP (cf 82 [a0] h29) .pan fun x30 h31 =>
 obind (fadK 15 a3) fun x32 =>
 obindH (stA 1 h31 x32 x30) fun h33 =>
 obind (ldA 17 h33 a3) fun x34 =>
 obindH (stA 17 h33 a2 x34) fun h35 =>
 obind (ldA 17 h35 a2) fun x36 =>
 .ok x36 h35
theorem e85_1 {a0 a2 a3 : IV} (e : t85_1 (CL T) (J85 T) a0 a2 a3 h = r) (hr : r ≠ .fail) : J85 T 1 [a0, a2, a3] h = r := fj_step (by kernel_rfl) e hr
def js86 : List Jn := [⟨[], [0, 1, 2]⟩, ⟨[0, 0, 1, 1], [0, 1, 2, 7]⟩]
noncomputable def J86 (T : Tab) : Rec := fj Tryz.prog (CL T) Tryz.f86 js86
noncomputable def t86_0 (cf : CallF) (R : Rec) (a0 a1 a2 : IV) (h : H) : CRes :=
 R 1 [a0, a1, a2, .nilSlice] h
theorem e86_0 {a0 a1 a2 : IV} (e : t86_0 (CL T) (J86 T) a0 a1 a2 h = r) (hr : r ≠ .fail) : J86 T 0 [a0, a1, a2] h = r := fj_step (by kernel_rfl) e hr
noncomputable def t86_1 (cf : CallF) (R : Rec) (a0 a1 a2 a7 : IV) (h : H) : CRes :=
 callP (cf 39 [a0] h) .pan fun x1 h2 =>
 spanK x1 true h2 (fun k3 =>
 callP (cf 83 [a0, a1] h2) .pan fun x6 h7 =>
 obind (unI .not x6) fun x8 =>
 k3 x8 h7) fun x4 h5 =>
 obind (pickI x1 (some x4) (some (.bool false))) fun x9 =>
 condK x9
 (callP (cf 119 [a0, a2] h5) .pan fun x10 h11 =>
 obind2 (bslK false 48 z7 1 [(0, x10)] h11) fun x12 h13 =>
 obind2 (appK 48 680 h13 a7 x12) fun x14 h15 =>
 R 1 [a0, a1, a2, x14] h15)
 (.ok a7 h5)
theorem e86_1 {a0 a1 a2 a7 : IV} (e : t86_1 (CL T) (J86 T) a0 a1 a2 a7 h = r) (hr : r ≠ .fail) : J86 T 1 [a0, a1, a2, a7] h = r := fj_step (by kernel_rfl) e hr
def js87 : List Jn := [⟨[], [0, 1]⟩]
noncomputable def J87 (T : Tab) : Rec := fj Tryz.prog (CL T) Tryz.f87 js87
noncomputable def t87_0 (cf : CallF) (R : Rec) (a0 a1 : IV) (h : H) : CRes :=
 callP (cf 120 [a0] h) .pan fun x1 h2 =>
 obind (nilI a0) fun x3 =>
 obind (fadK 1 x3) fun x4 =>
 obind (ld0 h2 x4) fun x5 =>
 obind2 (appB 5 1 1 h2 x5 a1) fun x6 h7 =>
 obind (nilI a0) fun x8 =>
 obind (fadK 1 x8) fun x9 =>
 obindH (stA 1 h7 x9 x6) fun h10 =>
 obind (lenStr a1) fun x11 =>
 .ok (.tup [x11, .nilIface]) h10
theorem e87_0 {a0 a1 : IV} (e : t87_0 (CL T) (J87 T) a0 a1 h = r) (hr : r ≠ .fail) : J87 T 0 [a0, a1] h = r := fj_step (by kernel_rfl) e hr
def js88 : List Jn := [⟨[], [0, 1, 2, 3]⟩]
noncomputable def J88 (T : Tab) : Rec := fj Tryz.prog (CL T) Tryz.f88 js88
noncomputable def t88_0 (cf : CallF) (R : Rec) (a0 a1 a2 a3 : IV) (h : H) : CRes :=
 obind2 (newI h (IV.cells a2)) fun x1 h2 =>
 obind2 (newI h2 (IV.cells a3)) fun x3 h4 =>
 condK a1
 (obind2 (bslK false 1 [(.str ⟨0, 0⟩)] 1 [(0, (.str ⟨1, 91⟩))] h4) fun x5 h6 =>
 callP (cf 43 [a0, x5] h6) .pan fun x7 h8 =>
 obind (ldA 6 h8 x1) fun x9 =>
 callP (cf 28 [a0, x9] h8) .pan fun x10 h11 =>
 obind2 (bslK false 1 [(.str ⟨0, 0⟩)] 1 [(0, (.str ⟨1, 58⟩))] h11) fun x12 h13 =>
 callP (cf 43 [a0, x12] h13) .pan fun x14 h15 =>
 obind (ldA 6 h15 x3) fun x16 =>
 callP (cf 28 [a0, x16] h15) .pan fun x17 h18 =>
 obind2 (bslK false 1 [(.str ⟨0, 0⟩)] 1 [(0, (.str ⟨1, 93⟩))] h18) fun x19 h20 =>
 callP (cf 43 [a0, x19] h20) .pan fun x21 h22 =>
 .ok (.tup []) h22)
 (.ok (.tup []) h4)
theorem e88_0 {a0 a1 a2 a3 : IV} (e : t88_0 (CL T) (J88 T) a0 a1 a2 a3 h = r) (hr : r ≠ .fail) : J88 T 0 [a0, a1, a2, a3] h = r := fj_step (by kernel_rfl) e hr
def js94 : List Jn := [⟨[], [0, 1]⟩]
noncomputable def J94 (T : Tab) : Rec := fj Tryz.prog (CL T) Tryz.f94 js94
noncomputable def t94_0 (cf : CallF) (R : Rec) (a0 a1 : IV) (h : H) : CRes :=
 obind (slcStr a0 (some a1) none) fun x1 =>
 callP (cf 123 [x1, (.str ⟨2, 12079⟩)] h) .pan fun x2 h3 =>
 condK x2
 (callP (cf 124 [x1, (.int .u8 10)] h3) .pan fun x4 h5 =>
 obind (binN .geq x4 (.int .i64 0)) fun x6 =>
 condK x6
 (obind (binN .add a1 x4) fun x7 =>
 .ok (.tup [x7, (.bool true)]) h5)
 (obind (lenStr a0) fun x8 =>
 .ok (.tup [x8, (.bool true)]) h5))
 (callP (cf 123 [x1, (.str ⟨2, 10799⟩)] h3) .pan fun x9 h10 =>
 condK x9
 (obind (slcStr x1 (some (.int .i64 2)) none) fun x11 =>
 callP (cf 125 [x11, (.str ⟨2, 12074⟩)] h10) .pan fun x12 h13 =>
 obind (binN .geq x12 (.int .i64 0)) fun x14 =>
 condK x14
 (obind (binN .add a1 x12) fun x15 =>
 obind (binN .add x15 (.int .i64 4)) fun x16 =>
 .ok (.tup [x16, (.bool true)]) h13)
 (.ok (.tup [(.int .i64 (-1)), (.bool true)]) h13))
 (.ok (.tup [(.int .i64 0), (.bool false)]) h10))
theorem e94_0 {a0 a1 : IV} (e : t94_0 (CL T) (J94 T) a0 a1 h = r) (hr : r ≠ .fail) : J94 T 0 [a0, a1] h = r := fj_step (by kernel_rfl) e hr
def js95 : List Jn := [⟨[], [0]⟩, ⟨[1, 1], []⟩, ⟨[1, 0, 0, 0, 0, 0, 0, 0, 0, 1], []⟩, ⟨[1, 0, 0, 0, 0, 0, 0, 0, 0, 0, 0, 0, 0, 0, 0, 0, 1], [0, 3]⟩, ⟨[1, 0, 1, 1, 0, 0, 0, 0, 0, 0, 0, 0, 0, 0, 0, 0, 0, 0, 1], [0, 19]⟩]
noncomputable def J95 (T : Tab) : Rec := fj Tryz.prog (CL T) Tryz.f95 js95
noncomputable def t95_0 (cf : CallF) (R : Rec) (a0 : IV) (h : H) : CRes :=
 obind (binN .eql a0 (.int .u8 32)) fun x1 =>
 condK x1
 (R 3 [a0, x1] h)
 (obind (binN .eql a0 (.int .u8 9)) fun x2 =>
 condK x2
 (R 3 [a0, x2] h)
 (obind (binN .eql a0 (.int .u8 10)) fun x3 =>
 condK x3
 (R 3 [a0, x3] h)
 (obind (binN .eql a0 (.int .u8 13)) fun x4 =>
 R 3 [a0, x4] h)))
theorem e95_0 {a0 : IV} (e : t95_0 (CL T) (J95 T) a0 h = r) (hr : r ≠ .fail) : J95 T 0 [a0] h = r := fj_step (by kernel_rfl) e hr
noncomputable def t95_3 (cf : CallF) (R : Rec) (a0 a3 : IV) (h : H) : CRes :=
 condK a3
 (.ok (.int .i64 1) h)
 (obind (binN .geq a0 (.int .u8 65)) fun x5 =>
 spanK x5 true h (fun k6 =>
 obind (binN .leq a0 (.int .u8 90)) fun x9 =>
 k6 x9 h) fun x7 h8 =>
 obind (pickI x5 (some x7) (some (.bool false))) fun x10 =>
 condK x10
 (R 2 [] h8)
 (obind (binN .geq a0 (.int .u8 97)) fun x11 =>
 spanK x11 true h8 (fun k12 =>
 obind (binN .leq a0 (.int .u8 122)) fun x15 =>
 k12 x15 h8) fun x13 h14 =>
 obind (pickI x11 (some x13) (some (.bool false))) fun x16 =>
 condK x16
 (R 4 [a0, x16] h14)
 (obind (binN .eql a0 (.int .u8 95)) fun x17 =>
 R 4 [a0, x17] h14)))
theorem e95_3 {a0 a3 : IV} (e : t95_3 (CL T) (J95 T) a0 a3 h = r) (hr : r ≠ .fail) : J95 T 3 [a0, a3] h = r := fj_step (by kernel_rfl) e hr
noncomputable def t95_2 (cf : CallF) (R : Rec) (h : H) : CRes :=
 .ok (.int .i64 2) h
theorem e95_2 (e : t95_2 (CL T) (J95 T) h = r) (hr : r ≠ .fail) : J95 T 2 [] h = r := fj_step (by kernel_rfl) e hr
noncomputable def t95_4 (cf : CallF) (R : Rec) (a0 a19 : IV) (h : H) : CRes :=
 condK a19
 (R 2 [] h)
 (obind (binN .geq a0 (.int .u8 48)) fun x18 =>
 spanK x18 true h (fun k19 =>
 obind (binN .leq a0 (.int .u8 57)) fun x22 =>
 k19 x22 h) fun x20 h21 =>
 obind (pickI x18 (some x20) (some (.bool false))) fun x23 =>
 condK x23
 (.ok (.int .i64 3) h21)
 (obind (binN .eql a0 (.int .u8 96)) fun x24 =>
 condK x24
 (.ok (.int .i64 4) h21)
 (callP (cf 124 [(.str ⟨24, 1035797962038895658522808901809198590842054073607314417960⟩), a0] h21) .pan fun x25 h26 =>
 obind (binN .geq x25 (.int .i64 0)) fun x27 =>
 condK x27
 (.ok (.int .i64 5) h26)
 (R 1 [] h26))))
theorem e95_4 {a0 a19 : IV} (e : t95_4 (CL T) (J95 T) a0 a19 h = r) (hr : r ≠ .fail) : J95 T 4 [a0, a19] h = r := fj_step (by kernel_rfl) e hr
noncomputable def t95_1 (cf : CallF) (R : Rec) (h : H) : CRes :=
 .ok (.int .i64 0) h
theorem e95_1 (e : t95_1 (CL T) (J95 T) h = r) (hr : r ≠ .fail) : J95 T 1 [] h = r := fj_step (by kernel_rfl) e hr
def js96 : List Jn := [⟨[], [0, 1]⟩, ⟨[1, 1, 1], [4]⟩, ⟨[1, 1, 0, 1, 1, 1, 1, 1, 1, 1, 0, 1, 0, 1, 1], [2, 3, 4, 12]⟩]
noncomputable def J96 (T : Tab) : Rec := fj Tryz.prog (CL T) Tryz.f96 js96
noncomputable def t96_0 (cf : CallF) (R : Rec) (a0 a1 : IV) (h : H) : CRes :=
 obind2 (newI h (IV.cells a0)) fun x1 h2 =>
 obind2 (newI h2 (IV.cells a1)) fun x3 h4 =>
 obind2 (newI h4 z2) fun x5 h6 =>
 obind (ld0 h6 x1) fun x7 =>
 obind (ld0 h6 x3) fun x8 =>
 obind (ixStr x7 x8) fun x9 =>
 callP (cf 95 [x9] h6) .pan fun x10 h11 =>
 obind (binN .eql x10 (.int .i64 2)) fun x12 =>
 condK x12
 (obind (ld0 h11 x3) fun x13 =>
 funK (.func 126 [x1, x3]) fun f16 c17 => callP (cf f16 ([(.int .i64 1), x13] ++ c17) h11) .pan fun x14 h15 =>
 obind (extractI x14 0) fun x18 =>
 obind (extractI x14 1) fun x19 =>
 obind (extractI x14 2) fun x20 =>
 obindH (stA 3 h15 x5 x18) fun h21 =>
 obind (ldA 3 h21 x5) fun x22 =>
 .ok (.tup [x22, x19, x20]) h21)
 (obind (binN .eql x10 (.int .i64 4)) fun x23 =>
 condK x23
 (obind (ld0 h11 x3) fun x24 =>
 obind (binN .add x24 (.int .i64 1)) fun x25 =>
 obind (ld0 h11 x1) fun x26 =>
 obind (lenStr x26) fun x27 =>
 obind (binN .lss x25 x27) fun x28 =>
 spanK x28 true h11 (fun k29 =>
 obind (ld0 h11 x1) fun x32 =>
 obind (ld0 h11 x3) fun x33 =>
 obind (binN .add x33 (.int .i64 1)) fun x34 =>
 obind (ixStr x32 x34) fun x35 =>
 callP (cf 95 [x35] h11) .pan fun x36 h37 =>
 obind (binN .eql x36 (.int .i64 2)) fun x38 =>
 k29 x38 h37) fun x30 h31 =>
 obind (pickI x28 (some x30) (some (.bool false))) fun x39 =>
 condK x39
 (obind (ld0 h31 x3) fun x40 =>
 obind (binN .add x40 (.int .i64 1)) fun x41 =>
 funK (.func 126 [x1, x3]) fun f44 c45 => callP (cf f44 ([(.int .i64 4), x41] ++ c45) h31) .pan fun x42 h43 =>
 obind (extractI x42 0) fun x46 =>
 obind (extractI x42 1) fun x47 =>
 obind (extractI x42 2) fun x48 =>
 obindH (stA 3 h43 x5 x46) fun h49 =>
 obind (ldA 3 h49 x5) fun x50 =>
 .ok (.tup [x50, x47, x48]) h49)
 (R 1 [x5] h31))
 (obind (binN .eql x10 (.int .i64 3)) fun x51 =>
 condK x51
 (obind (ld0 h11 x1) fun x52 =>
 obind (ld0 h11 x3) fun x53 =>
 obind2 (bslK true 1 [(.int .i64 0)] 3 [(0, (.int .i64 2)), (1, (.int .i64 3)), (2, (.int .i64 3))] h11) fun x54 h55 =>
 callP (cf 127 [x52, x53, x54] h55) .pan fun x56 h57 =>
 obind (ld0 h57 x1) fun x58 =>
 obind (ld0 h57 x3) fun x59 =>
 obind (slcStr x58 (some x59) (some x56)) fun x60 =>
 callP (cf 128 [x60] h57) .pan fun x61 h62 =>
 obind (extractI x61 0) fun x63 =>
 obind (extractI x61 1) fun x64 =>
 obind (extractI x61 2) fun x65 =>
 obind (ld0 h62 x1) fun x66 =>
 obind (ld0 h62 x3) fun x67 =>
 obind (slcStr x66 (some x67) (some x56)) fun x68 =>
 obind (ld0 h62 x3) fun x69 =>
 obind (bldK z2 p3 [(0, (.int .i64 2)), (1, x68), (2, x69)]) fun x70 =>
 obindH (stA 3 h62 x5 x70) fun h71 =>
 obind (ldA 3 h71 x5) fun x72 =>
 .ok (.tup [x72, x56, x65]) h71)
 (obind (binN .eql x10 (.int .i64 5)) fun x73 =>
 condK x73
 (obind (ld0 h11 x3) fun x74 =>
 obind (binN .add x74 (.int .i64 1)) fun x75 =>
 obind (ld0 h11 x1) fun x76 =>
 obind (lenStr x76) fun x77 =>
 obind (binN .lss x75 x77) fun x78 =>
 spanK x78 true h11 (fun k79 =>
 obind (ld0 h11 x1) fun x82 =>
 obind (ld0 h11 x3) fun x83 =>
 obind (ld0 h11 x3) fun x84 =>
 obind (binN .add x84 (.int .i64 2)) fun x85 =>
 obind (slcStr x82 (some x83) (some x85)) fun x86 =>
 obind (binS .add (.str ⟨1, 32⟩) x86) fun x87 =>
 obind (binS .add x87 (.str ⟨1, 32⟩)) fun x88 =>
 callP (cf 129 [(.str ⟨25, 202393441589788371169259346588455910987090342398092682602016⟩), x88] h11) .pan fun x89 h90 =>
 k79 x89 h90) fun x80 h81 =>
 obind (pickI x78 (some x80) (some (.bool false))) fun x91 =>
 condK x91
 (R 2 [x1, x3, x5, (.int .i64 2)] h81)
 (R 2 [x1, x3, x5, (.int .i64 1)] h81))
 (R 1 [x5] h11))))
theorem e96_0 {a0 a1 : IV} (e : t96_0 (CL T) (J96 T) a0 a1 h = r) (hr : r ≠ .fail) : J96 T 0 [a0, a1] h = r := fj_step (by kernel_rfl) e hr
noncomputable def t96_1 (cf : CallF) (R : Rec) (a4 : IV) (h : H) : CRes :=
 obind (bldK z2 p3 []) fun x92 =>
 obindH (stA 3 h a4 x92) fun h93 =>
 obind (ldA 3 h93 a4) fun x94 =>
 .ok (.tup [x94, (.int .i64 0), (.int .i64 20)]) h93
theorem e96_1 {a4 : IV} (e : t96_1 (CL T) (J96 T) a4 h = r) (hr : r ≠ .fail) : J96 T 1 [a4] h = r := fj_step (by kernel_rfl) e hr
noncomputable def t96_2 (cf : CallF) (R : Rec) (a2 a3 a4 a12 : IV) (h : H) : CRes :=
 obind (ld0 h a2) fun x95 =>
 obind (ld0 h a3) fun x96 =>
 obind (ld0 h a3) fun x97 =>
 obind (binN .add x97 a12) fun x98 =>
 obind (slcStr x95 (some x96) (some x98)) fun x99 =>
 obind (ld0 h a3) fun x100 =>
 obind (bldK z2 p3 [(0, (.int .i64 3)), (1, x99), (2, x100)]) fun x101 =>
 obind (ld0 h a3) fun x102 =>
 obind (binN .add x102 a12) fun x103 =>
 obindH (stA 3 h a4 x101) fun h104 =>
 obind (binN .add x102 a12) fun x105 =>
 bif IV.beq x105 x103 then
 obind (ld0 h104 a3) fun x106 =>
 bif IV.beq x106 x102 then
 obind (ldA 3 h104 a4) fun x107 =>
 .ok (.tup [x107, x103, (.int .i64 0)]) h104
 else .fail
 else .fail
theorem e96_2 {a2 a3 a4 a12 : IV} (e : t96_2 (CL T) (J96 T) a2 a3 a4 a12 h = r) (hr : r ≠ .fail) : J96 T 2 [a2, a3, a4, a12] h = r := fj_step (by kernel_rfl) e hr
def js97 : List Jn := [⟨[], [0, 1]⟩, ⟨[0, 1, 0, 1], [0, 1, 7, 8]⟩]
noncomputable def J97 (T : Tab) : Rec := fj Tryz.prog (CL T) Tryz.f97 js97
noncomputable def t97_0 (cf : CallF) (R : Rec) (a0 a1 : IV) (h : H) : CRes :=
 obind (lenS a0) fun x1 =>
 R 1 [a0, a1, x1, (.int .i64 0)] h
theorem e97_0 {a0 a1 : IV} (e : t97_0 (CL T) (J97 T) a0 a1 h = r) (hr : r ≠ .fail) : J97 T 0 [a0, a1] h = r := fj_step (by kernel_rfl) e hr
noncomputable def t97_1 (cf : CallF) (R : Rec) (a0 a1 a7 a8 : IV) (h : H) : CRes :=
 obind (binN .lss a8 a7) fun x2 =>
 condK x2
 (obind (ixS 3 a0 a8) fun x3 =>
 obind (ldA 3 h x3) fun x4 =>
 funK a1 fun f7 c8 => callP (cf f7 ([x4] ++ c8) h) .pan fun x5 h6 =>
 condK x5
 (.ok a8 h6)
 (obind (binN .add a8 (.int .i64 1)) fun x9 =>
 R 1 [a0, a1, a7, x9] h6))
 (.ok (.int .i64 (-1)) h)
theorem e97_1 {a0 a1 a7 a8 : IV} (e : t97_1 (CL T) (J97 T) a0 a1 a7 a8 h = r) (hr : r ≠ .fail) : J97 T 1 [a0, a1, a7, a8] h = r := fj_step (by kernel_rfl) e hr
def js98 : List Jn := [⟨[1], [0, 1, 5]⟩]
noncomputable def J98 (T : Tab) : Rec := cj Tryz.prog (CL T) Tryz.f98 js98
noncomputable def t98_0 (cf : CallF) (R : Rec) (a0 a1 a5 : IV) (h : H) : CRes :=
 obind (eqIf .eql true a5 .nilIface) fun x1 =>
 condK x1
 (.ok (.tup []) h)
 (obind (assertI 143 true (some (.agg [(.int .i64 0), (.int .i64 0)])) a5) fun x2 =>
 obind (extractI x2 1) fun x3 =>
 obind (extractI x2 0) fun x4 =>
 condK x3
 (obind2 (newI h [(.int .i64 0), (.int .i64 0)]) fun x5 h6 =>
 obindH (stA 2 h6 x5 x4) fun h7 =>
 obindH (stA 1 h7 a0 .nilSlice) fun h8 =>
 obind (fadK 0 x5) fun x9 =>
 obind (ldA 2 h7 x9) fun x10 =>
 obind (ldA 2 h8 x9) fun x11 =>
 bif IV.beq x11 x10 then
 obind (fadK 0 x5) fun x12 =>
 obind (ldA 2 h7 x12) fun x13 =>
 obind2 (bslK false 2 [(.int .i64 0), (.int .i64 0)] 1 [(0, x13)] h7) fun x14 h15 =>
 obindH (stA 1 h15 a0 .nilSlice) fun h16 =>
 obindH (stA 1 h16 a1 x14) fun h17 =>
 .ok (.tup []) h17
 else .fail)
 (panK a5 h nop))
theorem e98_0 {a0 a1 a5 : IV} (e : t98_0 (CL T) (J98 T) a0 a1 a5 h = r) (hr : r ≠ .fail) : J98 T 0 [a0, a1, a5] h = r := cj_step (by kernel_rfl) e hr
theorem l98 {T : Tab} {a0 a1 : IV} {st : I.Mode} {h h' : H} {v : IV} (hst : st ≠ .done) (e : t98_0 (CL T) (J98 T) a0 a1 (recV st) h = .ok v h') : LV Tryz.prog (CL T) 98 [a0, a1] st h = some (.ret, h') := LV_of Tryz.func98 rfl rfl (rfl) (of_decide_eq_true (by kernel_rfl)) hst rfl rfl (of_decide_eq_true (by kernel_rfl)) (e98_0 e (by simp))
def js99 : List Jn := [⟨[], [0, 1]⟩, ⟨[0, 1, 0, 1, 1], [5, 14, 15, 16]⟩]
noncomputable def J99 (T : Tab) : Rec := fj Tryz.prog (CL T) Tryz.f99 js99
noncomputable def t99_0 (cf : CallF) (R : Rec) (a0 a1 : IV) (h : H) : CRes :=
 callP (cf 130 [a0] h) .pan fun x1 h2 =>
 obind (extractI x1 0) fun x3 =>
 obind (extractI x1 1) fun x4 =>
 obind (lenS a1) fun x5 =>
 R 1 [x3, a1, x5, (.int .i64 0)] h2
theorem e99_0 {a0 a1 : IV} (e : t99_0 (CL T) (J99 T) a0 a1 h = r) (hr : r ≠ .fail) : J99 T 0 [a0, a1] h = r := fj_step (by kernel_rfl) e hr
noncomputable def t99_1 (cf : CallF) (R : Rec) (a5 a14 a15 a16 : IV) (h : H) : CRes :=
 obind (binN .lss a16 a15) fun x6 =>
 condK x6
 (obind (ixS 1 a14 a16) fun x7 =>
 obind (ld0 h x7) fun x8 =>
 obind (binS .eql a5 x8) fun x9 =>
 condK x9
 (.ok (.bool true) h)
 (obind (binN .add a16 (.int .i64 1)) fun x10 =>
 R 1 [a5, a14, a15, x10] h))
 (.ok (.bool false) h)
theorem e99_1 {a5 a14 a15 a16 : IV} (e : t99_1 (CL T) (J99 T) a5 a14 a15 a16 h = r) (hr : r ≠ .fail) : J99 T 1 [a5, a14, a15, a16] h = r := fj_step (by kernel_rfl) e hr
def js100 : List Jn := [⟨[], [0]⟩, ⟨[1, 1, 1, 1, 1], [0, 2, 3]⟩, ⟨[0, 1, 0, 1, 0, 1, 0, 1, 1, 1, 1], [0, 2, 3, 4]⟩, ⟨[1, 1, 1, 1, 1, 1, 1], [0, 2, 3]⟩, ⟨[0, 1, 0, 0, 1, 0, 1, 1, 1, 1, 1, 1], [0, 2, 3, 6]⟩]
noncomputable def J100 (T : Tab) : Rec := fj Tryz.prog (CL T) Tryz.f100 js100
noncomputable def t100_0 (cf : CallF) (R : Rec) (a0 : IV) (h : H) : CRes :=
 obind2 (newI h z6) fun x1 h2 =>
 callP (cf 131 [a0] h2) .pan fun x3 h4 =>
 obind (bldK z6 p8 [(4, x3)]) fun x5 =>
 obind2 (newI h4 z6) fun x6 h7 =>
 obindH (stA 5 h7 x6 x5) fun h8 =>
 obind2 (bslK false 1 [(.str ⟨0, 0⟩)] 1 [(0, (.str ⟨6, 111516500389741⟩))] h8) fun x9 h10 =>
 callP (cf 132 [a0, x9] h10) .pan fun x11 h12 =>
 callP (cf 133 [a0] h12) .pan fun x13 h14 =>
 obind (fadK 0 x6) fun x15 =>
 obindH (stA 1 h14 x15 x13) fun h16 =>
 callP (cf 134 [a0, (.str ⟨1, 35⟩)] h16) .pan fun x17 h18 =>
 condK x17
 (obind2 (bslK false 1 [(.str ⟨0, 0⟩)] 1 [(0, (.str ⟨1, 40⟩))] h18) fun x19 h20 =>
 callP (cf 132 [a0, x19] h20) .pan fun x21 h22 =>
 R 2 [a0, x1, x6, (.bool true)] h22)
 (R 1 [a0, x1, x6] h18)
theorem e100_0 {a0 : IV} (e : t100_0 (CL T) (J100 T) a0 h = r) (hr : r ≠ .fail) : J100 T 0 [a0] h = r := fj_step (by kernel_rfl) e hr
noncomputable def t100_1 (cf : CallF) (R : Rec) (a0 a2 a3 : IV) (h : H) : CRes :=
 obind2 (bslK false 1 [(.str ⟨0, 0⟩)] 1 [(0, (.str ⟨1, 40⟩))] h) fun x23 h24 =>
 callP (cf 132 [a0, x23] h24) .pan fun x25 h26 =>
 callP (cf 134 [a0, (.str ⟨1, 41⟩)] h26) .pan fun x27 h28 =>
 obind (unI .not x27) fun x29 =>
 condK x29
 (R 4 [a0, a2, a3, (.bool true)] h28)
 (R 3 [a0, a2, a3] h28)
theorem e100_1 {a0 a2 a3 : IV} (e : t100_1 (CL T) (J100 T) a0 a2 a3 h = r) (hr : r ≠ .fail) : J100 T 1 [a0, a2, a3] h = r := fj_step (by kernel_rfl) e hr
noncomputable def t100_2 (cf : CallF) (R : Rec) (a0 a2 a3 a4 : IV) (h : H) : CRes :=
 condK a4
 (obind2 (bslK false 1 [(.str ⟨0, 0⟩)] 1 [(0, (.str ⟨9, 2110239404018478768496⟩))] h) fun x30 h31 =>
 callP (cf 132 [a0, x30] h31) .pan fun x32 h33 =>
 callP (cf 131 [a0] h33) .pan fun x34 h35 =>
 callP (cf 133 [a0] h35) .pan fun x36 h37 =>
 obind (bldK z10 p12 [(2, x34), (0, x36)]) fun x38 =>
 obind2 (newI h37 z10) fun x39 h40 =>
 obindH (stA 8 h40 x39 x38) fun h41 =>
 obind2 (bslK false 1 [(.str ⟨0, 0⟩)] 1 [(0, (.str ⟨1, 61⟩))] h41) fun x42 h43 =>
 callP (cf 132 [a0, x42] h43) .pan fun x44 h45 =>
 callP (cf 135 [a0, (.int .i64 1)] h45) .pan fun x46 h47 =>
 obind (fadK 1 x39) fun x48 =>
 obindH (stA 6 h47 x48 x46) fun h49 =>
 obind (fadK 1 a3) fun x50 =>
 obind (ld0 h49 x50) fun x51 =>
 obind (ldA 8 h49 x39) fun x52 =>
 obind2 (bslK false 8 z10 1 [(0, x52)] h49) fun x53 h54 =>
 obind2 (appK 8 104 h54 x51 x53) fun x55 h56 =>
 obind (fadK 1 a3) fun x57 =>
 obindH (stA 1 h56 x57 x55) fun h58 =>
 callP (cf 134 [a0, (.str ⟨1, 44⟩)] h58) .pan fun x59 h60 =>
 R 2 [a0, a2, a3, x59] h60)
 (obind2 (bslK false 1 [(.str ⟨0, 0⟩)] 1 [(0, (.str ⟨1, 41⟩))] h) fun x61 h62 =>
 callP (cf 132 [a0, x61] h62) .pan fun x63 h64 =>
 R 1 [a0, a2, a3] h64)
theorem e100_2 {a0 a2 a3 a4 : IV} (e : t100_2 (CL T) (J100 T) a0 a2 a3 a4 h = r) (hr : r ≠ .fail) : J100 T 2 [a0, a2, a3, a4] h = r := fj_step (by kernel_rfl) e hr
noncomputable def t100_3 (cf : CallF) (R : Rec) (a0 a2 a3 : IV) (h : H) : CRes :=
 obind2 (bslK false 1 [(.str ⟨0, 0⟩)] 1 [(0, (.str ⟨1, 59⟩))] h) fun x65 h66 =>
 callP (cf 132 [a0, x65] h66) .pan fun x67 h68 =>
 callP (cf 137 [a0, (.str ⟨9, 1870936414602775522917⟩), (.int .i64 1)] h68) .pan fun x69 h70 =>
 obind (fadK 3 a3) fun x71 =>
 obindH (stA 1 h70 x71 x69) fun h72 =>
 obind (ldA 5 h72 a3) fun x73 =>
 obindH (stA 5 h72 a2 x73) fun h74 =>
 obind (ldA 5 h74 a2) fun x75 =>
 .ok x75 h74
theorem e100_3 {a0 a2 a3 : IV} (e : t100_3 (CL T) (J100 T) a0 a2 a3 h = r) (hr : r ≠ .fail) : J100 T 3 [a0, a2, a3] h = r := fj_step (by kernel_rfl) e hr
noncomputable def t100_4 (cf : CallF) (R : Rec) (a0 a2 a3 a6 : IV) (h : H) : CRes :=
 condK a6
 (obind (fadK 2 a3) fun x76 =>
 obind (ld0 h x76) fun x77 =>
 callP (cf 136 [a0] h) (fun v78 h79 =>
 .pan v78 h79) fun x80 h81 =>
 obind (ld0 h81 x76) fun x82 =>
 bif IV.beq x82 x77 then
 obind2 (bslK false 17 z9 1 [(0, x80)] h81) fun x83 h84 =>
 obind (ld0 h84 x76) fun x85 =>
 bif IV.beq x85 x77 then
 obind2 (appK 17 192 h84 x77 x83) fun x86 h87 =>
 obind (fadK 2 a3) fun x88 =>
 obindH (stA 1 h87 x88 x86) fun h89 =>
 callP (cf 134 [a0, (.str ⟨1, 44⟩)] h89) .pan fun x90 h91 =>
 R 4 [a0, a2, a3, x90] h91
 else .fail
 else .fail)
 (obind2 (bslK false 1 [(.str ⟨0, 0⟩)] 1 [(0, (.str ⟨1, 41⟩))] h) fun x92 h93 =>
 callP (cf 132 [a0, x92] h93) .pan fun x94 h95 =>
 R 3 [a0, a2, a3] h95)
theorem e100_4 {a0 a2 a3 a6 : IV} (e : t100_4 (CL T) (J100 T) a0 a2 a3 a6 h = r) (hr : r ≠ .fail) : J100 T 4 [a0, a2, a3, a6] h = r := fj_step (by kernel_rfl) e hr
def js115 : List Jn := [⟨[], [0]⟩]
noncomputable def J115 (T : Tab) : Rec := fj Tryz.prog (CL T) Tryz.f115 js115
noncomputable def t115_0 (cf : CallF) (R : Rec) (a0 : IV) (h : H) : CRes :=
 obind (nilI a0) fun x1 =>
 obind (fadK 0 x1) fun x2 =>
 obind (ld0 h x2) fun x3 =>
 obind (nilI a0) fun x4 =>
 obind (fadK 1 x4) fun x5 =>
 obind (ld0 h x5) fun x6 =>
 obind (ixS 3 x3 x6) fun x7 =>
 obind (ldA 3 h x7) fun x8 =>
 obind2 (newI h z2) fun x9 h10 =>
 obind (ldA 3 h10 x7) fun x11 =>
 bif IV.beq x11 x8 then
 obind (ld0 h10 x5) fun x12 =>
 bif IV.beq x12 x6 then
 obind (ld0 h10 x2) fun x13 =>
 bif IV.beq x13 x3 then
 obindH (stA 3 h10 x9 x8) fun h14 =>
 callP (cf 39 [a0] h14) .pan fun x15 h16 =>
 spanK x15 true h16 (fun k17 =>
 obind (fadK 0 x9) fun x20 =>
 obind (ld0 h16 x20) fun x21 =>
 obind (binN .eql x21 (.int .i64 1)) fun x22 =>
 k17 x22 h16) fun x18 h19 =>
 obind (pickI x15 (some x18) (some (.bool false))) fun x23 =>
 spanK x23 true h19 (fun k24 =>
 obind (fadK 1 x9) fun x27 =>
 obind (ld0 h19 x27) fun x28 =>
 callP (cf 148 [x28] h19) .pan fun x29 h30 =>
 obind (unI .not x29) fun x31 =>
 k24 x31 h30) fun x25 h26 =>
 obind (pickI x23 (some x25) (some (.bool false))) fun x32 =>
 .ok x32 h26
 else .fail
 else .fail
 else .fail
theorem e115_0 {a0 : IV} (e : t115_0 (CL T) (J115 T) a0 h = r) (hr : r ≠ .fail) : J115 T 0 [a0] h = r := fj_step (by kernel_rfl) e hr
def js116 : List Jn := [⟨[], [0, 1]⟩]
noncomputable def J116 (T : Tab) : Rec := fj Tryz.prog (CL T) Tryz.f116 js116
noncomputable def t116_0 (cf : CallF) (R : Rec) (a0 a1 : IV) (h : H) : CRes :=
 obind (nilI a0) fun x1 =>
 obind (fadK 0 x1) fun x2 =>
 obind (ld0 h x2) fun x3 =>
 obind (nilI a0) fun x4 =>
 obind (fadK 1 x4) fun x5 =>
 obind (ld0 h x5) fun x6 =>
 obind (ixS 3 x3 x6) fun x7 =>
 obind (ldA 3 h x7) fun x8 =>
 obind2 (newI h z2) fun x9 h10 =>
 obind (ldA 3 h10 x7) fun x11 =>
 bif IV.beq x11 x8 then
 obind (ld0 h10 x5) fun x12 =>
 bif IV.beq x12 x6 then
 obind (ld0 h10 x2) fun x13 =>
 bif IV.beq x13 x3 then
 obindH (stA 3 h10 x9 x8) fun h14 =>
 callP (cf 39 [a0] h14) .pan fun x15 h16 =>
 spanK x15 true h16 (fun k17 =>
 obind (fadK 1 x9) fun x20 =>
 obind (ld0 h16 x20) fun x21 =>
 obind (binS .eql x21 a1) fun x22 =>
 k17 x22 h16) fun x18 h19 =>
 obind (pickI x15 (some x18) (some (.bool false))) fun x23 =>
 spanK x23 true h19 (fun k24 =>
 obind (fadK 0 x9) fun x27 =>
 obind (ld0 h19 x27) fun x28 =>
 obind (binN .eql x28 (.int .i64 3)) fun x29 =>
 k24 x29 h19) fun x25 h26 =>
 spanK x25 false h26 (fun k30 =>
 obind (fadK 0 x9) fun x33 =>
 obind (ld0 h26 x33) fun x34 =>
 obind (binN .eql x34 (.int .i64 1)) fun x35 =>
 k30 x35 h26) fun x31 h32 =>
 spanK x31 true h32 (fun k36 =>
 callP (cf 148 [a1] h32) .pan fun x39 h40 =>
 k36 x39 h40) fun x37 h38 =>
 spanK x25 false h38 (fun k41 =>
 obind (pickI x31 (some x37) (some (.bool false))) fun x44 =>
 k41 x44 h38) fun x42 h43 =>
 spanK x23 true h43 (fun k45 =>
 obind (pickI x25 (some (.bool true)) (some x42)) fun x48 =>
 k45 x48 h43) fun x46 h47 =>
 obind (pickI x23 (some x46) (some (.bool false))) fun x49 =>
 .ok x49 h47
 else .fail
 else .fail
 else .fail
theorem e116_0 {a0 a1 : IV} (e : t116_0 (CL T) (J116 T) a0 a1 h = r) (hr : r ≠ .fail) : J116 T 0 [a0, a1] h = r := fj_step (by kernel_rfl) e hr
def js118 : List Jn := [⟨[], [0]⟩]
noncomputable def J118 (T : Tab) : Rec := fj Tryz.prog (CL T) Tryz.f118 js118
noncomputable def t118_0 (cf : CallF) (R : Rec) (a0 : IV) (h : H) : CRes :=
 obind2 (newI h z0) fun x1 h2 =>
 obind2 (newI h2 z0) fun x3 h4 =>
 callP (cf 83 [a0, (.str ⟨1, 91⟩)] h4) .pan fun x5 h6 =>
 obind (unI .not x5) fun x7 =>
 condK x7
 (obind (bldK z0 p1 []) fun x8 =>
 obind (bldK z0 p1 []) fun x9 =>
 obindH (stA 6 h6 x1 x8) fun h10 =>
 obindH (stA 6 h10 x3 x9) fun h11 =>
 obind (ldA 6 h11 x1) fun x12 =>
 obind (ldA 6 h11 x3) fun x13 =>
 .ok (.tup [(.bool false), x12, x13]) h11)
 (callP (cf 117 [a0, (.int .i64 1)] h6) .pan fun x14 h15 =>
 obind2 (newI h15 z0) fun x16 h17 =>
 obindH (stA 6 h17 x16 x14) fun h18 =>
 callP (cf 81 [a0, (.str ⟨1, 58⟩)] h18) .pan fun x19 h20 =>
 callP (cf 117 [a0, (.int .i64 1)] h20) .pan fun x21 h22 =>
 obind2 (newI h22 z0) fun x23 h24 =>
 obindH (stA 6 h24 x23 x21) fun h25 =>
 callP (cf 81 [a0, (.str ⟨1, 93⟩)] h25) .pan fun x26 h27 =>
 obind (ldA 6 h27 x16) fun x28 =>
 obind (ldA 6 h27 x23) fun x29 =>
 obindH (stA 6 h27 x1 x28) fun h30 =>
 obind (ldA 6 h30 x23) fun x31 =>
 bif IV.beq x31 x29 then
 obindH (stA 6 h30 x3 x29) fun h32 =>
 obind (ldA 6 h32 x1) fun x33 =>
 obind (ldA 6 h32 x3) fun x34 =>
 .ok (.tup [(.bool true), x33, x34]) h32
 else .fail)
theorem e118_0 {a0 : IV} (e : t118_0 (CL T) (J118 T) a0 h = r) (hr : r ≠ .fail) : J118 T 0 [a0] h = r := fj_step (by kernel_rfl) e hr
def js120 : List Jn := [⟨[], [0]⟩]
noncomputable def J120 (T : Tab) : Rec := fj Tryz.prog (CL T) Tryz.f120 js120
noncomputable def t120_0 (cf : CallF) (R : Rec) (a0 : IV) (h : H) : CRes :=
 obind (nilI a0) fun x1 =>
 obind (fadK 0 x1) fun x2 =>
 obind (ld0 h x2) fun x3 =>
 obind (eqP .eql h x3 .nilPtr) fun x4 =>
 condK x4
 (obind2 (convI Tryz.prog h 89 187 a0) fun x5 h6 =>
 callP (cf 157 [x5] h6) .pan fun x7 h8 =>
 obind2 (convI Tryz.prog h8 187 89 x7) fun x9 h10 =>
 obind (nilI a0) fun x11 =>
 obind (fadK 0 x11) fun x12 =>
 obindH (stA 1 h10 x12 x9) fun h13 =>
 .ok (.tup []) h13)
 (obind (nilI a0) fun x14 =>
 obind (fadK 0 x14) fun x15 =>
 obind (ld0 h x15) fun x16 =>
 obind (eqP .neq h x16 a0) fun x17 =>
 condK x17
 (CRes.fail)
 (.ok (.tup []) h))
theorem e120_0 {a0 : IV} (e : t120_0 (CL T) (J120 T) a0 h = r) (hr : r ≠ .fail) : J120 T 0 [a0] h = r := fj_step (by kernel_rfl) e hr
def js123 : List Jn := [⟨[], [0, 1]⟩]
noncomputable def J123 (T : Tab) : Rec := fj Tryz.prog (CL T) Tryz.f123 js123
noncomputable def t123_0 (cf : CallF) (R : Rec) (a0 a1 : IV) (h : H) : CRes :=
 callP (cf 159 [a0, a1] h) .pan fun x1 h2 =>
 .ok x1 h2
theorem e123_0 {a0 a1 : IV} (e : t123_0 (CL T) (J123 T) a0 a1 h = r) (hr : r ≠ .fail) : J123 T 0 [a0, a1] h = r := fj_step (by kernel_rfl) e hr
def js124 : List Jn := [⟨[], [0, 1]⟩]
noncomputable def J124 (T : Tab) : Rec := fj Tryz.prog (CL T) Tryz.f124 js124
noncomputable def t124_0 (cf : CallF) (R : Rec) (a0 a1 : IV) (h : H) : CRes :=
 callP (cf 160 [a0, a1] h) .pan fun x1 h2 =>
 .ok x1 h2
theorem e124_0 {a0 a1 : IV} (e : t124_0 (CL T) (J124 T) a0 a1 h = r) (hr : r ≠ .fail) : J124 T 0 [a0, a1] h = r := fj_step (by kernel_rfl) e hr
def js125 : List Jn := [⟨[], [0, 1]⟩]
noncomputable def J125 (T : Tab) : Rec := fj Tryz.prog (CL T) Tryz.f125 js125
noncomputable def t125_0 (cf : CallF) (R : Rec) (a0 a1 : IV) (h : H) : CRes :=
 callP (cf 161 [a0, a1] h) .pan fun x1 h2 =>
 .ok x1 h2
theorem e125_0 {a0 a1 : IV} (e : t125_0 (CL T) (J125 T) a0 a1 h = r) (hr : r ≠ .fail) : J125 T 0 [a0, a1] h = r := fj_step (by kernel_rfl) e hr
def js126 : List Jn := [⟨[], [0, 1, 2, 3]⟩]
noncomputable def J126 (T : Tab) : Rec := fj Tryz.prog (CL T) Tryz.f126 js126
noncomputable def t126_0 (cf : CallF) (R : Rec) (a0 a1 a2 a3 : IV) (h : H) : CRes :=
 obind2 (newI h z2) fun x1 h2 =>
 obind (ld0 h2 a2) fun x3 =>
 obind2 (bslK true 1 [(.int .i64 0)] 2 [(0, (.int .i64 2)), (1, (.int .i64 3))] h2) fun x4 h5 =>
 callP (cf 127 [x3, a1, x4] h5) .pan fun x6 h7 =>
 obind (binN .sub x6 a1) fun x8 =>
 obind (binN .gtr x8 (.int .i64 64)) fun x9 =>
 condK x9
 (obind (bldK z2 p3 []) fun x10 =>
 obindH (stA 3 h7 x1 x10) fun h11 =>
 obind (ldA 3 h11 x1) fun x12 =>
 .ok (.tup [x12, (.int .i64 0), (.int .i64 4)]) h11)
 (obind (ld0 h7 a2) fun x13 =>
 obind (slcStr x13 (some a1) (some x6)) fun x14 =>
 obind (ld0 h7 a3) fun x15 =>
 obind (bldK z2 p3 [(0, a0), (1, x14), (2, x15)]) fun x16 =>
 obindH (stA 3 h7 x1 x16) fun h17 =>
 obind (ldA 3 h17 x1) fun x18 =>
 .ok (.tup [x18, x6, (.int .i64 0)]) h17)
theorem e126_0 {a0 a1 a2 a3 : IV} (e : t126_0 (CL T) (J126 T) a0 a1 a2 a3 h = r) (hr : r ≠ .fail) : J126 T 0 [a0, a1, a2, a3] h = r := fj_step (by kernel_rfl) e hr
def js127 : List Jn := [⟨[], [0, 1, 2]⟩, ⟨[1, 1], [1]⟩, ⟨[0, 0, 1], [0, 1, 2]⟩, ⟨[0, 1, 0, 1, 0, 1, 0, 0, 0, 1], [0, 1, 2, 7, 14, 15, 16]⟩]
noncomputable def J127 (T : Tab) : Rec := fj Tryz.prog (CL T) Tryz.f127 js127
noncomputable def t127_0 (cf : CallF) (R : Rec) (a0 a1 a2 : IV) (h : H) : CRes :=
 R 2 [a0, a1, a2] h
theorem e127_0 {a0 a1 a2 : IV} (e : t127_0 (CL T) (J127 T) a0 a1 a2 h = r) (hr : r ≠ .fail) : J127 T 0 [a0, a1, a2] h = r := fj_step (by kernel_rfl) e hr
noncomputable def t127_2 (cf : CallF) (R : Rec) (a0 a1 a2 : IV) (h : H) : CRes :=
 obind (lenStr a0) fun x1 =>
 obind (binN .lss a1 x1) fun x2 =>
 condK x2
 (obind (lenS a2) fun x3 =>
 R 3 [a0, a1, a2, (.bool false), a2, x3, (.int .i64 0)] h)
 (R 1 [a1] h)
theorem e127_2 {a0 a1 a2 : IV} (e : t127_2 (CL T) (J127 T) a0 a1 a2 h = r) (hr : r ≠ .fail) : J127 T 2 [a0, a1, a2] h = r := fj_step (by kernel_rfl) e hr
noncomputable def t127_1 (cf : CallF) (R : Rec) (a1 : IV) (h : H) : CRes :=
 .ok a1 h
theorem e127_1 {a1 : IV} (e : t127_1 (CL T) (J127 T) a1 h = r) (hr : r ≠ .fail) : J127 T 1 [a1] h = r := fj_step (by kernel_rfl) e hr
noncomputable def t127_3 (cf : CallF) (R : Rec) (a0 a1 a2 a7 a14 a15 a16 : IV) (h : H) : CRes :=
 obind (binN .lss a16 a15) fun x4 =>
 condK x4
 (obind (ixS 1 a14 a16) fun x5 =>
 obind (ld0 h x5) fun x6 =>
 spanK a7 false h (fun k7 =>
 obind (ixStr a0 a1) fun x10 =>
 callP (cf 95 [x10] h) .pan fun x11 h12 =>
 obind (binN .eql x11 x6) fun x13 =>
 k7 x13 h12) fun x8 h9 =>
 obind (pickI a7 (some (.bool true)) (some x8)) fun x14 =>
 spanK x14 false h9 (fun k15 =>
 obind (binN .eql x6 (.int .i64 3)) fun x18 =>
 k15 x18 h9) fun x16 h17 =>
 spanK x16 true h17 (fun k19 =>
 obind (ixStr a0 a1) fun x22 =>
 obind (binN .eql x22 (.int .u8 39)) fun x23 =>
 k19 x23 h17) fun x20 h21 =>
 spanK x14 false h21 (fun k24 =>
 obind (pickI x16 (some x20) (some (.bool false))) fun x27 =>
 k24 x27 h21) fun x25 h26 =>
 spanK x25 true h26 (fun k28 =>
 obind (lenS a2) fun x31 =>
 obind (binN .gtr x31 (.int .i64 2)) fun x32 =>
 k28 x32 h26) fun x29 h30 =>
 spanK x14 false h30 (fun k33 =>
 obind (pickI x25 (some x29) (some (.bool false))) fun x36 =>
 k33 x36 h30) fun x34 h35 =>
 obind (pickI x14 (some (.bool true)) (some x34)) fun x37 =>
 obind (binN .add a16 (.int .i64 1)) fun x38 =>
 R 3 [a0, a1, a2, x37, a14, a15, x38] h35)
 (obind (unI .not a7) fun x39 =>
 condK x39
 (R 1 [a1] h)
 (obind (binN .add a1 (.int .i64 1)) fun x40 =>
 R 2 [a0, x40, a2] h))
theorem e127_3 {a0 a1 a2 a7 a14 a15 a16 : IV} (e : t127_3 (CL T) (J127 T) a0 a1 a2 a7 a14 a15 a16 h = r) (hr : r ≠ .fail) : J127 T 3 [a0, a1, a2, a7, a14, a15, a16] h = r := fj_step (by kernel_rfl) e hr
def js129 : List Jn := [⟨[], [0, 1]⟩]
noncomputable def J129 (T : Tab) : Rec := fj Tryz.prog (CL T) Tryz.f129 js129
noncomputable def t129_0 (cf : CallF) (R : Rec) (a0 a1 : IV) (h : H) : CRes :=
 callP (cf 125 [a0, a1] h) .pan fun x1 h2 =>
 obind (binN .geq x1 (.int .i64 0)) fun x3 =>
 .ok x3 h2
theorem e129_0 {a0 a1 : IV} (e : t129_0 (CL T) (J129 T) a0 a1 h = r) (hr : r ≠ .fail) : J129 T 0 [a0, a1] h = r := fj_step (by kernel_rfl) e hr
def js130 : List Jn := [⟨[], [0]⟩]
noncomputable def J130 (T : Tab) : Rec := fj Tryz.prog (CL T) Tryz.f130 js130
noncomputable def t130_0 (cf : CallF) (R : Rec) (a0 : IV) (h : H) : CRes :=
 obind (nilI a0) fun x1 =>
 obind (fadK 0 x1) fun x2 =>
 obind (ld0 h x2) fun x3 =>
 obind (ixS 3 x3 (.int .i64 0)) fun x4 =>
 obind (ldA 3 h x4) fun x5 =>
 obind2 (newI h z2) fun x6 h7 =>
 obindH (stA 3 h7 x6 x5) fun h8 =>
 obind (fadK 0 x6) fun x9 =>
 obind (ld0 h8 x9) fun x10 =>
 obind (binN .eql x10 (.int .i64 1)) fun x11 =>
 condK x11
 (obind (fadK 1 x6) fun x12 =>
 obind (ld0 h8 x12) fun x13 =>
 callP (cf 168 [x13] h8) .pan fun x14 h15 =>
 condK x14
 (obind (fadK 1 x6) fun x16 =>
 obind (ld0 h15 x16) fun x17 =>
 obind (fadK 1 x6) fun x18 =>
 obind (ld0 h15 x18) fun x19 =>
 .ok (.tup [x17, x19]) h15)
 (obind (fadK 1 x6) fun x20 =>
 obind (ld0 h15 x20) fun x21 =>
 .ok (.tup [(.str ⟨5, 435626798624⟩), x21]) h15))
 (obind (binN .eql x10 (.int .i64 2)) fun x22 =>
 condK x22
 (obind (fadK 1 x6) fun x23 =>
 obind (ld0 h8 x23) fun x24 =>
 .ok (.tup [(.str ⟨7, 32199620762627616⟩), x24]) h8)
 (obind (binN .eql x10 (.int .i64 3)) fun x25 =>
 condK x25
 (obind (fadK 1 x6) fun x26 =>
 obind (ld0 h8 x26) fun x27 =>
 obind (fadK 1 x6) fun x28 =>
 obind (ld0 h8 x28) fun x29 =>
 .ok (.tup [x27, x29]) h8)
 (.ok (.tup [(.str ⟨0, 0⟩), (.str ⟨0, 0⟩)]) h8)))
theorem e130_0 {a0 : IV} (e : t130_0 (CL T) (J130 T) a0 h = r) (hr : r ≠ .fail) : J130 T 0 [a0] h = r := fj_step (by kernel_rfl) e hr
def js131 : List Jn := [⟨[], [0]⟩]
noncomputable def J131 (T : Tab) : Rec := fj Tryz.prog (CL T) Tryz.f131 js131
noncomputable def t131_0 (cf : CallF) (R : Rec) (a0 : IV) (h : H) : CRes :=
 obind (nilI a0) fun x1 =>
 obind (fadK 0 x1) fun x2 =>
 obind (ld0 h x2) fun x3 =>
 obind (ixS 3 x3 (.int .i64 0)) fun x4 =>
 obind (fadK 2 x4) fun x5 =>
 obind (ld0 h x5) fun x6 =>
 .ok x6 h
theorem e131_0 {a0 : IV} (e : t131_0 (CL T) (J131 T) a0 h = r) (hr : r ≠ .fail) : J131 T 0 [a0] h = r := fj_step (by kernel_rfl) e hr
def js132 : List Jn := [⟨[], [0, 1]⟩, ⟨[0, 1], [0, 6, 7, 8]⟩, ⟨[1, 1, 1, 0, 0, 1], [0, 6, 7, 8]⟩]
noncomputable def J132 (T : Tab) : Rec := fj Tryz.prog (CL T) Tryz.f132 js132
noncomputable def t132_0 (cf : CallF) (R : Rec) (a0 a1 : IV) (h : H) : CRes :=
 obind (lenS a1) fun x1 =>
 R 1 [a0, a1, x1, (.int .i64 0)] h
theorem e132_0 {a0 a1 : IV} (e : t132_0 (CL T) (J132 T) a0 a1 h = r) (hr : r ≠ .fail) : J132 T 0 [a0, a1] h = r := fj_step (by kernel_rfl) e hr
noncomputable def t132_1 (cf : CallF) (R : Rec) (a0 a6 a7 a8 : IV) (h : H) : CRes :=
 obind (binN .lss a8 a7) fun x2 =>
 condK x2
 (obind (ixS 1 a6 a8) fun x3 =>
 obind (ld0 h x3) fun x4 =>
 callP (cf 134 [a0, x4] h) .pan fun x5 h6 =>
 obind (unI .not x5) fun x7 =>
 condK x7
 (callP (cf 169 [a0, (.int .i64 40)] h6) .pan fun x8 h9 =>
 R 2 [a0, a6, a7, a8] h9)
 (R 2 [a0, a6, a7, a8] h6))
 (.ok (.tup []) h)
theorem e132_1 {a0 a6 a7 a8 : IV} (e : t132_1 (CL T) (J132 T) a0 a6 a7 a8 h = r) (hr : r ≠ .fail) : J132 T 1 [a0, a6, a7, a8] h = r := fj_step (by kernel_rfl) e hr
noncomputable def t132_2 (cf : CallF) (R : Rec) (a0 a6 a7 a8 : IV) (h : H) : CRes :=
 obind (binN .add a8 (.int .i64 1)) fun x10 =>
 R 1 [a0, a6, a7, x10] h
theorem e132_2 {a0 a6 a7 a8 : IV} (e : t132_2 (CL T) (J132 T) a0 a6 a7 a8 h = r) (hr : r ≠ .fail) : J132 T 2 [a0, a6, a7, a8] h = r := fj_step (by kernel_rfl) e hr
def js133 : List Jn := [⟨[], [0]⟩]
noncomputable def J133 (T : Tab) : Rec := fj Tryz.prog (CL T) Tryz.f133 js133
noncomputable def t133_0 (cf : CallF) (R : Rec) (a0 : IV) (h : H) : CRes :=
 callP (cf 130 [a0] h) .pan fun x1 h2 =>
 obind (extractI x1 0) fun x3 =>
 obind (extractI x1 1) fun x4 =>
 obind2 (bslK false 1 [(.str ⟨0, 0⟩)] 1 [(0, (.str ⟨5, 435626798624⟩))] h2) fun x5 h6 =>
 callP (cf 132 [a0, x5] h6) .pan fun x7 h8 =>
 .ok x4 h8
theorem e133_0 {a0 : IV} (e : t133_0 (CL T) (J133 T) a0 h = r) (hr : r ≠ .fail) : J133 T 0 [a0] h = r := fj_step (by kernel_rfl) e hr
def js134 : List Jn := [⟨[], [0, 1]⟩, ⟨[1, 1, 1], [5]⟩]
noncomputable def J134 (T : Tab) : Rec := fj Tryz.prog (CL T) Tryz.f134 js134
noncomputable def t134_0 (cf : CallF) (R : Rec) (a0 a1 : IV) (h : H) : CRes :=
 obind2 (bslK false 1 [(.str ⟨0, 0⟩)] 1 [(0, a1)] h) fun x1 h2 =>
 callP (cf 99 [a0, x1] h2) .pan fun x3 h4 =>
 condK x3
 (obind (nilI a0) fun x5 =>
 obind (fadK 0 x5) fun x6 =>
 obind (ld0 h4 x6) fun x7 =>
 obind (slcS 3 x7 (some (.int .i64 1)) none none) fun x8 =>
 obind (nilI a0) fun x9 =>
 obind (fadK 0 x9) fun x10 =>
 obindH (stA 1 h4 x10 x8) fun h11 =>
 R 1 [x3] h11)
 (R 1 [x3] h4)
theorem e134_0 {a0 a1 : IV} (e : t134_0 (CL T) (J134 T) a0 a1 h = r) (hr : r ≠ .fail) : J134 T 0 [a0, a1] h = r := fj_step (by kernel_rfl) e hr
noncomputable def t134_1 (cf : CallF) (R : Rec) (a5 : IV) (h : H) : CRes :=
 .ok a5 h
theorem e134_1 {a5 : IV} (e : t134_1 (CL T) (J134 T) a5 h = r) (hr : r ≠ .fail) : J134 T 1 [a5] h = r := fj_step (by kernel_rfl) e hr
def js135 : List Jn := [⟨[], [0, 1]⟩]
noncomputable def J135 (T : Tab) : Rec := fj Tryz.prog (CL T) Tryz.f135 js135
noncomputable def t135_0 (cf : CallF) (R : Rec) (a0 a1 : IV) (h : H) : CRes :=
 obind2 (newI h z0) fun x1 h2 =>
 callP (cf 170 [a0, a1] h2) .pan fun x3 h4 =>
 callP (cf 172 [a0, a1] h4) .pan fun x5 h6 =>
 callP (cf 171 [a0, x5, (.int .i64 1), a1] h6) .pan fun x7 h8 =>
 obind2 (newI h8 z0) fun x9 h10 =>
 obindH (stA 6 h10 x9 x7) fun h11 =>
 callP (cf 131 [a0] h11) .pan fun x12 h13 =>
 callP (cf 134 [a0, (.str ⟨1, 63⟩)] h13) .pan fun x14 h15 =>
 obind (unI .not x14) fun x16 =>
 condK x16
 (obind (ldA 6 h15 x9) fun x17 =>
 obindH (stA 6 h15 x1 x17) fun h18 =>
 obind (ldA 6 h18 x1) fun x19 =>
 .ok x19 h18)
 (obind (binN .add a1 (.int .i64 1)) fun x20 =>
 callP (cf 135 [a0, x20] h15) .pan fun x21 h22 =>
 obind2 (newI h22 z0) fun x23 h24 =>
 obindH (stA 6 h24 x23 x21) fun h25 =>
 obind2 (bslK false 1 [(.str ⟨0, 0⟩)] 1 [(0, (.str ⟨1, 58⟩))] h25) fun x26 h27 =>
 callP (cf 132 [a0, x26] h27) .pan fun x28 h29 =>
 obind (ldA 6 h29 x9) fun x30 =>
 obind (ldA 6 h29 x23) fun x31 =>
 obind (binN .add a1 (.int .i64 1)) fun x32 =>
 callP (cf 135 [a0, x32] h29) (fun v33 h34 =>
 .pan v33 h34) fun x35 h36 =>
 obind (ldA 6 h36 x23) fun x37 =>
 bif IV.beq x37 x31 then
 obind (ldA 6 h36 x9) fun x38 =>
 bif IV.beq x38 x30 then
 obind2 (bslK false 6 z0 3 [(0, x30), (1, x31), (2, x35)] h36) fun x39 h40 =>
 obind (bldK z0 p1 [(0, (.int .i64 6)), (4, x39), (5, x12)]) fun x41 =>
 obindH (stA 6 h40 x1 x41) fun h42 =>
 obind (ldA 6 h42 x1) fun x43 =>
 .ok x43 h42
 else .fail
 else .fail)
theorem e135_0 {a0 a1 : IV} (e : t135_0 (CL T) (J135 T) a0 a1 h = r) (hr : r ≠ .fail) : J135 T 0 [a0, a1] h = r := fj_step (by kernel_rfl) e hr
def js136 : List Jn := [⟨[], [0]⟩, ⟨[1, 1, 1], [0, 2, 3]⟩]
noncomputable def J136 (T : Tab) : Rec := fj Tryz.prog (CL T) Tryz.f136 js136
noncomputable def t136_0 (cf : CallF) (R : Rec) (a0 : IV) (h : H) : CRes :=
 obind2 (newI h z9) fun x1 h2 =>
 callP (cf 131 [a0] h2) .pan fun x3 h4 =>
 callP (cf 134 [a0, (.str ⟨6, 128047746676079⟩)] h4) .pan fun x5 h6 =>
 obind (bldK z9 p11 [(6, x3), (0, x5)]) fun x7 =>
 obind2 (newI h6 z9) fun x8 h9 =>
 obindH (stA 17 h9 x8 x7) fun h10 =>
 obind (fadK 0 x8) fun x11 =>
 obind (ld0 h10 x11) fun x12 =>
 condK x12
 (callP (cf 134 [a0, (.str ⟨3, 6776178⟩)] h10) .pan fun x13 h14 =>
 obind (fadK 1 x8) fun x15 =>
 obindH (stA 1 h14 x15 x13) fun h16 =>
 R 1 [a0, x1, x8] h16)
 (obind2 (bslK false 1 [(.str ⟨0, 0⟩)] 1 [(0, (.str ⟨5, 500186508905⟩))] h10) fun x17 h18 =>
 callP (cf 132 [a0, x17] h18) .pan fun x19 h20 =>
 R 1 [a0, x1, x8] h20)
theorem e136_0 {a0 : IV} (e : t136_0 (CL T) (J136 T) a0 h = r) (hr : r ≠ .fail) : J136 T 0 [a0] h = r := fj_step (by kernel_rfl) e hr
noncomputable def t136_1 (cf : CallF) (R : Rec) (a0 a2 a3 : IV) (h : H) : CRes :=
 callP (cf 173 [a0] h) .pan fun x21 h22 =>
 obind (extractI x21 0) fun x23 =>
 obind (extractI x21 1) fun x24 =>
 obind (extractI x21 2) fun x25 =>
 obind (fadK 2 a3) fun x26 =>
 obindH (stA 1 h22 x26 x23) fun h27 =>
 obind (fadK 3 a3) fun x28 =>
 obindH (stA 6 h27 x28 x24) fun h29 =>
 obind (fadK 9 a3) fun x30 =>
 obindH (stA 6 h29 x30 x25) fun h31 =>
 callP (cf 133 [a0] h31) .pan fun x32 h33 =>
 obind (fadK 15 a3) fun x34 =>
 obindH (stA 1 h33 x34 x32) fun h35 =>
 obind (ldA 17 h35 a3) fun x36 =>
 obindH (stA 17 h35 a2 x36) fun h37 =>
 obind (ldA 17 h37 a2) fun x38 =>
 .ok x38 h37
theorem e136_1 {a0 a2 a3 : IV} (e : t136_1 (CL T) (J136 T) a0 a2 a3 h = r) (hr : r ≠ .fail) : J136 T 1 [a0, a2, a3] h = r := fj_step (by kernel_rfl) e hr
def js137 : List Jn := [⟨[], [0, 1, 2]⟩, ⟨[0, 0, 1], [0, 1, 2, 6]⟩, ⟨[1, 0, 1, 0, 0, 0, 1], [0, 1, 2, 6]⟩, ⟨[1, 1, 0, 1, 0, 0, 0, 1], [0, 1, 2, 6]⟩]
noncomputable def J137 (T : Tab) : Rec := fj Tryz.prog (CL T) Tryz.f137 js137
noncomputable def t137_0 (cf : CallF) (R : Rec) (a0 a1 a2 : IV) (h : H) : CRes :=
 R 1 [a0, a1, a2, .nilSlice] h
theorem e137_0 {a0 a1 a2 : IV} (e : t137_0 (CL T) (J137 T) a0 a1 a2 h = r) (hr : r ≠ .fail) : J137 T 0 [a0, a1, a2] h = r := fj_step (by kernel_rfl) e hr
noncomputable def t137_1 (cf : CallF) (R : Rec) (a0 a1 a2 a6 : IV) (h : H) : CRes :=
 callP (cf 134 [a0, a1] h) .pan fun x1 h2 =>
 obind (unI .not x1) fun x3 =>
 condK x3
 (obind2 (bslK false 1 [(.str ⟨0, 0⟩)] 7 [(0, (.str ⟨4, 1701996919⟩)), (1, (.str ⟨3, 6776178⟩)), (2, (.str ⟨10, 516535522800345012203372⟩)), (3, (.str ⟨6, 121390429860705⟩)), (4, (.str ⟨6, 126965163453537⟩)), (5, (.str ⟨3, 7499622⟩)), (6, (.str ⟨5, 435626798624⟩))] h2) fun x4 h5 =>
 callP (cf 99 [a0, x4] h5) .pan fun x6 h7 =>
 obind (unI .not x6) fun x8 =>
 condK x8
 (callP (cf 169 [a0, (.int .i64 40)] h7) .pan fun x9 h10 =>
 R 2 [a0, a1, a2, a6] h10)
 (R 2 [a0, a1, a2, a6] h7))
 (.ok a6 h2)
theorem e137_1 {a0 a1 a2 a6 : IV} (e : t137_1 (CL T) (J137 T) a0 a1 a2 a6 h = r) (hr : r ≠ .fail) : J137 T 1 [a0, a1, a2, a6] h = r := fj_step (by kernel_rfl) e hr
noncomputable def t137_2 (cf : CallF) (R : Rec) (a0 a1 a2 a6 : IV) (h : H) : CRes :=
 obind (binN .gtr a2 (.int .i64 32)) fun x11 =>
 condK x11
 (callP (cf 169 [a0, (.int .i64 41)] h) .pan fun x12 h13 =>
 R 3 [a0, a1, a2, a6] h13)
 (R 3 [a0, a1, a2, a6] h)
theorem e137_2 {a0 a1 a2 a6 : IV} (e : t137_2 (CL T) (J137 T) a0 a1 a2 a6 h = r) (hr : r ≠ .fail) : J137 T 2 [a0, a1, a2, a6] h = r := fj_step (by kernel_rfl) e hr
noncomputable def t137_3 (cf : CallF) (R : Rec) (a0 a1 a2 a6 : IV) (h : H) : CRes :=
 callP (cf 174 [a0, a2] h) .pan fun x14 h15 =>
 obind2 (bslK false 48 z7 1 [(0, x14)] h15) fun x16 h17 =>
 obind2 (appK 48 680 h17 a6 x16) fun x18 h19 =>
 R 1 [a0, a1, a2, x18] h19
theorem e137_3 {a0 a1 a2 a6 : IV} (e : t137_3 (CL T) (J137 T) a0 a1 a2 a6 h = r) (hr : r ≠ .fail) : J137 T 3 [a0, a1, a2, a6] h = r := fj_step (by kernel_rfl) e hr
def js148 : List Jn := [⟨[], [0]⟩, ⟨[0, 1, 0, 1, 1], [0, 3, 4]⟩]
noncomputable def J148 (T : Tab) : Rec := fj Tryz.prog (CL T) Tryz.f148 js148
noncomputable def t148_0 (cf : CallF) (R : Rec) (a0 : IV) (h : H) : CRes :=
 callP (cf 187 [] h) .pan fun x1 h2 =>
 R 1 [a0, x1, (.int .i64 0)] h2
theorem e148_0 {a0 : IV} (e : t148_0 (CL T) (J148 T) a0 h = r) (hr : r ≠ .fail) : J148 T 0 [a0] h = r := fj_step (by kernel_rfl) e hr
noncomputable def t148_1 (cf : CallF) (R : Rec) (a0 a3 a4 : IV) (h : H) : CRes :=
 obind (lenS a3) fun x3 =>
 obind (binN .lss a4 x3) fun x4 =>
 condK x4
 (obind (ixS 1 a3 a4) fun x5 =>
 obind (ld0 h x5) fun x6 =>
 obind (binS .eql x6 a0) fun x7 =>
 condK x7
 (.ok (.bool true) h)
 (obind (binN .add a4 (.int .i64 1)) fun x8 =>
 R 1 [a0, a3, x8] h))
 (.ok (.bool false) h)
theorem e148_1 {a0 a3 a4 : IV} (e : t148_1 (CL T) (J148 T) a0 a3 a4 h = r) (hr : r ≠ .fail) : J148 T 1 [a0, a3, a4] h = r := fj_step (by kernel_rfl) e hr
def js159 : List Jn := [⟨[], [0, 1]⟩]
noncomputable def J159 (T : Tab) : Rec := fj Tryz.prog (CL T) Tryz.f159 js159
noncomputable def t159_0 (cf : CallF) (R : Rec) (a0 a1 : IV) (h : H) : CRes :=
 obind (lenStr a0) fun x1 =>
 obind (lenStr a1) fun x2 =>
 obind (binN .geq x1 x2) fun x3 =>
 spanK x3 true h (fun k4 =>
 obind (lenStr a1) fun x7 =>
 obind (slcStr a0 none (some x7)) fun x8 =>
 obind (binS .eql x8 a1) fun x9 =>
 k4 x9 h) fun x5 h6 =>
 obind (pickI x3 (some x5) (some (.bool false))) fun x10 =>
 .ok x10 h6
theorem e159_0 {a0 a1 : IV} (e : t159_0 (CL T) (J159 T) a0 a1 h = r) (hr : r ≠ .fail) : J159 T 0 [a0, a1] h = r := fj_step (by kernel_rfl) e hr
def js160 : List Jn := [⟨[], [0, 1]⟩]
noncomputable def J160 (T : Tab) : Rec := fj Tryz.prog (CL T) Tryz.f160 js160
noncomputable def t160_0 (cf : CallF) (R : Rec) (a0 a1 : IV) (h : H) : CRes :=
 callP (cf 193 [a0, a1] h) .pan fun x1 h2 =>
 .ok x1 h2
theorem e160_0 {a0 a1 : IV} (e : t160_0 (CL T) (J160 T) a0 a1 h = r) (hr : r ≠ .fail) : J160 T 0 [a0, a1] h = r := fj_step (by kernel_rfl) e hr
def js168 : List Jn := [⟨[], [0]⟩, ⟨[1, 0, 1, 0, 1], [4]⟩]
noncomputable def J168 (T : Tab) : Rec := fj Tryz.prog (CL T) Tryz.f168 js168
noncomputable def t168_0 (cf : CallF) (R : Rec) (a0 : IV) (h : H) : CRes :=
 obind (binS .eql a0 (.str ⟨6, 111516500389741⟩)) fun x1 =>
 condK x1
 (R 1 [x1] h)
 (obind (binS .eql a0 (.str ⟨9, 1870936414602775522917⟩)) fun x2 =>
 condK x2
 (R 1 [x2] h)
 (obind (binS .eql a0 (.str ⟨5, 500186508905⟩)) fun x3 =>
 condK x3
 (R 1 [x3] h)
 (obind (binS .eql a0 (.str ⟨6, 128047746676079⟩)) fun x4 =>
 condK x4
 (R 1 [x4] h)
 (obind (binS .eql a0 (.str ⟨3, 6776178⟩)) fun x5 =>
 condK x5
 (R 1 [x5] h)
 (obind (binS .eql a0 (.str ⟨4, 1701996919⟩)) fun x6 =>
 condK x6
 (R 1 [x6] h)
 (obind (binS .eql a0 (.str ⟨9, 2110239404018478768496⟩)) fun x7 =>
 condK x7
 (R 1 [x7] h)
 (obind (binS .eql a0 (.str ⟨10, 516535522800345012203372⟩)) fun x8 =>
 condK x8
 (R 1 [x8] h)
 (obind (binS .eql a0 (.str ⟨6, 121390429860705⟩)) fun x9 =>
 condK x9
 (R 1 [x9] h)
 (obind (binS .eql a0 (.str ⟨6, 126965163453537⟩)) fun x10 =>
 condK x10
 (R 1 [x10] h)
 (obind (binS .eql a0 (.str ⟨7, 28542653544230768⟩)) fun x11 =>
 condK x11
 (R 1 [x11] h)
 (obind (binS .eql a0 (.str ⟨5, 474214786402⟩)) fun x12 =>
 condK x12
 (R 1 [x12] h)
 (obind (binS .eql a0 (.str ⟨3, 6581861⟩)) fun x13 =>
 condK x13
 (R 1 [x13] h)
 (obind (binS .eql a0 (.str ⟨2, 26217⟩)) fun x14 =>
 condK x14
 (R 1 [x14] h)
 (obind (binS .eql a0 (.str ⟨4, 1702063205⟩)) fun x15 =>
 condK x15
 (R 1 [x15] h)
 (obind (binS .eql a0 (.str ⟨4, 1702060387⟩)) fun x16 =>
 condK x16
 (R 1 [x16] h)
 (obind (binS .eql a0 (.str ⟨7, 28555834764324453⟩)) fun x17 =>
 condK x17
 (R 1 [x17] h)
 (obind (binS .eql a0 (.str ⟨7, 32770348699510116⟩)) fun x18 =>
 condK x18
 (R 1 [x18] h)
 (obind (binS .eql a0 (.str ⟨3, 7499622⟩)) fun x19 =>
 R 1 [x19] h))))))))))))))))))
theorem e168_0 {a0 : IV} (e : t168_0 (CL T) (J168 T) a0 h = r) (hr : r ≠ .fail) : J168 T 0 [a0] h = r := fj_step (by kernel_rfl) e hr
noncomputable def t168_1 (cf : CallF) (R : Rec) (a4 : IV) (h : H) : CRes :=
 condK a4
 (.ok (.bool true) h)
 (.ok (.bool false) h)
theorem e168_1 {a4 : IV} (e : t168_1 (CL T) (J168 T) a4 h = r) (hr : r ≠ .fail) : J168 T 1 [a4] h = r := fj_step (by kernel_rfl) e hr
def js170 : List Jn := [⟨[], [0, 1]⟩, ⟨[1], [0, 1]⟩]
noncomputable def J170 (T : Tab) : Rec := fj Tryz.prog (CL T) Tryz.f170 js170
noncomputable def t170_0 (cf : CallF) (R : Rec) (a0 a1 : IV) (h : H) : CRes :=
 callP (cf 203 [a0, (.bool true)] h) .pan fun x1 h2 =>
 obind (unI .not x1) fun x3 =>
 condK x3
 (callP (cf 169 [a0, (.int .i64 40)] h2) .pan fun x4 h5 =>
 R 1 [a0, a1] h5)
 (R 1 [a0, a1] h2)
theorem e170_0 {a0 a1 : IV} (e : t170_0 (CL T) (J170 T) a0 a1 h = r) (hr : r ≠ .fail) : J170 T 0 [a0, a1] h = r := fj_step (by kernel_rfl) e hr
noncomputable def t170_1 (cf : CallF) (R : Rec) (a0 a1 : IV) (h : H) : CRes :=
 obind (binN .gtr a1 (.int .i64 32)) fun x6 =>
 condK x6
 (callP (cf 169 [a0, (.int .i64 41)] h) .pan fun x7 h8 =>
 .ok (.tup []) h8)
 (.ok (.tup []) h)
theorem e170_1 {a0 a1 : IV} (e : t170_1 (CL T) (J170 T) a0 a1 h = r) (hr : r ≠ .fail) : J170 T 1 [a0, a1] h = r := fj_step (by kernel_rfl) e hr
def js171 : List Jn := [⟨[], [0, 1, 2, 3]⟩, ⟨[0, 1], [0, 2, 3, 5, 8]⟩, ⟨[1, 1, 1, 1, 1, 1, 0, 0, 0, 1], [0, 2, 3, 5, 8, 11, 12, 13]⟩]
noncomputable def J171 (T : Tab) : Rec := fj Tryz.prog (CL T) Tryz.f171 js171
noncomputable def t171_0 (cf : CallF) (R : Rec) (a0 a1 a2 a3 : IV) (h : H) : CRes :=
 obind2 (newI h (IV.cells a1)) fun x1 h2 =>
 obind2 (newI h2 z0) fun x3 h4 =>
 R 1 [a0, a2, a3, x1, x3] h4
theorem e171_0 {a0 a1 a2 a3 : IV} (e : t171_0 (CL T) (J171 T) a0 a1 a2 a3 h = r) (hr : r ≠ .fail) : J171 T 0 [a0, a1, a2, a3] h = r := fj_step (by kernel_rfl) e hr
noncomputable def t171_1 (cf : CallF) (R : Rec) (a0 a2 a3 a5 a8 : IV) (h : H) : CRes :=
 callP (cf 130 [a0] h) .pan fun x5 h6 =>
 obind (extractI x5 0) fun x7 =>
 obind (extractI x5 1) fun x8 =>
 callP (cf 204 [x7] h6) .pan fun x9 h10 =>
 obind (extractI x9 0) fun x11 =>
 obind (extractI x9 1) fun x12 =>
 obind (binN .lss x11 a2) fun x13 =>
 spanK x13 false h10 (fun k14 =>
 obind (binN .eql x11 (.int .i64 0)) fun x17 =>
 k14 x17 h10) fun x15 h16 =>
 obind (pickI x13 (some (.bool true)) (some x15)) fun x18 =>
 condK x18
 (obind (ldA 6 h16 a5) fun x19 =>
 obindH (stA 6 h16 a8 x19) fun h20 =>
 obind (ldA 6 h20 a8) fun x21 =>
 .ok x21 h20)
 (callP (cf 131 [a0] h16) .pan fun x22 h23 =>
 obind2 (bslK false 1 [(.str ⟨0, 0⟩)] 1 [(0, x7)] h23) fun x24 h25 =>
 callP (cf 132 [a0, x24] h25) .pan fun x26 h27 =>
 callP (cf 203 [a0, (.bool true)] h27) .pan fun x28 h29 =>
 obind (unI .not x28) fun x30 =>
 condK x30
 (callP (cf 169 [a0, (.int .i64 40)] h29) .pan fun x31 h32 =>
 R 2 [a0, a2, a3, a5, a8, x11, x12, x22] h32)
 (R 2 [a0, a2, a3, a5, a8, x11, x12, x22] h29))
theorem e171_1 {a0 a2 a3 a5 a8 : IV} (e : t171_1 (CL T) (J171 T) a0 a2 a3 a5 a8 h = r) (hr : r ≠ .fail) : J171 T 1 [a0, a2, a3, a5, a8] h = r := fj_step (by kernel_rfl) e hr
noncomputable def t171_2 (cf : CallF) (R : Rec) (a0 a2 a3 a5 a8 a11 a12 a13 : IV) (h : H) : CRes :=
 callP (cf 172 [a0, a3] h) .pan fun x33 h34 =>
 obind (binN .add a11 (.int .i64 1)) fun x35 =>
 callP (cf 171 [a0, x33, x35, a3] h34) .pan fun x36 h37 =>
 obind2 (newI h37 z0) fun x38 h39 =>
 obindH (stA 6 h39 x38 x36) fun h40 =>
 obind (ldA 6 h40 a5) fun x41 =>
 obind (ldA 6 h40 x38) fun x42 =>
 obind2 (bslK false 6 z0 2 [(0, x41), (1, x42)] h40) fun x43 h44 =>
 obind (bldK z0 p1 [(0, a12), (4, x43), (5, a13)]) fun x45 =>
 obindH (stA 6 h44 a5 x45) fun h46 =>
 R 1 [a0, a2, a3, a5, a8] h46
theorem e171_2 {a0 a2 a3 a5 a8 a11 a12 a13 : IV} (e : t171_2 (CL T) (J171 T) a0 a2 a3 a5 a8 a11 a12 a13 h = r) (hr : r ≠ .fail) : J171 T 2 [a0, a2, a3, a5, a8, a11, a12, a13] h = r := fj_step (by kernel_rfl) e hr
def js172 : List Jn := [⟨[], [0, 1]⟩]
noncomputable def J172 (T : Tab) : Rec := fj Tryz.prog (CL T) Tryz.f172 js172
noncomputable def t172_0 (cf : CallF) (R : Rec) (a0 a1 : IV) (h : H) : CRes :=
 obind2 (newI h z0) fun x1 h2 =>
 callP (cf 131 [a0] h2) .pan fun x3 h4 =>
 callP (cf 130 [a0] h4) .pan fun x5 h6 =>
 obind (extractI x5 0) fun x7 =>
 obind (extractI x5 1) fun x8 =>
 callP (cf 205 [x7] h6) .pan fun x9 h10 =>
 obind (binN .gtr x9 (.int .i64 0)) fun x11 =>
 condK x11
 (obind2 (bslK false 1 [(.str ⟨0, 0⟩)] 1 [(0, x7)] h10) fun x12 h13 =>
 callP (cf 132 [a0, x12] h13) .pan fun x14 h15 =>
 obind (binN .add a1 (.int .i64 1)) fun x16 =>
 callP (cf 170 [a0, x16] h15) .pan fun x17 h18 =>
 callP (cf 205 [x7] h18) .pan fun x19 h20 =>
 obind (binN .add a1 (.int .i64 1)) fun x21 =>
 callP (cf 172 [a0, x21] h20) .pan fun x22 h23 =>
 obind2 (bslK false 6 z0 1 [(0, x22)] h23) fun x24 h25 =>
 obind (bldK z0 p1 [(0, x19), (4, x24), (5, x3)]) fun x26 =>
 obindH (stA 6 h25 x1 x26) fun h27 =>
 obind (ldA 6 h27 x1) fun x28 =>
 .ok x28 h27)
 (callP (cf 206 [a0, a1] h10) .pan fun x29 h30 =>
 obindH (stA 6 h30 x1 x29) fun h31 =>
 obind (ldA 6 h31 x1) fun x32 =>
 .ok x32 h31)
theorem e172_0 {a0 a1 : IV} (e : t172_0 (CL T) (J172 T) a0 a1 h = r) (hr : r ≠ .fail) : J172 T 0 [a0, a1] h = r := fj_step (by kernel_rfl) e hr
def js173 : List Jn := [⟨[], [0]⟩]
noncomputable def J173 (T : Tab) : Rec := fj Tryz.prog (CL T) Tryz.f173 js173
noncomputable def t173_0 (cf : CallF) (R : Rec) (a0 : IV) (h : H) : CRes :=
 obind2 (newI h z0) fun x1 h2 =>
 obind2 (newI h2 z0) fun x3 h4 =>
 callP (cf 134 [a0, (.str ⟨1, 91⟩)] h4) .pan fun x5 h6 =>
 obind (unI .not x5) fun x7 =>
 condK x7
 (obind (ldA 6 h6 x1) fun x8 =>
 obind (ldA 6 h6 x3) fun x9 =>
 obindH (stA 6 h6 x1 x8) fun h10 =>
 obind (ldA 6 h10 x3) fun x11 =>
 bif IV.beq x11 x9 then
 obindH (stA 6 h10 x3 x9) fun h12 =>
 obind (ldA 6 h12 x1) fun x13 =>
 obind (ldA 6 h12 x3) fun x14 =>
 .ok (.tup [(.bool false), x13, x14]) h12
 else .fail)
 (callP (cf 135 [a0, (.int .i64 1)] h6) .pan fun x15 h16 =>
 obindH (stA 6 h16 x1 x15) fun h17 =>
 obind2 (bslK false 1 [(.str ⟨0, 0⟩)] 1 [(0, (.str ⟨1, 58⟩))] h17) fun x18 h19 =>
 callP (cf 132 [a0, x18] h19) .pan fun x20 h21 =>
 callP (cf 135 [a0, (.int .i64 1)] h21) .pan fun x22 h23 =>
 obindH (stA 6 h23 x3 x22) fun h24 =>
 obind2 (bslK false 1 [(.str ⟨0, 0⟩)] 1 [(0, (.str ⟨1, 93⟩))] h24) fun x25 h26 =>
 callP (cf 132 [a0, x25] h26) .pan fun x27 h28 =>
 obind (ldA 6 h28 x1) fun x29 =>
 obind (ldA 6 h28 x3) fun x30 =>
 obindH (stA 6 h28 x1 x29) fun h31 =>
 obind (ldA 6 h31 x3) fun x32 =>
 bif IV.beq x32 x30 then
 obindH (stA 6 h31 x3 x30) fun h33 =>
 obind (ldA 6 h33 x1) fun x34 =>
 obind (ldA 6 h33 x3) fun x35 =>
 .ok (.tup [(.bool true), x34, x35]) h33
 else .fail)
theorem e173_0 {a0 : IV} (e : t173_0 (CL T) (J173 T) a0 h = r) (hr : r ≠ .fail) : J173 T 0 [a0] h = r := fj_step (by kernel_rfl) e hr
def js174 : List Jn := [⟨[], [0, 1]⟩, ⟨[1, 1, 1], [4, 5]⟩, ⟨[1, 1, 1, 1, 1, 1, 1, 1, 1, 1, 1, 1, 1, 1, 0, 0, 1, 1], [0, 4, 5]⟩, ⟨[1, 1, 1, 1, 1, 1, 1, 1, 1, 1, 1, 1, 1, 1, 1, 1, 1, 0, 0, 1, 1], [0, 4, 5]⟩]
noncomputable def J174 (T : Tab) : Rec := fj Tryz.prog (CL T) Tryz.f174 js174
noncomputable def t174_0 (cf : CallF) (R : Rec) (a0 a1 : IV) (h : H) : CRes :=
 obind2 (newI h z7) fun x1 h2 =>
 callP (cf 131 [a0] h2) .pan fun x3 h4 =>
 obind (bldK z7 p13 [(17, x3)]) fun x5 =>
 obind2 (newI h4 z7) fun x6 h7 =>
 obindH (stA 48 h7 x6 x5) fun h8 =>
 callP (cf 134 [a0, (.str ⟨4, 1701996919⟩)] h8) .pan fun x9 h10 =>
 condK x9
 (obind (fadK 0 x6) fun x11 =>
 obindH (stA 1 h10 x11 (.int .i64 1)) fun h12 =>
 callP (cf 207 [a0, x6] h12) .pan fun x13 h14 =>
 R 1 [x1, x6] h14)
 (callP (cf 134 [a0, (.str ⟨3, 6776178⟩)] h10) .pan fun x15 h16 =>
 condK x15
 (obind (fadK 0 x6) fun x17 =>
 obindH (stA 1 h16 x17 (.int .i64 2)) fun h18 =>
 callP (cf 207 [a0, x6] h18) .pan fun x19 h20 =>
 R 1 [x1, x6] h20)
 (callP (cf 134 [a0, (.str ⟨10, 516535522800345012203372⟩)] h16) .pan fun x21 h22 =>
 condK x21
 (callP (cf 133 [a0] h22) .pan fun x23 h24 =>
 obind (fadK 0 x6) fun x25 =>
 obindH (stA 1 h24 x25 (.int .i64 3)) fun h26 =>
 obind (fadK 1 x6) fun x27 =>
 obindH (stA 1 h26 x27 x23) fun h28 =>
 obind2 (bslK false 1 [(.str ⟨0, 0⟩)] 1 [(0, (.str ⟨1, 61⟩))] h28) fun x29 h30 =>
 callP (cf 132 [a0, x29] h30) .pan fun x31 h32 =>
 callP (cf 135 [a0, (.int .i64 1)] h32) .pan fun x33 h34 =>
 obind (fadK 23 x6) fun x35 =>
 obindH (stA 6 h34 x35 x33) fun h36 =>
 obind2 (bslK false 1 [(.str ⟨0, 0⟩)] 1 [(0, (.str ⟨1, 59⟩))] h36) fun x37 h38 =>
 callP (cf 132 [a0, x37] h38) .pan fun x39 h40 =>
 R 1 [x1, x6] h40)
 (callP (cf 134 [a0, (.str ⟨6, 121390429860705⟩)] h22) .pan fun x41 h42 =>
 condK x41
 (callP (cf 208 [a0, x6] h42) .pan fun x43 h44 =>
 R 1 [x1, x6] h44)
 (callP (cf 134 [a0, (.str ⟨6, 126965163453537⟩)] h42) .pan fun x45 h46 =>
 condK x45
 (callP (cf 209 [a0, x6] h46) .pan fun x47 h48 =>
 R 1 [x1, x6] h48)
 (callP (cf 134 [a0, (.str ⟨3, 7499622⟩)] h46) .pan fun x49 h50 =>
 condK x49
 (callP (cf 210 [a0, x6, a1] h50) .pan fun x51 h52 =>
 R 1 [x1, x6] h52)
 (callP (cf 133 [a0] h50) .pan fun x53 h54 =>
 obind (fadK 0 x6) fun x55 =>
 obindH (stA 1 h54 x55 (.int .i64 7)) fun h56 =>
 obind (fadK 42 x6) fun x57 =>
 obindH (stA 1 h56 x57 x53) fun h58 =>
 callP (cf 134 [a0, (.str ⟨1, 35⟩)] h58) .pan fun x59 h60 =>
 condK x59
 (obind2 (bslK false 1 [(.str ⟨0, 0⟩)] 1 [(0, (.str ⟨1, 40⟩))] h60) fun x61 h62 =>
 callP (cf 132 [a0, x61] h62) .pan fun x63 h64 =>
 callP (cf 211 [a0] h64) .pan fun x65 h66 =>
 obind (fadK 43 x6) fun x67 =>
 obindH (stA 1 h66 x67 x65) fun h68 =>
 R 2 [a0, x1, x6] h68)
 (R 2 [a0, x1, x6] h60)))))))
theorem e174_0 {a0 a1 : IV} (e : t174_0 (CL T) (J174 T) a0 a1 h = r) (hr : r ≠ .fail) : J174 T 0 [a0, a1] h = r := fj_step (by kernel_rfl) e hr
noncomputable def t174_1 (cf : CallF) (R : Rec) (a4 a5 : IV) (h : H) : CRes :=
 obind (ldA 48 h a5) fun x69 =>
 obindH (stA 48 h a4 x69) fun h70 =>
 obind (ldA 48 h70 a4) fun x71 =>
 .ok x71 h70
theorem e174_1 {a4 a5 : IV} (e : t174_1 (CL T) (J174 T) a4 a5 h = r) (hr : r ≠ .fail) : J174 T 1 [a4, a5] h = r := fj_step (by kernel_rfl) e hr
noncomputable def t174_2 (cf : CallF) (R : Rec) (a0 a4 a5 : IV) (h : H) : CRes :=
 callP (cf 133 [a0] h) .pan fun x72 h73 =>
 obind (fadK 1 a5) fun x74 =>
 obindH (stA 1 h73 x74 x72) fun h75 =>
 obind2 (bslK false 1 [(.str ⟨0, 0⟩)] 1 [(0, (.str ⟨1, 40⟩))] h75) fun x76 h77 =>
 callP (cf 132 [a0, x76] h77) .pan fun x78 h79 =>
 callP (cf 134 [a0, (.str ⟨1, 41⟩)] h79) .pan fun x80 h81 =>
 obind (unI .not x80) fun x82 =>
 condK x82
 (callP (cf 211 [a0] h81) .pan fun x83 h84 =>
 obind (fadK 44 a5) fun x85 =>
 obindH (stA 1 h84 x85 x83) fun h86 =>
 R 3 [a0, a4, a5] h86)
 (R 3 [a0, a4, a5] h81)
theorem e174_2 {a0 a4 a5 : IV} (e : t174_2 (CL T) (J174 T) a0 a4 a5 h = r) (hr : r ≠ .fail) : J174 T 2 [a0, a4, a5] h = r := fj_step (by kernel_rfl) e hr
noncomputable def t174_3 (cf : CallF) (R : Rec) (a0 a4 a5 : IV) (h : H) : CRes :=
 obind2 (bslK false 1 [(.str ⟨0, 0⟩)] 1 [(0, (.str ⟨1, 59⟩))] h) fun x87 h88 =>
 callP (cf 132 [a0, x87] h88) .pan fun x89 h90 =>
 R 1 [a4, a5] h90
theorem e174_3 {a0 a4 a5 : IV} (e : t174_3 (CL T) (J174 T) a0 a4 a5 h = r) (hr : r ≠ .fail) : J174 T 3 [a0, a4, a5] h = r := fj_step (by kernel_rfl) e hr
def js187 : List Jn := [⟨[], []⟩]
noncomputable def J187 (T : Tab) : Rec := fj Tryz.prog (CL T) Tryz.f187 js187
noncomputable def t187_0 (cf : CallF) (R : Rec) (h : H) : CRes :=
 obind2 (bslK false 1 [(.str ⟨0, 0⟩)] 19 [(0, (.str ⟨6, 111516500389741⟩)), (1, (.str ⟨9, 1870936414602775522917⟩)), (2, (.str ⟨5, 500186508905⟩)), (3, (.str ⟨6, 128047746676079⟩)), (4, (.str ⟨3, 6776178⟩)), (5, (.str ⟨4, 1701996919⟩)), (6, (.str ⟨9, 2110239404018478768496⟩)), (7, (.str ⟨10, 516535522800345012203372⟩)), (8, (.str ⟨6, 121390429860705⟩)), (9, (.str ⟨6, 126965163453537⟩)), (10, (.str ⟨7, 28542653544230768⟩)), (11, (.str ⟨5, 474214786402⟩)), (12, (.str ⟨3, 6581861⟩)), (13, (.str ⟨2, 26217⟩)), (14, (.str ⟨4, 1702063205⟩)), (15, (.str ⟨4, 1702060387⟩)), (16, (.str ⟨7, 28555834764324453⟩)), (17, (.str ⟨7, 32770348699510116⟩)), (18, (.str ⟨3, 7499622⟩))] h) fun x1 h2 =>
 .ok x1 h2
theorem e187_0 (e : t187_0 (CL T) (J187 T) h = r) (hr : r ≠ .fail) : J187 T 0 [] h = r := fj_step (by kernel_rfl) e hr
def js203 : List Jn := [⟨[], [0, 1]⟩]
noncomputable def J203 (T : Tab) : Rec := fj Tryz.prog (CL T) Tryz.f203 js203
noncomputable def t203_0 (cf : CallF) (R : Rec) (a0 a1 : IV) (h : H) : CRes :=
 callP (cf 130 [a0] h) .pan fun x1 h2 =>
 obind (extractI x1 0) fun x3 =>
 obind (extractI x1 1) fun x4 =>
 obind2 (bslK false 1 [(.str ⟨0, 0⟩)] 4 [(0, (.str ⟨5, 435626798624⟩)), (1, (.str ⟨7, 32199620762627616⟩)), (2, (.str ⟨1, 40⟩)), (3, (.str ⟨1, 123⟩))] h2) fun x5 h6 =>
 callP (cf 99 [a0, x5] h6) .pan fun x7 h8 =>
 spanK x7 false h8 (fun k9 =>
 k9 a1 h8) fun x10 h11 =>
 spanK x10 true h11 (fun k12 =>
 callP (cf 205 [x3] h11) .pan fun x15 h16 =>
 obind (binN .gtr x15 (.int .i64 0)) fun x17 =>
 k12 x17 h16) fun x13 h14 =>
 spanK x7 false h14 (fun k18 =>
 obind (pickI x10 (some x13) (some (.bool false))) fun x21 =>
 k18 x21 h14) fun x19 h20 =>
 obind (pickI x7 (some (.bool true)) (some x19)) fun x22 =>
 .ok x22 h20
theorem e203_0 {a0 a1 : IV} (e : t203_0 (CL T) (J203 T) a0 a1 h = r) (hr : r ≠ .fail) : J203 T 0 [a0, a1] h = r := fj_step (by kernel_rfl) e hr
def js204 : List Jn := [⟨[], [0]⟩]
noncomputable def J204 (T : Tab) : Rec := fj Tryz.prog (CL T) Tryz.f204 js204
noncomputable def t204_0 (cf : CallF) (R : Rec) (a0 : IV) (h : H) : CRes :=
 obind (binS .eql a0 (.str ⟨2, 31868⟩)) fun x1 =>
 condK x1
 (.ok (.tup [(.int .i64 1), (.int .i64 27)]) h)
 (obind (binS .eql a0 (.str ⟨2, 9766⟩)) fun x2 =>
 condK x2
 (.ok (.tup [(.int .i64 2), (.int .i64 26)]) h)
 (obind (binS .eql a0 (.str ⟨1, 124⟩)) fun x3 =>
 condK x3
 (.ok (.tup [(.int .i64 3), (.int .i64 25)]) h)
 (obind (binS .eql a0 (.str ⟨1, 94⟩)) fun x4 =>
 condK x4
 (.ok (.tup [(.int .i64 4), (.int .i64 24)]) h)
 (obind (binS .eql a0 (.str ⟨1, 38⟩)) fun x5 =>
 condK x5
 (.ok (.tup [(.int .i64 5), (.int .i64 23)]) h)
 (obind (binS .eql a0 (.str ⟨2, 15677⟩)) fun x6 =>
 condK x6
 (.ok (.tup [(.int .i64 6), (.int .i64 21)]) h)
 (obind (binS .eql a0 (.str ⟨2, 15649⟩)) fun x7 =>
 condK x7
 (.ok (.tup [(.int .i64 6), (.int .i64 22)]) h)
 (obind (binS .eql a0 (.str ⟨1, 60⟩)) fun x8 =>
 condK x8
 (.ok (.tup [(.int .i64 7), (.int .i64 17)]) h)
 (obind (binS .eql a0 (.str ⟨2, 15676⟩)) fun x9 =>
 condK x9
 (.ok (.tup [(.int .i64 7), (.int .i64 18)]) h)
 (obind (binS .eql a0 (.str ⟨1, 62⟩)) fun x10 =>
 condK x10
 (.ok (.tup [(.int .i64 7), (.int .i64 19)]) h)
 (obind (binS .eql a0 (.str ⟨2, 15678⟩)) fun x11 =>
 condK x11
 (.ok (.tup [(.int .i64 7), (.int .i64 20)]) h)
 (obind (binS .eql a0 (.str ⟨2, 15420⟩)) fun x12 =>
 condK x12
 (.ok (.tup [(.int .i64 8), (.int .i64 15)]) h)
 (obind (binS .eql a0 (.str ⟨2, 15934⟩)) fun x13 =>
 condK x13
 (.ok (.tup [(.int .i64 8), (.int .i64 16)]) h)
 (obind (binS .eql a0 (.str ⟨1, 43⟩)) fun x14 =>
 condK x14
 (.ok (.tup [(.int .i64 9), (.int .i64 13)]) h)
 (obind (binS .eql a0 (.str ⟨1, 45⟩)) fun x15 =>
 condK x15
 (.ok (.tup [(.int .i64 9), (.int .i64 14)]) h)
 (.ok (.tup [(.int .i64 0), (.int .i64 0)]) h)))))))))))))))
theorem e204_0 {a0 : IV} (e : t204_0 (CL T) (J204 T) a0 h = r) (hr : r ≠ .fail) : J204 T 0 [a0] h = r := fj_step (by kernel_rfl) e hr
def js205 : List Jn := [⟨[], [0]⟩]
noncomputable def J205 (T : Tab) : Rec := fj Tryz.prog (CL T) Tryz.f205 js205
noncomputable def t205_0 (cf : CallF) (R : Rec) (a0 : IV) (h : H) : CRes :=
 obind (binS .eql a0 (.str ⟨1, 126⟩)) fun x1 =>
 condK x1
 (.ok (.int .i64 7) h)
 (obind (binS .eql a0 (.str ⟨1, 33⟩)) fun x2 =>
 condK x2
 (.ok (.int .i64 8) h)
 (obind (binS .eql a0 (.str ⟨1, 45⟩)) fun x3 =>
 condK x3
 (.ok (.int .i64 9) h)
 (obind (binS .eql a0 (.str ⟨1, 38⟩)) fun x4 =>
 condK x4
 (.ok (.int .i64 10) h)
 (obind (binS .eql a0 (.str ⟨1, 124⟩)) fun x5 =>
 condK x5
 (.ok (.int .i64 11) h)
 (obind (binS .eql a0 (.str ⟨1, 94⟩)) fun x6 =>
 condK x6
 (.ok (.int .i64 12) h)
 (.ok (.int .i64 0) h))))))
theorem e205_0 {a0 : IV} (e : t205_0 (CL T) (J205 T) a0 h = r) (hr : r ≠ .fail) : J205 T 0 [a0] h = r := fj_step (by kernel_rfl) e hr
def js206 : List Jn := [⟨[], [0, 1]⟩, ⟨[0, 1, 0, 1, 0, 1, 1, 1, 1, 1, 0, 1, 0, 1, 1], [0, 1, 4, 12, 13]⟩, ⟨[1, 1, 1, 1, 1], [4, 14]⟩, ⟨[1, 1, 0, 1, 0, 1, 1, 1, 1], [0, 4, 14]⟩]
noncomputable def J206 (T : Tab) : Rec := fj Tryz.prog (CL T) Tryz.f206 js206
noncomputable def t206_0 (cf : CallF) (R : Rec) (a0 a1 : IV) (h : H) : CRes :=
 obind2 (newI h z0) fun x1 h2 =>
 callP (cf 131 [a0] h2) .pan fun x3 h4 =>
 callP (cf 130 [a0] h4) .pan fun x5 h6 =>
 obind (extractI x5 0) fun x7 =>
 obind (extractI x5 1) fun x8 =>
 callP (cf 134 [a0, (.str ⟨7, 32199620762627616⟩)] h6) .pan fun x9 h10 =>
 condK x9
 (callP (cf 128 [x8] h10) .pan fun x11 h12 =>
 obind (extractI x11 0) fun x13 =>
 obind (extractI x11 1) fun x14 =>
 obind (extractI x11 2) fun x15 =>
 obind (bldK z0 p1 [(0, (.int .i64 1)), (2, x13), (3, x14), (5, x3)]) fun x16 =>
 obindH (stA 6 h12 x1 x16) fun h17 =>
 obind (ldA 6 h17 x1) fun x18 =>
 .ok x18 h17)
 (callP (cf 134 [a0, (.str ⟨1, 40⟩)] h10) .pan fun x19 h20 =>
 condK x19
 (obind (binN .add a1 (.int .i64 1)) fun x21 =>
 callP (cf 135 [a0, x21] h20) .pan fun x22 h23 =>
 obind2 (newI h23 z0) fun x24 h25 =>
 obindH (stA 6 h25 x24 x22) fun h26 =>
 obind2 (bslK false 1 [(.str ⟨0, 0⟩)] 1 [(0, (.str ⟨1, 41⟩))] h26) fun x27 h28 =>
 callP (cf 132 [a0, x27] h28) .pan fun x29 h30 =>
 obind (ldA 6 h30 x24) fun x31 =>
 obindH (stA 6 h30 x1 x31) fun h32 =>
 obind (ldA 6 h32 x1) fun x33 =>
 .ok x33 h32)
 (callP (cf 134 [a0, (.str ⟨1, 123⟩)] h20) .pan fun x34 h35 =>
 condK x34
 (obind (bldK z0 p1 [(0, (.int .i64 5)), (5, x3)]) fun x36 =>
 obind2 (newI h35 z0) fun x37 h38 =>
 obindH (stA 6 h38 x37 x36) fun h39 =>
 R 1 [a0, a1, x1, x37, (.bool true)] h39)
 (callP (cf 133 [a0] h35) .pan fun x40 h41 =>
 obind (bldK z0 p1 [(0, (.int .i64 2)), (1, x40), (5, x3)]) fun x42 =>
 obind2 (newI h41 z0) fun x43 h44 =>
 obindH (stA 6 h44 x43 x42) fun h45 =>
 callP (cf 134 [a0, (.str ⟨1, 91⟩)] h45) .pan fun x46 h47 =>
 condK x46
 (obind (binN .add a1 (.int .i64 1)) fun x48 =>
 callP (cf 135 [a0, x48] h47) .pan fun x49 h50 =>
 obind2 (bslK false 6 z0 1 [(0, x49)] h50) fun x51 h52 =>
 obind (fadK 0 x43) fun x53 =>
 obindH (stA 1 h52 x53 (.int .i64 3)) fun h54 =>
 obind (fadK 4 x43) fun x55 =>
 obindH (stA 1 h54 x55 x51) fun h56 =>
 callP (cf 134 [a0, (.str ⟨1, 58⟩)] h56) .pan fun x57 h58 =>
 condK x57
 (obind (fadK 4 x43) fun x59 =>
 obind (ld0 h58 x59) fun x60 =>
 obind (binN .add a1 (.int .i64 1)) fun x61 =>
 callP (cf 135 [a0, x61] h58) (fun v62 h63 =>
 obind (fadK 0 x43) fun x64 =>
 .pan v62 h63) fun x65 h66 =>
 obind (ld0 h66 x59) fun x67 =>
 bif IV.beq x67 x60 then
 obind2 (bslK false 6 z0 1 [(0, x65)] h66) fun x68 h69 =>
 obind (ld0 h69 x59) fun x70 =>
 bif IV.beq x70 x60 then
 obind2 (appK 6 80 h69 x60 x68) fun x71 h72 =>
 obind (fadK 0 x43) fun x73 =>
 obindH (stA 1 h72 x73 (.int .i64 4)) fun h74 =>
 obind (fadK 4 x43) fun x75 =>
 obindH (stA 1 h74 x75 x71) fun h76 =>
 R 3 [a0, x1, x43] h76
 else .fail
 else .fail)
 (R 3 [a0, x1, x43] h58))
 (R 2 [x1, x43] h47))))
theorem e206_0 {a0 a1 : IV} (e : t206_0 (CL T) (J206 T) a0 a1 h = r) (hr : r ≠ .fail) : J206 T 0 [a0, a1] h = r := fj_step (by kernel_rfl) e hr
noncomputable def t206_1 (cf : CallF) (R : Rec) (a0 a1 a4 a12 a13 : IV) (h : H) : CRes :=
 condK a13
 (obind (fadK 4 a12) fun x77 =>
 obind (ld0 h x77) fun x78 =>
 obind (binN .add a1 (.int .i64 1)) fun x79 =>
 callP (cf 135 [a0, x79] h) (fun v80 h81 =>
 .pan v80 h81) fun x82 h83 =>
 obind (ld0 h83 x77) fun x84 =>
 bif IV.beq x84 x78 then
 obind2 (bslK false 6 z0 1 [(0, x82)] h83) fun x85 h86 =>
 obind (ld0 h86 x77) fun x87 =>
 bif IV.beq x87 x78 then
 obind2 (appK 6 80 h86 x78 x85) fun x88 h89 =>
 obind (fadK 4 a12) fun x90 =>
 obindH (stA 1 h89 x90 x88) fun h91 =>
 callP (cf 134 [a0, (.str ⟨1, 44⟩)] h91) .pan fun x92 h93 =>
 R 1 [a0, a1, a4, a12, x92] h93
 else .fail
 else .fail)
 (obind2 (bslK false 1 [(.str ⟨0, 0⟩)] 1 [(0, (.str ⟨1, 125⟩))] h) fun x94 h95 =>
 callP (cf 132 [a0, x94] h95) .pan fun x96 h97 =>
 obind (ldA 6 h97 a12) fun x98 =>
 obindH (stA 6 h97 a4 x98) fun h99 =>
 obind (ldA 6 h99 a4) fun x100 =>
 .ok x100 h99)
theorem e206_1 {a0 a1 a4 a12 a13 : IV} (e : t206_1 (CL T) (J206 T) a0 a1 a4 a12 a13 h = r) (hr : r ≠ .fail) : J206 T 1 [a0, a1, a4, a12, a13] h = r := fj_step (by kernel_rfl) e hr
noncomputable def t206_2 (cf : CallF) (R : Rec) (a4 a14 : IV) (h : H) : CRes :=
 obind (ldA 6 h a14) fun x101 =>
 obindH (stA 6 h a4 x101) fun h102 =>
 obind (ldA 6 h102 a4) fun x103 =>
 .ok x103 h102
theorem e206_2 {a4 a14 : IV} (e : t206_2 (CL T) (J206 T) a4 a14 h = r) (hr : r ≠ .fail) : J206 T 2 [a4, a14] h = r := fj_step (by kernel_rfl) e hr
noncomputable def t206_3 (cf : CallF) (R : Rec) (a0 a4 a14 : IV) (h : H) : CRes :=
 obind2 (bslK false 1 [(.str ⟨0, 0⟩)] 1 [(0, (.str ⟨1, 93⟩))] h) fun x104 h105 =>
 callP (cf 132 [a0, x104] h105) .pan fun x106 h107 =>
 R 2 [a4, a14] h107
theorem e206_3 {a0 a4 a14 : IV} (e : t206_3 (CL T) (J206 T) a0 a4 a14 h = r) (hr : r ≠ .fail) : J206 T 3 [a0, a4, a14] h = r := fj_step (by kernel_rfl) e hr
def js208 : List Jn := [⟨[], [0, 1]⟩, ⟨[1, 1], [0, 1]⟩, ⟨[1, 0, 1, 0, 1], [0, 1]⟩]
noncomputable def J208 (T : Tab) : Rec := fj Tryz.prog (CL T) Tryz.f208 js208
noncomputable def t208_0 (cf : CallF) (R : Rec) (a0 a1 : IV) (h : H) : CRes :=
 obind (nilI a1) fun x1 =>
 obind (fadK 0 x1) fun x2 =>
 obindH (stA 1 h x2 (.int .i64 4)) fun h3 =>
 callP (cf 134 [a0, (.str ⟨1, 35⟩)] h3) .pan fun x4 h5 =>
 condK x4
 (callP (cf 203 [a0, (.bool false)] h5) .pan fun x6 h7 =>
 obind (unI .not x6) fun x8 =>
 condK x8
 (callP (cf 169 [a0, (.int .i64 40)] h7) .pan fun x9 h10 =>
 R 2 [a0, a1] h10)
 (R 2 [a0, a1] h7))
 (R 1 [a0, a1] h5)
theorem e208_0 {a0 a1 : IV} (e : t208_0 (CL T) (J208 T) a0 a1 h = r) (hr : r ≠ .fail) : J208 T 0 [a0, a1] h = r := fj_step (by kernel_rfl) e hr
noncomputable def t208_1 (cf : CallF) (R : Rec) (a0 a1 : IV) (h : H) : CRes :=
 callP (cf 133 [a0] h) .pan fun x11 h12 =>
 obind (nilI a1) fun x13 =>
 obind (fadK 1 x13) fun x14 =>
 obindH (stA 1 h12 x14 x11) fun h15 =>
 obind2 (bslK false 1 [(.str ⟨0, 0⟩)] 1 [(0, (.str ⟨1, 61⟩))] h15) fun x16 h17 =>
 callP (cf 132 [a0, x16] h17) .pan fun x18 h19 =>
 callP (cf 135 [a0, (.int .i64 1)] h19) .pan fun x20 h21 =>
 obind (nilI a1) fun x22 =>
 obind (fadK 23 x22) fun x23 =>
 obindH (stA 6 h21 x23 x20) fun h24 =>
 obind2 (bslK false 1 [(.str ⟨0, 0⟩)] 1 [(0, (.str ⟨1, 59⟩))] h24) fun x25 h26 =>
 callP (cf 132 [a0, x25] h26) .pan fun x27 h28 =>
 .ok (.tup []) h28
theorem e208_1 {a0 a1 : IV} (e : t208_1 (CL T) (J208 T) a0 a1 h = r) (hr : r ≠ .fail) : J208 T 1 [a0, a1] h = r := fj_step (by kernel_rfl) e hr
noncomputable def t208_2 (cf : CallF) (R : Rec) (a0 a1 : IV) (h : H) : CRes :=
 callP (cf 206 [a0, (.int .i64 1)] h) .pan fun x29 h30 =>
 obind (nilI a1) fun x31 =>
 obind (fadK 16 x31) fun x32 =>
 obindH (stA 1 h30 x32 (.bool true)) fun h33 =>
 obind (nilI a1) fun x34 =>
 obind (fadK 17 x34) fun x35 =>
 obindH (stA 6 h33 x35 x29) fun h36 =>
 R 1 [a0, a1] h36
theorem e208_2 {a0 a1 : IV} (e : t208_2 (CL T) (J208 T) a0 a1 h = r) (hr : r ≠ .fail) : J208 T 2 [a0, a1] h = r := fj_step (by kernel_rfl) e hr
end Go.Proofs.YtelhoddamlkfhaaGreatDoor
namespace Go.Proofs.YtelhoddamlkfhaaGreatDoor
open Go Go.Shelf
def lay219_ren : Go.Shelf.Ren := ⟨fun | 219 => 161 | 217 => 160 | 225 => 194 | 224 => 195 | 267 => 196 | 266 => 193 | 314 => 221 | n => n, fun | 9 => 9 | 3 => 3 | 4 => 4 | 5 => 5 | 46 => 196 | 146 => 230 | 51 => 225 | n => n, fun | 1 => 0 | n => n⟩
theorem lay219 : Go.Proofs.LaysM.n219 Tryz.prog lay219_ren where
  mixed := by kernel_rfl
  f217 := Tryz.func160.trans (congrArg some (by kernel_rfl))
  f219 := Tryz.func161.trans (congrArg some (by kernel_rfl))
  f224 := Tryz.func195.trans (congrArg some (by kernel_rfl))
  f225 := Tryz.func194.trans (congrArg some (by kernel_rfl))
  f266 := Tryz.func193.trans (congrArg some (by kernel_rfl))
  f267 := Tryz.func196.trans (congrArg some (by kernel_rfl))
  f314 := Tryz.func221.trans (congrArg some (by kernel_rfl))
  t3 := Tryz.underlying3
  a3 := Tryz.isAgg3
  z3 := Tryz.sizeOf3
  v3 := Tryz.zeroValue3
  t4 := Tryz.underlying4
  a4 := Tryz.isAgg4
  z4 := Tryz.sizeOf4
  v4 := Tryz.zeroValue4
  t5 := Tryz.underlying5
  a5 := Tryz.isAgg5
  z5 := Tryz.sizeOf5
  v5 := Tryz.zeroValue5
  t9 := Tryz.underlying9
  a9 := Tryz.isAgg9
  z9 := Tryz.sizeOf9
  v9 := Tryz.zeroValue9
  t46 := Tryz.underlying196
  a46 := Tryz.isAgg196
  z46 := Tryz.sizeOf196
  v46 := Tryz.zeroValue196
  t51 := Tryz.underlying225
  a51 := Tryz.isAgg225
  z51 := Tryz.sizeOf225
  v51 := Tryz.zeroValue225
  t146 := Tryz.underlying230
  a146 := Tryz.isAgg230
  z146 := Tryz.sizeOf230
  v146 := Tryz.zeroValue230
  g1 := by kernel_rfl
  i3 := by kernel_rfl
  i4 := by kernel_rfl
  i5 := by kernel_rfl
  i9 := by kernel_rfl
  i46 := by kernel_rfl
  i51 := by kernel_rfl
  i146 := by kernel_rfl
  m1 := by kernel_rfl
  s1_3 := fun w h => Go.Proofs.cell_of_shapedOpen_int (zero := #[.int .i64 0]) (t := 3) h (of_decide_eq_true (by kernel_rfl)) (by kernel_rfl) rfl (by kernel_rfl) (by kernel_rfl) Tryz.underlying3
end Go.Proofs.YtelhoddamlkfhaaGreatDoor
