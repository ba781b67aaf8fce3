import Derived.Test.YtimjkkcondljeaaGreatDoorChecked
import Derived.Test.YtimjkkcondljeaaGreatDoorM3
set_option maxRecDepth 100000
set_option linter.unusedVariables false
set_option linter.unusedSimpArgs false
namespace Go.Proofs.YtimjkkcondljeaaGreatDoor
open Go I
noncomputable abbrev CL (T : Tab) : CallF := call Tryz.prog T
theorem noNum : NoNum Tryz.prog := by
  intro f fn hf
  have h : (Tryz.prog.funcs.all fun fn => !(fn.name == "runtime.NumGoroutine")) = true := by kernel_rfl
  simpa using Array.all_eq_true_iff_forall_mem.1 h fn (Array.mem_of_getElem? hf)
variable {T : Tab} {h : H} {r : CRes}
def z0 : List IV := [.nilSlice, .nilSlice, (.int .i64 0)]
def p1 : List (Nat × Nat) := [(0, 1), (1, 1), (2, 1)]
def z2 : List IV := [.nilMap, .nilSlice, .nilSlice, (.int .i64 0), .nilMap, (.int .i64 0), (.int .i64 0)]
def p3 : List (Nat × Nat) := [(0, 1), (1, 3), (4, 1), (5, 1), (6, 1)]
def z4 : List IV := [(.str ⟨0, 0⟩), .nilSlice, .nilSlice, .nilSlice, (.int .i64 0)]
def z5 : List IV := [(.str ⟨0, 0⟩), (.int .i64 0), (.str ⟨0, 0⟩), (.str ⟨0, 0⟩), (.bool false), .nilSlice, (.int .i64 0), (.int .i64 0)]
def z6 : List IV := [(.str ⟨0, 0⟩), (.int .i64 0), (.int .i64 0)]
def z7 : List IV := [(.str ⟨0, 0⟩), .nilMap, .nilPtr, .nilPtr, (.int .i64 0)]
def p8 : List (Nat × Nat) := [(0, 2), (2, 1), (3, 1), (4, 1)]
def z9 : List IV := [(.bool false), (.bool false), (.bool false), (.int .i64 0), (.str ⟨0, 0⟩), (.str ⟨0, 0⟩), (.bool false), .nilSlice, (.int .i64 0), (.int .i64 0), (.str ⟨0, 0⟩), (.str ⟨0, 0⟩), (.bool false), .nilSlice, (.int .i64 0), (.str ⟨0, 0⟩), (.int .i64 0)]
def z10 : List IV := [(.int .i64 0), (.str ⟨0, 0⟩), .nilSlice, (.bool false), (.int .i64 0), (.str ⟨0, 0⟩), (.str ⟨0, 0⟩), (.bool false), .nilSlice, (.int .i64 0), (.int .i64 0), (.str ⟨0, 0⟩), (.str ⟨0, 0⟩), (.bool false), .nilSlice, (.int .i64 0), (.bool false), (.int .i64 0), (.str ⟨0, 0⟩), (.str ⟨0, 0⟩), (.bool false), .nilSlice, (.int .i64 0), (.int .i64 0), (.str ⟨0, 0⟩), (.str ⟨0, 0⟩), (.bool false), .nilSlice, (.int .i64 0), (.int .i64 0), (.str ⟨0, 0⟩), (.str ⟨0, 0⟩), (.bool false), .nilSlice, (.int .i64 0), (.int .i64 0), (.str ⟨0, 0⟩), (.str ⟨0, 0⟩), (.bool false), .nilSlice, (.int .i64 0), (.str ⟨0, 0⟩), (.str ⟨0, 0⟩), .nilSlice, .nilSlice, .nilSlice, .nilSlice, (.int .i64 0)]
def z11 : List IV := [(.int .i64 0), (.int .i64 0), (.int .i64 0), (.int .i64 0), (.int .i64 0), (.str ⟨0, 0⟩), (.str ⟨0, 0⟩), (.bool false), .nilSlice, (.int .i64 0), .nilSlice]
def p12 : List (Nat × Nat) := [(0, 1), (1, 1), (2, 1), (3, 1), (4, 6), (10, 1)]
def z13 : List IV := [(.int .i64 0), (.str ⟨0, 0⟩), (.int .i64 0)]
def z14 : List IV := [.nilSlice, (.int .i64 0), (.int .i64 0), (.int .i64 0)]
def p15 : List (Nat × Nat) := [(0, 1), (1, 1), (2, 2)]
def z16 : List IV := [(.int .i64 0), (.str ⟨0, 0⟩), (.str ⟨0, 0⟩), (.bool false), .nilSlice, (.int .i64 0)]
def p17 : List (Nat × Nat) := [(0, 1), (1, 1), (2, 1), (3, 1), (4, 1), (5, 1)]
def p18 : List (Nat × Nat) := [(0, 1), (1, 1), (2, 1), (3, 1), (4, 1)]
def p19 : List (Nat × Nat) := [(0, 1), (1, 6), (7, 1)]
def p20 : List (Nat × Nat) := [(0, 1), (1, 1), (2, 1), (3, 6), (9, 6), (15, 1), (16, 1)]
def p21 : List (Nat × Nat) := [(0, 1), (1, 1), (2, 1), (3, 1), (4, 6), (10, 6), (16, 1), (17, 6), (23, 6), (29, 6), (35, 6), (41, 1), (42, 1), (43, 1), (44, 1), (45, 1), (46, 1), (47, 1)]
def z22 : List IV := [(.bool false), (.bool false), (.bool false), (.bool false), (.bool false), (.bool false), (.bool false), (.bool false), (.bool false), (.bool false), (.bool false), (.bool false), (.bool false), (.bool false), (.bool false), (.bool false), (.bool false), (.bool false), (.bool false), (.bool false), (.bool false), (.bool false), (.bool false), (.bool false), (.bool false), (.bool false), (.bool false), (.bool false), (.bool false), (.bool false), (.bool false), (.bool false), (.bool false), (.bool false), (.bool false), (.bool false), (.bool false), (.bool false), (.bool false), (.bool false), (.bool false), (.bool false), (.bool false), (.bool false), (.bool false), (.bool false), (.bool false), (.bool false), (.bool false), (.bool false), (.bool false), (.bool false), (.bool false), (.bool false), (.bool false), (.bool false), (.bool false), (.bool false), (.bool false), (.bool false), (.bool false), (.bool false), (.bool false), (.bool false), (.bool false), (.bool false), (.bool false), (.bool false), (.bool false), (.bool false), (.bool false), (.bool false), (.bool false), (.bool false), (.bool false), (.bool false), (.bool false), (.bool false), (.bool false), (.bool false), (.bool false), (.bool false), (.bool false), (.bool false), (.bool false), (.bool false), (.bool false), (.bool false), (.bool false), (.bool false), (.bool false), (.bool false), (.bool false), (.bool false), (.bool false), (.bool false), (.bool false), (.bool false), (.bool false), (.bool false), (.bool false), (.bool false), (.bool false), (.bool false), (.bool false), (.bool false), (.bool false), (.bool false), (.bool false), (.bool false), (.bool false), (.bool false), (.bool false), (.bool false), (.bool false), (.bool false), (.bool false), (.bool false), (.bool false), (.bool false), (.bool false), (.bool false), (.bool false), (.bool false), (.bool false), (.bool false), (.bool false), (.bool false), (.bool false), (.bool false), (.bool false), (.bool false), (.bool false), (.bool false), (.bool false), (.bool false), (.bool false), (.bool false), (.bool false), (.bool false), (.bool false), (.bool false), (.bool false), (.bool false), (.bool false), (.bool false), (.bool false), (.bool false), (.bool false), (.bool false), (.bool false), (.bool false), (.bool false), (.bool false), (.bool false), (.bool false), (.bool false), (.bool false), (.bool false), (.bool false), (.bool false), (.bool false), (.bool false), (.bool false), (.bool false), (.bool false), (.bool false), (.bool false), (.bool false), (.bool false), (.bool false), (.bool false), (.bool false), (.bool false), (.bool false), (.bool false), (.bool false), (.bool false), (.bool false), (.bool false), (.bool false), (.bool false), (.bool false), (.bool false), (.bool false), (.bool false), (.bool false), (.bool false), (.bool false), (.bool false), (.bool false), (.bool false), (.bool false), (.bool false), (.bool false), (.bool false), (.bool false), (.bool false), (.bool false), (.bool false), (.bool false), (.bool false), (.bool false), (.bool false), (.bool false), (.bool false), (.bool false), (.bool false), (.bool false), (.bool false), (.bool false), (.bool false), (.bool false), (.bool false), (.bool false), (.bool false), (.bool false), (.bool false), (.bool false), (.bool false), (.bool false), (.bool false), (.bool false), (.bool false), (.bool false), (.bool false), (.bool false), (.bool false), (.bool false), (.bool false), (.bool false), (.bool false), (.bool false), (.bool false), (.bool false), (.bool false), (.bool false), (.bool false), (.bool false), (.bool false), (.bool false), (.bool false), (.bool false), (.bool false), (.bool false), (.bool false), (.bool false), (.bool false), (.bool false), (.bool false), (.bool false), (.bool false), (.bool false), (.bool false), (.bool false), (.bool false)]
def js3 : List Jn := [⟨[], [0]⟩, ⟨[0, 1, 0, 1, 1, 1], [3, 4, 5]⟩, ⟨[0, 1, 0, 1, 1, 1, 1, 1, 1, 1], [3, 6, 8, 9]⟩]
noncomputable def J3 (T : Tab) : Rec := fj Tryz.prog (CL T) Tryz.f3 js3
noncomputable def t3_0 (cf : CallF) (R : Rec) (a0 : IV) (h : H) : CRes :=
 obind (binN .and a0 (.int .i64 31)) fun x1 =>
 obind (binN .rem x1 (.int .i64 20)) fun x2 =>
 R 1 [x2, (.str ⟨58, 1934425782397992271362103357473152888963287078813908562939048253085999369380628355729689063135902783462526880103223200883948040172513554285⟩), (.int .i64 1)] h
theorem e3_0 {a0 : IV} (e : t3_0 (CL T) (J3 T) a0 h = r) (hr : r ≠ .fail) : J3 T 0 [a0] h = r := fj_step (by kernel_rfl) e hr
noncomputable def t3_1 (cf : CallF) (R : Rec) (a3 a4 a5 : IV) (h : H) : CRes :=
 obind (binN .leq a5 a3) fun x3 =>
 condK x3
 (obind (binS .add a4 (.str ⟨8, 7863396465889275757⟩)) fun x4 =>
 callP (cf 4 [a5] h) .pan fun x5 h6 =>
 obind (binS .add x4 x5) fun x7 =>
 obind (binS .add x7 (.str ⟨40, 910513724707183157634446038372530485620983696751458433006090911991831358097209658874321806304032⟩)) fun x8 =>
 obind (binN .sub a5 (.int .i64 1)) fun x9 =>
 callP (cf 4 [x9] h6) .pan fun x10 h11 =>
 obind (binS .add x8 x10) fun x12 =>
 obind (binS .add x12 (.str ⟨43, 1455300210748047054264536180097534289347653750433680626593758835584564380783190755746439520821365449504⟩)) fun x13 =>
 obind (binN .add a5 (.int .i64 1)) fun x14 =>
 R 1 [a3, x13, x14] h11)
 (callP (cf 6 [a4] h) .pan fun x15 h16 =>
 callP (cf 4 [a3] h16) .pan fun x17 h18 =>
 obind (binS .add (.str ⟨1, 109⟩) x17) fun x19 =>
 callP (cf 5 [x15, x19] h18) .pan fun x20 h21 =>
 obind (extractI x20 0) fun x22 =>
 obind (extractI x20 1) fun x23 =>
 obind2 (newI h21 z0) fun x24 h25 =>
 obindH (stA 3 h25 x24 x22) fun h26 =>
 obind (lenS x23) fun x27 =>
 obind (binN .gtr x27 (.int .i64 0)) fun x28 =>
 spanK x28 false h26 (fun k29 =>
 obind (fadK 0 x24) fun x32 =>
 obind (ld0 h26 x32) fun x33 =>
 obind (lenS x33) fun x34 =>
 obind (binN .add a3 (.int .i64 1)) fun x35 =>
 obind (binN .neq x34 x35) fun x36 =>
 k29 x36 h26) fun x30 h31 =>
 obind (pickI x28 (some (.bool true)) (some x30)) fun x37 =>
 spanK x37 false h31 (fun k38 =>
 obind (fadK 1 x24) fun x41 =>
 obind (ld0 h31 x41) fun x42 =>
 obind (lenS x42) fun x43 =>
 obind (binN .neq x43 a3) fun x44 =>
 k38 x44 h31) fun x39 h40 =>
 obind (pickI x37 (some (.bool true)) (some x39)) fun x45 =>
 spanK x45 false h40 (fun k46 =>
 obind (fadK 2 x24) fun x49 =>
 obind (ld0 h40 x49) fun x50 =>
 obind (binN .neq x50 (.int .i64 1)) fun x51 =>
 k46 x51 h40) fun x47 h48 =>
 obind (pickI x45 (some (.bool true)) (some x47)) fun x52 =>
 condK x52
 (.ok (.bool false) h48)
 (R 2 [a3, x24, (.str ⟨1, 97⟩), (.int .i64 0)] h48))
theorem e3_1 {a3 a4 a5 : IV} (e : t3_1 (CL T) (J3 T) a3 a4 a5 h = r) (hr : r ≠ .fail) : J3 T 1 [a3, a4, a5] h = r := fj_step (by kernel_rfl) e hr
noncomputable def t3_2 (cf : CallF) (R : Rec) (a3 a6 a8 a9 : IV) (h : H) : CRes :=
 obind (binN .leq a9 a3) fun x53 =>
 condK x53
 (obind (fadK 0 a6) fun x54 =>
 obind (ld0 h x54) fun x55 =>
 obind (ixS 3 x55 a9) fun x56 =>
 obind (fadK 0 x56) fun x57 =>
 obind (ld0 h x57) fun x58 =>
 obind (binS .neq x58 a8) fun x59 =>
 spanK x59 false h (fun k60 =>
 obind (fadK 0 a6) fun x63 =>
 obind (ld0 h x63) fun x64 =>
 obind (ixS 3 x64 a9) fun x65 =>
 obind (fadK 1 x65) fun x66 =>
 obind (ld0 h x66) fun x67 =>
 obind (binN .add a9 (.int .i64 1)) fun x68 =>
 obind (binN .neq x67 x68) fun x69 =>
 k60 x69 h) fun x61 h62 =>
 obind (pickI x59 (some (.bool true)) (some x61)) fun x70 =>
 condK x70
 (.ok (.bool false) h62)
 (obind (binS .add (.str ⟨2, 11893⟩) a8) fun x71 =>
 obind (binN .add a9 (.int .i64 1)) fun x72 =>
 R 2 [a3, a6, x71, x72] h62))
 (callP (cf 7 [] h) .pan fun x73 h74 =>
 .ok x73 h74)
theorem e3_2 {a3 a6 a8 a9 : IV} (e : t3_2 (CL T) (J3 T) a3 a6 a8 a9 h = r) (hr : r ≠ .fail) : J3 T 2 [a3, a6, a8, a9] h = r := fj_step (by kernel_rfl) e hr
theorem c3 (hT : OvStep T) (ho : T.ov 3 = none) (hp : T.pol 3 = true) {a0 : IV} (hg : Gd h) (e : t3_0 (CL T) (J3 T) a0 h = r) (hr : r ≠ .fail) : CL T 3 [a0] h = r := call_good ho Tryz.func3 rfl rfl rfl hp hg hT (e3_0 e hr) hr
def js4 : List Jn := [⟨[], [0]⟩, ⟨[0, 0, 1, 1], [0, 3]⟩]
noncomputable def J4 (T : Tab) : Rec := fj Tryz.prog (CL T) Tryz.f4 js4
noncomputable def t4_0 (cf : CallF) (R : Rec) (a0 : IV) (h : H) : CRes :=
 R 1 [a0, (.str ⟨0, 0⟩)] h
theorem e4_0 {a0 : IV} (e : t4_0 (CL T) (J4 T) a0 h = r) (hr : r ≠ .fail) : J4 T 0 [a0] h = r := fj_step (by kernel_rfl) e hr
noncomputable def t4_1 (cf : CallF) (R : Rec) (a0 a3 : IV) (h : H) : CRes :=
 obind (binN .gtr a0 (.int .i64 0)) fun x1 =>
 spanK x1 false h (fun k2 =>
 obind (binS .eql a3 (.str ⟨0, 0⟩)) fun x5 =>
 k2 x5 h) fun x3 h4 =>
 obind (pickI x1 (some (.bool true)) (some x3)) fun x6 =>
 condK x6
 (obind (binN .rem a0 (.int .i64 10)) fun x7 =>
 obind (binN .add (.int .i64 48) x7) fun x8 =>
 obind (cvN .u8 x8) fun x9 =>
 obind2 (bslK true 1 [(.int .u8 0)] 1 [(0, x9)] h4) fun x10 h11 =>
 obind (cvS h11 x10) fun x12 =>
 obind (binS .add x12 a3) fun x13 =>
 obind (binN .quo a0 (.int .i64 10)) fun x14 =>
 R 1 [x14, x13] h11)
 (.ok a3 h4)
theorem e4_1 {a0 a3 : IV} (e : t4_1 (CL T) (J4 T) a0 a3 h = r) (hr : r ≠ .fail) : J4 T 1 [a0, a3] h = r := fj_step (by kernel_rfl) e hr
def js5 : List Jn := [⟨[], [0, 1]⟩, ⟨[0, 1, 0, 1, 1, 1], [1, 4, 5, 7, 26, 27, 28]⟩, ⟨[0, 1, 0, 1, 1, 1, 1, 1, 1, 1, 1], [4, 5, 7, 10, 12, 58, 59, 60]⟩]
noncomputable def J5 (T : Tab) : Rec := fj Tryz.prog (CL T) Tryz.f5 js5
noncomputable def J5d (T : Tab) (d0 d1 : IV) : Rec := fj1 Tryz.prog (CL T) Tryz.f5 js5 9 [d0, d1]
noncomputable def t5_0 (cf : CallF) (R : Rec) (a0 a1 : IV) (h : H) : CRes :=
 obind2 (newI h z0) fun x1 h2 =>
 obind2 (newI h2 [.nilSlice]) fun x3 h4 =>
 callP (cf 8 [a0] h4) .pan fun x5 h6 =>
 obind (lenS x5) fun x7 =>
 obind (binN .gtr x7 (.int .i64 0)) fun x8 =>
 condK x8
 (obind (bldK z0 p1 []) fun x9 =>
 obindH (stA 3 h6 x1 x9) fun h10 =>
 obindH (stA 1 h10 x3 x5) fun h11 =>
 obind (ldA 3 h11 x1) fun x12 =>
 obind (ld0 h11 x3) fun x13 =>
 .ok (.tup [x12, x13]) h11)
 (mapK h6 fun x15 h14 =>
 mapK h14 fun x17 h16 =>
 obind (bldK z2 p3 [(0, x15), (2, x17)]) fun x18 =>
 obind2 (newI h16 (IV.cells x18)) fun x19 h20 =>
 obind (lenS a0) fun x21 =>
 R 1 [a1, x1, x3, x19, a0, x21, (.int .i64 0)] h20)
theorem e5_0 {a0 a1 : IV} (e : t5_0 (CL T) (J5 T) a0 a1 h = r) (hr : r ≠ .fail) : J5 T 0 [a0, a1] h = r := fj_step (by kernel_rfl) e hr
noncomputable def t5_1 (cf : CallF) (R : Rec) (a1 a4 a5 a7 a26 a27 a28 : IV) (h : H) : CRes :=
 obind (binN .lss a28 a27) fun x22 =>
 condK x22
 (obind (ixS 5 a26 a28) fun x23 =>
 obind (ldA 5 h x23) fun x24 =>
 obind2 (newI h z4) fun x25 h26 =>
 obindH (stA 5 h26 x25 x24) fun h27 =>
 obind (nilI a7) fun x28 =>
 obind (fadK 0 x28) fun x29 =>
 obind (ld0 h27 x29) fun x30 =>
 obind (fadK 0 x25) fun x31 =>
 obind (ld0 h27 x31) fun x32 =>
 obind (ldA 5 h27 x25) fun x33 =>
 obindH (mupK true h27 x30 x32 x33) fun h34 =>
 obind (binN .add a28 (.int .i64 1)) fun x35 =>
 R 1 [a1, a4, a5, a7, a26, a27, x35] h34)
 (obind (nilI a7) fun x36 =>
 obind (fadK 0 x36) fun x37 =>
 obind (ld0 h x37) fun x38 =>
 obind (lkK true (.agg z4) h x38 a1 true) fun x39 =>
 obind (extractI x39 0) fun x40 =>
 obind (extractI x39 1) fun x41 =>
 obind2 (newI h z4) fun x42 h43 =>
 obindH (stA 5 h43 x42 x40) fun h44 =>
 obind (unI .not x41) fun x45 =>
 condK x45
 (obind (bldK z0 p1 []) fun x46 =>
 obind (bldK [(.int .i64 0), (.int .i64 0)] [(0, 1), (1, 1)] [(1, (.int .i64 80))]) fun x47 =>
 obind2 (bslK false 2 [(.int .i64 0), (.int .i64 0)] 1 [(0, x47)] h44) fun x48 h49 =>
 obindH (stA 3 h49 a4 x46) fun h50 =>
 obindH (stA 1 h50 a5 x48) fun h51 =>
 obind (ldA 3 h51 a4) fun x52 =>
 obind (ld0 h51 a5) fun x53 =>
 .ok (.tup [x52, x53]) h51)
 (callP (cf 12 [] h44) (dfP (LV Tryz.prog cf 9 [a5, a4]) fun h54 =>
 obind (ldA 3 h54 a4) fun x55 =>
 obind (ld0 h54 a5) fun x56 =>
 .ok (.tup [x55, x56]) h54) fun x57 h58 =>
 callP (cf 11 [.nilPtr, (.str ⟨0, 0⟩), x57, (.int .i64 0)] h58) (dfP (LV Tryz.prog cf 9 [a5, a4]) fun h59 =>
 obind (ldA 3 h59 a4) fun x60 =>
 obind (ld0 h59 a5) fun x61 =>
 .ok (.tup [x60, x61]) h59) fun x62 h63 =>
 obind (fadK 1 x42) fun x64 =>
 obind (ld0 h63 x64) fun x65 =>
 obind (lenS x65) fun x66 =>
 fj1 Tryz.prog cf Tryz.f5 js5 9 [a5, a4] 2 [a4, a5, a7, x42, x62, x65, x66, (.int .i64 0)] h63))
theorem e5_1 {a1 a4 a5 a7 a26 a27 a28 : IV} (e : t5_1 (CL T) (J5 T) a1 a4 a5 a7 a26 a27 a28 h = r) (hr : r ≠ .fail) : J5 T 1 [a1, a4, a5, a7, a26, a27, a28] h = r := fj_step (by kernel_rfl) e hr
noncomputable def t5_2d (cf : CallF) (R : Rec) (d0 d1 a4 a5 a7 a10 a12 a58 a59 a60 : IV) (h : H) : CRes :=
 obind (binN .lss a60 a59) fun x67 =>
 condK x67
 (obind (ixS 8 a58 a60) fun x68 =>
 obind (ldA 8 h x68) fun x69 =>
 obind2 (newI h z5) fun x70 h71 =>
 obindH (stA 8 h71 x70 x69) fun h72 =>
 obind (fadK 0 x70) fun x73 =>
 obind (ld0 h72 x73) fun x74 =>
 obind (fadK 1 x70) fun x75 =>
 obind (ldA 6 h72 x75) fun x76 =>
 callP (cf 14 [a12, x76] h72) (fun v77 h78 =>
 (dfP (LV Tryz.prog cf 9 [d0, d1]) fun h79 =>
 obind (ldA 3 h79 a4) fun x80 =>
 obind (ld0 h79 a5) fun x81 =>
 .ok (.tup [x80, x81]) h79) v77 h78) fun x82 h83 =>
 obind (ld0 h83 x73) fun x84 =>
 bif IV.beq x84 x74 then
 callP (cf 13 [a12, x74, x82] h83) (fun v85 h86 =>
 (dfP (LV Tryz.prog cf 9 [d0, d1]) fun h87 =>
 obind (ldA 3 h87 a4) fun x88 =>
 obind (ld0 h87 a5) fun x89 =>
 .ok (.tup [x88, x89]) h87) v85 h86) fun x90 h91 =>
 obind (binN .add a60 (.int .i64 1)) fun x92 =>
 R 2 [a4, a5, a7, a10, a12, a58, a59, x92] h91
 else .fail)
 (obind (ldA 5 h a10) fun x93 =>
 callP (cf 15 [a7, a12, x93, (.int .i64 2)] h) (dfP (LV Tryz.prog cf 9 [d0, d1]) fun h94 =>
 obind (ldA 3 h94 a4) fun x95 =>
 obind (ld0 h94 a5) fun x96 =>
 .ok (.tup [x95, x96]) h94) fun x97 h98 =>
 obind (fadK 3 a10) fun x99 =>
 obind (ld0 h98 x99) fun x100 =>
 callP (cf 16 [a7, a12, x100] h98) (dfP (LV Tryz.prog cf 9 [d0, d1]) fun h101 =>
 obind (ldA 3 h101 a4) fun x102 =>
 obind (ld0 h101 a5) fun x103 =>
 .ok (.tup [x102, x103]) h101) fun x104 h105 =>
 obind (fadK 2 a10) fun x106 =>
 obind (ld0 h105 x106) fun x107 =>
 obind (lenS x107) fun x108 =>
 obind (nilI a7) fun x109 =>
 obind (fadK 1 x109) fun x110 =>
 obind (fadK 2 x110) fun x111 =>
 obindH (stA 1 h105 x111 x108) fun h112 =>
 obind (nilI a7) fun x113 =>
 obind (fadK 1 x113) fun x114 =>
 obind (ldA 3 h112 x114) fun x115 =>
 obindH (stA 3 h112 a4 x115) fun h116 =>
 obindH (stA 1 h116 a5 .nilSlice) fun h117 =>
 dfK (LV Tryz.prog cf 9 [d0, d1] .ret h117) fun h118 =>
 obind (ldA 3 h118 a4) fun x119 =>
 obind (ld0 h118 a5) fun x120 =>
 .ok (.tup [x119, x120]) h118)
theorem e5_2d {d0 d1 a4 a5 a7 a10 a12 a58 a59 a60 : IV} (e : t5_2d (CL T) (J5d T d0 d1) d0 d1 a4 a5 a7 a10 a12 a58 a59 a60 h = r) (hr : r ≠ .fail) : J5d T d0 d1 2 [a4, a5, a7, a10, a12, a58, a59, a60] h = r := fj1_step (by kernel_rfl) e hr
def js6 : List Jn := [⟨[], [0]⟩, ⟨[0, 1, 0, 1, 1, 1], [3, 5]⟩]
noncomputable def J6 (T : Tab) : Rec := fj Tryz.prog (CL T) Tryz.f6 js6
noncomputable def t6_0 (cf : CallF) (R : Rec) (a0 : IV) (h : H) : CRes :=
 callP (cf 17 [a0] h) .pan fun x1 h2 =>
 obind (extractI x1 0) fun x3 =>
 obind (extractI x1 1) fun x4 =>
 obind (lenS x4) fun x5 =>
 obind (binN .gtr x5 (.int .i64 0)) fun x6 =>
 condK x6
 (.ok .nilSlice h2)
 (R 1 [x3, (.int .i64 0)] h2)
theorem e6_0 {a0 : IV} (e : t6_0 (CL T) (J6 T) a0 h = r) (hr : r ≠ .fail) : J6 T 0 [a0] h = r := fj_step (by kernel_rfl) e hr
noncomputable def t6_1 (cf : CallF) (R : Rec) (a3 a5 : IV) (h : H) : CRes :=
 obind (lenS a3) fun x7 =>
 obind (binN .lss a5 x7) fun x8 =>
 condK x8
 (obind (ixS 3 a3 a5) fun x9 =>
 obind (fadK 0 x9) fun x10 =>
 obind (ld0 h x10) fun x11 =>
 obind (binN .eql x11 (.int .i64 4)) fun x12 =>
 spanK x12 false h (fun k13 =>
 obind (ixS 3 a3 a5) fun x16 =>
 obind (fadK 0 x16) fun x17 =>
 obind (ld0 h x17) fun x18 =>
 obind (binN .eql x18 (.int .i64 5)) fun x19 =>
 k13 x19 h) fun x14 h15 =>
 obind (pickI x12 (some (.bool true)) (some x14)) fun x20 =>
 condK x20
 (.ok .nilSlice h15)
 (obind (binN .add a5 (.int .i64 1)) fun x21 =>
 R 1 [a3, x21] h15))
 (callP (cf 18 [a3] h) .pan fun x22 h23 =>
 obind (extractI x22 0) fun x24 =>
 obind (extractI x22 1) fun x25 =>
 .ok x24 h23)
theorem e6_1 {a3 a5 : IV} (e : t6_1 (CL T) (J6 T) a3 a5 h = r) (hr : r ≠ .fail) : J6 T 1 [a3, a5] h = r := fj_step (by kernel_rfl) e hr
def js7 : List Jn := [⟨[], []⟩]
noncomputable def J7 (T : Tab) : Rec := fj Tryz.prog (CL T) Tryz.f7 js7
noncomputable def t7_0 (cf : CallF) (R : Rec) (h : H) : CRes :=
 callP (cf 6 [(.str ⟨111, 817589847036513100430549184573869468098591989427432428929925920973659701713011999615293774178646729423897644731530475678144413389891974789580253626130340474731586719902619207363121486939510406216438417970273137441132299048697564465118207936108492670072997601689759597⟩)] h) .pan fun x1 h2 =>
 callP (cf 5 [x1, (.str ⟨1, 109⟩)] h2) .pan fun x3 h4 =>
 obind (extractI x3 0) fun x5 =>
 obind (extractI x3 1) fun x6 =>
 obind2 (newI h4 z0) fun x7 h8 =>
 obindH (stA 3 h8 x7 x5) fun h9 =>
 obind (lenS x6) fun x10 =>
 obind (binN .eql x10 (.int .i64 0)) fun x11 =>
 spanK x11 true h9 (fun k12 =>
 obind (fadK 0 x7) fun x15 =>
 obind (ld0 h9 x15) fun x16 =>
 obind (lenS x16) fun x17 =>
 obind (binN .eql x17 (.int .i64 2)) fun x18 =>
 k12 x18 h9) fun x13 h14 =>
 obind (pickI x11 (some x13) (some (.bool false))) fun x19 =>
 spanK x19 true h14 (fun k20 =>
 obind (fadK 0 x7) fun x23 =>
 obind (ld0 h14 x23) fun x24 =>
 obind (ixS 3 x24 (.int .i64 1)) fun x25 =>
 obind (ldA 3 h14 x25) fun x26 =>
 obind (bldK z6 p1 [(0, (.str ⟨3, 6368885⟩)), (1, (.int .i64 3)), (2, (.int .i64 3))]) fun x27 =>
 obind (binK Tryz.prog h14 .eql 33 false false x26 x27) fun x28 =>
 k20 x28 h14) fun x21 h22 =>
 obind (pickI x19 (some x21) (some (.bool false))) fun x29 =>
 spanK x29 true h22 (fun k30 =>
 obind (fadK 1 x7) fun x33 =>
 obind (ld0 h22 x33) fun x34 =>
 obind (lenS x34) fun x35 =>
 obind (binN .eql x35 (.int .i64 1)) fun x36 =>
 k30 x36 h22) fun x31 h32 =>
 obind (pickI x29 (some x31) (some (.bool false))) fun x37 =>
 spanK x37 true h32 (fun k38 =>
 obind (fadK 1 x7) fun x41 =>
 obind (ld0 h32 x41) fun x42 =>
 obind (ixS 11 x42 (.int .i64 0)) fun x43 =>
 obind (fadK 1 x43) fun x44 =>
 obind (ld0 h32 x44) fun x45 =>
 obind (binN .eql x45 (.int .i64 1)) fun x46 =>
 k38 x46 h32) fun x39 h40 =>
 obind (pickI x37 (some x39) (some (.bool false))) fun x47 =>
 spanK x47 true h40 (fun k48 =>
 obind (fadK 2 x7) fun x51 =>
 obind (ld0 h40 x51) fun x52 =>
 obind (binN .eql x52 (.int .i64 1)) fun x53 =>
 k48 x53 h40) fun x49 h50 =>
 obind (pickI x47 (some x49) (some (.bool false))) fun x54 =>
 .ok x54 h50
theorem e7_0 (e : t7_0 (CL T) (J7 T) h = r) (hr : r ≠ .fail) : J7 T 0 [] h = r := fj_step (by kernel_rfl) e hr
def js8 : List Jn := [⟨[], [0]⟩, ⟨[0, 1, 0, 1, 1, 1], [0, 2, 3, 12, 13, 14]⟩, ⟨[1, 1, 0, 0, 1, 1, 0, 0, 1, 0, 1, 1, 1], [0, 2, 3, 5, 12, 13, 14]⟩, ⟨[0, 1, 0, 1, 1, 1, 1], [2, 3, 34, 35, 36]⟩]
noncomputable def J8 (T : Tab) : Rec := fj Tryz.prog (CL T) Tryz.f8 js8
noncomputable def J8d (T : Tab) (d0 : IV) : Rec := fj1 Tryz.prog (CL T) Tryz.f8 js8 19 [d0]
noncomputable def t8_0 (cf : CallF) (R : Rec) (a0 : IV) (h : H) : CRes :=
 obind2 (newI h [.nilSlice]) fun x1 h2 =>
 mapK h2 fun x4 h3 =>
 obind (lenS a0) fun x5 =>
 fj1 Tryz.prog cf Tryz.f8 js8 19 [x1] 1 [a0, x1, x4, a0, x5, (.int .i64 0)] h3
theorem e8_0 {a0 : IV} (e : t8_0 (CL T) (J8 T) a0 h = r) (hr : r ≠ .fail) : J8 T 0 [a0] h = r := fj_step (by kernel_rfl) e hr
noncomputable def t8_1d (cf : CallF) (R : Rec) (d0 a0 a2 a3 a12 a13 a14 : IV) (h : H) : CRes :=
 obind (binN .lss a14 a13) fun x6 =>
 condK x6
 (obind (ixS 5 a12 a14) fun x7 =>
 obind (ldA 5 h x7) fun x8 =>
 obind2 (newI h z4) fun x9 h10 =>
 obindH (stA 5 h10 x9 x8) fun h11 =>
 obind (fadK 0 x9) fun x12 =>
 obind (ld0 h11 x12) fun x13 =>
 obind (lkK true (.agg z4) h11 a3 x13 true) fun x14 =>
 obind (extractI x14 0) fun x15 =>
 obind (extractI x14 1) fun x16 =>
 obind2 (newI h11 z4) fun x17 h18 =>
 obindH (stA 5 h18 x17 x15) fun h19 =>
 condK x16
 (obind (fadK 4 x9) fun x20 =>
 obind (ld0 h19 x20) fun x21 =>
 callP (cf 20 [x21, (.int .i64 70)] h19) (dfP (LV Tryz.prog cf 19 [d0]) fun h22 =>
 obind (ld0 h22 a2) fun x23 =>
 .ok x23 h22) fun x24 h25 =>
 R 2 [a0, a2, a3, x9, a12, a13, a14] h25)
 (R 2 [a0, a2, a3, x9, a12, a13, a14] h19))
 (obind (lenS a0) fun x26 =>
 R 3 [a2, a3, a0, x26, (.int .i64 0)] h)
theorem e8_1d {d0 a0 a2 a3 a12 a13 a14 : IV} (e : t8_1d (CL T) (J8d T d0) d0 a0 a2 a3 a12 a13 a14 h = r) (hr : r ≠ .fail) : J8d T d0 1 [a0, a2, a3, a12, a13, a14] h = r := fj1_step (by kernel_rfl) e hr
noncomputable def t8_2d (cf : CallF) (R : Rec) (d0 a0 a2 a3 a5 a12 a13 a14 : IV) (h : H) : CRes :=
 obind (fadK 0 a5) fun x27 =>
 obind (ld0 h x27) fun x28 =>
 obind (ldA 5 h a5) fun x29 =>
 obindH (mupK true h a3 x28 x29) fun h30 =>
 obind (binN .add a14 (.int .i64 1)) fun x31 =>
 R 1 [a0, a2, a3, a12, a13, x31] h30
theorem e8_2d {d0 a0 a2 a3 a5 a12 a13 a14 : IV} (e : t8_2d (CL T) (J8d T d0) d0 a0 a2 a3 a5 a12 a13 a14 h = r) (hr : r ≠ .fail) : J8d T d0 2 [a0, a2, a3, a5, a12, a13, a14] h = r := fj1_step (by kernel_rfl) e hr
noncomputable def t8_3d (cf : CallF) (R : Rec) (d0 a2 a3 a34 a35 a36 : IV) (h : H) : CRes :=
 obind (binN .lss a36 a35) fun x32 =>
 condK x32
 (obind (ixS 5 a34 a36) fun x33 =>
 obind (ldA 5 h x33) fun x34 =>
 obind2 (newI h z4) fun x35 h36 =>
 obindH (stA 5 h36 x35 x34) fun h37 =>
 obind (ldA 5 h37 x35) fun x38 =>
 callP (cf 21 [x38, a3] h37) (dfP (LV Tryz.prog cf 19 [d0]) fun h39 =>
 obind (ld0 h39 a2) fun x40 =>
 .ok x40 h39) fun x41 h42 =>
 obind (binN .add a36 (.int .i64 1)) fun x43 =>
 R 3 [a2, a3, a34, a35, x43] h42)
 (obindH (stA 1 h a2 .nilSlice) fun h44 =>
 dfK (LV Tryz.prog cf 19 [d0] .ret h44) fun h45 =>
 obind (ld0 h45 a2) fun x46 =>
 .ok x46 h45)
theorem e8_3d {d0 a2 a3 a34 a35 a36 : IV} (e : t8_3d (CL T) (J8d T d0) d0 a2 a3 a34 a35 a36 h = r) (hr : r ≠ .fail) : J8d T d0 3 [a2, a3, a34, a35, a36] h = r := fj1_step (by kernel_rfl) e hr
def js10 : List Jn := [⟨[], [0, 1]⟩, ⟨[1, 1], []⟩]
noncomputable def J10 (T : Tab) : Rec := fj Tryz.prog (CL T) Tryz.f10 js10
noncomputable def t10_0 (cf : CallF) (R : Rec) (a0 a1 : IV) (h : H) : CRes :=
 obind (eqIf .eql true a0 .nilIface) fun x1 =>
 condK x1
 (.ok (.bool false) h)
 (obind (assertI 82 true (some (.agg [(.int .i64 0), (.int .i64 0)])) a0) fun x2 =>
 obind (extractI x2 1) fun x3 =>
 obind (extractI x2 0) fun x4 =>
 condK x3
 (obind2 (newI h [(.int .i64 0), (.int .i64 0)]) fun x5 h6 =>
 obindH (stA 2 h6 x5 x4) fun h7 =>
 obind (fadK 0 x5) fun x8 =>
 obind (ldA 2 h7 x8) fun x9 =>
 obind2 (bslK false 2 [(.int .i64 0), (.int .i64 0)] 1 [(0, x9)] h7) fun x10 h11 =>
 obind (nilI a1) fun x12 =>
 obindH (stA 1 h11 x12 x10) fun h13 =>
 R 1 [] h13)
 (panK a0 h .pan))
theorem e10_0 {a0 a1 : IV} (e : t10_0 (CL T) (J10 T) a0 a1 h = r) (hr : r ≠ .fail) : J10 T 0 [a0, a1] h = r := fj_step (by kernel_rfl) e hr
noncomputable def t10_1 (cf : CallF) (R : Rec) (h : H) : CRes :=
 .ok (.bool true) h
theorem e10_1 (e : t10_1 (CL T) (J10 T) h = r) (hr : r ≠ .fail) : J10 T 1 [] h = r := fj_step (by kernel_rfl) e hr
def js11 : List Jn := [⟨[], [0, 1, 2, 3]⟩]
noncomputable def J11 (T : Tab) : Rec := fj Tryz.prog (CL T) Tryz.f11 js11
noncomputable def t11_0 (cf : CallF) (R : Rec) (a0 a1 a2 a3 : IV) (h : H) : CRes :=
 mapK h fun x2 h1 =>
 obind (bldK [(.str ⟨0, 0⟩), .nilMap] [(0, 1), (1, 1)] [(0, a1), (1, x2)]) fun x3 =>
 obind (bldK z7 p8 [(0, x3), (1, a0), (2, a2), (3, a3)]) fun x4 =>
 obind2 (newI h1 (IV.cells x4)) fun x5 h6 =>
 .ok x5 h6
theorem e11_0 {a0 a1 a2 a3 : IV} (e : t11_0 (CL T) (J11 T) a0 a1 a2 a3 h = r) (hr : r ≠ .fail) : J11 T 0 [a0, a1, a2, a3] h = r := fj_step (by kernel_rfl) e hr
def js12 : List Jn := [⟨[], []⟩]
noncomputable def J12 (T : Tab) : Rec := fj Tryz.prog (CL T) Tryz.f12 js12
noncomputable def t12_0 (cf : CallF) (R : Rec) (h : H) : CRes :=
 mapK h fun x2 h1 =>
 obind (bldK [.nilMap] [(0, 1)] [(0, x2)]) fun x3 =>
 obind2 (newI h1 (IV.cells x3)) fun x4 h5 =>
 .ok x4 h5
theorem e12_0 (e : t12_0 (CL T) (J12 T) h = r) (hr : r ≠ .fail) : J12 T 0 [] h = r := fj_step (by kernel_rfl) e hr
def js13 : List Jn := [⟨[], [0, 1, 2]⟩]
noncomputable def J13 (T : Tab) : Rec := fj Tryz.prog (CL T) Tryz.f13 js13
noncomputable def t13_0 (cf : CallF) (R : Rec) (a0 a1 a2 : IV) (h : H) : CRes :=
 obind (nilI a0) fun x1 =>
 obind (fadK 0 x1) fun x2 =>
 obind (fadK 1 x2) fun x3 =>
 obind (ld0 h x3) fun x4 =>
 obindH (mupK true h x4 a1 (.bool true)) fun h5 =>
 obind (nilI a0) fun x6 =>
 obind (fadK 3 x6) fun x7 =>
 obind (ld0 h5 x7) fun x8 =>
 callP (cf 22 [x8, a1, a2] h5) .pan fun x9 h10 =>
 .ok (.tup []) h10
theorem e13_0 {a0 a1 a2 : IV} (e : t13_0 (CL T) (J13 T) a0 a1 a2 h = r) (hr : r ≠ .fail) : J13 T 0 [a0, a1, a2] h = r := fj_step (by kernel_rfl) e hr
def js14 : List Jn := [⟨[], [0, 1]⟩, ⟨[1, 1, 1], [5]⟩]
noncomputable def J14 (T : Tab) : Rec := fj Tryz.prog (CL T) Tryz.f14 js14
noncomputable def t14_0 (cf : CallF) (R : Rec) (a0 a1 : IV) (h : H) : CRes :=
 obind2 (newI h (IV.cells a1)) fun x1 h2 =>
 obind (nilI a0) fun x3 =>
 obind (fadK 3 x3) fun x4 =>
 obind (ld0 h2 x4) fun x5 =>
 obind (ldA 6 h2 x1) fun x6 =>
 callP (cf 23 [x5, x6] h2) (fun v7 h8 =>
 .pan v7 h8) fun x9 h10 =>
 obind (extractI x9 0) fun x11 =>
 obind (extractI x9 1) fun x12 =>
 obind2 (newI h10 [(.int .i64 0), (.int .i64 0)]) fun x13 h14 =>
 obindH (stA 2 h14 x13 x12) fun h15 =>
 obind (fadK 1 x13) fun x16 =>
 obind (ld0 h15 x16) fun x17 =>
 obind (binN .neq x17 (.int .i64 0)) fun x18 =>
 condK x18
 (obind (ldA 2 h15 x13) fun x19 =>
 obind (bldK [(.int .i64 0), (.int .i64 0)] [(0, 2)] [(0, x19)]) fun x20 =>
 panK (.iface 82 x20) h15 .pan)
 (R 1 [x11] h15)
theorem e14_0 {a0 a1 : IV} (e : t14_0 (CL T) (J14 T) a0 a1 h = r) (hr : r ≠ .fail) : J14 T 0 [a0, a1] h = r := fj_step (by kernel_rfl) e hr
noncomputable def t14_1 (cf : CallF) (R : Rec) (a5 : IV) (h : H) : CRes :=
 .ok a5 h
theorem e14_1 {a5 : IV} (e : t14_1 (CL T) (J14 T) a5 h = r) (hr : r ≠ .fail) : J14 T 1 [a5] h = r := fj_step (by kernel_rfl) e hr
def js15 : List Jn := [⟨[], [0, 1, 2, 3]⟩, ⟨[0, 1, 1], [0, 1, 3, 12, 13, 14]⟩, ⟨[1, 1, 1, 0, 0, 1, 1, 0, 0, 1, 1], [0, 1, 3, 9, 10, 12, 13, 14]⟩]
noncomputable def J15 (T : Tab) : Rec := fj Tryz.prog (CL T) Tryz.f15 js15
noncomputable def t15_0 (cf : CallF) (R : Rec) (a0 a1 a2 a3 : IV) (h : H) : CRes :=
 obind2 (newI h (IV.cells a2)) fun x1 h2 =>
 obind (fadK 2 x1) fun x3 =>
 obind (ld0 h2 x3) fun x4 =>
 obind (lenS x4) fun x5 =>
 R 1 [a0, a1, a3, x4, x5, (.int .i64 0)] h2
theorem e15_0 {a0 a1 a2 a3 : IV} (e : t15_0 (CL T) (J15 T) a0 a1 a2 a3 h = r) (hr : r ≠ .fail) : J15 T 0 [a0, a1, a2, a3] h = r := fj_step (by kernel_rfl) e hr
noncomputable def t15_1 (cf : CallF) (R : Rec) (a0 a1 a3 a12 a13 a14 : IV) (h : H) : CRes :=
 obind (binN .lss a14 a13) fun x6 =>
 condK x6
 (obind (ixS 17 a12 a14) fun x7 =>
 obind (ldA 17 h x7) fun x8 =>
 obind2 (newI h z9) fun x9 h10 =>
 obindH (stA 17 h10 x9 x8) fun h11 =>
 obind (fadK 0 x9) fun x12 =>
 obind (ld0 h11 x12) fun x13 =>
 obind (unI .not x13) fun x14 =>
 condK x14
 (R 2 [a0, a1, a3, x9, a3, a12, a13, a14] h11)
 (R 2 [a0, a1, a3, x9, (.int .i64 1), a12, a13, a14] h11))
 (.ok (.tup []) h)
theorem e15_1 {a0 a1 a3 a12 a13 a14 : IV} (e : t15_1 (CL T) (J15 T) a0 a1 a3 a12 a13 a14 h = r) (hr : r ≠ .fail) : J15 T 1 [a0, a1, a3, a12, a13, a14] h = r := fj_step (by kernel_rfl) e hr
noncomputable def t15_2 (cf : CallF) (R : Rec) (a0 a1 a3 a9 a10 a12 a13 a14 : IV) (h : H) : CRes :=
 obind (fadK 15 a9) fun x15 =>
 obind (ld0 h x15) fun x16 =>
 obind (fadK 2 a9) fun x17 =>
 obind (ld0 h x17) fun x18 =>
 obind (fadK 3 a9) fun x19 =>
 obind (ldA 6 h x19) fun x20 =>
 obind (fadK 9 a9) fun x21 =>
 obind (ldA 6 h x21) fun x22 =>
 obind (fadK 16 a9) fun x23 =>
 obind (ld0 h x23) fun x24 =>
 callP (cf 24 [a0, a1, x16, a10, x18, x20, x22, x24] h) .pan fun x25 h26 =>
 obind (binN .add a14 (.int .i64 1)) fun x27 =>
 R 1 [a0, a1, a3, a12, a13, x27] h26
theorem e15_2 {a0 a1 a3 a9 a10 a12 a13 a14 : IV} (e : t15_2 (CL T) (J15 T) a0 a1 a3 a9 a10 a12 a13 a14 h = r) (hr : r ≠ .fail) : J15 T 2 [a0, a1, a3, a9, a10, a12, a13, a14] h = r := fj_step (by kernel_rfl) e hr
def js16 : List Jn := [⟨[], [0, 1, 2]⟩, ⟨[0, 1, 0], [0, 1, 2, 13, 14, 15]⟩, ⟨[1, 1, 1, 0, 0, 1, 0], [0, 1, 2, 13, 14, 15]⟩, ⟨[1, 1, 1, 0, 1, 1, 0, 0, 1, 1, 0, 0, 1, 0], [0, 1, 2, 7, 13, 14, 15, 31]⟩, ⟨[0, 1, 0, 1, 1, 1, 0, 1, 1, 0, 0, 1, 1, 0, 0, 1, 0], [0, 1, 2, 7, 13, 14, 15, 35, 36, 37]⟩, ⟨[0, 1, 1], [0, 1, 55, 56, 57]⟩, ⟨[1, 1, 1, 0, 0, 1, 1], [0, 1, 55, 56, 57]⟩, ⟨[1, 1, 0, 1, 0, 1, 1, 0, 0, 1, 1, 0, 0, 1, 1], [0, 1, 11, 12, 55, 56, 57]⟩]
noncomputable def J16 (T : Tab) : Rec := fj Tryz.prog (CL T) Tryz.f16 js16
noncomputable def t16_0 (cf : CallF) (R : Rec) (a0 a1 a2 : IV) (h : H) : CRes :=
 obind (lenS a2) fun x1 =>
 R 1 [a0, a1, a2, a2, x1, (.int .i64 0)] h
theorem e16_0 {a0 a1 a2 : IV} (e : t16_0 (CL T) (J16 T) a0 a1 a2 h = r) (hr : r ≠ .fail) : J16 T 0 [a0, a1, a2] h = r := fj_step (by kernel_rfl) e hr
noncomputable def t16_1 (cf : CallF) (R : Rec) (a0 a1 a2 a13 a14 a15 : IV) (h : H) : CRes :=
 obind (binN .lss a15 a14) fun x2 =>
 condK x2
 (obind (ixS 48 a13 a15) fun x3 =>
 obind (ldA 48 h x3) fun x4 =>
 obind2 (newI h z10) fun x5 h6 =>
 obindH (stA 48 h6 x5 x4) fun h7 =>
 obind (fadK 0 x5) fun x8 =>
 obind (ld0 h7 x8) fun x9 =>
 obind (binN .eql x9 (.int .i64 3)) fun x10 =>
 condK x10
 (obind (fadK 1 x5) fun x11 =>
 obind (ld0 h7 x11) fun x12 =>
 obind (fadK 23 x5) fun x13 =>
 obind (ldA 6 h7 x13) fun x14 =>
 callP (cf 14 [a1, x14] h7) (fun v15 h16 =>
 .pan v15 h16) fun x17 h18 =>
 obind (ld0 h18 x11) fun x19 =>
 bif IV.beq x19 x12 then
 callP (cf 13 [a1, x12, x17] h18) (fun v20 h21 =>
 .pan v20 h21) fun x22 h23 =>
 R 2 [a0, a1, a2, a13, a14, a15] h23
 else .fail)
 (obind (binN .eql x9 (.int .i64 1)) fun x24 =>
 condK x24
 (R 3 [a0, a1, a2, x5, a13, a14, a15, x24] h7)
 (obind (binN .eql x9 (.int .i64 2)) fun x25 =>
 R 3 [a0, a1, a2, x5, a13, a14, a15, x25] h7)))
 (obind (lenS a2) fun x26 =>
 R 5 [a0, a1, a2, x26, (.int .i64 0)] h)
theorem e16_1 {a0 a1 a2 a13 a14 a15 : IV} (e : t16_1 (CL T) (J16 T) a0 a1 a2 a13 a14 a15 h = r) (hr : r ≠ .fail) : J16 T 1 [a0, a1, a2, a13, a14, a15] h = r := fj_step (by kernel_rfl) e hr
noncomputable def t16_2 (cf : CallF) (R : Rec) (a0 a1 a2 a13 a14 a15 : IV) (h : H) : CRes :=
 obind (binN .add a15 (.int .i64 1)) fun x27 =>
 R 1 [a0, a1, a2, a13, a14, x27] h
theorem e16_2 {a0 a1 a2 a13 a14 a15 : IV} (e : t16_2 (CL T) (J16 T) a0 a1 a2 a13 a14 a15 h = r) (hr : r ≠ .fail) : J16 T 2 [a0, a1, a2, a13, a14, a15] h = r := fj_step (by kernel_rfl) e hr
noncomputable def t16_3 (cf : CallF) (R : Rec) (a0 a1 a2 a7 a13 a14 a15 a31 : IV) (h : H) : CRes :=
 condK a31
 (obind (fadK 2 a7) fun x28 =>
 obind (ld0 h x28) fun x29 =>
 obind (lenS x29) fun x30 =>
 R 4 [a0, a1, a2, a7, a13, a14, a15, x29, x30, (.int .i64 0)] h)
 (R 2 [a0, a1, a2, a13, a14, a15] h)
theorem e16_3 {a0 a1 a2 a7 a13 a14 a15 a31 : IV} (e : t16_3 (CL T) (J16 T) a0 a1 a2 a7 a13 a14 a15 a31 h = r) (hr : r ≠ .fail) : J16 T 3 [a0, a1, a2, a7, a13, a14, a15, a31] h = r := fj_step (by kernel_rfl) e hr
noncomputable def t16_5 (cf : CallF) (R : Rec) (a0 a1 a55 a56 a57 : IV) (h : H) : CRes :=
 obind (binN .lss a57 a56) fun x31 =>
 condK x31
 (obind (ixS 48 a55 a57) fun x32 =>
 obind (ldA 48 h x32) fun x33 =>
 obind2 (newI h z10) fun x34 h35 =>
 obindH (stA 48 h35 x34 x33) fun h36 =>
 obind (fadK 0 x34) fun x37 =>
 obind (ld0 h36 x37) fun x38 =>
 obind (binN .eql x38 (.int .i64 4)) fun x39 =>
 condK x39
 (obind (fadK 16 x34) fun x40 =>
 obind (ld0 h36 x40) fun x41 =>
 condK x41
 (obind (fadK 17 x34) fun x42 =>
 obind (ldA 6 h36 x42) fun x43 =>
 callP (cf 14 [a1, x43] h36) .pan fun x44 h45 =>
 obind (binN .lss x44 (.int .i64 1)) fun x46 =>
 spanK x46 false h45 (fun k47 =>
 obind (binN .gtr x44 (.int .i64 1048576)) fun x50 =>
 k47 x50 h45) fun x48 h49 =>
 obind (pickI x46 (some (.bool true)) (some x48)) fun x51 =>
 condK x51
 (obind (fadK 47 x34) fun x52 =>
 obind (ld0 h49 x52) fun x53 =>
 callP (cf 25 [x53, (.int .i64 82)] h49) .pan fun x54 h55 =>
 R 7 [a0, a1, x34, x44, a55, a56, a57] h55)
 (R 7 [a0, a1, x34, x44, a55, a56, a57] h49))
 (R 7 [a0, a1, x34, (.int .i64 0), a55, a56, a57] h36))
 (obind (binN .eql x38 (.int .i64 5)) fun x56 =>
 condK x56
 (obind (fadK 45 x34) fun x57 =>
 obind (ld0 h36 x57) fun x58 =>
 callP (cf 30 [a0, a1, x58, (.int .i64 4)] h36) (fun v59 h60 =>
 obind (fadK 47 x34) fun x61 =>
 obind (ld0 h36 x61) fun x62 =>
 .pan v59 h60) fun x63 h64 =>
 obind (bldK z11 p12 [(0, (.int .i64 5)), (3, (.int .i64 (-1))), (5, x63)]) fun x65 =>
 obind (fadK 47 x34) fun x66 =>
 obind (ld0 h64 x66) fun x67 =>
 obind (ld0 h36 x66) fun x68 =>
 bif IV.beq x68 x67 then
 callP (cf 29 [a0, x65, x67] h64) (fun v69 h70 =>
 .pan v69 h70) fun x71 h72 =>
 R 6 [a0, a1, a55, a56, a57] h72
 else .fail)
 (obind (binN .eql x38 (.int .i64 6)) fun x73 =>
 condK x73
 (obind (fadK 1 x34) fun x74 =>
 obind (ld0 h36 x74) fun x75 =>
 callP (cf 27 [a0, a1, x75] h36) (fun v76 h77 =>
 obind (fadK 45 x34) fun x78 =>
 obind (ld0 h36 x78) fun x79 =>
 obind (fadK 47 x34) fun x80 =>
 obind (ld0 h36 x80) fun x81 =>
 .pan v76 h77) fun x82 h83 =>
 obind (fadK 45 x34) fun x84 =>
 obind (ld0 h83 x84) fun x85 =>
 obind (ld0 h36 x84) fun x86 =>
 bif IV.beq x86 x85 then
 callP (cf 30 [a0, a1, x85, (.int .i64 5)] h83) (fun v87 h88 =>
 obind (fadK 47 x34) fun x89 =>
 obind (ld0 h83 x89) fun x90 =>
 obind (ld0 h36 x89) fun x91 =>
 bif IV.beq x91 x90 then
 .pan v87 h88
 else .fail) fun x92 h93 =>
 obind (bldK z11 p12 [(0, (.int .i64 6)), (3, x82), (5, x92)]) fun x94 =>
 obind (fadK 47 x34) fun x95 =>
 obind (ld0 h93 x95) fun x96 =>
 obind (ld0 h36 x95) fun x97 =>
 bif IV.beq x97 x96 then
 obind (ld0 h83 x95) fun x98 =>
 bif IV.beq x98 x96 then
 callP (cf 29 [a0, x94, x96] h93) (fun v99 h100 =>
 .pan v99 h100) fun x101 h102 =>
 R 6 [a0, a1, a55, a56, a57] h102
 else .fail
 else .fail
 else .fail)
 (obind (binN .eql x38 (.int .i64 7)) fun x103 =>
 condK x103
 (obind (ldA 48 h36 x34) fun x104 =>
 callP (cf 31 [a0, a1, x104] h36) .pan fun x105 h106 =>
 R 6 [a0, a1, a55, a56, a57] h106)
 (obind (binN .eql x38 (.int .i64 8)) fun x107 =>
 condK x107
 (obind (ldA 48 h36 x34) fun x108 =>
 callP (cf 32 [a0, a1, x108] h36) .pan fun x109 h110 =>
 R 6 [a0, a1, a55, a56, a57] h110)
 (R 6 [a0, a1, a55, a56, a57] h36))))))
 (.ok (.tup []) h)
theorem e16_5 {a0 a1 a55 a56 a57 : IV} (e : t16_5 (CL T) (J16 T) a0 a1 a55 a56 a57 h = r) (hr : r ≠ .fail) : J16 T 5 [a0, a1, a55, a56, a57] h = r := fj_step (by kernel_rfl) e hr
noncomputable def t16_4 (cf : CallF) (R : Rec) (a0 a1 a2 a7 a13 a14 a15 a35 a36 a37 : IV) (h : H) : CRes :=
 obind (binN .lss a37 a36) fun x111 =>
 condK x111
 (obind (ixS 1 a35 a37) fun x112 =>
 obind (ld0 h x112) fun x113 =>
 obind (fadK 3 a7) fun x114 =>
 obind (ld0 h x114) fun x115 =>
 obind (fadK 4 a7) fun x116 =>
 obind (ldA 6 h x116) fun x117 =>
 obind (fadK 10 a7) fun x118 =>
 obind (ldA 6 h x118) fun x119 =>
 obind (fadK 47 a7) fun x120 =>
 obind (ld0 h x120) fun x121 =>
 callP (cf 24 [a0, a1, x113, (.int .i64 1), x115, x117, x119, x121] h) .pan fun x122 h123 =>
 obind (binN .add a37 (.int .i64 1)) fun x124 =>
 R 4 [a0, a1, a2, a7, a13, a14, a15, a35, a36, x124] h123)
 (R 2 [a0, a1, a2, a13, a14, a15] h)
theorem e16_4 {a0 a1 a2 a7 a13 a14 a15 a35 a36 a37 : IV} (e : t16_4 (CL T) (J16 T) a0 a1 a2 a7 a13 a14 a15 a35 a36 a37 h = r) (hr : r ≠ .fail) : J16 T 4 [a0, a1, a2, a7, a13, a14, a15, a35, a36, a37] h = r := fj_step (by kernel_rfl) e hr
noncomputable def t16_6 (cf : CallF) (R : Rec) (a0 a1 a55 a56 a57 : IV) (h : H) : CRes :=
 obind (binN .add a57 (.int .i64 1)) fun x125 =>
 R 5 [a0, a1, a55, a56, x125] h
theorem e16_6 {a0 a1 a55 a56 a57 : IV} (e : t16_6 (CL T) (J16 T) a0 a1 a55 a56 a57 h = r) (hr : r ≠ .fail) : J16 T 6 [a0, a1, a55, a56, a57] h = r := fj_step (by kernel_rfl) e hr
noncomputable def t16_7 (cf : CallF) (R : Rec) (a0 a1 a11 a12 a55 a56 a57 : IV) (h : H) : CRes :=
 obind (fadK 1 a11) fun x126 =>
 obind (ld0 h x126) fun x127 =>
 callP (cf 27 [a0, a1, x127] h) (fun v128 h129 =>
 obind (fadK 23 a11) fun x130 =>
 obind (ldA 6 h x130) fun x131 =>
 obind (fadK 47 a11) fun x132 =>
 obind (ld0 h x132) fun x133 =>
 .pan v128 h129) fun x134 h135 =>
 obind (fadK 23 a11) fun x136 =>
 obind (ldA 6 h135 x136) fun x137 =>
 obind (ldA 6 h x136) fun x138 =>
 bif IV.beq x138 x137 then
 callP (cf 28 [a0, a1, x137] h135) (fun v139 h140 =>
 obind (fadK 47 a11) fun x141 =>
 obind (ld0 h135 x141) fun x142 =>
 obind (ld0 h x141) fun x143 =>
 bif IV.beq x143 x142 then
 .pan v139 h140
 else .fail) fun x144 h145 =>
 obind (fadK 47 a11) fun x146 =>
 obind (ld0 h145 x146) fun x147 =>
 obind (ld0 h x146) fun x148 =>
 bif IV.beq x148 x147 then
 obind (ld0 h135 x146) fun x149 =>
 bif IV.beq x149 x147 then
 callP (cf 26 [a0, x134, a12, x144, x147] h145) (fun v150 h151 =>
 .pan v150 h151) fun x152 h153 =>
 R 6 [a0, a1, a55, a56, a57] h153
 else .fail
 else .fail
 else .fail
theorem e16_7 {a0 a1 a11 a12 a55 a56 a57 : IV} (e : t16_7 (CL T) (J16 T) a0 a1 a11 a12 a55 a56 a57 h = r) (hr : r ≠ .fail) : J16 T 7 [a0, a1, a11, a12, a55, a56, a57] h = r := fj_step (by kernel_rfl) e hr
def js17 : List Jn := [⟨[], [0]⟩, ⟨[0, 0, 1, 1, 1, 1, 1], [0, 4, 5, 6]⟩, ⟨[1, 1, 0, 1, 0, 0, 0, 1, 1, 1, 1, 1], [0, 4, 5, 6]⟩]
noncomputable def J17 (T : Tab) : Rec := fj Tryz.prog (CL T) Tryz.f17 js17
noncomputable def t17_0 (cf : CallF) (R : Rec) (a0 : IV) (h : H) : CRes :=
 obind (lenStr a0) fun x1 =>
 obind (binN .gtr x1 (.int .i64 65536)) fun x2 =>
 condK x2
 (callP (cf 33 [(.int .i64 0), (.int .i64 4)] h) .pan fun x3 h4 =>
 .ok (.tup [.nilSlice, x3]) h4)
 (R 1 [a0, .nilSlice, (.bool false), (.int .i64 0)] h)
theorem e17_0 {a0 : IV} (e : t17_0 (CL T) (J17 T) a0 h = r) (hr : r ≠ .fail) : J17 T 0 [a0] h = r := fj_step (by kernel_rfl) e hr
noncomputable def t17_1 (cf : CallF) (R : Rec) (a0 a4 a5 a6 : IV) (h : H) : CRes :=
 obind (lenStr a0) fun x5 =>
 obind (binN .lss a6 x5) fun x6 =>
 condK x6
 (obind (ixStr a0 a6) fun x7 =>
 obind (binN .eql x7 (.int .u8 10)) fun x8 =>
 spanK x8 true h (fun k9 =>
 k9 a5 h) fun x10 h11 =>
 obind (pickI x8 (some x10) (some (.bool false))) fun x12 =>
 condK x12
 (obind (bldK z13 p1 [(0, (.int .i64 5)), (2, a6)]) fun x13 =>
 obind2 (bslK false 3 z13 1 [(0, x13)] h11) fun x14 h15 =>
 obind2 (appK 3 32 h15 a4 x14) fun x16 h17 =>
 obind (binN .add a6 (.int .i64 1)) fun x18 =>
 R 2 [a0, x16, (.bool false), x18] h17)
 (obind (binN .eql x7 (.int .u8 32)) fun x19 =>
 spanK x19 false h11 (fun k20 =>
 obind (binN .eql x7 (.int .u8 9)) fun x23 =>
 k20 x23 h11) fun x21 h22 =>
 obind (pickI x19 (some (.bool true)) (some x21)) fun x24 =>
 spanK x24 false h22 (fun k25 =>
 obind (binN .eql x7 (.int .u8 10)) fun x28 =>
 k25 x28 h22) fun x26 h27 =>
 obind (pickI x24 (some (.bool true)) (some x26)) fun x29 =>
 spanK x29 false h27 (fun k30 =>
 obind (binN .eql x7 (.int .u8 13)) fun x33 =>
 k30 x33 h27) fun x31 h32 =>
 obind (pickI x29 (some (.bool true)) (some x31)) fun x34 =>
 condK x34
 (obind (binN .add a6 (.int .i64 1)) fun x35 =>
 R 1 [a0, a4, a5, x35] h32)
 (callP (cf 34 [a0, a6, (.str ⟨2, 12079⟩)] h32) .pan fun x36 h37 =>
 spanK x36 false h37 (fun k38 =>
 callP (cf 34 [a0, a6, (.str ⟨2, 10799⟩)] h37) .pan fun x41 h42 =>
 k38 x41 h42) fun x39 h40 =>
 obind (pickI x36 (some (.bool true)) (some x39)) fun x43 =>
 condK x43
 (callP (cf 35 [a0, a6] h40) .pan fun x44 h45 =>
 obind (binN .lss x44 (.int .i64 0)) fun x46 =>
 condK x46
 (callP (cf 33 [a6, (.int .i64 20)] h45) .pan fun x47 h48 =>
 .ok (.tup [.nilSlice, x47]) h48)
 (R 1 [a0, a4, a5, x44] h45))
 (callP (cf 36 [a0, a6] h40) .pan fun x49 h50 =>
 obind (extractI x49 0) fun x51 =>
 obind (extractI x49 1) fun x52 =>
 obind (extractI x49 2) fun x53 =>
 obind2 (newI h50 z13) fun x54 h55 =>
 obindH (stA 3 h55 x54 x51) fun h56 =>
 obind (binN .neq x53 (.int .i64 0)) fun x57 =>
 condK x57
 (callP (cf 33 [a6, x53] h56) .pan fun x58 h59 =>
 .ok (.tup [.nilSlice, x58]) h59)
 (spanK a5 false h56 (fun k60 =>
 obind (fadK 0 x54) fun x63 =>
 obind (ld0 h56 x63) fun x64 =>
 obind (binN .eql x64 (.int .i64 4)) fun x65 =>
 k60 x65 h56) fun x61 h62 =>
 spanK x61 true h62 (fun k66 =>
 obind (fadK 1 x54) fun x69 =>
 obind (ld0 h62 x69) fun x70 =>
 obind (binS .eql x70 (.str ⟨6, 111524889126244⟩)) fun x71 =>
 k66 x71 h62) fun x67 h68 =>
 spanK a5 false h68 (fun k72 =>
 obind (pickI x61 (some x67) (some (.bool false))) fun x75 =>
 k72 x75 h68) fun x73 h74 =>
 obind (pickI a5 (some (.bool true)) (some x73)) fun x76 =>
 obind (ldA 3 h74 x54) fun x77 =>
 obind2 (bslK false 3 z13 1 [(0, x77)] h74) fun x78 h79 =>
 obind2 (appK 3 32 h79 a4 x78) fun x80 h81 =>
 R 2 [a0, x80, x76, x52] h81)))))
 (obind (lenStr a0) fun x82 =>
 obind (bldK z13 p1 [(0, (.int .i64 6)), (2, x82)]) fun x83 =>
 obind2 (bslK false 3 z13 1 [(0, x83)] h) fun x84 h85 =>
 obind2 (appK 3 32 h85 a4 x84) fun x86 h87 =>
 .ok (.tup [x86, .nilSlice]) h87)
theorem e17_1 {a0 a4 a5 a6 : IV} (e : t17_1 (CL T) (J17 T) a0 a4 a5 a6 h = r) (hr : r ≠ .fail) : J17 T 1 [a0, a4, a5, a6] h = r := fj_step (by kernel_rfl) e hr
noncomputable def t17_2 (cf : CallF) (R : Rec) (a0 a4 a5 a6 : IV) (h : H) : CRes :=
 obind (lenS a4) fun x88 =>
 obind (binN .gtr x88 (.int .i64 16384)) fun x89 =>
 condK x89
 (obind (lenS a4) fun x90 =>
 obind (binN .sub x90 (.int .i64 1)) fun x91 =>
 obind (ixS 3 a4 x91) fun x92 =>
 obind (fadK 2 x92) fun x93 =>
 obind (ld0 h x93) fun x94 =>
 callP (cf 33 [x94, (.int .i64 2)] h) .pan fun x95 h96 =>
 .ok (.tup [.nilSlice, x95]) h96)
 (R 1 [a0, a4, a5, a6] h)
theorem e17_2 {a0 a4 a5 a6 : IV} (e : t17_2 (CL T) (J17 T) a0 a4 a5 a6 h = r) (hr : r ≠ .fail) : J17 T 2 [a0, a4, a5, a6] h = r := fj_step (by kernel_rfl) e hr
def js18 : List Jn := [⟨[], [0]⟩, ⟨[0, 0, 1, 1, 1], [4, 5]⟩, ⟨[1, 0, 0, 0, 0, 1, 1, 1], [4, 5, 27]⟩]
noncomputable def J18 (T : Tab) : Rec := fj Tryz.prog (CL T) Tryz.f18 js18
noncomputable def t18_0 (cf : CallF) (R : Rec) (a0 : IV) (h : H) : CRes :=
 obind (bldK z14 p15 [(0, a0)]) fun x1 =>
 obind2 (newI h (IV.cells x1)) fun x2 h3 =>
 callP (cf 37 [x2] h3) .pan fun x4 h5 =>
 obind2 (bslK false 5 z4 1 [(0, x4)] h5) fun x6 h7 =>
 R 1 [x2, x6] h7
theorem e18_0 {a0 : IV} (e : t18_0 (CL T) (J18 T) a0 h = r) (hr : r ≠ .fail) : J18 T 0 [a0] h = r := fj_step (by kernel_rfl) e hr
noncomputable def t18_1 (cf : CallF) (R : Rec) (a4 a5 : IV) (h : H) : CRes :=
 callP (cf 38 [a4] h) (fun v8 h9 =>
 .pan v8 h9) fun x10 h11 =>
 guardK x10 (obind (nilI a4) fun x12 =>
 obind (fadK 0 x12) fun x13 =>
 obind (ld0 h11 x13) fun x14 =>
 obind (nilI a4) fun x15 =>
 obind (fadK 1 x15) fun x16 =>
 obind (ld0 h11 x16) fun x17 =>
 obind (ixS 3 x14 x17) fun x18 =>
 obind (fadK 0 x18) fun x19 =>
 obind (ld0 h11 x19) fun x20 =>
 obind (binN .neq x20 (.int .i64 6)) fun x21 =>
 R 2 [a4, a5, x21] h11)
 (R 2 [a4, a5, (.bool false)] h11)
 (CRes.fail)
theorem e18_1 {a4 a5 : IV} (e : t18_1 (CL T) (J18 T) a4 a5 h = r) (hr : r ≠ .fail) : J18 T 1 [a4, a5] h = r := fj_step (by kernel_rfl) e hr
noncomputable def t18_2 (cf : CallF) (R : Rec) (a4 a5 a27 : IV) (h : H) : CRes :=
 condK a27
 (callP (cf 37 [a4] h) .pan fun x22 h23 =>
 obind2 (bslK false 5 z4 1 [(0, x22)] h23) fun x24 h25 =>
 obind2 (appK 5 96 h25 a5 x24) fun x26 h27 =>
 R 1 [a4, x26] h27)
 (callP (cf 38 [a4] h) .pan fun x28 h29 =>
 obind (unI .not x28) fun x30 =>
 condK x30
 (obind (nilI a4) fun x31 =>
 obind (fadK 2 x31) fun x32 =>
 obind (ldA 2 h29 x32) fun x33 =>
 obind2 (bslK false 2 [(.int .i64 0), (.int .i64 0)] 1 [(0, x33)] h29) fun x34 h35 =>
 .ok (.tup [.nilSlice, x34]) h35)
 (.ok (.tup [a5, .nilSlice]) h29))
theorem e18_2 {a4 a5 a27 : IV} (e : t18_2 (CL T) (J18 T) a4 a5 a27 h = r) (hr : r ≠ .fail) : J18 T 2 [a4, a5, a27] h = r := fj_step (by kernel_rfl) e hr
def js19 : List Jn := [⟨[1], [0, 4]⟩]
noncomputable def J19 (T : Tab) : Rec := cj Tryz.prog (CL T) Tryz.f19 js19
noncomputable def t19_0 (cf : CallF) (R : Rec) (a0 a4 : IV) (h : H) : CRes :=
 obind (eqIf .eql true a4 .nilIface) fun x1 =>
 condK x1
 (.ok (.tup []) h)
 (obind (assertI 78 true (some (.agg [(.int .i64 0), (.int .i64 0)])) a4) fun x2 =>
 obind (extractI x2 1) fun x3 =>
 obind (extractI x2 0) fun x4 =>
 condK x3
 (obind2 (newI h [(.int .i64 0), (.int .i64 0)]) fun x5 h6 =>
 obindH (stA 2 h6 x5 x4) fun h7 =>
 obind (fadK 0 x5) fun x8 =>
 obind (ldA 2 h7 x8) fun x9 =>
 obind2 (bslK false 2 [(.int .i64 0), (.int .i64 0)] 1 [(0, x9)] h7) fun x10 h11 =>
 obindH (stA 1 h11 a0 x10) fun h12 =>
 .ok (.tup []) h12)
 (panK a4 h nop))
theorem e19_0 {a0 a4 : IV} (e : t19_0 (CL T) (J19 T) a0 a4 h = r) (hr : r ≠ .fail) : J19 T 0 [a0, a4] h = r := cj_step (by kernel_rfl) e hr
theorem l19 {T : Tab} {a0 : IV} {st : I.Mode} {h h' : H} {v : IV} (hst : st ≠ .done) (e : t19_0 (CL T) (J19 T) a0 (recV st) h = .ok v h') : LV Tryz.prog (CL T) 19 [a0] st h = some (.ret, h') := LV_of Tryz.func19 rfl rfl (rfl) (of_decide_eq_true (by kernel_rfl)) hst rfl rfl (of_decide_eq_true (by kernel_rfl)) (e19_0 e (by simp))
def js21 : List Jn := [⟨[], [0, 1]⟩, ⟨[0, 1, 0, 1, 1], [1, 2, 4, 13, 14, 15]⟩, ⟨[0, 1, 0, 1, 1, 1], [1, 2, 4, 27, 28, 29]⟩, ⟨[1, 1, 1, 0, 0, 1, 0, 1, 1, 1], [1, 2, 4, 27, 28, 29]⟩]
noncomputable def J21 (T : Tab) : Rec := fj Tryz.prog (CL T) Tryz.f21 js21
noncomputable def t21_0 (cf : CallF) (R : Rec) (a0 a1 : IV) (h : H) : CRes :=
 obind2 (newI h (IV.cells a0)) fun x1 h2 =>
 mapK h2 fun x4 h3 =>
 obind (bldK [.nilPtr, .nilMap] [(0, 1), (1, 1)] [(1, x4)]) fun x5 =>
 obind2 (newI h3 (IV.cells x5)) fun x6 h7 =>
 obind (fadK 1 x1) fun x8 =>
 obind (ld0 h7 x8) fun x9 =>
 obind (lenS x9) fun x10 =>
 R 1 [a1, x1, x6, x9, x10, (.int .i64 0)] h7
theorem e21_0 {a0 a1 : IV} (e : t21_0 (CL T) (J21 T) a0 a1 h = r) (hr : r ≠ .fail) : J21 T 0 [a0, a1] h = r := fj_step (by kernel_rfl) e hr
noncomputable def t21_1 (cf : CallF) (R : Rec) (a1 a2 a4 a13 a14 a15 : IV) (h : H) : CRes :=
 obind (binN .lss a15 a14) fun x11 =>
 condK x11
 (obind (ixS 8 a13 a15) fun x12 =>
 obind (ldA 8 h x12) fun x13 =>
 obind2 (newI h z5) fun x14 h15 =>
 obindH (stA 8 h15 x14 x13) fun h16 =>
 obind (fadK 0 x14) fun x17 =>
 obind (ld0 h16 x17) fun x18 =>
 obind (fadK 7 x14) fun x19 =>
 obind (ld0 h16 x19) fun x20 =>
 callP (cf 39 [a4, x18, (.int .i64 1), x20] h16) .pan fun x21 h22 =>
 obind (binN .add a15 (.int .i64 1)) fun x23 =>
 R 1 [a1, a2, a4, a13, a14, x23] h22)
 (obind (fadK 2 a2) fun x24 =>
 obind (ld0 h x24) fun x25 =>
 obind (lenS x25) fun x26 =>
 R 2 [a1, a2, a4, x25, x26, (.int .i64 0)] h)
theorem e21_1 {a1 a2 a4 a13 a14 a15 : IV} (e : t21_1 (CL T) (J21 T) a1 a2 a4 a13 a14 a15 h = r) (hr : r ≠ .fail) : J21 T 1 [a1, a2, a4, a13, a14, a15] h = r := fj_step (by kernel_rfl) e hr
noncomputable def t21_2 (cf : CallF) (R : Rec) (a1 a2 a4 a27 a28 a29 : IV) (h : H) : CRes :=
 obind (binN .lss a29 a28) fun x27 =>
 condK x27
 (obind (ixS 17 a27 a29) fun x28 =>
 obind (ldA 17 h x28) fun x29 =>
 obind2 (newI h z9) fun x30 h31 =>
 obindH (stA 17 h31 x30 x29) fun h32 =>
 obind (fadK 1 x30) fun x33 =>
 obind (ld0 h32 x33) fun x34 =>
 condK x34
 (obind (fadK 15 x30) fun x35 =>
 obind (ld0 h32 x35) fun x36 =>
 obind (fadK 16 x30) fun x37 =>
 obind (ld0 h32 x37) fun x38 =>
 callP (cf 39 [a4, x36, (.int .i64 4), x38] h32) .pan fun x39 h40 =>
 R 3 [a1, a2, a4, a27, a28, a29] h40)
 (obind (fadK 0 x30) fun x41 =>
 obind (ld0 h32 x41) fun x42 =>
 condK x42
 (obind (fadK 15 x30) fun x43 =>
 obind (ld0 h32 x43) fun x44 =>
 obind (fadK 16 x30) fun x45 =>
 obind (ld0 h32 x45) fun x46 =>
 callP (cf 39 [a4, x44, (.int .i64 3), x46] h32) .pan fun x47 h48 =>
 R 3 [a1, a2, a4, a27, a28, a29] h48)
 (obind (fadK 15 x30) fun x49 =>
 obind (ld0 h32 x49) fun x50 =>
 obind (fadK 16 x30) fun x51 =>
 obind (ld0 h32 x51) fun x52 =>
 callP (cf 39 [a4, x50, (.int .i64 2), x52] h32) .pan fun x53 h54 =>
 R 3 [a1, a2, a4, a27, a28, a29] h54)))
 (obind (fadK 3 a2) fun x55 =>
 obind (ld0 h x55) fun x56 =>
 callP (cf 40 [a4, x56] h) .pan fun x57 h58 =>
 obind (fadK 3 a2) fun x59 =>
 obind (ld0 h58 x59) fun x60 =>
 callP (cf 41 [a4, x60, a1] h58) .pan fun x61 h62 =>
 .ok (.tup []) h62)
theorem e21_2 {a1 a2 a4 a27 a28 a29 : IV} (e : t21_2 (CL T) (J21 T) a1 a2 a4 a27 a28 a29 h = r) (hr : r ≠ .fail) : J21 T 2 [a1, a2, a4, a27, a28, a29] h = r := fj_step (by kernel_rfl) e hr
noncomputable def t21_3 (cf : CallF) (R : Rec) (a1 a2 a4 a27 a28 a29 : IV) (h : H) : CRes :=
 obind (binN .add a29 (.int .i64 1)) fun x63 =>
 R 2 [a1, a2, a4, a27, a28, x63] h
theorem e21_3 {a1 a2 a4 a27 a28 a29 : IV} (e : t21_3 (CL T) (J21 T) a1 a2 a4 a27 a28 a29 h = r) (hr : r ≠ .fail) : J21 T 3 [a1, a2, a4, a27, a28, a29] h = r := fj_step (by kernel_rfl) e hr
def js22 : List Jn := [⟨[], [0, 1, 2]⟩]
noncomputable def J22 (T : Tab) : Rec := fj Tryz.prog (CL T) Tryz.f22 js22
noncomputable def t22_0 (cf : CallF) (R : Rec) (a0 a1 a2 : IV) (h : H) : CRes :=
 callP (cf 42 [a0] h) .pan fun x1 h2 =>
 obind (unI .not x1) fun x3 =>
 spanK x3 false h2 (fun k4 =>
 callP (cf 43 [a2] h2) .pan fun x7 h8 =>
 obind (unI .not x7) fun x9 =>
 k4 x9 h8) fun x5 h6 =>
 obind (pickI x3 (some (.bool true)) (some x5)) fun x10 =>
 condK x10
 (.ok (.int .i64 1) h6)
 (obind (nilI a0) fun x11 =>
 obind (fadK 0 x11) fun x12 =>
 obind (ld0 h6 x12) fun x13 =>
 obindH (mupK true h6 x13 a1 a2) fun h14 =>
 .ok (.int .i64 0) h14)
theorem e22_0 {a0 a1 a2 : IV} (e : t22_0 (CL T) (J22 T) a0 a1 a2 h = r) (hr : r ≠ .fail) : J22 T 0 [a0, a1, a2] h = r := fj_step (by kernel_rfl) e hr
def js23 : List Jn := [⟨[], [0, 1]⟩]
noncomputable def J23 (T : Tab) : Rec := fj Tryz.prog (CL T) Tryz.f23 js23
noncomputable def t23_0 (cf : CallF) (R : Rec) (a0 a1 : IV) (h : H) : CRes :=
 obind2 (newI h (IV.cells a1)) fun x1 h2 =>
 obind2 (newI h2 [(.int .i64 0)]) fun x3 h4 =>
 obind2 (newI h4 [(.int .i64 0), (.int .i64 0)]) fun x5 h6 =>
 callP (cf 42 [a0] h6) .pan fun x7 h8 =>
 obind (unI .not x7) fun x9 =>
 condK x9
 (obind (bldK [(.int .i64 0), (.int .i64 0)] [(0, 1), (1, 1)] [(1, (.int .i64 1))]) fun x10 =>
 obindH (stA 1 h8 x3 (.int .i64 0)) fun h11 =>
 obindH (stA 2 h11 x5 x10) fun h12 =>
 obind (ld0 h12 x3) fun x13 =>
 obind (ldA 2 h12 x5) fun x14 =>
 .ok (.tup [x13, x14]) h12)
 (obind (ldA 6 h8 x1) fun x15 =>
 callP (cf 45 [a0, x15] h8) (dfP (LV Tryz.prog cf 44 [x3, x5]) fun h16 =>
 obind (ld0 h16 x3) fun x17 =>
 obind (ldA 2 h16 x5) fun x18 =>
 .ok (.tup [x17, x18]) h16) fun x19 h20 =>
 obind (bldK [(.int .i64 0), (.int .i64 0)] [(0, 1), (1, 1)] []) fun x21 =>
 obindH (stA 1 h20 x3 x19) fun h22 =>
 obindH (stA 2 h22 x5 x21) fun h23 =>
 dfK (LV Tryz.prog cf 44 [x3, x5] .ret h23) fun h24 =>
 obind (ld0 h24 x3) fun x25 =>
 obind (ldA 2 h24 x5) fun x26 =>
 .ok (.tup [x25, x26]) h24)
theorem e23_0 {a0 a1 : IV} (e : t23_0 (CL T) (J23 T) a0 a1 h = r) (hr : r ≠ .fail) : J23 T 0 [a0, a1] h = r := fj_step (by kernel_rfl) e hr
def js24 : List Jn := [⟨[], [0, 1, 2, 3, 4, 5, 6, 7]⟩, ⟨[1, 1, 1], [0, 1, 2, 3, 7, 16]⟩, ⟨[1, 1, 0, 1, 0, 1, 1], [0, 1, 2, 3, 7, 17]⟩, ⟨[1, 1, 1, 1], [0, 1, 2, 3, 16]⟩]
noncomputable def J24 (T : Tab) : Rec := fj Tryz.prog (CL T) Tryz.f24 js24
noncomputable def t24_0 (cf : CallF) (R : Rec) (a0 a1 a2 a3 a4 a5 a6 a7 : IV) (h : H) : CRes :=
 obind2 (newI h (IV.cells a5)) fun x1 h2 =>
 obind2 (newI h2 (IV.cells a6)) fun x3 h4 =>
 condK a4
 (obind (ldA 6 h4 x1) fun x5 =>
 callP (cf 14 [a1, x5] h4) (fun v6 h7 =>
 obind (ldA 6 h4 x3) fun x8 =>
 .pan v6 h7) fun x9 h10 =>
 obind (ldA 6 h10 x3) fun x11 =>
 obind (ldA 6 h4 x3) fun x12 =>
 bif IV.beq x12 x11 then
 callP (cf 14 [a1, x11] h10) (fun v13 h14 =>
 .pan v13 h14) fun x15 h16 =>
 obind (binN .neq x15 (.int .i64 0)) fun x17 =>
 spanK x17 false h16 (fun k18 =>
 obind (binN .lss x9 (.int .i64 0)) fun x21 =>
 k18 x21 h16) fun x19 h20 =>
 obind (pickI x17 (some (.bool true)) (some x19)) fun x22 =>
 spanK x22 false h20 (fun k23 =>
 obind (binN .geq x9 (.int .i64 256)) fun x26 =>
 k23 x26 h20) fun x24 h25 =>
 obind (pickI x22 (some (.bool true)) (some x24)) fun x27 =>
 condK x27
 (callP (cf 25 [a7, (.int .i64 82)] h25) .pan fun x28 h29 =>
 R 2 [a0, a1, a2, a3, a7, x9] h29)
 (R 2 [a0, a1, a2, a3, a7, x9] h25)
 else .fail)
 (R 1 [a0, a1, a2, a3, a7, (.int .i64 1)] h4)
theorem e24_0 {a0 a1 a2 a3 a4 a5 a6 a7 : IV} (e : t24_0 (CL T) (J24 T) a0 a1 a2 a3 a4 a5 a6 a7 h = r) (hr : r ≠ .fail) : J24 T 0 [a0, a1, a2, a3, a4, a5, a6, a7] h = r := fj_step (by kernel_rfl) e hr
noncomputable def t24_1 (cf : CallF) (R : Rec) (a0 a1 a2 a3 a7 a16 : IV) (h : H) : CRes :=
 obind (nilI a0) fun x30 =>
 obind (fadK 1 x30) fun x31 =>
 obind (fadK 0 x31) fun x32 =>
 obind (ld0 h x32) fun x33 =>
 obind (lenS x33) fun x34 =>
 obind (binN .geq x34 (.int .i64 512)) fun x35 =>
 condK x35
 (callP (cf 25 [a7, (.int .i64 83)] h) .pan fun x36 h37 =>
 R 3 [a0, a1, a2, a3, a16] h37)
 (R 3 [a0, a1, a2, a3, a16] h)
theorem e24_1 {a0 a1 a2 a3 a7 a16 : IV} (e : t24_1 (CL T) (J24 T) a0 a1 a2 a3 a7 a16 h = r) (hr : r ≠ .fail) : J24 T 1 [a0, a1, a2, a3, a7, a16] h = r := fj_step (by kernel_rfl) e hr
noncomputable def t24_2 (cf : CallF) (R : Rec) (a0 a1 a2 a3 a7 a17 : IV) (h : H) : CRes :=
 obind (binN .add a17 (.int .i64 1)) fun x38 =>
 R 1 [a0, a1, a2, a3, a7, x38] h
theorem e24_2 {a0 a1 a2 a3 a7 a17 : IV} (e : t24_2 (CL T) (J24 T) a0 a1 a2 a3 a7 a17 h = r) (hr : r ≠ .fail) : J24 T 2 [a0, a1, a2, a3, a7, a17] h = r := fj_step (by kernel_rfl) e hr
noncomputable def t24_3 (cf : CallF) (R : Rec) (a0 a1 a2 a3 a16 : IV) (h : H) : CRes :=
 obind (nilI a0) fun x39 =>
 obind (fadK 4 x39) fun x40 =>
 obind (ld0 h x40) fun x41 =>
 obind (nilI a1) fun x42 =>
 obind (fadK 0 x42) fun x43 =>
 obind (fadK 0 x43) fun x44 =>
 obind (ld0 h x44) fun x45 =>
 obind (binS .add x45 a2) fun x46 =>
 obind (nilI a0) fun x47 =>
 obind (fadK 1 x47) fun x48 =>
 obind (fadK 0 x48) fun x49 =>
 obind (ld0 h x49) fun x50 =>
 obind (lenS x50) fun x51 =>
 obindH (mupK true h x41 x46 x51) fun h52 =>
 obind (nilI a0) fun x53 =>
 obind (fadK 1 x53) fun x54 =>
 obind (fadK 0 x54) fun x55 =>
 obind (ld0 h52 x55) fun x56 =>
 obind (nilI a1) fun x57 =>
 obind (fadK 0 x57) fun x58 =>
 obind (fadK 0 x58) fun x59 =>
 obind (ld0 h52 x59) fun x60 =>
 obind (binS .add x60 a2) fun x61 =>
 obind (bldK z6 p1 [(0, x61), (1, a16), (2, a3)]) fun x62 =>
 obind2 (bslK false 3 z6 1 [(0, x62)] h52) fun x63 h64 =>
 obind (ld0 h64 x55) fun x65 =>
 bif IV.beq x65 x56 then
 obind2 (appK 3 32 h64 x56 x63) fun x66 h67 =>
 obind (nilI a0) fun x68 =>
 obind (fadK 1 x68) fun x69 =>
 obind (fadK 0 x69) fun x70 =>
 obindH (stA 1 h67 x70 x66) fun h71 =>
 .ok (.tup []) h71
 else .fail
theorem e24_3 {a0 a1 a2 a3 a16 : IV} (e : t24_3 (CL T) (J24 T) a0 a1 a2 a3 a16 h = r) (hr : r ≠ .fail) : J24 T 3 [a0, a1, a2, a3, a16] h = r := fj_step (by kernel_rfl) e hr
def js26 : List Jn := [⟨[], [0, 1, 2, 3, 4]⟩]
noncomputable def J26 (T : Tab) : Rec := fj Tryz.prog (CL T) Tryz.f26 js26
noncomputable def t26_0 (cf : CallF) (R : Rec) (a0 a1 a2 a3 a4 : IV) (h : H) : CRes :=
 obind2 (newI h (IV.cells a3)) fun x1 h2 =>
 obind (ldA 6 h2 x1) fun x3 =>
 obind (bldK z11 p12 [(0, (.int .i64 4)), (1, a1), (2, a2), (3, (.int .i64 (-1))), (4, x3)]) fun x4 =>
 callP (cf 29 [a0, x4, a4] h2) .pan fun x5 h6 =>
 obind (nilI a0) fun x7 =>
 obind (fadK 1 x7) fun x8 =>
 obind (fadK 0 x8) fun x9 =>
 obind (ld0 h6 x9) fun x10 =>
 obind (ixS 3 x10 a1) fun x11 =>
 obind (fadK 2 x11) fun x12 =>
 obindH (stA 1 h6 x12 (.int .i64 3)) fun h13 =>
 obind (binN .gtr a2 (.int .i64 0)) fun x14 =>
 condK x14
 (obind (nilI a0) fun x15 =>
 obind (fadK 1 x15) fun x16 =>
 obind (fadK 0 x16) fun x17 =>
 obind (ld0 h13 x17) fun x18 =>
 obind (ixS 3 x18 a1) fun x19 =>
 obind (fadK 2 x19) fun x20 =>
 obindH (stA 1 h13 x20 (.int .i64 6)) fun h21 =>
 .ok (.tup []) h21)
 (.ok (.tup []) h13)
theorem e26_0 {a0 a1 a2 a3 a4 : IV} (e : t26_0 (CL T) (J26 T) a0 a1 a2 a3 a4 h = r) (hr : r ≠ .fail) : J26 T 0 [a0, a1, a2, a3, a4] h = r := fj_step (by kernel_rfl) e hr
def js27 : List Jn := [⟨[], [0, 1, 2]⟩, ⟨[0, 0, 1], [0, 1, 2]⟩]
noncomputable def J27 (T : Tab) : Rec := fj Tryz.prog (CL T) Tryz.f27 js27
noncomputable def t27_0 (cf : CallF) (R : Rec) (a0 a1 a2 : IV) (h : H) : CRes :=
 R 1 [a0, a1, a2] h
theorem e27_0 {a0 a1 a2 : IV} (e : t27_0 (CL T) (J27 T) a0 a1 a2 h = r) (hr : r ≠ .fail) : J27 T 0 [a0, a1, a2] h = r := fj_step (by kernel_rfl) e hr
noncomputable def t27_1 (cf : CallF) (R : Rec) (a0 a1 a2 : IV) (h : H) : CRes :=
 obind (eqP .neq h a1 .nilPtr) fun x1 =>
 condK x1
 (obind (nilI a1) fun x2 =>
 obind (fadK 0 x2) fun x3 =>
 obind (fadK 1 x3) fun x4 =>
 obind (ld0 h x4) fun x5 =>
 obind (lkK true (.bool false) h x5 a2 false) fun x6 =>
 condK x6
 (.ok (.int .i64 (-1)) h)
 (obind (nilI a0) fun x7 =>
 obind (fadK 4 x7) fun x8 =>
 obind (ld0 h x8) fun x9 =>
 obind (nilI a1) fun x10 =>
 obind (fadK 0 x10) fun x11 =>
 obind (fadK 0 x11) fun x12 =>
 obind (ld0 h x12) fun x13 =>
 obind (binS .add x13 a2) fun x14 =>
 obind (lkK true (.int .i64 0) h x9 x14 true) fun x15 =>
 obind (extractI x15 0) fun x16 =>
 obind (extractI x15 1) fun x17 =>
 condK x17
 (.ok x16 h)
 (obind (nilI a1) fun x18 =>
 obind (fadK 2 x18) fun x19 =>
 obind (ld0 h x19) fun x20 =>
 R 1 [a0, x20, a2] h)))
 (.ok (.int .i64 (-1)) h)
theorem e27_1 {a0 a1 a2 : IV} (e : t27_1 (CL T) (J27 T) a0 a1 a2 h = r) (hr : r ≠ .fail) : J27 T 1 [a0, a1, a2] h = r := fj_step (by kernel_rfl) e hr
def js28 : List Jn := [⟨[], [0, 1, 2]⟩, ⟨[1, 1, 0, 1, 1, 1, 0, 1, 0, 1], [0, 1, 5, 6, 10]⟩, ⟨[1, 1, 1, 1, 0, 1, 1, 1, 0, 1, 0, 1], [0, 5, 6, 10, 11, 12]⟩, ⟨[0, 1, 0, 1, 1, 1, 1], [0, 1, 5, 6, 13, 14, 135, 136, 137]⟩, ⟨[1, 1, 1, 0, 0, 1, 0, 1, 1, 1, 1], [0, 1, 5, 6, 13, 14, 135, 136, 137]⟩, ⟨[1, 1, 1, 1, 1, 1, 1], [0, 1, 5, 6, 14]⟩, ⟨[1, 1, 1, 1, 1, 1, 1, 1], [0, 1, 5, 6]⟩, ⟨[1, 1, 1, 1, 1, 1, 1, 1, 1], [5, 6]⟩, ⟨[1, 1, 0, 1, 0, 1, 1, 1, 1, 1, 1, 1, 1], [0, 5, 6, 19]⟩]
noncomputable def J28 (T : Tab) : Rec := fj Tryz.prog (CL T) Tryz.f28 js28
noncomputable def t28_0 (cf : CallF) (R : Rec) (a0 a1 a2 : IV) (h : H) : CRes :=
 obind2 (newI h (IV.cells a2)) fun x1 h2 =>
 obind2 (newI h2 z16) fun x3 h4 =>
 obind (fadK 0 x1) fun x5 =>
 obind (ld0 h4 x5) fun x6 =>
 obind (binN .eql x6 (.int .i64 2)) fun x7 =>
 condK x7
 (obind (fadK 1 x1) fun x8 =>
 obind (ld0 h4 x8) fun x9 =>
 callP (cf 27 [a0, a1, x9] h4) .pan fun x10 h11 =>
 obind (binN .geq x10 (.int .i64 0)) fun x12 =>
 condK x12
 (obind (nilI a0) fun x13 =>
 obind (fadK 1 x13) fun x14 =>
 obind (fadK 0 x14) fun x15 =>
 obind (ld0 h11 x15) fun x16 =>
 obind (ixS 3 x16 x10) fun x17 =>
 obind (fadK 0 x17) fun x18 =>
 obind (ld0 h11 x18) fun x19 =>
 obind (fadK 1 x1) fun x20 =>
 obindH (stA 1 h11 x20 x19) fun h21 =>
 obind (ldA 6 h21 x1) fun x22 =>
 obindH (stA 6 h21 x3 x22) fun h23 =>
 obind (ldA 6 h23 x3) fun x24 =>
 .ok x24 h23)
 (obind (nilI a1) fun x25 =>
 obind (fadK 3 x25) fun x26 =>
 obind (ld0 h11 x26) fun x27 =>
 obind (fadK 1 x1) fun x28 =>
 obind (ld0 h11 x28) fun x29 =>
 callP (cf 46 [x27, x29] h11) (fun v30 h31 =>
 .pan v30 h31) fun x32 h33 =>
 obind (extractI x32 0) fun x34 =>
 obind (extractI x32 1) fun x35 =>
 obind (fadK 5 x1) fun x36 =>
 obind (ld0 h33 x36) fun x37 =>
 callP (cf 47 [x34, x37] h33) .pan fun x38 h39 =>
 obindH (stA 6 h39 x3 x38) fun h40 =>
 obind (ldA 6 h40 x3) fun x41 =>
 .ok x41 h40))
 (obind (binN .eql x6 (.int .i64 4)) fun x42 =>
 condK x42
 (obind (fadK 1 x1) fun x43 =>
 obind (ld0 h4 x43) fun x44 =>
 callP (cf 27 [a0, a1, x44] h4) .pan fun x45 h46 =>
 obind (binN .lss x45 (.int .i64 0)) fun x47 =>
 condK x47
 (obind (fadK 5 x1) fun x48 =>
 obind (ld0 h46 x48) fun x49 =>
 callP (cf 25 [x49, (.int .i64 60)] h46) .pan fun x50 h51 =>
 R 1 [a0, a1, x1, x3, x45] h51)
 (R 1 [a0, a1, x1, x3, x45] h46))
 (obind (fadK 4 x1) fun x52 =>
 obind (ld0 h4 x52) fun x53 =>
 obind (lenS x53) fun x54 =>
 obind2 (mksK 6 80 z16 h4 (.int .i64 0) x54) fun x55 h56 =>
 obind (fadK 4 x1) fun x57 =>
 obind (ld0 h56 x57) fun x58 =>
 obind (lenS x58) fun x59 =>
 R 3 [a0, a1, x1, x3, x55, (.int .i64 0), x58, x59, (.int .i64 0)] h56))
theorem e28_0 {a0 a1 a2 : IV} (e : t28_0 (CL T) (J28 T) a0 a1 a2 h = r) (hr : r ≠ .fail) : J28 T 0 [a0, a1, a2] h = r := fj_step (by kernel_rfl) e hr
noncomputable def t28_1 (cf : CallF) (R : Rec) (a0 a1 a5 a6 a10 : IV) (h : H) : CRes :=
 obind (fadK 4 a5) fun x60 =>
 obind (ld0 h x60) fun x61 =>
 obind (ixS 6 x61 (.int .i64 0)) fun x62 =>
 obind (ldA 6 h x62) fun x63 =>
 callP (cf 14 [a1, x63] h) (fun v64 h65 =>
 obind (fadK 4 a5) fun x66 =>
 obind (ld0 h x66) fun x67 =>
 obind (ixS 6 x67 (.int .i64 1)) fun x68 =>
 obind (ldA 6 h x68) fun x69 =>
 .pan v64 h65) fun x70 h71 =>
 obind (fadK 4 a5) fun x72 =>
 obind (ld0 h71 x72) fun x73 =>
 obind (ld0 h x72) fun x74 =>
 bif IV.beq x74 x73 then
 obind (ixS 6 x73 (.int .i64 1)) fun x75 =>
 obind (ldA 6 h71 x75) fun x76 =>
 obind (ldA 6 h x75) fun x77 =>
 bif IV.beq x77 x76 then
 callP (cf 14 [a1, x76] h71) (fun v78 h79 =>
 .pan v78 h79) fun x80 h81 =>
 obind (binN .lss x80 (.int .i64 0)) fun x82 =>
 spanK x82 false h81 (fun k83 =>
 obind (binN .lss x70 x80) fun x86 =>
 k83 x86 h81) fun x84 h85 =>
 obind (pickI x82 (some (.bool true)) (some x84)) fun x87 =>
 spanK x87 false h85 (fun k88 =>
 obind (nilI a0) fun x91 =>
 obind (fadK 1 x91) fun x92 =>
 obind (fadK 0 x92) fun x93 =>
 obind (ld0 h85 x93) fun x94 =>
 obind (ixS 3 x94 a10) fun x95 =>
 obind (fadK 1 x95) fun x96 =>
 obind (ld0 h85 x96) fun x97 =>
 obind (binN .geq x70 x97) fun x98 =>
 k88 x98 h85) fun x89 h90 =>
 obind (pickI x87 (some (.bool true)) (some x89)) fun x99 =>
 condK x99
 (obind (fadK 5 a5) fun x100 =>
 obind (ld0 h90 x100) fun x101 =>
 callP (cf 25 [x101, (.int .i64 84)] h90) .pan fun x102 h103 =>
 R 2 [a0, a5, a6, a10, x70, x80] h103)
 (R 2 [a0, a5, a6, a10, x70, x80] h90)
 else .fail
 else .fail
theorem e28_1 {a0 a1 a5 a6 a10 : IV} (e : t28_1 (CL T) (J28 T) a0 a1 a5 a6 a10 h = r) (hr : r ≠ .fail) : J28 T 1 [a0, a1, a5, a6, a10] h = r := fj_step (by kernel_rfl) e hr
noncomputable def t28_3 (cf : CallF) (R : Rec) (a0 a1 a5 a6 a13 a14 a135 a136 a137 : IV) (h : H) : CRes :=
 obind (binN .lss a137 a136) fun x104 =>
 condK x104
 (obind (ixS 6 a135 a137) fun x105 =>
 obind (ldA 6 h x105) fun x106 =>
 obind2 (newI h z16) fun x107 h108 =>
 obindH (stA 6 h108 x107 x106) fun h109 =>
 obind (ldA 6 h109 x107) fun x110 =>
 callP (cf 28 [a0, a1, x110] h109) .pan fun x111 h112 =>
 obindH (stA 6 h112 x107 x111) fun h113 =>
 obind (ldA 6 h113 x107) fun x114 =>
 obind2 (bslK false 6 z16 1 [(0, x114)] h113) fun x115 h116 =>
 obind2 (appK 6 80 h116 a13 x115) fun x117 h118 =>
 obind (fadK 0 a5) fun x119 =>
 obind (ld0 h118 x119) fun x120 =>
 obind (binN .eql x120 (.int .i64 5)) fun x121 =>
 condK x121
 (obind (ldA 6 h118 x107) fun x122 =>
 callP (cf 48 [a0, x122] h118) .pan fun x123 h124 =>
 obind (extractI x123 0) fun x125 =>
 obind (extractI x123 1) fun x126 =>
 obind2 (newI h124 [(.int .i64 0), (.int .i64 0)]) fun x127 h128 =>
 obindH (stA 2 h128 x127 x126) fun h129 =>
 obind (binN .add a14 x125) fun x130 =>
 R 4 [a0, a1, a5, a6, x117, x130, a135, a136, a137] h129)
 (R 4 [a0, a1, a5, a6, x117, a14, a135, a136, a137] h118))
 (obind (fadK 4 a5) fun x131 =>
 obindH (stA 1 h x131 a13) fun h132 =>
 obind (lenS a13) fun x133 =>
 obind (binN .eql x133 (.int .i64 0)) fun x134 =>
 condK x134
 (obind (fadK 4 a5) fun x135 =>
 obindH (stA 1 h132 x135 .nilSlice) fun h136 =>
 R 5 [a0, a1, a5, a6, a14] h136)
 (R 5 [a0, a1, a5, a6, a14] h132))
theorem e28_3 {a0 a1 a5 a6 a13 a14 a135 a136 a137 : IV} (e : t28_3 (CL T) (J28 T) a0 a1 a5 a6 a13 a14 a135 a136 a137 h = r) (hr : r ≠ .fail) : J28 T 3 [a0, a1, a5, a6, a13, a14, a135, a136, a137] h = r := fj_step (by kernel_rfl) e hr
noncomputable def t28_2 (cf : CallF) (R : Rec) (a0 a5 a6 a10 a11 a12 : IV) (h : H) : CRes :=
 obind (nilI a0) fun x137 =>
 obind (fadK 1 x137) fun x138 =>
 obind (fadK 0 x138) fun x139 =>
 obind (ld0 h x139) fun x140 =>
 obind (ixS 3 x140 a10) fun x141 =>
 obind (fadK 0 x141) fun x142 =>
 obind (ld0 h x142) fun x143 =>
 obind (fadK 1 a5) fun x144 =>
 obindH (stA 1 h x144 x143) fun h145 =>
 obind (fadK 4 a5) fun x146 =>
 obind (ld0 h145 x146) fun x147 =>
 obind (ixS 6 x147 (.int .i64 0)) fun x148 =>
 obind (fadK 5 x148) fun x149 =>
 obind (ld0 h145 x149) fun x150 =>
 callP (cf 47 [a11, x150] h145) (fun v151 h152 =>
 obind (fadK 4 a5) fun x153 =>
 obind (ld0 h145 x153) fun x154 =>
 obind (ixS 6 x154 (.int .i64 1)) fun x155 =>
 obind (fadK 5 x155) fun x156 =>
 obind (ld0 h145 x156) fun x157 =>
 .pan v151 h152) fun x158 h159 =>
 obind (fadK 4 a5) fun x160 =>
 obind (ld0 h159 x160) fun x161 =>
 obind (ld0 h145 x160) fun x162 =>
 bif IV.beq x162 x161 then
 obind (ixS 6 x161 (.int .i64 1)) fun x163 =>
 obind (fadK 5 x163) fun x164 =>
 obind (ld0 h159 x164) fun x165 =>
 obind (ld0 h145 x164) fun x166 =>
 bif IV.beq x166 x165 then
 callP (cf 47 [a12, x165] h159) (fun v167 h168 =>
 .pan v167 h168) fun x169 h170 =>
 obind2 (bslK false 6 z16 2 [(0, x158), (1, x169)] h170) fun x171 h172 =>
 obind (fadK 4 a5) fun x173 =>
 obindH (stA 1 h172 x173 x171) fun h174 =>
 obind (ldA 6 h174 a5) fun x175 =>
 obindH (stA 6 h174 a6 x175) fun h176 =>
 obind (ldA 6 h176 a6) fun x177 =>
 .ok x177 h176
 else .fail
 else .fail
theorem e28_2 {a0 a5 a6 a10 a11 a12 : IV} (e : t28_2 (CL T) (J28 T) a0 a5 a6 a10 a11 a12 h = r) (hr : r ≠ .fail) : J28 T 2 [a0, a5, a6, a10, a11, a12] h = r := fj_step (by kernel_rfl) e hr
noncomputable def t28_4 (cf : CallF) (R : Rec) (a0 a1 a5 a6 a13 a14 a135 a136 a137 : IV) (h : H) : CRes :=
 obind (binN .add a137 (.int .i64 1)) fun x178 =>
 R 3 [a0, a1, a5, a6, a13, a14, a135, a136, x178] h
theorem e28_4 {a0 a1 a5 a6 a13 a14 a135 a136 a137 : IV} (e : t28_4 (CL T) (J28 T) a0 a1 a5 a6 a13 a14 a135 a136 a137 h = r) (hr : r ≠ .fail) : J28 T 4 [a0, a1, a5, a6, a13, a14, a135, a136, a137] h = r := fj_step (by kernel_rfl) e hr
noncomputable def t28_5 (cf : CallF) (R : Rec) (a0 a1 a5 a6 a14 : IV) (h : H) : CRes :=
 obind (binN .gtr a14 (.int .i64 256)) fun x179 =>
 condK x179
 (obind (fadK 5 a5) fun x180 =>
 obind (ld0 h x180) fun x181 =>
 callP (cf 25 [x181, (.int .i64 83)] h) .pan fun x182 h183 =>
 R 6 [a0, a1, a5, a6] h183)
 (R 6 [a0, a1, a5, a6] h)
theorem e28_5 {a0 a1 a5 a6 a14 : IV} (e : t28_5 (CL T) (J28 T) a0 a1 a5 a6 a14 h = r) (hr : r ≠ .fail) : J28 T 5 [a0, a1, a5, a6, a14] h = r := fj_step (by kernel_rfl) e hr
noncomputable def t28_6 (cf : CallF) (R : Rec) (a0 a1 a5 a6 : IV) (h : H) : CRes :=
 obind (fadK 0 a5) fun x184 =>
 obind (ld0 h x184) fun x185 =>
 obind (binN .eql x185 (.int .i64 3)) fun x186 =>
 condK x186
 (obind (fadK 1 a5) fun x187 =>
 obind (ld0 h x187) fun x188 =>
 callP (cf 27 [a0, a1, x188] h) .pan fun x189 h190 =>
 obind (binN .lss x189 (.int .i64 0)) fun x191 =>
 condK x191
 (obind (fadK 5 a5) fun x192 =>
 obind (ld0 h190 x192) fun x193 =>
 callP (cf 25 [x193, (.int .i64 60)] h190) .pan fun x194 h195 =>
 R 8 [a0, a5, a6, x189] h195)
 (R 8 [a0, a5, a6, x189] h190))
 (R 7 [a5, a6] h)
theorem e28_6 {a0 a1 a5 a6 : IV} (e : t28_6 (CL T) (J28 T) a0 a1 a5 a6 h = r) (hr : r ≠ .fail) : J28 T 6 [a0, a1, a5, a6] h = r := fj_step (by kernel_rfl) e hr
noncomputable def t28_7 (cf : CallF) (R : Rec) (a5 a6 : IV) (h : H) : CRes :=
 obind (ldA 6 h a5) fun x196 =>
 obindH (stA 6 h a6 x196) fun h197 =>
 obind (ldA 6 h197 a6) fun x198 =>
 .ok x198 h197
theorem e28_7 {a5 a6 : IV} (e : t28_7 (CL T) (J28 T) a5 a6 h = r) (hr : r ≠ .fail) : J28 T 7 [a5, a6] h = r := fj_step (by kernel_rfl) e hr
noncomputable def t28_8 (cf : CallF) (R : Rec) (a0 a5 a6 a19 : IV) (h : H) : CRes :=
 obind (nilI a0) fun x199 =>
 obind (fadK 1 x199) fun x200 =>
 obind (fadK 0 x200) fun x201 =>
 obind (ld0 h x201) fun x202 =>
 obind (ixS 3 x202 a19) fun x203 =>
 obind (fadK 0 x203) fun x204 =>
 obind (ld0 h x204) fun x205 =>
 obind (fadK 1 a5) fun x206 =>
 obindH (stA 1 h x206 x205) fun h207 =>
 R 7 [a5, a6] h207
theorem e28_8 {a0 a5 a6 a19 : IV} (e : t28_8 (CL T) (J28 T) a0 a5 a6 a19 h = r) (hr : r ≠ .fail) : J28 T 8 [a0, a5, a6, a19] h = r := fj_step (by kernel_rfl) e hr
def js29 : List Jn := [⟨[], [0, 1, 2]⟩, ⟨[1, 1], [0, 4]⟩]
noncomputable def J29 (T : Tab) : Rec := fj Tryz.prog (CL T) Tryz.f29 js29
noncomputable def t29_0 (cf : CallF) (R : Rec) (a0 a1 a2 : IV) (h : H) : CRes :=
 obind2 (newI h (IV.cells a1)) fun x1 h2 =>
 obind (nilI a0) fun x3 =>
 obind (fadK 1 x3) fun x4 =>
 obind (fadK 1 x4) fun x5 =>
 obind (ld0 h2 x5) fun x6 =>
 obind (lenS x6) fun x7 =>
 obind (binN .geq x7 (.int .i64 256)) fun x8 =>
 condK x8
 (callP (cf 25 [a2, (.int .i64 83)] h2) .pan fun x9 h10 =>
 R 1 [a0, x1] h10)
 (R 1 [a0, x1] h2)
theorem e29_0 {a0 a1 a2 : IV} (e : t29_0 (CL T) (J29 T) a0 a1 a2 h = r) (hr : r ≠ .fail) : J29 T 0 [a0, a1, a2] h = r := fj_step (by kernel_rfl) e hr
noncomputable def t29_1 (cf : CallF) (R : Rec) (a0 a4 : IV) (h : H) : CRes :=
 obind (nilI a0) fun x11 =>
 obind (fadK 1 x11) fun x12 =>
 obind (fadK 1 x12) fun x13 =>
 obind (ld0 h x13) fun x14 =>
 obind (ldA 11 h a4) fun x15 =>
 obind2 (bslK false 11 z11 1 [(0, x15)] h) fun x16 h17 =>
 obind (ld0 h17 x13) fun x18 =>
 bif IV.beq x18 x14 then
 obind2 (appK 11 136 h17 x14 x16) fun x19 h20 =>
 obind (nilI a0) fun x21 =>
 obind (fadK 1 x21) fun x22 =>
 obind (fadK 1 x22) fun x23 =>
 obindH (stA 1 h20 x23 x19) fun h24 =>
 .ok (.tup []) h24
 else .fail
theorem e29_1 {a0 a4 : IV} (e : t29_1 (CL T) (J29 T) a0 a4 h = r) (hr : r ≠ .fail) : J29 T 1 [a0, a4] h = r := fj_step (by kernel_rfl) e hr
def js31 : List Jn := [⟨[], [0, 1, 2]⟩, ⟨[1, 1], [0, 1, 5]⟩, ⟨[1, 1, 1], [0, 1, 5]⟩, ⟨[0, 1, 0, 1, 1, 1, 1, 1, 1], [0, 1, 5, 6, 7, 8, 9, 72, 73, 74]⟩, ⟨[0, 1, 0, 1, 1, 1, 1, 1, 1, 1], [0, 1, 5, 6, 7, 8, 9, 85, 86, 87]⟩, ⟨[0, 1, 0, 1, 1, 1, 1, 1, 1, 1, 1], [0, 1, 5, 6, 7, 8, 9, 98, 99, 100]⟩, ⟨[1, 1, 1, 0, 0, 1, 0, 1, 1, 1, 1, 1, 1, 1, 1], [0, 1, 5, 6, 7, 8, 9, 98, 99, 100]⟩, ⟨[0, 1, 0, 1, 1, 1, 1, 1, 1, 1, 1, 1, 1], [0, 1, 5, 6, 7, 9, 133, 134, 135]⟩, ⟨[1, 1, 1, 0, 0, 1, 0, 1, 1, 1, 1, 1, 1, 1, 1, 1, 1], [0, 1, 5, 6, 7, 9, 133, 134, 135]⟩]
noncomputable def J31 (T : Tab) : Rec := fj Tryz.prog (CL T) Tryz.f31 js31
noncomputable def t31_0 (cf : CallF) (R : Rec) (a0 a1 a2 : IV) (h : H) : CRes :=
 obind2 (newI h (IV.cells a2)) fun x1 h2 =>
 obind (nilI a1) fun x3 =>
 obind (fadK 4 x3) fun x4 =>
 obind (ld0 h2 x4) fun x5 =>
 obind (binN .geq x5 (.int .i64 32)) fun x6 =>
 condK x6
 (obind (fadK 47 x1) fun x7 =>
 obind (ld0 h2 x7) fun x8 =>
 callP (cf 25 [x8, (.int .i64 80)] h2) .pan fun x9 h10 =>
 R 1 [a0, a1, x1] h10)
 (R 1 [a0, a1, x1] h2)
theorem e31_0 {a0 a1 a2 : IV} (e : t31_0 (CL T) (J31 T) a0 a1 a2 h = r) (hr : r ≠ .fail) : J31 T 0 [a0, a1, a2] h = r := fj_step (by kernel_rfl) e hr
noncomputable def t31_1 (cf : CallF) (R : Rec) (a0 a1 a5 : IV) (h : H) : CRes :=
 obind (nilI a0) fun x11 =>
 obind (fadK 5 x11) fun x12 =>
 obind (ld0 h x12) fun x13 =>
 obind (binN .add x13 (.int .i64 1)) fun x14 =>
 obind (nilI a0) fun x15 =>
 obind (fadK 5 x15) fun x16 =>
 obindH (stA 1 h x16 x14) fun h17 =>
 obind (nilI a0) fun x18 =>
 obind (fadK 5 x18) fun x19 =>
 obind (ld0 h17 x19) fun x20 =>
 obind (binN .gtr x20 (.int .i64 256)) fun x21 =>
 condK x21
 (obind (fadK 47 a5) fun x22 =>
 obind (ld0 h17 x22) fun x23 =>
 callP (cf 25 [x23, (.int .i64 83)] h17) .pan fun x24 h25 =>
 R 2 [a0, a1, a5] h25)
 (R 2 [a0, a1, a5] h17)
theorem e31_1 {a0 a1 a5 : IV} (e : t31_1 (CL T) (J31 T) a0 a1 a5 h = r) (hr : r ≠ .fail) : J31 T 1 [a0, a1, a5] h = r := fj_step (by kernel_rfl) e hr
noncomputable def t31_2 (cf : CallF) (R : Rec) (a0 a1 a5 : IV) (h : H) : CRes :=
 obind (nilI a0) fun x26 =>
 obind (fadK 0 x26) fun x27 =>
 obind (ld0 h x27) fun x28 =>
 obind (fadK 42 a5) fun x29 =>
 obind (ld0 h x29) fun x30 =>
 obind (lkK true (.agg z4) h x28 x30 false) fun x31 =>
 obind2 (newI h z4) fun x32 h33 =>
 obind (lkK true (.agg z4) h33 x28 x30 false) fun x34 =>
 bif IV.beq x34 x31 then
 obind (ld0 h33 x29) fun x35 =>
 bif IV.beq x35 x30 then
 obind (ld0 h33 x27) fun x36 =>
 bif IV.beq x36 x28 then
 obindH (stA 5 h33 x32 x31) fun h37 =>
 obind (nilI a1) fun x38 =>
 obind (fadK 0 x38) fun x39 =>
 obind (fadK 0 x39) fun x40 =>
 obind (ld0 h37 x40) fun x41 =>
 obind (fadK 1 a5) fun x42 =>
 obind (ld0 h37 x42) fun x43 =>
 obind (binS .add x41 x43) fun x44 =>
 obind (binS .add x44 (.str ⟨1, 46⟩)) fun x45 =>
 callP (cf 12 [] h37) (fun v46 h47 =>
 obind (nilI a1) fun x48 =>
 obind (fadK 4 x48) fun x49 =>
 obind (ld0 h37 x49) fun x50 =>
 obind (binN .add x50 (.int .i64 1)) fun x51 =>
 .pan v46 h47) fun x52 h53 =>
 obind (binS .add x44 (.str ⟨1, 46⟩)) fun x54 =>
 bif IV.beq x54 x45 then
 obind (binS .add x41 x43) fun x55 =>
 bif IV.beq x55 x44 then
 obind (ld0 h53 x42) fun x56 =>
 bif IV.beq x56 x43 then
 obind (ld0 h53 x40) fun x57 =>
 bif IV.beq x57 x41 then
 obind (nilI a1) fun x58 =>
 obind (fadK 4 x58) fun x59 =>
 obind (ld0 h53 x59) fun x60 =>
 obind (ld0 h37 x59) fun x61 =>
 bif IV.beq x61 x60 then
 obind (binN .add x60 (.int .i64 1)) fun x62 =>
 obind (binN .add x60 (.int .i64 1)) fun x63 =>
 bif IV.beq x63 x62 then
 callP (cf 11 [.nilPtr, x45, x52, x62] h53) (fun v64 h65 =>
 .pan v64 h65) fun x66 h67 =>
 mapK h67 fun x69 h68 =>
 mapK h68 fun x71 h70 =>
 obind (fadK 43 a5) fun x72 =>
 obind (ld0 h70 x72) fun x73 =>
 obind (lenS x73) fun x74 =>
 R 3 [a0, a1, a5, x32, x66, x69, x71, x73, x74, (.int .i64 0)] h70
 else .fail
 else .fail
 else .fail
 else .fail
 else .fail
 else .fail
 else .fail
 else .fail
 else .fail
theorem e31_2 {a0 a1 a5 : IV} (e : t31_2 (CL T) (J31 T) a0 a1 a5 h = r) (hr : r ≠ .fail) : J31 T 2 [a0, a1, a5] h = r := fj_step (by kernel_rfl) e hr
noncomputable def t31_3 (cf : CallF) (R : Rec) (a0 a1 a5 a6 a7 a8 a9 a72 a73 a74 : IV) (h : H) : CRes :=
 obind (binN .lss a74 a73) fun x75 =>
 condK x75
 (obind (ixS 8 a72 a74) fun x76 =>
 obind (ldA 8 h x76) fun x77 =>
 obind2 (newI h z5) fun x78 h79 =>
 obindH (stA 8 h79 x78 x77) fun h80 =>
 obind (fadK 0 x78) fun x81 =>
 obind (ld0 h80 x81) fun x82 =>
 obind (fadK 1 x78) fun x83 =>
 obind (ldA 6 h80 x83) fun x84 =>
 obindH (mupK true h80 a8 x82 x84) fun h85 =>
 obind (binN .add a74 (.int .i64 1)) fun x86 =>
 R 3 [a0, a1, a5, a6, a7, a8, a9, a72, a73, x86] h85)
 (obind (fadK 44 a5) fun x87 =>
 obind (ld0 h x87) fun x88 =>
 obind (lenS x88) fun x89 =>
 R 4 [a0, a1, a5, a6, a7, a8, a9, x88, x89, (.int .i64 0)] h)
theorem e31_3 {a0 a1 a5 a6 a7 a8 a9 a72 a73 a74 : IV} (e : t31_3 (CL T) (J31 T) a0 a1 a5 a6 a7 a8 a9 a72 a73 a74 h = r) (hr : r ≠ .fail) : J31 T 3 [a0, a1, a5, a6, a7, a8, a9, a72, a73, a74] h = r := fj_step (by kernel_rfl) e hr
noncomputable def t31_4 (cf : CallF) (R : Rec) (a0 a1 a5 a6 a7 a8 a9 a85 a86 a87 : IV) (h : H) : CRes :=
 obind (binN .lss a87 a86) fun x90 =>
 condK x90
 (obind (ixS 8 a85 a87) fun x91 =>
 obind (ldA 8 h x91) fun x92 =>
 obind2 (newI h z5) fun x93 h94 =>
 obindH (stA 8 h94 x93 x92) fun h95 =>
 obind (fadK 0 x93) fun x96 =>
 obind (ld0 h95 x96) fun x97 =>
 obind (fadK 1 x93) fun x98 =>
 obind (ldA 6 h95 x98) fun x99 =>
 obindH (mupK true h95 a9 x97 x99) fun h100 =>
 obind (binN .add a87 (.int .i64 1)) fun x101 =>
 R 4 [a0, a1, a5, a6, a7, a8, a9, a85, a86, x101] h100)
 (obind (fadK 1 a6) fun x102 =>
 obind (ld0 h x102) fun x103 =>
 obind (lenS x103) fun x104 =>
 R 5 [a0, a1, a5, a6, a7, a8, a9, x103, x104, (.int .i64 0)] h)
theorem e31_4 {a0 a1 a5 a6 a7 a8 a9 a85 a86 a87 : IV} (e : t31_4 (CL T) (J31 T) a0 a1 a5 a6 a7 a8 a9 a85 a86 a87 h = r) (hr : r ≠ .fail) : J31 T 4 [a0, a1, a5, a6, a7, a8, a9, a85, a86, a87] h = r := fj_step (by kernel_rfl) e hr
noncomputable def t31_5 (cf : CallF) (R : Rec) (a0 a1 a5 a6 a7 a8 a9 a98 a99 a100 : IV) (h : H) : CRes :=
 obind (binN .lss a100 a99) fun x105 =>
 condK x105
 (obind (ixS 8 a98 a100) fun x106 =>
 obind (ldA 8 h x106) fun x107 =>
 obind2 (newI h z5) fun x108 h109 =>
 obindH (stA 8 h109 x108 x107) fun h110 =>
 obind (fadK 0 x108) fun x111 =>
 obind (ld0 h110 x111) fun x112 =>
 obind (lkK true (.agg z16) h110 a8 x112 true) fun x113 =>
 obind (extractI x113 0) fun x114 =>
 obind (extractI x113 1) fun x115 =>
 obind2 (newI h110 z16) fun x116 h117 =>
 obindH (stA 6 h117 x116 x114) fun h118 =>
 condK x115
 (obind (fadK 0 x108) fun x119 =>
 obind (ld0 h118 x119) fun x120 =>
 obind (ldA 6 h118 x116) fun x121 =>
 callP (cf 14 [a1, x121] h118) (fun v122 h123 =>
 .pan v122 h123) fun x124 h125 =>
 obind (ld0 h125 x119) fun x126 =>
 bif IV.beq x126 x120 then
 callP (cf 13 [a7, x120, x124] h125) (fun v127 h128 =>
 .pan v127 h128) fun x129 h130 =>
 R 6 [a0, a1, a5, a6, a7, a8, a9, a98, a99, a100] h130
 else .fail)
 (obind (fadK 0 x108) fun x131 =>
 obind (ld0 h118 x131) fun x132 =>
 obind (fadK 1 x108) fun x133 =>
 obind (ldA 6 h118 x133) fun x134 =>
 callP (cf 14 [a7, x134] h118) (fun v135 h136 =>
 .pan v135 h136) fun x137 h138 =>
 obind (ld0 h138 x131) fun x139 =>
 bif IV.beq x139 x132 then
 callP (cf 13 [a7, x132, x137] h138) (fun v140 h141 =>
 .pan v140 h141) fun x142 h143 =>
 R 6 [a0, a1, a5, a6, a7, a8, a9, a98, a99, a100] h143
 else .fail))
 (obind (ldA 5 h a6) fun x144 =>
 callP (cf 15 [a0, a7, x144, (.int .i64 1)] h) .pan fun x145 h146 =>
 obind (fadK 2 a6) fun x147 =>
 obind (ld0 h146 x147) fun x148 =>
 obind (lenS x148) fun x149 =>
 R 7 [a0, a1, a5, a6, a7, a9, x148, x149, (.int .i64 0)] h146)
theorem e31_5 {a0 a1 a5 a6 a7 a8 a9 a98 a99 a100 : IV} (e : t31_5 (CL T) (J31 T) a0 a1 a5 a6 a7 a8 a9 a98 a99 a100 h = r) (hr : r ≠ .fail) : J31 T 5 [a0, a1, a5, a6, a7, a8, a9, a98, a99, a100] h = r := fj_step (by kernel_rfl) e hr
noncomputable def t31_6 (cf : CallF) (R : Rec) (a0 a1 a5 a6 a7 a8 a9 a98 a99 a100 : IV) (h : H) : CRes :=
 obind (binN .add a100 (.int .i64 1)) fun x150 =>
 R 5 [a0, a1, a5, a6, a7, a8, a9, a98, a99, x150] h
theorem e31_6 {a0 a1 a5 a6 a7 a8 a9 a98 a99 a100 : IV} (e : t31_6 (CL T) (J31 T) a0 a1 a5 a6 a7 a8 a9 a98 a99 a100 h = r) (hr : r ≠ .fail) : J31 T 6 [a0, a1, a5, a6, a7, a8, a9, a98, a99, a100] h = r := fj_step (by kernel_rfl) e hr
noncomputable def t31_7 (cf : CallF) (R : Rec) (a0 a1 a5 a6 a7 a9 a133 a134 a135 : IV) (h : H) : CRes :=
 obind (binN .lss a135 a134) fun x151 =>
 condK x151
 (obind (ixS 17 a133 a135) fun x152 =>
 obind (ldA 17 h x152) fun x153 =>
 obind2 (newI h z9) fun x154 h155 =>
 obindH (stA 17 h155 x154 x153) fun h156 =>
 obind (fadK 15 x154) fun x157 =>
 obind (ld0 h156 x157) fun x158 =>
 obind (lkK true (.agg z16) h156 a9 x158 true) fun x159 =>
 obind (extractI x159 0) fun x160 =>
 obind (extractI x159 1) fun x161 =>
 obind2 (newI h156 z16) fun x162 h163 =>
 obindH (stA 6 h163 x162 x160) fun h164 =>
 obind (nilI a7) fun x165 =>
 obind (fadK 0 x165) fun x166 =>
 obind (fadK 0 x166) fun x167 =>
 obind (ld0 h164 x167) fun x168 =>
 obind (fadK 15 x154) fun x169 =>
 obind (ld0 h164 x169) fun x170 =>
 obind (binS .add x168 x170) fun x171 =>
 obind (unI .not x161) fun x172 =>
 condK x172
 (R 8 [a0, a1, a5, a6, a7, a9, a133, a134, a135] h164)
 (obind (fadK 0 x154) fun x173 =>
 obind (ld0 h164 x173) fun x174 =>
 condK x174
 (obind (fadK 1 x162) fun x175 =>
 obind (ld0 h164 x175) fun x176 =>
 callP (cf 27 [a0, a1, x176] h164) (fun v177 h178 =>
 obind (fadK 5 x162) fun x179 =>
 obind (ld0 h164 x179) fun x180 =>
 obind (bldK z16 p17 [(0, (.int .i64 2)), (1, x171), (5, x180)]) fun x181 =>
 obind (fadK 47 a5) fun x182 =>
 obind (ld0 h164 x182) fun x183 =>
 .pan v177 h178) fun x184 h185 =>
 obind (fadK 5 x162) fun x186 =>
 obind (ld0 h185 x186) fun x187 =>
 obind (ld0 h164 x186) fun x188 =>
 bif IV.beq x188 x187 then
 obind (bldK z16 p17 [(0, (.int .i64 2)), (1, x171), (5, x187)]) fun x189 =>
 obind (fadK 47 a5) fun x190 =>
 obind (ld0 h185 x190) fun x191 =>
 obind (ld0 h164 x190) fun x192 =>
 bif IV.beq x192 x191 then
 callP (cf 26 [a0, x184, (.int .i64 0), x189, x191] h185) (fun v193 h194 =>
 .pan v193 h194) fun x195 h196 =>
 R 8 [a0, a1, a5, a6, a7, a9, a133, a134, a135] h196
 else .fail
 else .fail)
 (obind (nilI a0) fun x197 =>
 obind (fadK 4 x197) fun x198 =>
 obind (ld0 h164 x198) fun x199 =>
 obind (lkK true (.int .i64 0) h164 x199 x171 false) fun x200 =>
 obind (ldA 6 h164 x162) fun x201 =>
 callP (cf 28 [a0, a1, x201] h164) (fun v202 h203 =>
 obind (fadK 47 a5) fun x204 =>
 obind (ld0 h164 x204) fun x205 =>
 .pan v202 h203) fun x206 h207 =>
 obind (lkK true (.int .i64 0) h207 x199 x171 false) fun x208 =>
 bif IV.beq x208 x200 then
 obind (ld0 h207 x198) fun x209 =>
 bif IV.beq x209 x199 then
 obind (fadK 47 a5) fun x210 =>
 obind (ld0 h207 x210) fun x211 =>
 obind (ld0 h164 x210) fun x212 =>
 bif IV.beq x212 x211 then
 callP (cf 26 [a0, x200, (.int .i64 0), x206, x211] h207) (fun v213 h214 =>
 .pan v213 h214) fun x215 h216 =>
 R 8 [a0, a1, a5, a6, a7, a9, a133, a134, a135] h216
 else .fail
 else .fail
 else .fail)))
 (obind (fadK 3 a6) fun x217 =>
 obind (ld0 h x217) fun x218 =>
 callP (cf 16 [a0, a7, x218] h) .pan fun x219 h220 =>
 .ok (.tup []) h220)
theorem e31_7 {a0 a1 a5 a6 a7 a9 a133 a134 a135 : IV} (e : t31_7 (CL T) (J31 T) a0 a1 a5 a6 a7 a9 a133 a134 a135 h = r) (hr : r ≠ .fail) : J31 T 7 [a0, a1, a5, a6, a7, a9, a133, a134, a135] h = r := fj_step (by kernel_rfl) e hr
noncomputable def t31_8 (cf : CallF) (R : Rec) (a0 a1 a5 a6 a7 a9 a133 a134 a135 : IV) (h : H) : CRes :=
 obind (binN .add a135 (.int .i64 1)) fun x221 =>
 R 7 [a0, a1, a5, a6, a7, a9, a133, a134, x221] h
theorem e31_8 {a0 a1 a5 a6 a7 a9 a133 a134 a135 : IV} (e : t31_8 (CL T) (J31 T) a0 a1 a5 a6 a7 a9 a133 a134 a135 h = r) (hr : r ≠ .fail) : J31 T 8 [a0, a1, a5, a6, a7, a9, a133, a134, a135] h = r := fj_step (by kernel_rfl) e hr
def js34 : List Jn := [⟨[], [0, 1, 2]⟩]
noncomputable def J34 (T : Tab) : Rec := fj Tryz.prog (CL T) Tryz.f34 js34
noncomputable def t34_0 (cf : CallF) (R : Rec) (a0 a1 a2 : IV) (h : H) : CRes :=
 obind (lenStr a0) fun x1 =>
 obind (binN .sub x1 a1) fun x2 =>
 obind (lenStr a2) fun x3 =>
 obind (binN .geq x2 x3) fun x4 =>
 spanK x4 true h (fun k5 =>
 obind (lenStr a2) fun x8 =>
 obind (binN .add a1 x8) fun x9 =>
 obind (slcStr a0 (some a1) (some x9)) fun x10 =>
 obind (binS .eql x10 a2) fun x11 =>
 k5 x11 h) fun x6 h7 =>
 obind (pickI x4 (some x6) (some (.bool false))) fun x12 =>
 .ok x12 h7
theorem e34_0 {a0 a1 a2 : IV} (e : t34_0 (CL T) (J34 T) a0 a1 a2 h = r) (hr : r ≠ .fail) : J34 T 0 [a0, a1, a2] h = r := fj_step (by kernel_rfl) e hr
theorem c34 (hT : OvStep T) (ho : T.ov 34 = none) (hp : T.pol 34 = true) {a0 a1 a2 : IV} (hg : Gd h) (e : t34_0 (CL T) (J34 T) a0 a1 a2 h = r) (hr : r ≠ .fail) : CL T 34 [a0, a1, a2] h = r := call_good ho Tryz.func34 rfl rfl rfl hp hg hT (e34_0 e hr) hr
def js36 : List Jn := [⟨[], [0, 1]⟩, ⟨[1, 1, 1], [0, 1, 4, 7]⟩, ⟨[0, 0, 1, 0, 1, 0, 1, 1, 1], [0, 1, 4, 7, 8]⟩, ⟨[1, 1, 1, 1, 1, 0, 1, 0, 1, 1, 1], [0, 1, 4, 7, 8, 9]⟩, ⟨[0, 0, 0, 1, 0, 1, 1, 1, 1], [0, 1, 4, 7]⟩]
noncomputable def J36 (T : Tab) : Rec := fj Tryz.prog (CL T) Tryz.f36 js36
noncomputable def t36_0 (cf : CallF) (R : Rec) (a0 a1 : IV) (h : H) : CRes :=
 obind2 (newI h z13) fun x1 h2 =>
 obind (ixStr a0 a1) fun x3 =>
 obind (binN .eql x3 (.int .u8 96)) fun x4 =>
 condK x4
 (obind (binN .add a1 (.int .i64 1)) fun x5 =>
 R 1 [a0, a1, x1, x5] h2)
 (R 1 [a0, a1, x1, a1] h2)
theorem e36_0 {a0 a1 : IV} (e : t36_0 (CL T) (J36 T) a0 a1 h = r) (hr : r ≠ .fail) : J36 T 0 [a0, a1] h = r := fj_step (by kernel_rfl) e hr
noncomputable def t36_1 (cf : CallF) (R : Rec) (a0 a1 a4 a7 : IV) (h : H) : CRes :=
 obind (lenStr a0) fun x6 =>
 obind (binN .lss a7 x6) fun x7 =>
 spanK x7 true h (fun k8 =>
 obind (ixStr a0 a7) fun x11 =>
 callP (cf 51 [x11] h) .pan fun x12 h13 =>
 k8 x12 h13) fun x9 h10 =>
 obind (pickI x7 (some x9) (some (.bool false))) fun x14 =>
 condK x14
 (R 2 [a0, a1, a4, a7, a7] h10)
 (obind (ixStr a0 a1) fun x15 =>
 callP (cf 53 [x15] h10) .pan fun x16 h17 =>
 condK x16
 (R 4 [a0, a1, a4, a7] h17)
 (callP (cf 55 [a0, a1] h17) .pan fun x18 h19 =>
 obind (binS .eql x18 (.str ⟨0, 0⟩)) fun x20 =>
 condK x20
 (obind (bldK z13 p1 []) fun x21 =>
 obindH (stA 3 h19 a4 x21) fun h22 =>
 obind (ldA 3 h22 a4) fun x23 =>
 .ok (.tup [x23, (.int .i64 0), (.int .i64 20)]) h22)
 (obind (bldK z13 p1 [(0, (.int .i64 3)), (1, x18), (2, a1)]) fun x24 =>
 obind (lenStr x18) fun x25 =>
 obind (binN .add a1 x25) fun x26 =>
 obindH (stA 3 h19 a4 x24) fun h27 =>
 obind (ldA 3 h27 a4) fun x28 =>
 .ok (.tup [x28, x26, (.int .i64 0)]) h27)))
theorem e36_1 {a0 a1 a4 a7 : IV} (e : t36_1 (CL T) (J36 T) a0 a1 a4 a7 h = r) (hr : r ≠ .fail) : J36 T 1 [a0, a1, a4, a7] h = r := fj_step (by kernel_rfl) e hr
noncomputable def t36_2 (cf : CallF) (R : Rec) (a0 a1 a4 a7 a8 : IV) (h : H) : CRes :=
 obind (lenStr a0) fun x29 =>
 obind (binN .lss a7 x29) fun x30 =>
 spanK x30 true h (fun k31 =>
 obind (ixStr a0 a7) fun x34 =>
 callP (cf 52 [x34] h) .pan fun x35 h36 =>
 k31 x35 h36) fun x32 h33 =>
 obind (pickI x30 (some x32) (some (.bool false))) fun x37 =>
 condK x37
 (obind (binN .add a7 (.int .i64 1)) fun x38 =>
 R 2 [a0, a1, a4, x38, a8] h33)
 (obind (binN .sub a7 a8) fun x39 =>
 obind (binN .gtr x39 (.int .i64 64)) fun x40 =>
 condK x40
 (obind (bldK z13 p1 []) fun x41 =>
 obindH (stA 3 h33 a4 x41) fun h42 =>
 obind (ldA 3 h42 a4) fun x43 =>
 .ok (.tup [x43, (.int .i64 0), (.int .i64 4)]) h42)
 (obind (ixStr a0 a1) fun x44 =>
 obind (binN .eql x44 (.int .u8 96)) fun x45 =>
 condK x45
 (R 3 [a0, a1, a4, a7, a8, (.int .i64 4)] h33)
 (R 3 [a0, a1, a4, a7, a8, (.int .i64 1)] h33)))
theorem e36_2 {a0 a1 a4 a7 a8 : IV} (e : t36_2 (CL T) (J36 T) a0 a1 a4 a7 a8 h = r) (hr : r ≠ .fail) : J36 T 2 [a0, a1, a4, a7, a8] h = r := fj_step (by kernel_rfl) e hr
noncomputable def t36_4 (cf : CallF) (R : Rec) (a0 a1 a4 a7 : IV) (h : H) : CRes :=
 obind (lenStr a0) fun x46 =>
 obind (binN .lss a7 x46) fun x47 =>
 spanK x47 true h (fun k48 =>
 obind (ixStr a0 a7) fun x51 =>
 callP (cf 52 [x51] h) .pan fun x52 h53 =>
 k48 x52 h53) fun x49 h50 =>
 spanK x49 false h50 (fun k54 =>
 obind (ixStr a0 a7) fun x57 =>
 obind (binN .eql x57 (.int .u8 39)) fun x58 =>
 k54 x58 h50) fun x55 h56 =>
 spanK x47 true h56 (fun k59 =>
 obind (pickI x49 (some (.bool true)) (some x55)) fun x62 =>
 k59 x62 h56) fun x60 h61 =>
 obind (pickI x47 (some x60) (some (.bool false))) fun x63 =>
 condK x63
 (obind (binN .add a7 (.int .i64 1)) fun x64 =>
 R 4 [a0, a1, a4, x64] h61)
 (obind (slcStr a0 (some a1) (some a7)) fun x65 =>
 callP (cf 54 [x65] h61) .pan fun x66 h67 =>
 obind (extractI x66 0) fun x68 =>
 obind (extractI x66 1) fun x69 =>
 obind (extractI x66 2) fun x70 =>
 obind (binN .neq x70 (.int .i64 0)) fun x71 =>
 condK x71
 (obind (bldK z13 p1 []) fun x72 =>
 obindH (stA 3 h67 a4 x72) fun h73 =>
 obind (ldA 3 h73 a4) fun x74 =>
 .ok (.tup [x74, (.int .i64 0), x70]) h73)
 (obind (slcStr a0 (some a1) (some a7)) fun x75 =>
 obind (bldK z13 p1 [(0, (.int .i64 2)), (1, x75), (2, a1)]) fun x76 =>
 obindH (stA 3 h67 a4 x76) fun h77 =>
 obind (ldA 3 h77 a4) fun x78 =>
 .ok (.tup [x78, a7, (.int .i64 0)]) h77))
theorem e36_4 {a0 a1 a4 a7 : IV} (e : t36_4 (CL T) (J36 T) a0 a1 a4 a7 h = r) (hr : r ≠ .fail) : J36 T 4 [a0, a1, a4, a7] h = r := fj_step (by kernel_rfl) e hr
noncomputable def t36_3 (cf : CallF) (R : Rec) (a0 a1 a4 a7 a8 a9 : IV) (h : H) : CRes :=
 obind (slcStr a0 (some a8) (some a7)) fun x79 =>
 obind (bldK z13 p1 [(0, a9), (1, x79), (2, a1)]) fun x80 =>
 obindH (stA 3 h a4 x80) fun h81 =>
 obind (ldA 3 h81 a4) fun x82 =>
 .ok (.tup [x82, a7, (.int .i64 0)]) h81
theorem e36_3 {a0 a1 a4 a7 a8 a9 : IV} (e : t36_3 (CL T) (J36 T) a0 a1 a4 a7 a8 a9 h = r) (hr : r ≠ .fail) : J36 T 3 [a0, a1, a4, a7, a8, a9] h = r := fj_step (by kernel_rfl) e hr
def js37 : List Jn := [⟨[], [0]⟩, ⟨[1, 1, 1, 1, 1], [0, 2, 3]⟩, ⟨[1, 1, 1, 1, 1, 1, 1], [0, 2, 3]⟩, ⟨[1, 0, 1, 0, 1, 1, 1, 1, 1, 1], [0, 2, 3]⟩, ⟨[0, 0, 0, 1, 0, 1, 1, 1, 1, 1, 1], [0, 2, 3]⟩]
noncomputable def J37 (T : Tab) : Rec := fj Tryz.prog (CL T) Tryz.f37 js37
noncomputable def t37_0 (cf : CallF) (R : Rec) (a0 : IV) (h : H) : CRes :=
 obind2 (newI h z4) fun x1 h2 =>
 callP (cf 56 [a0] h2) .pan fun x3 h4 =>
 obind (bldK z4 p18 [(4, x3)]) fun x5 =>
 obind2 (newI h4 z4) fun x6 h7 =>
 obindH (stA 5 h7 x6 x5) fun h8 =>
 callP (cf 57 [a0, (.str ⟨6, 111516500389741⟩)] h8) .pan fun x9 h10 =>
 callP (cf 58 [a0] h10) .pan fun x11 h12 =>
 obind (fadK 0 x6) fun x13 =>
 obindH (stA 1 h12 x13 x11) fun h14 =>
 callP (cf 59 [a0, (.str ⟨1, 35⟩)] h14) .pan fun x15 h16 =>
 condK x15
 (callP (cf 60 [a0] h16) .pan fun x17 h18 =>
 obind (fadK 1 x6) fun x19 =>
 obindH (stA 1 h18 x19 x17) fun h20 =>
 R 1 [a0, x1, x6] h20)
 (R 1 [a0, x1, x6] h16)
theorem e37_0 {a0 : IV} (e : t37_0 (CL T) (J37 T) a0 h = r) (hr : r ≠ .fail) : J37 T 0 [a0] h = r := fj_step (by kernel_rfl) e hr
noncomputable def t37_1 (cf : CallF) (R : Rec) (a0 a2 a3 : IV) (h : H) : CRes :=
 callP (cf 57 [a0, (.str ⟨1, 40⟩)] h) .pan fun x21 h22 =>
 callP (cf 59 [a0, (.str ⟨1, 41⟩)] h22) .pan fun x23 h24 =>
 obind (unI .not x23) fun x25 =>
 condK x25
 (R 4 [a0, a2, a3] h24)
 (R 2 [a0, a2, a3] h24)
theorem e37_1 {a0 a2 a3 : IV} (e : t37_1 (CL T) (J37 T) a0 a2 a3 h = r) (hr : r ≠ .fail) : J37 T 1 [a0, a2, a3] h = r := fj_step (by kernel_rfl) e hr
noncomputable def t37_2 (cf : CallF) (R : Rec) (a0 a2 a3 : IV) (h : H) : CRes :=
 callP (cf 57 [a0, (.str ⟨1, 59⟩)] h) .pan fun x26 h27 =>
 callP (cf 62 [a0, (.str ⟨9, 1870936414602775522917⟩), (.int .i64 1)] h27) .pan fun x28 h29 =>
 obind (fadK 3 a3) fun x30 =>
 obindH (stA 1 h29 x30 x28) fun h31 =>
 obind (ldA 5 h31 a3) fun x32 =>
 obindH (stA 5 h31 a2 x32) fun h33 =>
 obind (ldA 5 h33 a2) fun x34 =>
 .ok x34 h33
theorem e37_2 {a0 a2 a3 : IV} (e : t37_2 (CL T) (J37 T) a0 a2 a3 h = r) (hr : r ≠ .fail) : J37 T 2 [a0, a2, a3] h = r := fj_step (by kernel_rfl) e hr
noncomputable def t37_4 (cf : CallF) (R : Rec) (a0 a2 a3 : IV) (h : H) : CRes :=
 callP (cf 38 [a0] h) .pan fun x35 h36 =>
 condK x35
 (obind (fadK 2 a3) fun x37 =>
 obind (ld0 h36 x37) fun x38 =>
 callP (cf 61 [a0] h36) (fun v39 h40 =>
 .pan v39 h40) fun x41 h42 =>
 obind (ld0 h42 x37) fun x43 =>
 bif IV.beq x43 x38 then
 obind2 (bslK false 17 z9 1 [(0, x41)] h42) fun x44 h45 =>
 obind (ld0 h45 x37) fun x46 =>
 bif IV.beq x46 x38 then
 obind2 (appK 17 192 h45 x38 x44) fun x47 h48 =>
 obind (fadK 2 a3) fun x49 =>
 obindH (stA 1 h48 x49 x47) fun h50 =>
 callP (cf 59 [a0, (.str ⟨1, 44⟩)] h50) .pan fun x51 h52 =>
 obind (unI .not x51) fun x53 =>
 condK x53
 (R 3 [a0, a2, a3] h52)
 (R 4 [a0, a2, a3] h52)
 else .fail
 else .fail)
 (R 3 [a0, a2, a3] h36)
theorem e37_4 {a0 a2 a3 : IV} (e : t37_4 (CL T) (J37 T) a0 a2 a3 h = r) (hr : r ≠ .fail) : J37 T 4 [a0, a2, a3] h = r := fj_step (by kernel_rfl) e hr
noncomputable def t37_3 (cf : CallF) (R : Rec) (a0 a2 a3 : IV) (h : H) : CRes :=
 callP (cf 57 [a0, (.str ⟨1, 41⟩)] h) .pan fun x54 h55 =>
 R 2 [a0, a2, a3] h55
theorem e37_3 {a0 a2 a3 : IV} (e : t37_3 (CL T) (J37 T) a0 a2 a3 h = r) (hr : r ≠ .fail) : J37 T 3 [a0, a2, a3] h = r := fj_step (by kernel_rfl) e hr
def js38 : List Jn := [⟨[], [0]⟩]
noncomputable def J38 (T : Tab) : Rec := fj Tryz.prog (CL T) Tryz.f38 js38
noncomputable def t38_0 (cf : CallF) (R : Rec) (a0 : IV) (h : H) : CRes :=
 obind (nilI a0) fun x1 =>
 obind (fadK 2 x1) fun x2 =>
 obind (fadK 1 x2) fun x3 =>
 obind (ld0 h x3) fun x4 =>
 obind (binN .eql x4 (.int .i64 0)) fun x5 =>
 .ok x5 h
theorem e38_0 {a0 : IV} (e : t38_0 (CL T) (J38 T) a0 h = r) (hr : r ≠ .fail) : J38 T 0 [a0] h = r := fj_step (by kernel_rfl) e hr
def js39 : List Jn := [⟨[], [0, 1, 2, 3]⟩, ⟨[1], [0, 1, 2]⟩]
noncomputable def J39 (T : Tab) : Rec := fj Tryz.prog (CL T) Tryz.f39 js39
noncomputable def t39_0 (cf : CallF) (R : Rec) (a0 a1 a2 a3 : IV) (h : H) : CRes :=
 obind (nilI a0) fun x1 =>
 obind (fadK 1 x1) fun x2 =>
 obind (ld0 h x2) fun x3 =>
 obind (lkK true .nilPtr h x3 a1 true) fun x4 =>
 obind (extractI x4 0) fun x5 =>
 obind (extractI x4 1) fun x6 =>
 condK x6
 (callP (cf 20 [a3, (.int .i64 70)] h) .pan fun x7 h8 =>
 R 1 [a0, a1, a2] h8)
 (R 1 [a0, a1, a2] h)
theorem e39_0 {a0 a1 a2 a3 : IV} (e : t39_0 (CL T) (J39 T) a0 a1 a2 a3 h = r) (hr : r ≠ .fail) : J39 T 0 [a0, a1, a2, a3] h = r := fj_step (by kernel_rfl) e hr
noncomputable def t39_1 (cf : CallF) (R : Rec) (a0 a1 a2 : IV) (h : H) : CRes :=
 obind (nilI a0) fun x9 =>
 obind (fadK 1 x9) fun x10 =>
 obind (ld0 h x10) fun x11 =>
 obind (bldK [(.int .i64 0), (.bool false)] [(0, 1), (1, 1)] [(0, a2)]) fun x12 =>
 obind2 (newI h (IV.cells x12)) fun x13 h14 =>
 obindH (mupK true h14 x11 a1 x13) fun h15 =>
 .ok (.tup []) h15
theorem e39_1 {a0 a1 a2 : IV} (e : t39_1 (CL T) (J39 T) a0 a1 a2 h = r) (hr : r ≠ .fail) : J39 T 1 [a0, a1, a2] h = r := fj_step (by kernel_rfl) e hr
def js40 : List Jn := [⟨[], [0, 1]⟩, ⟨[0, 1], [0, 10, 11, 12]⟩, ⟨[1, 1, 1, 0, 0, 1], [0, 10, 11, 12]⟩, ⟨[0, 1, 0, 1, 0, 1, 1, 0, 0, 1, 1, 0, 0, 1], [0, 5, 10, 11, 12, 21, 22, 23]⟩, ⟨[0, 1, 0, 1, 1, 1, 0, 1, 1, 0, 0, 1, 1, 0, 0, 1], [0, 5, 10, 11, 12, 36, 37, 38]⟩, ⟨[1, 1, 1, 1, 1, 1, 1, 0, 1, 1, 0, 0, 1, 1, 0, 0, 1], [0, 5, 10, 11, 12, 56]⟩]
noncomputable def J40 (T : Tab) : Rec := fj Tryz.prog (CL T) Tryz.f40 js40
noncomputable def t40_0 (cf : CallF) (R : Rec) (a0 a1 : IV) (h : H) : CRes :=
 obind (lenS a1) fun x1 =>
 R 1 [a0, a1, x1, (.int .i64 0)] h
theorem e40_0 {a0 a1 : IV} (e : t40_0 (CL T) (J40 T) a0 a1 h = r) (hr : r ≠ .fail) : J40 T 0 [a0, a1] h = r := fj_step (by kernel_rfl) e hr
noncomputable def t40_1 (cf : CallF) (R : Rec) (a0 a10 a11 a12 : IV) (h : H) : CRes :=
 obind (binN .lss a12 a11) fun x2 =>
 condK x2
 (obind (ixS 48 a10 a12) fun x3 =>
 obind (ldA 48 h x3) fun x4 =>
 obind2 (newI h z10) fun x5 h6 =>
 obindH (stA 48 h6 x5 x4) fun h7 =>
 obind (fadK 0 x5) fun x8 =>
 obind (ld0 h7 x8) fun x9 =>
 obind (binN .eql x9 (.int .i64 1)) fun x10 =>
 condK x10
 (obind (fadK 2 x5) fun x11 =>
 obind (ld0 h7 x11) fun x12 =>
 obind (lenS x12) fun x13 =>
 R 3 [a0, x5, a10, a11, a12, x12, x13, (.int .i64 0)] h7)
 (obind (binN .eql x9 (.int .i64 2)) fun x14 =>
 condK x14
 (obind (fadK 2 x5) fun x15 =>
 obind (ld0 h7 x15) fun x16 =>
 obind (lenS x16) fun x17 =>
 R 4 [a0, x5, a10, a11, a12, x16, x17, (.int .i64 0)] h7)
 (obind (binN .eql x9 (.int .i64 3)) fun x18 =>
 condK x18
 (obind (fadK 1 x5) fun x19 =>
 obind (ld0 h7 x19) fun x20 =>
 obind (fadK 47 x5) fun x21 =>
 obind (ld0 h7 x21) fun x22 =>
 callP (cf 39 [a0, x20, (.int .i64 1), x22] h7) .pan fun x23 h24 =>
 R 2 [a0, a10, a11, a12] h24)
 (obind (binN .eql x9 (.int .i64 7)) fun x25 =>
 condK x25
 (R 5 [a0, x5, a10, a11, a12, x25] h7)
 (obind (binN .eql x9 (.int .i64 8)) fun x26 =>
 R 5 [a0, x5, a10, a11, a12, x26] h7)))))
 (.ok (.tup []) h)
theorem e40_1 {a0 a10 a11 a12 : IV} (e : t40_1 (CL T) (J40 T) a0 a10 a11 a12 h = r) (hr : r ≠ .fail) : J40 T 1 [a0, a10, a11, a12] h = r := fj_step (by kernel_rfl) e hr
noncomputable def t40_2 (cf : CallF) (R : Rec) (a0 a10 a11 a12 : IV) (h : H) : CRes :=
 obind (binN .add a12 (.int .i64 1)) fun x27 =>
 R 1 [a0, a10, a11, x27] h
theorem e40_2 {a0 a10 a11 a12 : IV} (e : t40_2 (CL T) (J40 T) a0 a10 a11 a12 h = r) (hr : r ≠ .fail) : J40 T 2 [a0, a10, a11, a12] h = r := fj_step (by kernel_rfl) e hr
noncomputable def t40_3 (cf : CallF) (R : Rec) (a0 a5 a10 a11 a12 a21 a22 a23 : IV) (h : H) : CRes :=
 obind (binN .lss a23 a22) fun x28 =>
 condK x28
 (obind (ixS 1 a21 a23) fun x29 =>
 obind (ld0 h x29) fun x30 =>
 obind (fadK 47 a5) fun x31 =>
 obind (ld0 h x31) fun x32 =>
 callP (cf 39 [a0, x30, (.int .i64 3), x32] h) .pan fun x33 h34 =>
 obind (binN .add a23 (.int .i64 1)) fun x35 =>
 R 3 [a0, a5, a10, a11, a12, a21, a22, x35] h34)
 (R 2 [a0, a10, a11, a12] h)
theorem e40_3 {a0 a5 a10 a11 a12 a21 a22 a23 : IV} (e : t40_3 (CL T) (J40 T) a0 a5 a10 a11 a12 a21 a22 a23 h = r) (hr : r ≠ .fail) : J40 T 3 [a0, a5, a10, a11, a12, a21, a22, a23] h = r := fj_step (by kernel_rfl) e hr
noncomputable def t40_4 (cf : CallF) (R : Rec) (a0 a5 a10 a11 a12 a36 a37 a38 : IV) (h : H) : CRes :=
 obind (binN .lss a38 a37) fun x36 =>
 condK x36
 (obind (ixS 1 a36 a38) fun x37 =>
 obind (ld0 h x37) fun x38 =>
 obind (fadK 47 a5) fun x39 =>
 obind (ld0 h x39) fun x40 =>
 callP (cf 39 [a0, x38, (.int .i64 4), x40] h) .pan fun x41 h42 =>
 obind (binN .add a38 (.int .i64 1)) fun x43 =>
 R 4 [a0, a5, a10, a11, a12, a36, a37, x43] h42)
 (R 2 [a0, a10, a11, a12] h)
theorem e40_4 {a0 a5 a10 a11 a12 a36 a37 a38 : IV} (e : t40_4 (CL T) (J40 T) a0 a5 a10 a11 a12 a36 a37 a38 h = r) (hr : r ≠ .fail) : J40 T 4 [a0, a5, a10, a11, a12, a36, a37, a38] h = r := fj_step (by kernel_rfl) e hr
noncomputable def t40_5 (cf : CallF) (R : Rec) (a0 a5 a10 a11 a12 a56 : IV) (h : H) : CRes :=
 condK a56
 (obind (fadK 1 a5) fun x44 =>
 obind (ld0 h x44) fun x45 =>
 obind (fadK 47 a5) fun x46 =>
 obind (ld0 h x46) fun x47 =>
 callP (cf 39 [a0, x45, (.int .i64 5), x47] h) .pan fun x48 h49 =>
 R 2 [a0, a10, a11, a12] h49)
 (R 2 [a0, a10, a11, a12] h)
theorem e40_5 {a0 a5 a10 a11 a12 a56 : IV} (e : t40_5 (CL T) (J40 T) a0 a5 a10 a11 a12 a56 h = r) (hr : r ≠ .fail) : J40 T 5 [a0, a5, a10, a11, a12, a56] h = r := fj_step (by kernel_rfl) e hr
def js41 : List Jn := [⟨[], [0, 1, 2]⟩, ⟨[0, 1], [0, 2, 9, 10, 11]⟩, ⟨[1, 1, 1, 0, 0, 1], [0, 2, 9, 10, 11]⟩, ⟨[1, 1, 1, 0, 1, 1, 0, 0, 1, 1, 0, 0, 1], [0, 2, 7, 9, 10, 11, 16, 34]⟩]
noncomputable def J41 (T : Tab) : Rec := fj Tryz.prog (CL T) Tryz.f41 js41
noncomputable def t41_0 (cf : CallF) (R : Rec) (a0 a1 a2 : IV) (h : H) : CRes :=
 obind (lenS a1) fun x1 =>
 R 1 [a0, a2, a1, x1, (.int .i64 0)] h
theorem e41_0 {a0 a1 a2 : IV} (e : t41_0 (CL T) (J41 T) a0 a1 a2 h = r) (hr : r ≠ .fail) : J41 T 0 [a0, a1, a2] h = r := fj_step (by kernel_rfl) e hr
noncomputable def t41_1 (cf : CallF) (R : Rec) (a0 a2 a9 a10 a11 : IV) (h : H) : CRes :=
 obind (binN .lss a11 a10) fun x2 =>
 condK x2
 (obind (ixS 48 a9 a11) fun x3 =>
 obind (ldA 48 h x3) fun x4 =>
 obind2 (newI h z10) fun x5 h6 =>
 obindH (stA 48 h6 x5 x4) fun h7 =>
 obind (fadK 0 x5) fun x8 =>
 obind (ld0 h7 x8) fun x9 =>
 obind (binN .eql x9 (.int .i64 4)) fun x10 =>
 condK x10
 (obind (fadK 1 x5) fun x11 =>
 obind (ld0 h7 x11) fun x12 =>
 obind (fadK 47 x5) fun x13 =>
 obind (ld0 h7 x13) fun x14 =>
 obind (fadK 47 x5) fun x15 =>
 obind (ld0 h7 x15) fun x16 =>
 callP (cf 63 [a0, x12, (.int .i64 3), x14, x16] h7) (fun v17 h18 =>
 obind (fadK 47 x5) fun x19 =>
 obind (ld0 h7 x19) fun x20 =>
 .pan v17 h18) fun x21 h22 =>
 obind (fadK 47 x5) fun x23 =>
 obind (ld0 h22 x23) fun x24 =>
 obind (ld0 h7 x23) fun x25 =>
 bif IV.beq x25 x24 then
 callP (cf 64 [x21, x24] h22) (fun v26 h27 =>
 .pan v26 h27) fun x28 h29 =>
 obind (fadK 23 x5) fun x30 =>
 obind (ldA 6 h29 x30) fun x31 =>
 callP (cf 65 [a0, x31] h29) .pan fun x32 h33 =>
 R 2 [a0, a2, a9, a10, a11] h33
 else .fail)
 (obind (binN .eql x9 (.int .i64 5)) fun x34 =>
 condK x34
 (R 3 [a0, a2, x5, a9, a10, a11, x9, x34] h7)
 (obind (binN .eql x9 (.int .i64 6)) fun x35 =>
 R 3 [a0, a2, x5, a9, a10, a11, x9, x35] h7)))
 (.ok (.tup []) h)
theorem e41_1 {a0 a2 a9 a10 a11 : IV} (e : t41_1 (CL T) (J41 T) a0 a2 a9 a10 a11 h = r) (hr : r ≠ .fail) : J41 T 1 [a0, a2, a9, a10, a11] h = r := fj_step (by kernel_rfl) e hr
noncomputable def t41_2 (cf : CallF) (R : Rec) (a0 a2 a9 a10 a11 : IV) (h : H) : CRes :=
 obind (binN .add a11 (.int .i64 1)) fun x36 =>
 R 1 [a0, a2, a9, a10, x36] h
theorem e41_2 {a0 a2 a9 a10 a11 : IV} (e : t41_2 (CL T) (J41 T) a0 a2 a9 a10 a11 h = r) (hr : r ≠ .fail) : J41 T 2 [a0, a2, a9, a10, a11] h = r := fj_step (by kernel_rfl) e hr
noncomputable def t41_3 (cf : CallF) (R : Rec) (a0 a2 a7 a9 a10 a11 a16 a34 : IV) (h : H) : CRes :=
 condK a34
 (obind (ldA 48 h a7) fun x37 =>
 callP (cf 66 [a0, x37] h) .pan fun x38 h39 =>
 R 2 [a0, a2, a9, a10, a11] h39)
 (obind (binN .eql a16 (.int .i64 7)) fun x40 =>
 condK x40
 (obind (ldA 48 h a7) fun x41 =>
 callP (cf 67 [a0, x41, a2] h) .pan fun x42 h43 =>
 R 2 [a0, a2, a9, a10, a11] h43)
 (obind (binN .eql a16 (.int .i64 8)) fun x44 =>
 condK x44
 (mapK h fun x46 h45 =>
 obind (bldK [.nilPtr, .nilMap] [(0, 1), (1, 1)] [(0, a0), (1, x46)]) fun x47 =>
 obind2 (newI h45 (IV.cells x47)) fun x48 h49 =>
 obind (fadK 41 a7) fun x50 =>
 obind (ld0 h49 x50) fun x51 =>
 obind (fadK 47 a7) fun x52 =>
 obind (ld0 h49 x52) fun x53 =>
 callP (cf 39 [x48, x51, (.int .i64 1), x53] h49) .pan fun x54 h55 =>
 obind (fadK 46 a7) fun x56 =>
 obind (ld0 h55 x56) fun x57 =>
 callP (cf 40 [x48, x57] h55) .pan fun x58 h59 =>
 obind (fadK 46 a7) fun x60 =>
 obind (ld0 h59 x60) fun x61 =>
 callP (cf 41 [x48, x61, a2] h59) .pan fun x62 h63 =>
 R 2 [a0, a2, a9, a10, a11] h63)
 (R 2 [a0, a2, a9, a10, a11] h)))
theorem e41_3 {a0 a2 a7 a9 a10 a11 a16 a34 : IV} (e : t41_3 (CL T) (J41 T) a0 a2 a7 a9 a10 a11 a16 a34 h = r) (hr : r ≠ .fail) : J41 T 3 [a0, a2, a7, a9, a10, a11, a16, a34] h = r := fj_step (by kernel_rfl) e hr
def js42 : List Jn := [⟨[], [0]⟩]
noncomputable def J42 (T : Tab) : Rec := fj Tryz.prog (CL T) Tryz.f42 js42
noncomputable def t42_0 (cf : CallF) (R : Rec) (a0 : IV) (h : H) : CRes :=
 obind (eqP .neq h a0 .nilPtr) fun x1 =>
 spanK x1 true h (fun k2 =>
 obind (nilI a0) fun x5 =>
 obind (fadK 0 x5) fun x6 =>
 obind (ld0 h x6) fun x7 =>
 obind (eqMp .neq x7 .nilMap) fun x8 =>
 k2 x8 h) fun x3 h4 =>
 obind (pickI x1 (some x3) (some (.bool false))) fun x9 =>
 .ok x9 h4
theorem e42_0 {a0 : IV} (e : t42_0 (CL T) (J42 T) a0 h = r) (hr : r ≠ .fail) : J42 T 0 [a0] h = r := fj_step (by kernel_rfl) e hr
def js43 : List Jn := [⟨[], [0]⟩]
noncomputable def J43 (T : Tab) : Rec := fj Tryz.prog (CL T) Tryz.f43 js43
noncomputable def t43_0 (cf : CallF) (R : Rec) (a0 : IV) (h : H) : CRes :=
 obind (binN .geq a0 (.int .i64 (-2147483647))) fun x1 =>
 spanK x1 true h (fun k2 =>
 obind (binN .leq a0 (.int .i64 2147483647)) fun x5 =>
 k2 x5 h) fun x3 h4 =>
 obind (pickI x1 (some x3) (some (.bool false))) fun x6 =>
 .ok x6 h4
theorem e43_0 {a0 : IV} (e : t43_0 (CL T) (J43 T) a0 h = r) (hr : r ≠ .fail) : J43 T 0 [a0] h = r := fj_step (by kernel_rfl) e hr
def js44 : List Jn := [⟨[1], [0, 1, 5]⟩]
noncomputable def J44 (T : Tab) : Rec := cj Tryz.prog (CL T) Tryz.f44 js44
noncomputable def t44_0 (cf : CallF) (R : Rec) (a0 a1 a5 : IV) (h : H) : CRes :=
 obind (eqIf .eql true a5 .nilIface) fun x1 =>
 condK x1
 (.ok (.tup []) h)
 (obind (assertI 122 true (some (.agg [(.int .i64 0), (.int .i64 0)])) a5) fun x2 =>
 obind (extractI x2 1) fun x3 =>
 obind (extractI x2 0) fun x4 =>
 condK x3
 (obind2 (newI h [(.int .i64 0), (.int .i64 0)]) fun x5 h6 =>
 obindH (stA 2 h6 x5 x4) fun h7 =>
 obind (fadK 0 x5) fun x8 =>
 obind (ldA 2 h7 x8) fun x9 =>
 obindH (stA 1 h7 a0 (.int .i64 0)) fun h10 =>
 obind (ldA 2 h10 x8) fun x11 =>
 bif IV.beq x11 x9 then
 obindH (stA 2 h10 a1 x9) fun h12 =>
 .ok (.tup []) h12
 else .fail)
 (panK a5 h nop))
theorem e44_0 {a0 a1 a5 : IV} (e : t44_0 (CL T) (J44 T) a0 a1 a5 h = r) (hr : r ≠ .fail) : J44 T 0 [a0, a1, a5] h = r := cj_step (by kernel_rfl) e hr
theorem l44 {T : Tab} {a0 a1 : IV} {st : I.Mode} {h h' : H} {v : IV} (hst : st ≠ .done) (e : t44_0 (CL T) (J44 T) a0 a1 (recV st) h = .ok v h') : LV Tryz.prog (CL T) 44 [a0, a1] st h = some (.ret, h') := LV_of Tryz.func44 rfl rfl (rfl) (of_decide_eq_true (by kernel_rfl)) hst rfl rfl (of_decide_eq_true (by kernel_rfl)) (e44_0 e (by simp))
def js45 : List Jn := [⟨[], [0, 1]⟩, ⟨[1, 1, 0, 1, 0, 1, 0, 1], [5]⟩, ⟨[1, 1, 0, 1, 1, 1, 0, 1, 0, 1], [7]⟩, ⟨[1, 1, 1], [0, 3]⟩, ⟨[1, 1, 1, 1, 1, 1, 1], [10]⟩]
noncomputable def J45 (T : Tab) : Rec := fj Tryz.prog (CL T) Tryz.f45 js45
noncomputable def t45_0 (cf : CallF) (R : Rec) (a0 a1 : IV) (h : H) : CRes :=
 obind2 (newI h (IV.cells a1)) fun x1 h2 =>
 obind (fadK 0 x1) fun x3 =>
 obind (ld0 h2 x3) fun x4 =>
 obind (binN .eql x4 (.int .i64 1)) fun x5 =>
 condK x5
 (obind (fadK 2 x1) fun x6 =>
 obind (ld0 h2 x6) fun x7 =>
 callP (cf 68 [x7] h2) .pan fun x8 h9 =>
 obind (extractI x8 0) fun x10 =>
 obind (extractI x8 1) fun x11 =>
 obind (binN .neq x11 (.int .i64 0)) fun x12 =>
 condK x12
 (obind (ldA 6 h9 x1) fun x13 =>
 callP (cf 69 [x13, (.int .i64 60)] h9) .pan fun x14 h15 =>
 R 1 [x10] h15)
 (R 1 [x10] h9))
 (obind (binN .eql x4 (.int .i64 2)) fun x16 =>
 condK x16
 (obind (nilI a0) fun x17 =>
 obind (fadK 0 x17) fun x18 =>
 obind (ld0 h2 x18) fun x19 =>
 obind (fadK 1 x1) fun x20 =>
 obind (ld0 h2 x20) fun x21 =>
 obind (lkK true (.int .i64 0) h2 x19 x21 true) fun x22 =>
 obind (extractI x22 0) fun x23 =>
 obind (extractI x22 1) fun x24 =>
 obind (unI .not x24) fun x25 =>
 condK x25
 (obind (ldA 6 h2 x1) fun x26 =>
 callP (cf 69 [x26, (.int .i64 71)] h2) .pan fun x27 h28 =>
 R 2 [x23] h28)
 (R 2 [x23] h2))
 (obind (binN .eql x4 (.int .i64 9)) fun x29 =>
 condK x29
 (obind (ldA 6 h2 x1) fun x30 =>
 callP (cf 70 [x30, (.int .i64 1)] h2) .pan fun x31 h32 =>
 obind (fadK 4 x1) fun x33 =>
 obind (ld0 h32 x33) fun x34 =>
 obind (ixS 6 x34 (.int .i64 0)) fun x35 =>
 obind (ldA 6 h32 x35) fun x36 =>
 callP (cf 45 [a0, x36] h32) .pan fun x37 h38 =>
 obind (unI .neg x37) fun x39 =>
 .ok x39 h38)
 (obind (binN .eql x4 (.int .i64 8)) fun x40 =>
 condK x40
 (obind (ldA 6 h2 x1) fun x41 =>
 callP (cf 70 [x41, (.int .i64 1)] h2) .pan fun x42 h43 =>
 obind (fadK 4 x1) fun x44 =>
 obind (ld0 h43 x44) fun x45 =>
 obind (ixS 6 x45 (.int .i64 0)) fun x46 =>
 obind (ldA 6 h43 x46) fun x47 =>
 callP (cf 45 [a0, x47] h43) .pan fun x48 h49 =>
 obind (binN .eql x48 (.int .i64 0)) fun x50 =>
 callP (cf 71 [x50] h49) .pan fun x51 h52 =>
 .ok x51 h52)
 (obind (binN .eql x4 (.int .i64 6)) fun x53 =>
 condK x53
 (obind (ldA 6 h2 x1) fun x54 =>
 callP (cf 70 [x54, (.int .i64 3)] h2) .pan fun x55 h56 =>
 obind (fadK 4 x1) fun x57 =>
 obind (ld0 h56 x57) fun x58 =>
 obind (ixS 6 x58 (.int .i64 0)) fun x59 =>
 obind (ldA 6 h56 x59) fun x60 =>
 callP (cf 45 [a0, x60] h56) .pan fun x61 h62 =>
 obind (binN .neq x61 (.int .i64 0)) fun x63 =>
 condK x63
 (obind (fadK 4 x1) fun x64 =>
 obind (ld0 h62 x64) fun x65 =>
 obind (ixS 6 x65 (.int .i64 1)) fun x66 =>
 obind (ldA 6 h62 x66) fun x67 =>
 callP (cf 45 [a0, x67] h62) .pan fun x68 h69 =>
 .ok x68 h69)
 (obind (fadK 4 x1) fun x70 =>
 obind (ld0 h62 x70) fun x71 =>
 obind (ixS 6 x71 (.int .i64 2)) fun x72 =>
 obind (ldA 6 h62 x72) fun x73 =>
 callP (cf 45 [a0, x73] h62) .pan fun x74 h75 =>
 .ok x74 h75))
 (obind (fadK 0 x1) fun x76 =>
 obind (ld0 h2 x76) fun x77 =>
 obind (binN .lss x77 (.int .i64 13)) fun x78 =>
 spanK x78 false h2 (fun k79 =>
 obind (fadK 0 x1) fun x82 =>
 obind (ld0 h2 x82) fun x83 =>
 obind (binN .gtr x83 (.int .i64 27)) fun x84 =>
 k79 x84 h2) fun x80 h81 =>
 obind (pickI x78 (some (.bool true)) (some x80)) fun x85 =>
 condK x85
 (obind (ldA 6 h81 x1) fun x86 =>
 callP (cf 69 [x86, (.int .i64 60)] h81) .pan fun x87 h88 =>
 R 3 [a0, x1] h88)
 (R 3 [a0, x1] h81))))))
theorem e45_0 {a0 a1 : IV} (e : t45_0 (CL T) (J45 T) a0 a1 h = r) (hr : r ≠ .fail) : J45 T 0 [a0, a1] h = r := fj_step (by kernel_rfl) e hr
noncomputable def t45_1 (cf : CallF) (R : Rec) (a5 : IV) (h : H) : CRes :=
 .ok a5 h
theorem e45_1 {a5 : IV} (e : t45_1 (CL T) (J45 T) a5 h = r) (hr : r ≠ .fail) : J45 T 1 [a5] h = r := fj_step (by kernel_rfl) e hr
noncomputable def t45_2 (cf : CallF) (R : Rec) (a7 : IV) (h : H) : CRes :=
 .ok a7 h
theorem e45_2 {a7 : IV} (e : t45_2 (CL T) (J45 T) a7 h = r) (hr : r ≠ .fail) : J45 T 2 [a7] h = r := fj_step (by kernel_rfl) e hr
noncomputable def t45_3 (cf : CallF) (R : Rec) (a0 a3 : IV) (h : H) : CRes :=
 obind (ldA 6 h a3) fun x89 =>
 callP (cf 70 [x89, (.int .i64 2)] h) .pan fun x90 h91 =>
 obind (fadK 4 a3) fun x92 =>
 obind (ld0 h91 x92) fun x93 =>
 obind (ixS 6 x93 (.int .i64 0)) fun x94 =>
 obind (ldA 6 h91 x94) fun x95 =>
 callP (cf 45 [a0, x95] h91) .pan fun x96 h97 =>
 obind (ldA 6 h97 a3) fun x98 =>
 obind (fadK 4 a3) fun x99 =>
 obind (ld0 h97 x99) fun x100 =>
 obind (ixS 6 x100 (.int .i64 1)) fun x101 =>
 obind (ldA 6 h97 x101) fun x102 =>
 callP (cf 45 [a0, x102] h97) (fun v103 h104 =>
 .pan v103 h104) fun x105 h106 =>
 obind (ldA 6 h106 a3) fun x107 =>
 bif IV.beq x107 x98 then
 callP (cf 72 [x98, x96, x105] h106) (fun v108 h109 =>
 .pan v108 h109) fun x110 h111 =>
 callP (cf 43 [x110] h111) .pan fun x112 h113 =>
 obind (unI .not x112) fun x114 =>
 condK x114
 (obind (ldA 6 h113 a3) fun x115 =>
 callP (cf 69 [x115, (.int .i64 61)] h113) .pan fun x116 h117 =>
 R 4 [x110] h117)
 (R 4 [x110] h113)
 else .fail
theorem e45_3 {a0 a3 : IV} (e : t45_3 (CL T) (J45 T) a0 a3 h = r) (hr : r ≠ .fail) : J45 T 3 [a0, a3] h = r := fj_step (by kernel_rfl) e hr
noncomputable def t45_4 (cf : CallF) (R : Rec) (a10 : IV) (h : H) : CRes :=
 .ok a10 h
theorem e45_4 {a10 : IV} (e : t45_4 (CL T) (J45 T) a10 h = r) (hr : r ≠ .fail) : J45 T 4 [a10] h = r := fj_step (by kernel_rfl) e hr
def js48 : List Jn := [⟨[], [0, 1]⟩]
noncomputable def J48 (T : Tab) : Rec := fj Tryz.prog (CL T) Tryz.f48 js48
noncomputable def t48_0 (cf : CallF) (R : Rec) (a0 a1 : IV) (h : H) : CRes :=
 obind2 (newI h (IV.cells a1)) fun x1 h2 =>
 obind2 (newI h2 [(.int .i64 0), (.int .i64 0)]) fun x3 h4 =>
 obind (nilI a0) fun x5 =>
 obind (fadK 1 x5) fun x6 =>
 obind (fadK 0 x6) fun x7 =>
 obind (ld0 h4 x7) fun x8 =>
 obind (nilI a0) fun x9 =>
 obind (fadK 4 x9) fun x10 =>
 obind (ld0 h4 x10) fun x11 =>
 obind (bldK [.nilSlice, .nilMap] [(0, 1), (1, 1)] [(0, x8), (1, x11)]) fun x12 =>
 obind (ldA 6 h4 x1) fun x13 =>
 callP (cf 74 [x12, x13] h4) (fun v14 h15 =>
 .pan v14 h15) fun x16 h17 =>
 obind (extractI x16 0) fun x18 =>
 obind (extractI x16 1) fun x19 =>
 obindH (stA 2 h17 x3 x19) fun h20 =>
 obind (ldA 2 h20 x3) fun x21 =>
 .ok (.tup [x18, x21]) h20
theorem e48_0 {a0 a1 : IV} (e : t48_0 (CL T) (J48 T) a0 a1 h = r) (hr : r ≠ .fail) : J48 T 0 [a0, a1] h = r := fj_step (by kernel_rfl) e hr
def js51 : List Jn := [⟨[], [0]⟩]
noncomputable def J51 (T : Tab) : Rec := fj Tryz.prog (CL T) Tryz.f51 js51
noncomputable def t51_0 (cf : CallF) (R : Rec) (a0 : IV) (h : H) : CRes :=
 obind (binN .geq a0 (.int .u8 97)) fun x1 =>
 spanK x1 true h (fun k2 =>
 obind (binN .leq a0 (.int .u8 122)) fun x5 =>
 k2 x5 h) fun x3 h4 =>
 obind (pickI x1 (some x3) (some (.bool false))) fun x6 =>
 spanK x6 false h4 (fun k7 =>
 obind (binN .geq a0 (.int .u8 65)) fun x10 =>
 k7 x10 h4) fun x8 h9 =>
 spanK x8 true h9 (fun k11 =>
 obind (binN .leq a0 (.int .u8 90)) fun x14 =>
 k11 x14 h9) fun x12 h13 =>
 spanK x6 false h13 (fun k15 =>
 obind (pickI x8 (some x12) (some (.bool false))) fun x18 =>
 k15 x18 h13) fun x16 h17 =>
 obind (pickI x6 (some (.bool true)) (some x16)) fun x19 =>
 spanK x19 false h17 (fun k20 =>
 obind (binN .eql a0 (.int .u8 95)) fun x23 =>
 k20 x23 h17) fun x21 h22 =>
 obind (pickI x19 (some (.bool true)) (some x21)) fun x24 =>
 .ok x24 h22
theorem e51_0 {a0 : IV} (e : t51_0 (CL T) (J51 T) a0 h = r) (hr : r ≠ .fail) : J51 T 0 [a0] h = r := fj_step (by kernel_rfl) e hr
def js52 : List Jn := [⟨[], [0]⟩]
noncomputable def J52 (T : Tab) : Rec := fj Tryz.prog (CL T) Tryz.f52 js52
noncomputable def t52_0 (cf : CallF) (R : Rec) (a0 : IV) (h : H) : CRes :=
 callP (cf 51 [a0] h) .pan fun x1 h2 =>
 spanK x1 false h2 (fun k3 =>
 callP (cf 53 [a0] h2) .pan fun x6 h7 =>
 k3 x6 h7) fun x4 h5 =>
 obind (pickI x1 (some (.bool true)) (some x4)) fun x8 =>
 .ok x8 h5
theorem e52_0 {a0 : IV} (e : t52_0 (CL T) (J52 T) a0 h = r) (hr : r ≠ .fail) : J52 T 0 [a0] h = r := fj_step (by kernel_rfl) e hr
def js53 : List Jn := [⟨[], [0]⟩]
noncomputable def J53 (T : Tab) : Rec := fj Tryz.prog (CL T) Tryz.f53 js53
noncomputable def t53_0 (cf : CallF) (R : Rec) (a0 : IV) (h : H) : CRes :=
 obind (binN .geq a0 (.int .u8 48)) fun x1 =>
 spanK x1 true h (fun k2 =>
 obind (binN .leq a0 (.int .u8 57)) fun x5 =>
 k2 x5 h) fun x3 h4 =>
 obind (pickI x1 (some x3) (some (.bool false))) fun x6 =>
 .ok x6 h4
theorem e53_0 {a0 : IV} (e : t53_0 (CL T) (J53 T) a0 h = r) (hr : r ≠ .fail) : J53 T 0 [a0] h = r := fj_step (by kernel_rfl) e hr
def js54 : List Jn := [⟨[], [0]⟩, ⟨[0, 1, 0, 1, 1], [0, 5, 6]⟩, ⟨[1, 1, 0, 0, 1, 0, 1, 1], [0, 5, 6]⟩]
noncomputable def J54 (T : Tab) : Rec := fj Tryz.prog (CL T) Tryz.f54 js54
noncomputable def t54_0 (cf : CallF) (R : Rec) (a0 : IV) (h : H) : CRes :=
 R 1 [a0, (.int .i64 (-1)), (.int .i64 0)] h
theorem e54_0 {a0 : IV} (e : t54_0 (CL T) (J54 T) a0 h = r) (hr : r ≠ .fail) : J54 T 0 [a0] h = r := fj_step (by kernel_rfl) e hr
noncomputable def t54_1 (cf : CallF) (R : Rec) (a0 a5 a6 : IV) (h : H) : CRes :=
 obind (lenStr a0) fun x1 =>
 obind (binN .lss a6 x1) fun x2 =>
 condK x2
 (obind (binN .lss a5 (.int .i64 0)) fun x3 =>
 spanK x3 true h (fun k4 =>
 obind (ixStr a0 a6) fun x7 =>
 obind (binN .eql x7 (.int .u8 39)) fun x8 =>
 k4 x8 h) fun x5 h6 =>
 obind (pickI x3 (some x5) (some (.bool false))) fun x9 =>
 condK x9
 (R 2 [a0, a6, a6] h6)
 (R 2 [a0, a5, a6] h6))
 (obind (binN .lss a5 (.int .i64 0)) fun x10 =>
 condK x10
 (callP (cf 77 [a0, (.int .i64 4294967295), (.bool false)] h) .pan fun x11 h12 =>
 obind (binN .lss x11 (.int .i64 0)) fun x13 =>
 condK x13
 (.ok (.tup [(.str ⟨0, 0⟩), (.bool false), (.int .i64 21)]) h12)
 (callP (cf 78 [x11, (.int .i64 32)] h12) .pan fun x14 h15 =>
 .ok (.tup [x14, (.bool true), (.int .i64 0)]) h15))
 (obind (slcStr a0 none (some a5)) fun x16 =>
 callP (cf 77 [x16, (.int .i64 256), (.bool false)] h) .pan fun x17 h18 =>
 obind (binN .lss x17 (.int .i64 1)) fun x19 =>
 spanK x19 false h18 (fun k20 =>
 obind (binN .add a5 (.int .i64 1)) fun x23 =>
 obind (lenStr a0) fun x24 =>
 obind (binN .geq x23 x24) fun x25 =>
 k20 x25 h18) fun x21 h22 =>
 obind (pickI x19 (some (.bool true)) (some x21)) fun x26 =>
 condK x26
 (.ok (.tup [(.str ⟨0, 0⟩), (.bool false), (.int .i64 21)]) h22)
 (obind (binN .add a5 (.int .i64 1)) fun x27 =>
 obind (ixStr a0 x27) fun x28 =>
 obind (binN .add a5 (.int .i64 2)) fun x29 =>
 obind (slcStr a0 (some x29) none) fun x30 =>
 callP (cf 79 [x28, x30] h22) (fun v31 h32 =>
 .pan v31 h32) fun x33 h34 =>
 obind (binS .eql x33 (.str ⟨0, 0⟩)) fun x35 =>
 condK x35
 (.ok (.tup [(.str ⟨0, 0⟩), (.bool false), (.int .i64 21)]) h34)
 (obind (lenStr x33) fun x36 =>
 obind (binN .lss x36 x17) fun x37 =>
 spanK x37 true h34 (fun k38 =>
 obind (ixStr x33 (.int .i64 0)) fun x41 =>
 obind (binN .eql x41 (.int .u8 120)) fun x42 =>
 k38 x42 h34) fun x39 h40 =>
 spanK x39 false h40 (fun k43 =>
 obind (ixStr x33 (.int .i64 0)) fun x46 =>
 obind (binN .eql x46 (.int .u8 122)) fun x47 =>
 k43 x47 h40) fun x44 h45 =>
 spanK x37 true h45 (fun k48 =>
 obind (pickI x39 (some (.bool true)) (some x44)) fun x51 =>
 k48 x51 h45) fun x49 h50 =>
 obind (pickI x37 (some x49) (some (.bool false))) fun x52 =>
 condK x52
 (obind (ixStr x33 (.int .i64 0)) fun x53 =>
 obind (lenStr x33) fun x54 =>
 obind (binN .sub x17 x54) fun x55 =>
 callP (cf 80 [x53, x55] h50) .pan fun x56 h57 =>
 obind (binS .add x56 x33) fun x58 =>
 .ok (.tup [x58, (.bool false), (.int .i64 0)]) h57)
 (callP (cf 81 [x33, x17] h50) .pan fun x59 h60 =>
 .ok (.tup [x59, (.bool false), (.int .i64 0)]) h60)))))
theorem e54_1 {a0 a5 a6 : IV} (e : t54_1 (CL T) (J54 T) a0 a5 a6 h = r) (hr : r ≠ .fail) : J54 T 1 [a0, a5, a6] h = r := fj_step (by kernel_rfl) e hr
noncomputable def t54_2 (cf : CallF) (R : Rec) (a0 a5 a6 : IV) (h : H) : CRes :=
 obind (binN .add a6 (.int .i64 1)) fun x61 =>
 R 1 [a0, a5, x61] h
theorem e54_2 {a0 a5 a6 : IV} (e : t54_2 (CL T) (J54 T) a0 a5 a6 h = r) (hr : r ≠ .fail) : J54 T 2 [a0, a5, a6] h = r := fj_step (by kernel_rfl) e hr
def js55 : List Jn := [⟨[], [0, 1]⟩, ⟨[0, 1, 0, 1, 1], [0, 1, 5, 6]⟩, ⟨[0, 1, 0, 1, 1, 1, 1], [0, 1, 7, 8]⟩]
noncomputable def J55 (T : Tab) : Rec := fj Tryz.prog (CL T) Tryz.f55 js55
noncomputable def t55_0 (cf : CallF) (R : Rec) (a0 a1 : IV) (h : H) : CRes :=
 obind2 (bslK false 1 [(.str ⟨0, 0⟩)] 8 [(0, (.str ⟨2, 9766⟩)), (1, (.str ⟨2, 31868⟩)), (2, (.str ⟨2, 15677⟩)), (3, (.str ⟨2, 15649⟩)), (4, (.str ⟨2, 15676⟩)), (5, (.str ⟨2, 15678⟩)), (6, (.str ⟨2, 15420⟩)), (7, (.str ⟨2, 15934⟩))] h) fun x1 h2 =>
 R 1 [a0, a1, x1, (.int .i64 0)] h2
theorem e55_0 {a0 a1 : IV} (e : t55_0 (CL T) (J55 T) a0 a1 h = r) (hr : r ≠ .fail) : J55 T 0 [a0, a1] h = r := fj_step (by kernel_rfl) e hr
noncomputable def t55_1 (cf : CallF) (R : Rec) (a0 a1 a5 a6 : IV) (h : H) : CRes :=
 obind (lenS a5) fun x3 =>
 obind (binN .lss a6 x3) fun x4 =>
 condK x4
 (obind (ixS 1 a5 a6) fun x5 =>
 obind (ld0 h x5) fun x6 =>
 callP (cf 34 [a0, a1, x6] h) .pan fun x7 h8 =>
 condK x7
 (obind (ixS 1 a5 a6) fun x9 =>
 obind (ld0 h8 x9) fun x10 =>
 .ok x10 h8)
 (obind (binN .add a6 (.int .i64 1)) fun x11 =>
 R 1 [a0, a1, a5, x11] h8))
 (R 2 [a0, a1, (.str ⟨24, 1035797962038895658522808901809198590842054073607314417960⟩), (.int .i64 0)] h)
theorem e55_1 {a0 a1 a5 a6 : IV} (e : t55_1 (CL T) (J55 T) a0 a1 a5 a6 h = r) (hr : r ≠ .fail) : J55 T 1 [a0, a1, a5, a6] h = r := fj_step (by kernel_rfl) e hr
noncomputable def t55_2 (cf : CallF) (R : Rec) (a0 a1 a7 a8 : IV) (h : H) : CRes :=
 obind (lenStr a7) fun x12 =>
 obind (binN .lss a8 x12) fun x13 =>
 condK x13
 (obind (ixStr a0 a1) fun x14 =>
 obind (ixStr a7 a8) fun x15 =>
 obind (binN .eql x14 x15) fun x16 =>
 condK x16
 (obind (binN .add a8 (.int .i64 1)) fun x17 =>
 obind (slcStr a7 (some a8) (some x17)) fun x18 =>
 .ok x18 h)
 (obind (binN .add a8 (.int .i64 1)) fun x19 =>
 R 2 [a0, a1, a7, x19] h))
 (.ok (.str ⟨0, 0⟩) h)
theorem e55_2 {a0 a1 a7 a8 : IV} (e : t55_2 (CL T) (J55 T) a0 a1 a7 a8 h = r) (hr : r ≠ .fail) : J55 T 2 [a0, a1, a7, a8] h = r := fj_step (by kernel_rfl) e hr
theorem c55 (hT : OvStep T) (ho : T.ov 55 = none) (hp : T.pol 55 = true) {a0 a1 : IV} (hg : Gd h) (e : t55_0 (CL T) (J55 T) a0 a1 h = r) (hr : r ≠ .fail) : CL T 55 [a0, a1] h = r := call_good ho Tryz.func55 rfl rfl rfl hp hg hT (e55_0 e hr) hr
def js56 : List Jn := [⟨[], [0]⟩]
noncomputable def J56 (T : Tab) : Rec := fj Tryz.prog (CL T) Tryz.f56 js56
noncomputable def t56_0 (cf : CallF) (R : Rec) (a0 : IV) (h : H) : CRes :=
 obind (nilI a0) fun x1 =>
 obind (fadK 0 x1) fun x2 =>
 obind (ld0 h x2) fun x3 =>
 obind (nilI a0) fun x4 =>
 obind (fadK 1 x4) fun x5 =>
 obind (ld0 h x5) fun x6 =>
 obind (ixS 3 x3 x6) fun x7 =>
 obind (fadK 2 x7) fun x8 =>
 obind (ld0 h x8) fun x9 =>
 .ok x9 h
theorem e56_0 {a0 : IV} (e : t56_0 (CL T) (J56 T) a0 h = r) (hr : r ≠ .fail) : J56 T 0 [a0] h = r := fj_step (by kernel_rfl) e hr
def js57 : List Jn := [⟨[], [0, 1]⟩]
noncomputable def J57 (T : Tab) : Rec := fj Tryz.prog (CL T) Tryz.f57 js57
noncomputable def t57_0 (cf : CallF) (R : Rec) (a0 a1 : IV) (h : H) : CRes :=
 callP (cf 59 [a0, a1] h) .pan fun x1 h2 =>
 obind (unI .not x1) fun x3 =>
 condK x3
 (callP (cf 82 [a0, (.int .i64 40)] h2) .pan fun x4 h5 =>
 .ok (.tup []) h5)
 (.ok (.tup []) h2)
theorem e57_0 {a0 a1 : IV} (e : t57_0 (CL T) (J57 T) a0 a1 h = r) (hr : r ≠ .fail) : J57 T 0 [a0, a1] h = r := fj_step (by kernel_rfl) e hr
def js58 : List Jn := [⟨[], [0]⟩]
noncomputable def J58 (T : Tab) : Rec := fj Tryz.prog (CL T) Tryz.f58 js58
noncomputable def t58_0 (cf : CallF) (R : Rec) (a0 : IV) (h : H) : CRes :=
 callP (cf 83 [a0] h) .pan fun x1 h2 =>
 obind (unI .not x1) fun x3 =>
 condK x3
 (callP (cf 82 [a0, (.int .i64 40)] h2) .pan fun x4 h5 =>
 .ok (.str ⟨0, 0⟩) h5)
 (obind (nilI a0) fun x6 =>
 obind (fadK 1 x6) fun x7 =>
 obind (ld0 h2 x7) fun x8 =>
 obind (binN .add x8 (.int .i64 1)) fun x9 =>
 obind (nilI a0) fun x10 =>
 obind (fadK 1 x10) fun x11 =>
 obindH (stA 1 h2 x11 x9) fun h12 =>
 obind (nilI a0) fun x13 =>
 obind (fadK 0 x13) fun x14 =>
 obind (ld0 h12 x14) fun x15 =>
 obind (nilI a0) fun x16 =>
 obind (fadK 1 x16) fun x17 =>
 obind (ld0 h12 x17) fun x18 =>
 obind (binN .sub x18 (.int .i64 1)) fun x19 =>
 obind (ixS 3 x15 x19) fun x20 =>
 obind (fadK 1 x20) fun x21 =>
 obind (ld0 h12 x21) fun x22 =>
 .ok x22 h12)
theorem e58_0 {a0 : IV} (e : t58_0 (CL T) (J58 T) a0 h = r) (hr : r ≠ .fail) : J58 T 0 [a0] h = r := fj_step (by kernel_rfl) e hr
def js59 : List Jn := [⟨[], [0, 1]⟩]
noncomputable def J59 (T : Tab) : Rec := fj Tryz.prog (CL T) Tryz.f59 js59
noncomputable def t59_0 (cf : CallF) (R : Rec) (a0 a1 : IV) (h : H) : CRes :=
 callP (cf 84 [a0, a1] h) .pan fun x1 h2 =>
 obind (unI .not x1) fun x3 =>
 condK x3
 (.ok (.bool false) h2)
 (obind (nilI a0) fun x4 =>
 obind (fadK 1 x4) fun x5 =>
 obind (ld0 h2 x5) fun x6 =>
 obind (binN .add x6 (.int .i64 1)) fun x7 =>
 obind (nilI a0) fun x8 =>
 obind (fadK 1 x8) fun x9 =>
 obindH (stA 1 h2 x9 x7) fun h10 =>
 .ok (.bool true) h10)
theorem e59_0 {a0 a1 : IV} (e : t59_0 (CL T) (J59 T) a0 a1 h = r) (hr : r ≠ .fail) : J59 T 0 [a0, a1] h = r := fj_step (by kernel_rfl) e hr
def js60 : List Jn := [⟨[], [0]⟩, ⟨[1, 1, 1, 1], [0, 3]⟩, ⟨[0, 0, 1, 1, 1], [0, 3]⟩]
noncomputable def J60 (T : Tab) : Rec := fj Tryz.prog (CL T) Tryz.f60 js60
noncomputable def t60_0 (cf : CallF) (R : Rec) (a0 : IV) (h : H) : CRes :=
 callP (cf 57 [a0, (.str ⟨1, 40⟩)] h) .pan fun x1 h2 =>
 R 2 [a0, .nilSlice] h2
theorem e60_0 {a0 : IV} (e : t60_0 (CL T) (J60 T) a0 h = r) (hr : r ≠ .fail) : J60 T 0 [a0] h = r := fj_step (by kernel_rfl) e hr
noncomputable def t60_2 (cf : CallF) (R : Rec) (a0 a3 : IV) (h : H) : CRes :=
 callP (cf 38 [a0] h) .pan fun x3 h4 =>
 condK x3
 (callP (cf 57 [a0, (.str ⟨9, 2110239404018478768496⟩)] h4) .pan fun x5 h6 =>
 callP (cf 56 [a0] h6) .pan fun x7 h8 =>
 obind (bldK z5 p19 [(2, x7)]) fun x9 =>
 obind2 (newI h8 z5) fun x10 h11 =>
 obindH (stA 8 h11 x10 x9) fun h12 =>
 callP (cf 58 [a0] h12) .pan fun x13 h14 =>
 obind (fadK 0 x10) fun x15 =>
 obindH (stA 1 h14 x15 x13) fun h16 =>
 callP (cf 57 [a0, (.str ⟨1, 61⟩)] h16) .pan fun x17 h18 =>
 callP (cf 85 [a0, (.int .i64 1)] h18) .pan fun x19 h20 =>
 obind (fadK 1 x10) fun x21 =>
 obindH (stA 6 h20 x21 x19) fun h22 =>
 obind (ldA 8 h22 x10) fun x23 =>
 obind2 (bslK false 8 z5 1 [(0, x23)] h22) fun x24 h25 =>
 obind2 (appK 8 104 h25 a3 x24) fun x26 h27 =>
 callP (cf 59 [a0, (.str ⟨1, 44⟩)] h27) .pan fun x28 h29 =>
 obind (unI .not x28) fun x30 =>
 condK x30
 (R 1 [a0, x26] h29)
 (R 2 [a0, x26] h29))
 (R 1 [a0, a3] h4)
theorem e60_2 {a0 a3 : IV} (e : t60_2 (CL T) (J60 T) a0 a3 h = r) (hr : r ≠ .fail) : J60 T 2 [a0, a3] h = r := fj_step (by kernel_rfl) e hr
noncomputable def t60_1 (cf : CallF) (R : Rec) (a0 a3 : IV) (h : H) : CRes :=
 callP (cf 57 [a0, (.str ⟨1, 41⟩)] h) .pan fun x31 h32 =>
 .ok a3 h32
theorem e60_1 {a0 a3 : IV} (e : t60_1 (CL T) (J60 T) a0 a3 h = r) (hr : r ≠ .fail) : J60 T 1 [a0, a3] h = r := fj_step (by kernel_rfl) e hr
def js61 : List Jn := [⟨[], [0]⟩, ⟨[1, 1, 1], [0, 2, 3]⟩]
noncomputable def J61 (T : Tab) : Rec := fj Tryz.prog (CL T) Tryz.f61 js61
noncomputable def t61_0 (cf : CallF) (R : Rec) (a0 : IV) (h : H) : CRes :=
 obind2 (newI h z9) fun x1 h2 =>
 callP (cf 56 [a0] h2) .pan fun x3 h4 =>
 obind (bldK z9 p20 [(6, x3)]) fun x5 =>
 obind2 (newI h4 z9) fun x6 h7 =>
 obindH (stA 17 h7 x6 x5) fun h8 =>
 callP (cf 59 [a0, (.str ⟨6, 128047746676079⟩)] h8) .pan fun x9 h10 =>
 condK x9
 (obind (fadK 0 x6) fun x11 =>
 obindH (stA 1 h10 x11 (.bool true)) fun h12 =>
 callP (cf 59 [a0, (.str ⟨3, 6776178⟩)] h12) .pan fun x13 h14 =>
 obind (fadK 1 x6) fun x15 =>
 obindH (stA 1 h14 x15 x13) fun h16 =>
 R 1 [a0, x1, x6] h16)
 (callP (cf 57 [a0, (.str ⟨5, 500186508905⟩)] h10) .pan fun x17 h18 =>
 R 1 [a0, x1, x6] h18)
theorem e61_0 {a0 : IV} (e : t61_0 (CL T) (J61 T) a0 h = r) (hr : r ≠ .fail) : J61 T 0 [a0] h = r := fj_step (by kernel_rfl) e hr
noncomputable def t61_1 (cf : CallF) (R : Rec) (a0 a2 a3 : IV) (h : H) : CRes :=
 callP (cf 86 [a0] h) .pan fun x19 h20 =>
 obind (extractI x19 0) fun x21 =>
 obind (extractI x19 1) fun x22 =>
 obind (extractI x19 2) fun x23 =>
 obind (fadK 2 a3) fun x24 =>
 obindH (stA 1 h20 x24 x21) fun h25 =>
 obind (fadK 3 a3) fun x26 =>
 obindH (stA 6 h25 x26 x22) fun h27 =>
 obind (fadK 9 a3) fun x28 =>
 obindH (stA 6 h27 x28 x23) fun h29 =>
 callP (cf 58 [a0] h29) .pan fun x30 h31 =>
 obind (fadK 15 a3) fun x32 =>
 obindH (stA 1 h31 x32 x30) fun h33 =>
 obind (ldA 17 h33 a3) fun x34 =>
 obindH (stA 17 h33 a2 x34) fun h35 =>
 obind (ldA 17 h35 a2) fun x36 =>
 .ok x36 h35
theorem e61_1 {a0 a2 a3 : IV} (e : t61_1 (CL T) (J61 T) a0 a2 a3 h = r) (hr : r ≠ .fail) : J61 T 1 [a0, a2, a3] h = r := fj_step (by kernel_rfl) e hr
def js62 : List Jn := [⟨[], [0, 1, 2]⟩, ⟨[0, 0, 1, 1], [0, 1, 2, 7]⟩]
noncomputable def J62 (T : Tab) : Rec := fj Tryz.prog (CL T) Tryz.f62 js62
noncomputable def t62_0 (cf : CallF) (R : Rec) (a0 a1 a2 : IV) (h : H) : CRes :=
 R 1 [a0, a1, a2, .nilSlice] h
theorem e62_0 {a0 a1 a2 : IV} (e : t62_0 (CL T) (J62 T) a0 a1 a2 h = r) (hr : r ≠ .fail) : J62 T 0 [a0, a1, a2] h = r := fj_step (by kernel_rfl) e hr
noncomputable def t62_1 (cf : CallF) (R : Rec) (a0 a1 a2 a7 : IV) (h : H) : CRes :=
 callP (cf 38 [a0] h) .pan fun x1 h2 =>
 spanK x1 true h2 (fun k3 =>
 callP (cf 59 [a0, a1] h2) .pan fun x6 h7 =>
 obind (unI .not x6) fun x8 =>
 k3 x8 h7) fun x4 h5 =>
 obind (pickI x1 (some x4) (some (.bool false))) fun x9 =>
 condK x9
 (callP (cf 87 [a0, a2] h5) .pan fun x10 h11 =>
 obind2 (bslK false 48 z10 1 [(0, x10)] h11) fun x12 h13 =>
 obind2 (appK 48 680 h13 a7 x12) fun x14 h15 =>
 R 1 [a0, a1, a2, x14] h15)
 (.ok a7 h5)
theorem e62_1 {a0 a1 a2 a7 : IV} (e : t62_1 (CL T) (J62 T) a0 a1 a2 a7 h = r) (hr : r ≠ .fail) : J62 T 1 [a0, a1, a2, a7] h = r := fj_step (by kernel_rfl) e hr
def js63 : List Jn := [⟨[], [0, 1, 2, 3, 4]⟩, ⟨[1, 1, 1], [0, 2, 4, 11, 12]⟩, ⟨[1, 1, 1, 1], [11]⟩]
noncomputable def J63 (T : Tab) : Rec := fj Tryz.prog (CL T) Tryz.f63 js63
noncomputable def t63_0 (cf : CallF) (R : Rec) (a0 a1 a2 a3 a4 : IV) (h : H) : CRes :=
 callP (cf 88 [a0, a1] h) .pan fun x1 h2 =>
 obind (extractI x1 0) fun x3 =>
 obind (extractI x1 1) fun x4 =>
 obind (eqP .eql h2 x3 .nilPtr) fun x5 =>
 condK x5
 (callP (cf 20 [a3, (.int .i64 71)] h2) .pan fun x6 h7 =>
 R 1 [a0, a2, a4, x3, x4] h7)
 (R 1 [a0, a2, a4, x3, x4] h2)
theorem e63_0 {a0 a1 a2 a3 a4 : IV} (e : t63_0 (CL T) (J63 T) a0 a1 a2 a3 a4 h = r) (hr : r ≠ .fail) : J63 T 0 [a0, a1, a2, a3, a4] h = r := fj_step (by kernel_rfl) e hr
noncomputable def t63_1 (cf : CallF) (R : Rec) (a0 a2 a4 a11 a12 : IV) (h : H) : CRes :=
 obind (nilI a11) fun x8 =>
 obind (fadK 0 x8) fun x9 =>
 obind (ld0 h x9) fun x10 =>
 obind (binN .neq x10 a2) fun x11 =>
 spanK x11 false h (fun k12 =>
 obind (eqP .neq h a12 a0) fun x15 =>
 k12 x15 h) fun x13 h14 =>
 obind (pickI x11 (some (.bool true)) (some x13)) fun x16 =>
 condK x16
 (callP (cf 20 [a4, (.int .i64 72)] h14) .pan fun x17 h18 =>
 R 2 [a11] h18)
 (R 2 [a11] h14)
theorem e63_1 {a0 a2 a4 a11 a12 : IV} (e : t63_1 (CL T) (J63 T) a0 a2 a4 a11 a12 h = r) (hr : r ≠ .fail) : J63 T 1 [a0, a2, a4, a11, a12] h = r := fj_step (by kernel_rfl) e hr
noncomputable def t63_2 (cf : CallF) (R : Rec) (a11 : IV) (h : H) : CRes :=
 .ok a11 h
theorem e63_2 {a11 : IV} (e : t63_2 (CL T) (J63 T) a11 h = r) (hr : r ≠ .fail) : J63 T 2 [a11] h = r := fj_step (by kernel_rfl) e hr
def js64 : List Jn := [⟨[], [0, 1]⟩, ⟨[1], [0]⟩]
noncomputable def J64 (T : Tab) : Rec := fj Tryz.prog (CL T) Tryz.f64 js64
noncomputable def t64_0 (cf : CallF) (R : Rec) (a0 a1 : IV) (h : H) : CRes :=
 obind (nilI a0) fun x1 =>
 obind (fadK 1 x1) fun x2 =>
 obind (ld0 h x2) fun x3 =>
 condK x3
 (callP (cf 20 [a1, (.int .i64 73)] h) .pan fun x4 h5 =>
 R 1 [a0] h5)
 (R 1 [a0] h)
theorem e64_0 {a0 a1 : IV} (e : t64_0 (CL T) (J64 T) a0 a1 h = r) (hr : r ≠ .fail) : J64 T 0 [a0, a1] h = r := fj_step (by kernel_rfl) e hr
noncomputable def t64_1 (cf : CallF) (R : Rec) (a0 : IV) (h : H) : CRes :=
 obind (nilI a0) fun x6 =>
 obind (fadK 1 x6) fun x7 =>
 obindH (stA 1 h x7 (.bool true)) fun h8 =>
 .ok (.tup []) h8
theorem e64_1 {a0 : IV} (e : t64_1 (CL T) (J64 T) a0 h = r) (hr : r ≠ .fail) : J64 T 1 [a0] h = r := fj_step (by kernel_rfl) e hr
def js65 : List Jn := [⟨[], [0, 1]⟩, ⟨[1, 1], [0, 3]⟩, ⟨[0, 1, 0, 1, 1, 1], [0, 33, 34, 35]⟩]
noncomputable def J65 (T : Tab) : Rec := fj Tryz.prog (CL T) Tryz.f65 js65
noncomputable def t65_0 (cf : CallF) (R : Rec) (a0 a1 : IV) (h : H) : CRes :=
 obind2 (newI h (IV.cells a1)) fun x1 h2 =>
 obind (ldA 6 h2 x1) fun x3 =>
 callP (cf 89 [x3] h2) .pan fun x4 h5 =>
 condK x4
 (obind (fadK 1 x1) fun x6 =>
 obind (ld0 h5 x6) fun x7 =>
 callP (cf 88 [a0, x7] h5) .pan fun x8 h9 =>
 obind (extractI x8 0) fun x10 =>
 obind (extractI x8 1) fun x11 =>
 obind (eqP .eql h9 x10 .nilPtr) fun x12 =>
 spanK x12 false h9 (fun k13 =>
 obind (nilI x10) fun x16 =>
 obind (fadK 0 x16) fun x17 =>
 obind (ld0 h9 x17) fun x18 =>
 obind (binN .eql x18 (.int .i64 5)) fun x19 =>
 k13 x19 h9) fun x14 h15 =>
 obind (pickI x12 (some (.bool true)) (some x14)) fun x20 =>
 condK x20
 (obind (fadK 5 x1) fun x21 =>
 obind (ld0 h15 x21) fun x22 =>
 callP (cf 20 [x22, (.int .i64 71)] h15) .pan fun x23 h24 =>
 R 1 [a0, x1] h24)
 (R 1 [a0, x1] h15))
 (R 1 [a0, x1] h5)
theorem e65_0 {a0 a1 : IV} (e : t65_0 (CL T) (J65 T) a0 a1 h = r) (hr : r ≠ .fail) : J65 T 0 [a0, a1] h = r := fj_step (by kernel_rfl) e hr
noncomputable def t65_1 (cf : CallF) (R : Rec) (a0 a3 : IV) (h : H) : CRes :=
 obind (fadK 0 a3) fun x25 =>
 obind (ld0 h x25) fun x26 =>
 obind (binN .neq x26 (.int .i64 4)) fun x27 =>
 condK x27
 (obind (fadK 4 a3) fun x28 =>
 obind (ld0 h x28) fun x29 =>
 obind (lenS x29) fun x30 =>
 R 2 [a0, x29, x30, (.int .i64 0)] h)
 (.ok (.tup []) h)
theorem e65_1 {a0 a3 : IV} (e : t65_1 (CL T) (J65 T) a0 a3 h = r) (hr : r ≠ .fail) : J65 T 1 [a0, a3] h = r := fj_step (by kernel_rfl) e hr
noncomputable def t65_2 (cf : CallF) (R : Rec) (a0 a33 a34 a35 : IV) (h : H) : CRes :=
 obind (binN .lss a35 a34) fun x31 =>
 condK x31
 (obind (ixS 6 a33 a35) fun x32 =>
 obind (ldA 6 h x32) fun x33 =>
 obind2 (newI h z16) fun x34 h35 =>
 obindH (stA 6 h35 x34 x33) fun h36 =>
 obind (ldA 6 h36 x34) fun x37 =>
 callP (cf 65 [a0, x37] h36) .pan fun x38 h39 =>
 obind (binN .add a35 (.int .i64 1)) fun x40 =>
 R 2 [a0, a33, a34, x40] h39)
 (.ok (.tup []) h)
theorem e65_2 {a0 a33 a34 a35 : IV} (e : t65_2 (CL T) (J65 T) a0 a33 a34 a35 h = r) (hr : r ≠ .fail) : J65 T 2 [a0, a33, a34, a35] h = r := fj_step (by kernel_rfl) e hr
def js67 : List Jn := [⟨[], [0, 1, 2]⟩, ⟨[1, 1, 1], [0, 4, 6]⟩, ⟨[0, 1, 0, 1, 1, 1, 1], [0, 4, 6, 8, 9, 33, 34, 35]⟩, ⟨[0, 1, 0, 1, 1, 1, 1, 1], [0, 4, 6, 8, 9, 44, 45, 46]⟩, ⟨[1, 1, 0, 0, 1, 1, 0, 0, 1, 0, 1, 1, 1, 1, 1], [0, 4, 6, 8, 9, 13, 44, 45, 46]⟩, ⟨[0, 1, 0, 1, 1, 1, 1, 1, 1], [0, 4, 6, 9, 64, 65]⟩, ⟨[0, 1, 1, 1, 1, 1, 1, 1, 1], [0, 9, 81, 82, 83]⟩, ⟨[1, 1, 1, 0, 0, 1, 1, 1, 1, 1, 1, 1, 1], [0, 9, 81, 82, 83]⟩, ⟨[1, 1, 1, 0, 0, 1, 1, 0, 0, 1, 1, 1, 1, 1, 1, 1, 1], [0, 9, 16, 17, 81, 82, 83]⟩, ⟨[1, 1, 1, 1, 1, 1, 0, 0, 1, 1, 0, 0, 1, 1, 1, 1, 1, 1, 1, 1], [0, 9, 16, 81, 82, 83]⟩]
noncomputable def J67 (T : Tab) : Rec := fj Tryz.prog (CL T) Tryz.f67 js67
noncomputable def t67_0 (cf : CallF) (R : Rec) (a0 a1 a2 : IV) (h : H) : CRes :=
 obind2 (newI h (IV.cells a1)) fun x1 h2 =>
 obind (fadK 42 x1) fun x3 =>
 obind (ld0 h2 x3) fun x4 =>
 obind (lkK true (.agg z4) h2 a2 x4 true) fun x5 =>
 obind (extractI x5 0) fun x6 =>
 obind (extractI x5 1) fun x7 =>
 obind2 (newI h2 z4) fun x8 h9 =>
 obindH (stA 5 h9 x8 x6) fun h10 =>
 obind (unI .not x7) fun x11 =>
 condK x11
 (obind (fadK 47 x1) fun x12 =>
 obind (ld0 h10 x12) fun x13 =>
 callP (cf 20 [x13, (.int .i64 80)] h10) .pan fun x14 h15 =>
 R 1 [a0, x1, x8] h15)
 (R 1 [a0, x1, x8] h10)
theorem e67_0 {a0 a1 a2 : IV} (e : t67_0 (CL T) (J67 T) a0 a1 a2 h = r) (hr : r ≠ .fail) : J67 T 0 [a0, a1, a2] h = r := fj_step (by kernel_rfl) e hr
noncomputable def t67_1 (cf : CallF) (R : Rec) (a0 a4 a6 : IV) (h : H) : CRes :=
 mapK h fun x17 h16 =>
 mapK h16 fun x19 h18 =>
 obind (fadK 1 a6) fun x20 =>
 obind (ld0 h18 x20) fun x21 =>
 obind (lenS x21) fun x22 =>
 R 2 [a0, a4, a6, x17, x19, x21, x22, (.int .i64 0)] h18
theorem e67_1 {a0 a4 a6 : IV} (e : t67_1 (CL T) (J67 T) a0 a4 a6 h = r) (hr : r ≠ .fail) : J67 T 1 [a0, a4, a6] h = r := fj_step (by kernel_rfl) e hr
noncomputable def t67_2 (cf : CallF) (R : Rec) (a0 a4 a6 a8 a9 a33 a34 a35 : IV) (h : H) : CRes :=
 obind (binN .lss a35 a34) fun x23 =>
 condK x23
 (obind (ixS 8 a33 a35) fun x24 =>
 obind (ldA 8 h x24) fun x25 =>
 obind2 (newI h z5) fun x26 h27 =>
 obindH (stA 8 h27 x26 x25) fun h28 =>
 obind (fadK 0 x26) fun x29 =>
 obind (ld0 h28 x29) fun x30 =>
 obindH (mupK true h28 a8 x30 (.bool true)) fun h31 =>
 obind (binN .add a35 (.int .i64 1)) fun x32 =>
 R 2 [a0, a4, a6, a8, a9, a33, a34, x32] h31)
 (obind (fadK 43 a4) fun x33 =>
 obind (ld0 h x33) fun x34 =>
 obind (lenS x34) fun x35 =>
 R 3 [a0, a4, a6, a8, a9, x34, x35, (.int .i64 0)] h)
theorem e67_2 {a0 a4 a6 a8 a9 a33 a34 a35 : IV} (e : t67_2 (CL T) (J67 T) a0 a4 a6 a8 a9 a33 a34 a35 h = r) (hr : r ≠ .fail) : J67 T 2 [a0, a4, a6, a8, a9, a33, a34, a35] h = r := fj_step (by kernel_rfl) e hr
noncomputable def t67_3 (cf : CallF) (R : Rec) (a0 a4 a6 a8 a9 a44 a45 a46 : IV) (h : H) : CRes :=
 obind (binN .lss a46 a45) fun x36 =>
 condK x36
 (obind (ixS 8 a44 a46) fun x37 =>
 obind (ldA 8 h x37) fun x38 =>
 obind2 (newI h z5) fun x39 h40 =>
 obindH (stA 8 h40 x39 x38) fun h41 =>
 obind (fadK 0 x39) fun x42 =>
 obind (ld0 h41 x42) fun x43 =>
 obind (lkK true (.bool false) h41 a8 x43 false) fun x44 =>
 obind (unI .not x44) fun x45 =>
 condK x45
 (obind (fadK 7 x39) fun x46 =>
 obind (ld0 h41 x46) fun x47 =>
 callP (cf 20 [x47, (.int .i64 71)] h41) .pan fun x48 h49 =>
 R 4 [a0, a4, a6, a8, a9, x39, a44, a45, a46] h49)
 (R 4 [a0, a4, a6, a8, a9, x39, a44, a45, a46] h41))
 (obind (fadK 2 a6) fun x50 =>
 obind (ld0 h x50) fun x51 =>
 obind (lenS x51) fun x52 =>
 R 5 [a0, a4, a6, a9, x52, (.int .i64 0)] h)
theorem e67_3 {a0 a4 a6 a8 a9 a44 a45 a46 : IV} (e : t67_3 (CL T) (J67 T) a0 a4 a6 a8 a9 a44 a45 a46 h = r) (hr : r ≠ .fail) : J67 T 3 [a0, a4, a6, a8, a9, a44, a45, a46] h = r := fj_step (by kernel_rfl) e hr
noncomputable def t67_4 (cf : CallF) (R : Rec) (a0 a4 a6 a8 a9 a13 a44 a45 a46 : IV) (h : H) : CRes :=
 obind (fadK 0 a13) fun x53 =>
 obind (ld0 h x53) fun x54 =>
 obindH (delK true h a8 x54) fun h55 =>
 obind (binN .add a46 (.int .i64 1)) fun x56 =>
 R 3 [a0, a4, a6, a8, a9, a44, a45, x56] h55
theorem e67_4 {a0 a4 a6 a8 a9 a13 a44 a45 a46 : IV} (e : t67_4 (CL T) (J67 T) a0 a4 a6 a8 a9 a13 a44 a45 a46 h = r) (hr : r ≠ .fail) : J67 T 4 [a0, a4, a6, a8, a9, a13, a44, a45, a46] h = r := fj_step (by kernel_rfl) e hr
noncomputable def t67_5 (cf : CallF) (R : Rec) (a0 a4 a6 a9 a64 a65 : IV) (h : H) : CRes :=
 obind (binN .lss a65 a64) fun x57 =>
 condK x57
 (obind (fadK 2 a6) fun x58 =>
 obind (ld0 h x58) fun x59 =>
 obind (ixS 17 x59 a65) fun x60 =>
 obind (fadK 15 x60) fun x61 =>
 obind (ld0 h x61) fun x62 =>
 obind (fadK 2 a6) fun x63 =>
 obind (ld0 h x63) fun x64 =>
 obind (ixS 17 x64 a65) fun x65 =>
 obindH (mupK true h a9 x62 x65) fun h66 =>
 obind (binN .add a65 (.int .i64 1)) fun x67 =>
 R 5 [a0, a4, a6, a9, a64, x67] h66)
 (obind (fadK 44 a4) fun x68 =>
 obind (ld0 h x68) fun x69 =>
 obind (lenS x69) fun x70 =>
 R 6 [a0, a9, x69, x70, (.int .i64 0)] h)
theorem e67_5 {a0 a4 a6 a9 a64 a65 : IV} (e : t67_5 (CL T) (J67 T) a0 a4 a6 a9 a64 a65 h = r) (hr : r ≠ .fail) : J67 T 5 [a0, a4, a6, a9, a64, a65] h = r := fj_step (by kernel_rfl) e hr
noncomputable def t67_6 (cf : CallF) (R : Rec) (a0 a9 a81 a82 a83 : IV) (h : H) : CRes :=
 obind (binN .lss a83 a82) fun x71 =>
 condK x71
 (obind (ixS 8 a81 a83) fun x72 =>
 obind (ldA 8 h x72) fun x73 =>
 obind2 (newI h z5) fun x74 h75 =>
 obindH (stA 8 h75 x74 x73) fun h76 =>
 obind (fadK 0 x74) fun x77 =>
 obind (ld0 h76 x77) fun x78 =>
 obind (lkK true .nilPtr h76 a9 x78 false) fun x79 =>
 obind (eqP .eql h76 x79 .nilPtr) fun x80 =>
 condK x80
 (obind (fadK 7 x74) fun x81 =>
 obind (ld0 h76 x81) fun x82 =>
 callP (cf 20 [x82, (.int .i64 81)] h76) .pan fun x83 h84 =>
 R 8 [a0, a9, x74, x79, a81, a82, a83] h84)
 (R 8 [a0, a9, x74, x79, a81, a82, a83] h76))
 (.ok (.tup []) h)
theorem e67_6 {a0 a9 a81 a82 a83 : IV} (e : t67_6 (CL T) (J67 T) a0 a9 a81 a82 a83 h = r) (hr : r ≠ .fail) : J67 T 6 [a0, a9, a81, a82, a83] h = r := fj_step (by kernel_rfl) e hr
noncomputable def t67_8 (cf : CallF) (R : Rec) (a0 a9 a16 a17 a81 a82 a83 : IV) (h : H) : CRes :=
 obind (fadK 0 a16) fun x85 =>
 obind (ld0 h x85) fun x86 =>
 obindH (delK true h a9 x86) fun h87 =>
 obind (nilI a17) fun x88 =>
 obind (fadK 0 x88) fun x89 =>
 obind (ld0 h87 x89) fun x90 =>
 obind (unI .not x90) fun x91 =>
 condK x91
 (obind (fadK 1 a16) fun x92 =>
 obind (ldA 6 h87 x92) fun x93 =>
 callP (cf 65 [a0, x93] h87) .pan fun x94 h95 =>
 R 7 [a0, a9, a81, a82, a83] h95)
 (obind (fadK 1 a16) fun x96 =>
 obind (fadK 0 x96) fun x97 =>
 obind (ld0 h87 x97) fun x98 =>
 obind (binN .neq x98 (.int .i64 2)) fun x99 =>
 condK x99
 (obind (fadK 7 a16) fun x100 =>
 obind (ld0 h87 x100) fun x101 =>
 callP (cf 20 [x101, (.int .i64 72)] h87) .pan fun x102 h103 =>
 R 9 [a0, a9, a16, a81, a82, a83] h103)
 (R 9 [a0, a9, a16, a81, a82, a83] h87))
theorem e67_8 {a0 a9 a16 a17 a81 a82 a83 : IV} (e : t67_8 (CL T) (J67 T) a0 a9 a16 a17 a81 a82 a83 h = r) (hr : r ≠ .fail) : J67 T 8 [a0, a9, a16, a17, a81, a82, a83] h = r := fj_step (by kernel_rfl) e hr
noncomputable def t67_7 (cf : CallF) (R : Rec) (a0 a9 a81 a82 a83 : IV) (h : H) : CRes :=
 obind (binN .add a83 (.int .i64 1)) fun x104 =>
 R 6 [a0, a9, a81, a82, x104] h
theorem e67_7 {a0 a9 a81 a82 a83 : IV} (e : t67_7 (CL T) (J67 T) a0 a9 a81 a82 a83 h = r) (hr : r ≠ .fail) : J67 T 7 [a0, a9, a81, a82, a83] h = r := fj_step (by kernel_rfl) e hr
noncomputable def t67_9 (cf : CallF) (R : Rec) (a0 a9 a16 a81 a82 a83 : IV) (h : H) : CRes :=
 obind (fadK 1 a16) fun x105 =>
 obind (fadK 1 x105) fun x106 =>
 obind (ld0 h x106) fun x107 =>
 obind (fadK 1 a16) fun x108 =>
 obind (fadK 5 x108) fun x109 =>
 obind (ld0 h x109) fun x110 =>
 obind (fadK 7 a16) fun x111 =>
 obind (ld0 h x111) fun x112 =>
 callP (cf 63 [a0, x107, (.int .i64 3), x110, x112] h) (fun v113 h114 =>
 obind (fadK 7 a16) fun x115 =>
 obind (ld0 h x115) fun x116 =>
 .pan v113 h114) fun x117 h118 =>
 obind (fadK 7 a16) fun x119 =>
 obind (ld0 h118 x119) fun x120 =>
 obind (ld0 h x119) fun x121 =>
 bif IV.beq x121 x120 then
 callP (cf 64 [x117, x120] h118) (fun v122 h123 =>
 .pan v122 h123) fun x124 h125 =>
 R 7 [a0, a9, a81, a82, a83] h125
 else .fail
theorem e67_9 {a0 a9 a16 a81 a82 a83 : IV} (e : t67_9 (CL T) (J67 T) a0 a9 a16 a81 a82 a83 h = r) (hr : r ≠ .fail) : J67 T 9 [a0, a9, a16, a81, a82, a83] h = r := fj_step (by kernel_rfl) e hr
def js68 : List Jn := [⟨[], [0]⟩]
noncomputable def J68 (T : Tab) : Rec := fj Tryz.prog (CL T) Tryz.f68 js68
noncomputable def t68_0 (cf : CallF) (R : Rec) (a0 : IV) (h : H) : CRes :=
 callP (cf 92 [a0] h) .pan fun x1 h2 =>
 obind (binN .neq x1 (.int .i64 0)) fun x3 =>
 condK x3
 (.ok (.tup [(.int .i64 0), x1]) h2)
 (callP (cf 93 [a0] h2) .pan fun x4 h5 =>
 obind (unI .not x4) fun x6 =>
 condK x6
 (.ok (.tup [(.int .i64 0), (.int .i64 60)]) h5)
 (callP (cf 94 [a0, (.int .i64 2147483648)] h5) .pan fun x7 h8 =>
 obind (binN .gtr x7 (.int .i64 2147483647)) fun x9 =>
 condK x9
 (.ok (.tup [(.int .i64 0), (.int .i64 61)]) h8)
 (.ok (.tup [x7, (.int .i64 0)]) h8)))
theorem e68_0 {a0 : IV} (e : t68_0 (CL T) (J68 T) a0 h = r) (hr : r ≠ .fail) : J68 T 0 [a0] h = r := fj_step (by kernel_rfl) e hr
def js70 : List Jn := [⟨[], [0, 1]⟩]
noncomputable def J70 (T : Tab) : Rec := fj Tryz.prog (CL T) Tryz.f70 js70
noncomputable def t70_0 (cf : CallF) (R : Rec) (a0 a1 : IV) (h : H) : CRes :=
 obind2 (newI h (IV.cells a0)) fun x1 h2 =>
 obind (fadK 4 x1) fun x3 =>
 obind (ld0 h2 x3) fun x4 =>
 obind (lenS x4) fun x5 =>
 obind (binN .neq x5 a1) fun x6 =>
 condK x6
 (obind (ldA 6 h2 x1) fun x7 =>
 callP (cf 69 [x7, (.int .i64 60)] h2) .pan fun x8 h9 =>
 .ok (.tup []) h9)
 (.ok (.tup []) h2)
theorem e70_0 {a0 a1 : IV} (e : t70_0 (CL T) (J70 T) a0 a1 h = r) (hr : r ≠ .fail) : J70 T 0 [a0, a1] h = r := fj_step (by kernel_rfl) e hr
def js72 : List Jn := [⟨[], [0, 1, 2]⟩, ⟨[1, 1, 1, 1, 1, 1, 1, 1, 1, 1, 1, 1, 1, 1, 1, 1, 1, 1, 1, 1, 1, 0, 1, 0, 1], [1, 2, 3, 73]⟩, ⟨[1, 0, 1, 1, 1, 1, 1, 1, 1, 1, 1, 1, 1, 1, 1, 1, 1, 1, 1, 1, 1, 1, 1, 0, 1, 0, 1], [1, 2, 3]⟩, ⟨[1, 1, 1], [1, 2, 3]⟩]
noncomputable def J72 (T : Tab) : Rec := fj Tryz.prog (CL T) Tryz.f72 js72
noncomputable def t72_0 (cf : CallF) (R : Rec) (a0 a1 a2 : IV) (h : H) : CRes :=
 obind2 (newI h (IV.cells a0)) fun x1 h2 =>
 obind (fadK 0 x1) fun x3 =>
 obind (ld0 h2 x3) fun x4 =>
 obind (binN .eql x4 (.int .i64 13)) fun x5 =>
 condK x5
 (obind (binN .add a1 a2) fun x6 =>
 .ok x6 h2)
 (obind (binN .eql x4 (.int .i64 14)) fun x7 =>
 condK x7
 (obind (binN .sub a1 a2) fun x8 =>
 .ok x8 h2)
 (obind (binN .eql x4 (.int .i64 17)) fun x9 =>
 condK x9
 (obind (binN .lss a1 a2) fun x10 =>
 callP (cf 71 [x10] h2) .pan fun x11 h12 =>
 .ok x11 h12)
 (obind (binN .eql x4 (.int .i64 18)) fun x13 =>
 condK x13
 (obind (binN .leq a1 a2) fun x14 =>
 callP (cf 71 [x14] h2) .pan fun x15 h16 =>
 .ok x15 h16)
 (obind (binN .eql x4 (.int .i64 19)) fun x17 =>
 condK x17
 (obind (binN .gtr a1 a2) fun x18 =>
 callP (cf 71 [x18] h2) .pan fun x19 h20 =>
 .ok x19 h20)
 (obind (binN .eql x4 (.int .i64 20)) fun x21 =>
 condK x21
 (obind (binN .geq a1 a2) fun x22 =>
 callP (cf 71 [x22] h2) .pan fun x23 h24 =>
 .ok x23 h24)
 (obind (binN .eql x4 (.int .i64 21)) fun x25 =>
 condK x25
 (obind (binN .eql a1 a2) fun x26 =>
 callP (cf 71 [x26] h2) .pan fun x27 h28 =>
 .ok x27 h28)
 (obind (binN .eql x4 (.int .i64 22)) fun x29 =>
 condK x29
 (obind (binN .neq a1 a2) fun x30 =>
 callP (cf 71 [x30] h2) .pan fun x31 h32 =>
 .ok x31 h32)
 (obind (binN .eql x4 (.int .i64 26)) fun x33 =>
 condK x33
 (obind (binN .neq a1 (.int .i64 0)) fun x34 =>
 spanK x34 true h2 (fun k35 =>
 obind (binN .neq a2 (.int .i64 0)) fun x38 =>
 k35 x38 h2) fun x36 h37 =>
 obind (pickI x34 (some x36) (some (.bool false))) fun x39 =>
 callP (cf 71 [x39] h37) .pan fun x40 h41 =>
 .ok x40 h41)
 (obind (binN .eql x4 (.int .i64 27)) fun x42 =>
 condK x42
 (obind (binN .neq a1 (.int .i64 0)) fun x43 =>
 spanK x43 false h2 (fun k44 =>
 obind (binN .neq a2 (.int .i64 0)) fun x47 =>
 k44 x47 h2) fun x45 h46 =>
 obind (pickI x43 (some (.bool true)) (some x45)) fun x48 =>
 callP (cf 71 [x48] h46) .pan fun x49 h50 =>
 .ok x49 h50)
 (obind (binN .eql x4 (.int .i64 15)) fun x51 =>
 condK x51
 (R 1 [a1, a2, x1, x51] h2)
 (obind (binN .eql x4 (.int .i64 16)) fun x52 =>
 R 1 [a1, a2, x1, x52] h2)))))))))))
theorem e72_0 {a0 a1 a2 : IV} (e : t72_0 (CL T) (J72 T) a0 a1 a2 h = r) (hr : r ≠ .fail) : J72 T 0 [a0, a1, a2] h = r := fj_step (by kernel_rfl) e hr
noncomputable def t72_1 (cf : CallF) (R : Rec) (a1 a2 a3 a73 : IV) (h : H) : CRes :=
 condK a73
 (obind (binN .lss a2 (.int .i64 0)) fun x53 =>
 spanK x53 false h (fun k54 =>
 obind (binN .gtr a2 (.int .i64 31)) fun x57 =>
 k54 x57 h) fun x55 h56 =>
 obind (pickI x53 (some (.bool true)) (some x55)) fun x58 =>
 condK x58
 (obind (ldA 6 h56 a3) fun x59 =>
 callP (cf 69 [x59, (.int .i64 61)] h56) .pan fun x60 h61 =>
 R 2 [a1, a2, a3] h61)
 (R 2 [a1, a2, a3] h56))
 (obind (binN .lss a1 (.int .i64 0)) fun x62 =>
 spanK x62 false h (fun k63 =>
 obind (binN .lss a2 (.int .i64 0)) fun x66 =>
 k63 x66 h) fun x64 h65 =>
 obind (pickI x62 (some (.bool true)) (some x64)) fun x67 =>
 condK x67
 (obind (ldA 6 h65 a3) fun x68 =>
 callP (cf 69 [x68, (.int .i64 61)] h65) .pan fun x69 h70 =>
 R 3 [a1, a2, a3] h70)
 (R 3 [a1, a2, a3] h65))
theorem e72_1 {a1 a2 a3 a73 : IV} (e : t72_1 (CL T) (J72 T) a1 a2 a3 a73 h = r) (hr : r ≠ .fail) : J72 T 1 [a1, a2, a3, a73] h = r := fj_step (by kernel_rfl) e hr
noncomputable def t72_2 (cf : CallF) (R : Rec) (a1 a2 a3 : IV) (h : H) : CRes :=
 obind (fadK 0 a3) fun x71 =>
 obind (ld0 h x71) fun x72 =>
 obind (binN .eql x72 (.int .i64 15)) fun x73 =>
 condK x73
 (obind (binN .shl a1 a2) fun x74 =>
 .ok x74 h)
 (obind (binN .shr a1 a2) fun x75 =>
 .ok x75 h)
theorem e72_2 {a1 a2 a3 : IV} (e : t72_2 (CL T) (J72 T) a1 a2 a3 h = r) (hr : r ≠ .fail) : J72 T 2 [a1, a2, a3] h = r := fj_step (by kernel_rfl) e hr
noncomputable def t72_3 (cf : CallF) (R : Rec) (a1 a2 a3 : IV) (h : H) : CRes :=
 obind (fadK 0 a3) fun x76 =>
 obind (ld0 h x76) fun x77 =>
 obind (binN .eql x77 (.int .i64 23)) fun x78 =>
 condK x78
 (obind (binN .and a1 a2) fun x79 =>
 .ok x79 h)
 (obind (binN .eql x77 (.int .i64 25)) fun x80 =>
 condK x80
 (obind (binN .or a1 a2) fun x81 =>
 .ok x81 h)
 (obind (binN .xor a1 a2) fun x82 =>
 .ok x82 h))
theorem e72_3 {a1 a2 a3 : IV} (e : t72_3 (CL T) (J72 T) a1 a2 a3 h = r) (hr : r ≠ .fail) : J72 T 3 [a1, a2, a3] h = r := fj_step (by kernel_rfl) e hr
def js74 : List Jn := [⟨[], [0, 1]⟩]
noncomputable def J74 (T : Tab) : Rec := fj Tryz.prog (CL T) Tryz.f74 js74
noncomputable def t74_0 (cf : CallF) (R : Rec) (a0 a1 : IV) (h : H) : CRes :=
 obind2 (newI h (IV.cells a0)) fun x1 h2 =>
 obind2 (newI h2 (IV.cells a1)) fun x3 h4 =>
 obind2 (newI h4 [(.int .i64 0)]) fun x5 h6 =>
 obind2 (newI h6 [(.int .i64 0), (.int .i64 0)]) fun x7 h8 =>
 obind (ldA 2 h8 x1) fun x9 =>
 obind (ldA 6 h8 x3) fun x10 =>
 callP (cf 96 [x9, x10] h8) (dfP (LV Tryz.prog cf 95 [x5, x7]) fun h11 =>
 obind (ld0 h11 x5) fun x12 =>
 obind (ldA 2 h11 x7) fun x13 =>
 .ok (.tup [x12, x13]) h11) fun x14 h15 =>
 obind (bldK [(.int .i64 0), (.int .i64 0)] [(0, 1), (1, 1)] []) fun x16 =>
 obindH (stA 1 h15 x5 x14) fun h17 =>
 obindH (stA 2 h17 x7 x16) fun h18 =>
 dfK (LV Tryz.prog cf 95 [x5, x7] .ret h18) fun h19 =>
 obind (ld0 h19 x5) fun x20 =>
 obind (ldA 2 h19 x7) fun x21 =>
 .ok (.tup [x20, x21]) h19
theorem e74_0 {a0 a1 : IV} (e : t74_0 (CL T) (J74 T) a0 a1 h = r) (hr : r ≠ .fail) : J74 T 0 [a0, a1] h = r := fj_step (by kernel_rfl) e hr
def js77 : List Jn := [⟨[], [0, 1, 2]⟩, ⟨[0, 1, 0, 1, 1, 1], [0, 1, 7, 8]⟩]
noncomputable def J77 (T : Tab) : Rec := fj Tryz.prog (CL T) Tryz.f77 js77
noncomputable def t77_0 (cf : CallF) (R : Rec) (a0 a1 a2 : IV) (h : H) : CRes :=
 obind (binS .eql a0 (.str ⟨0, 0⟩)) fun x1 =>
 spanK x1 false h (fun k2 =>
 obind (unI .not a2) fun x5 =>
 k2 x5 h) fun x3 h4 =>
 spanK x3 true h4 (fun k6 =>
 obind (lenStr a0) fun x9 =>
 obind (binN .gtr x9 (.int .i64 10)) fun x10 =>
 k6 x10 h4) fun x7 h8 =>
 spanK x7 false h8 (fun k11 =>
 obind (lenStr a0) fun x14 =>
 obind (binN .gtr x14 (.int .i64 1)) fun x15 =>
 k11 x15 h8) fun x12 h13 =>
 spanK x12 true h13 (fun k16 =>
 obind (ixStr a0 (.int .i64 0)) fun x19 =>
 obind (binN .eql x19 (.int .u8 48)) fun x20 =>
 k16 x20 h13) fun x17 h18 =>
 spanK x7 false h18 (fun k21 =>
 obind (pickI x12 (some x17) (some (.bool false))) fun x24 =>
 k21 x24 h18) fun x22 h23 =>
 spanK x3 true h23 (fun k25 =>
 obind (pickI x7 (some (.bool true)) (some x22)) fun x28 =>
 k25 x28 h23) fun x26 h27 =>
 spanK x1 false h27 (fun k29 =>
 obind (pickI x3 (some x26) (some (.bool false))) fun x32 =>
 k29 x32 h27) fun x30 h31 =>
 obind (pickI x1 (some (.bool true)) (some x30)) fun x33 =>
 condK x33
 (.ok (.int .i64 (-1)) h31)
 (R 1 [a0, a1, (.int .i64 0), (.int .i64 0)] h31)
theorem e77_0 {a0 a1 a2 : IV} (e : t77_0 (CL T) (J77 T) a0 a1 a2 h = r) (hr : r ≠ .fail) : J77 T 0 [a0, a1, a2] h = r := fj_step (by kernel_rfl) e hr
noncomputable def t77_1 (cf : CallF) (R : Rec) (a0 a1 a7 a8 : IV) (h : H) : CRes :=
 obind (lenStr a0) fun x34 =>
 obind (binN .lss a8 x34) fun x35 =>
 condK x35
 (obind (ixStr a0 a8) fun x36 =>
 callP (cf 53 [x36] h) .pan fun x37 h38 =>
 obind (unI .not x37) fun x39 =>
 condK x39
 (.ok (.int .i64 (-1)) h38)
 (obind (binN .mul (.int .i64 10) a7) fun x40 =>
 obind (ixStr a0 a8) fun x41 =>
 obind (binN .sub x41 (.int .u8 48)) fun x42 =>
 obind (cvN .i64 x42) fun x43 =>
 obind (binN .add x40 x43) fun x44 =>
 obind (binN .gtr x44 a1) fun x45 =>
 condK x45
 (.ok (.int .i64 (-1)) h38)
 (obind (binN .add a8 (.int .i64 1)) fun x46 =>
 R 1 [a0, a1, x44, x46] h38)))
 (.ok a7 h)
theorem e77_1 {a0 a1 a7 a8 : IV} (e : t77_1 (CL T) (J77 T) a0 a1 a7 a8 h = r) (hr : r ≠ .fail) : J77 T 1 [a0, a1, a7, a8] h = r := fj_step (by kernel_rfl) e hr
def js78 : List Jn := [⟨[], [0, 1]⟩, ⟨[0, 1, 0, 1, 1], [0, 5, 6]⟩]
noncomputable def J78 (T : Tab) : Rec := fj Tryz.prog (CL T) Tryz.f78 js78
noncomputable def t78_0 (cf : CallF) (R : Rec) (a0 a1 : IV) (h : H) : CRes :=
 obind2 (mksK 1 1 [(.int .u8 0)] h a1 a1) fun x1 h2 =>
 obind (binN .sub a1 (.int .i64 1)) fun x3 =>
 R 1 [a0, x1, x3] h2
theorem e78_0 {a0 a1 : IV} (e : t78_0 (CL T) (J78 T) a0 a1 h = r) (hr : r ≠ .fail) : J78 T 0 [a0, a1] h = r := fj_step (by kernel_rfl) e hr
noncomputable def t78_1 (cf : CallF) (R : Rec) (a0 a5 a6 : IV) (h : H) : CRes :=
 obind (binN .geq a6 (.int .i64 0)) fun x4 =>
 condK x4
 (obind (binN .rem a0 (.int .i64 2)) fun x5 =>
 obind (binN .add (.int .i64 48) x5) fun x6 =>
 obind (cvN .u8 x6) fun x7 =>
 obind (ixS 1 a5 a6) fun x8 =>
 obindH (stA 1 h x8 x7) fun h9 =>
 obind (binN .quo a0 (.int .i64 2)) fun x10 =>
 obind (binN .sub a6 (.int .i64 1)) fun x11 =>
 R 1 [x10, a5, x11] h9)
 (obind (cvS h a5) fun x12 =>
 .ok x12 h)
theorem e78_1 {a0 a5 a6 : IV} (e : t78_1 (CL T) (J78 T) a0 a5 a6 h = r) (hr : r ≠ .fail) : J78 T 1 [a0, a5, a6] h = r := fj_step (by kernel_rfl) e hr
def js79 : List Jn := [⟨[], [0, 1]⟩, ⟨[0, 1, 0, 1, 1, 1, 1], [0, 1, 6, 7]⟩, ⟨[1, 1, 0, 0, 1, 0, 0, 1, 0, 1, 1, 1, 1], [0, 1, 6, 7, 8]⟩]
noncomputable def J79 (T : Tab) : Rec := fj Tryz.prog (CL T) Tryz.f79 js79
noncomputable def t79_0 (cf : CallF) (R : Rec) (a0 a1 : IV) (h : H) : CRes :=
 obind (binS .eql a1 (.str ⟨0, 0⟩)) fun x1 =>
 condK x1
 (.ok (.str ⟨0, 0⟩) h)
 (obind (binN .eql a0 (.int .u8 100)) fun x2 =>
 condK x2
 (callP (cf 77 [a1, (.int .i64 2147483647), (.bool true)] h) .pan fun x3 h4 =>
 obind (binN .lss x3 (.int .i64 0)) fun x5 =>
 condK x5
 (.ok (.str ⟨0, 0⟩) h4)
 (callP (cf 78 [x3, (.int .i64 31)] h4) .pan fun x6 h7 =>
 .ok x6 h7))
 (R 1 [a0, a1, .nilSlice, (.int .i64 0)] h))
theorem e79_0 {a0 a1 : IV} (e : t79_0 (CL T) (J79 T) a0 a1 h = r) (hr : r ≠ .fail) : J79 T 0 [a0, a1] h = r := fj_step (by kernel_rfl) e hr
noncomputable def t79_1 (cf : CallF) (R : Rec) (a0 a1 a6 a7 : IV) (h : H) : CRes :=
 obind (lenStr a1) fun x8 =>
 obind (binN .lss a7 x8) fun x9 =>
 condK x9
 (obind (ixStr a1 a7) fun x10 =>
 callP (cf 99 [x10] h) .pan fun x11 h12 =>
 obind (binN .eql a0 (.int .u8 98)) fun x13 =>
 condK x13
 (obind (ixStr a1 a7) fun x14 =>
 obind (binN .neq x14 (.int .u8 48)) fun x15 =>
 spanK x15 true h12 (fun k16 =>
 obind (ixStr a1 a7) fun x19 =>
 obind (binN .neq x19 (.int .u8 49)) fun x20 =>
 k16 x20 h12) fun x17 h18 =>
 obind (pickI x15 (some x17) (some (.bool false))) fun x21 =>
 spanK x21 true h18 (fun k22 =>
 obind (ixStr a1 a7) fun x25 =>
 obind (binN .neq x25 (.int .u8 120)) fun x26 =>
 k22 x26 h18) fun x23 h24 =>
 obind (pickI x21 (some x23) (some (.bool false))) fun x27 =>
 spanK x27 true h24 (fun k28 =>
 obind (ixStr a1 a7) fun x31 =>
 obind (binN .neq x31 (.int .u8 122)) fun x32 =>
 k28 x32 h24) fun x29 h30 =>
 obind (pickI x27 (some x29) (some (.bool false))) fun x33 =>
 condK x33
 (.ok (.str ⟨0, 0⟩) h30)
 (obind (binN .add a7 (.int .i64 1)) fun x34 =>
 obind (slcStr a1 (some a7) (some x34)) fun x35 =>
 R 2 [a0, a1, a6, a7, x35] h30))
 (R 2 [a0, a1, a6, a7, x11] h12))
 (obind (cvS h a6) fun x36 =>
 .ok x36 h)
theorem e79_1 {a0 a1 a6 a7 : IV} (e : t79_1 (CL T) (J79 T) a0 a1 a6 a7 h = r) (hr : r ≠ .fail) : J79 T 1 [a0, a1, a6, a7] h = r := fj_step (by kernel_rfl) e hr
noncomputable def t79_2 (cf : CallF) (R : Rec) (a0 a1 a6 a7 a8 : IV) (h : H) : CRes :=
 obind (binS .eql a8 (.str ⟨0, 0⟩)) fun x37 =>
 spanK x37 false h (fun k38 =>
 obind (binN .neq a0 (.int .u8 98)) fun x41 =>
 k38 x41 h) fun x39 h40 =>
 spanK x39 true h40 (fun k42 =>
 obind (binN .neq a0 (.int .u8 104)) fun x45 =>
 k42 x45 h40) fun x43 h44 =>
 spanK x37 false h44 (fun k46 =>
 obind (pickI x39 (some x43) (some (.bool false))) fun x49 =>
 k46 x49 h44) fun x47 h48 =>
 obind (pickI x37 (some (.bool true)) (some x47)) fun x50 =>
 condK x50
 (.ok (.str ⟨0, 0⟩) h48)
 (obind2 (appB 5 1 1 h48 a6 a8) fun x51 h52 =>
 obind (binN .add a7 (.int .i64 1)) fun x53 =>
 R 1 [a0, a1, x51, x53] h52)
theorem e79_2 {a0 a1 a6 a7 a8 : IV} (e : t79_2 (CL T) (J79 T) a0 a1 a6 a7 a8 h = r) (hr : r ≠ .fail) : J79 T 2 [a0, a1, a6, a7, a8] h = r := fj_step (by kernel_rfl) e hr
def js80 : List Jn := [⟨[], [0, 1]⟩, ⟨[0, 1, 0, 1, 1], [0, 1, 5, 6]⟩]
noncomputable def J80 (T : Tab) : Rec := fj Tryz.prog (CL T) Tryz.f80 js80
noncomputable def t80_0 (cf : CallF) (R : Rec) (a0 a1 : IV) (h : H) : CRes :=
 obind2 (mksK 1 1 [(.int .u8 0)] h a1 a1) fun x1 h2 =>
 R 1 [a0, a1, x1, (.int .i64 0)] h2
theorem e80_0 {a0 a1 : IV} (e : t80_0 (CL T) (J80 T) a0 a1 h = r) (hr : r ≠ .fail) : J80 T 0 [a0, a1] h = r := fj_step (by kernel_rfl) e hr
noncomputable def t80_1 (cf : CallF) (R : Rec) (a0 a1 a5 a6 : IV) (h : H) : CRes :=
 obind (binN .lss a6 a1) fun x3 =>
 condK x3
 (obind (ixS 1 a5 a6) fun x4 =>
 obindH (stA 1 h x4 a0) fun h5 =>
 obind (binN .add a6 (.int .i64 1)) fun x6 =>
 R 1 [a0, a1, a5, x6] h5)
 (obind (cvS h a5) fun x7 =>
 .ok x7 h)
theorem e80_1 {a0 a1 a5 a6 : IV} (e : t80_1 (CL T) (J80 T) a0 a1 a5 a6 h = r) (hr : r ≠ .fail) : J80 T 1 [a0, a1, a5, a6] h = r := fj_step (by kernel_rfl) e hr
def js81 : List Jn := [⟨[], [0, 1]⟩]
noncomputable def J81 (T : Tab) : Rec := fj Tryz.prog (CL T) Tryz.f81 js81
noncomputable def t81_0 (cf : CallF) (R : Rec) (a0 a1 : IV) (h : H) : CRes :=
 obind (lenStr a0) fun x1 =>
 obind (binN .geq x1 a1) fun x2 =>
 condK x2
 (obind (lenStr a0) fun x3 =>
 obind (binN .sub x3 a1) fun x4 =>
 obind (slcStr a0 (some x4) none) fun x5 =>
 .ok x5 h)
 (obind (lenStr a0) fun x6 =>
 obind (binN .sub a1 x6) fun x7 =>
 callP (cf 80 [(.int .u8 48), x7] h) .pan fun x8 h9 =>
 obind (binS .add x8 a0) fun x10 =>
 .ok x10 h9)
theorem e81_0 {a0 a1 : IV} (e : t81_0 (CL T) (J81 T) a0 a1 h = r) (hr : r ≠ .fail) : J81 T 0 [a0, a1] h = r := fj_step (by kernel_rfl) e hr
def js83 : List Jn := [⟨[], [0]⟩]
noncomputable def J83 (T : Tab) : Rec := fj Tryz.prog (CL T) Tryz.f83 js83
noncomputable def t83_0 (cf : CallF) (R : Rec) (a0 : IV) (h : H) : CRes :=
 obind (nilI a0) fun x1 =>
 obind (fadK 0 x1) fun x2 =>
 obind (ld0 h x2) fun x3 =>
 obind (nilI a0) fun x4 =>
 obind (fadK 1 x4) fun x5 =>
 obind (ld0 h x5) fun x6 =>
 obind (ixS 3 x3 x6) fun x7 =>
 obind (ldA 3 h x7) fun x8 =>
 obind2 (newI h z13) fun x9 h10 =>
 obind (ldA 3 h10 x7) fun x11 =>
 bif IV.beq x11 x8 then
 obind (ld0 h10 x5) fun x12 =>
 bif IV.beq x12 x6 then
 obind (ld0 h10 x2) fun x13 =>
 bif IV.beq x13 x3 then
 obindH (stA 3 h10 x9 x8) fun h14 =>
 callP (cf 38 [a0] h14) .pan fun x15 h16 =>
 spanK x15 true h16 (fun k17 =>
 obind (fadK 0 x9) fun x20 =>
 obind (ld0 h16 x20) fun x21 =>
 obind (binN .eql x21 (.int .i64 1)) fun x22 =>
 k17 x22 h16) fun x18 h19 =>
 obind (pickI x15 (some x18) (some (.bool false))) fun x23 =>
 spanK x23 true h19 (fun k24 =>
 obind (fadK 1 x9) fun x27 =>
 obind (ld0 h19 x27) fun x28 =>
 callP (cf 100 [x28] h19) .pan fun x29 h30 =>
 obind (unI .not x29) fun x31 =>
 k24 x31 h30) fun x25 h26 =>
 obind (pickI x23 (some x25) (some (.bool false))) fun x32 =>
 .ok x32 h26
 else .fail
 else .fail
 else .fail
theorem e83_0 {a0 : IV} (e : t83_0 (CL T) (J83 T) a0 h = r) (hr : r ≠ .fail) : J83 T 0 [a0] h = r := fj_step (by kernel_rfl) e hr
def js84 : List Jn := [⟨[], [0, 1]⟩]
noncomputable def J84 (T : Tab) : Rec := fj Tryz.prog (CL T) Tryz.f84 js84
noncomputable def t84_0 (cf : CallF) (R : Rec) (a0 a1 : IV) (h : H) : CRes :=
 obind (nilI a0) fun x1 =>
 obind (fadK 0 x1) fun x2 =>
 obind (ld0 h x2) fun x3 =>
 obind (nilI a0) fun x4 =>
 obind (fadK 1 x4) fun x5 =>
 obind (ld0 h x5) fun x6 =>
 obind (ixS 3 x3 x6) fun x7 =>
 obind (ldA 3 h x7) fun x8 =>
 obind2 (newI h z13) fun x9 h10 =>
 obind (ldA 3 h10 x7) fun x11 =>
 bif IV.beq x11 x8 then
 obind (ld0 h10 x5) fun x12 =>
 bif IV.beq x12 x6 then
 obind (ld0 h10 x2) fun x13 =>
 bif IV.beq x13 x3 then
 obindH (stA 3 h10 x9 x8) fun h14 =>
 callP (cf 38 [a0] h14) .pan fun x15 h16 =>
 spanK x15 true h16 (fun k17 =>
 obind (fadK 1 x9) fun x20 =>
 obind (ld0 h16 x20) fun x21 =>
 obind (binS .eql x21 a1) fun x22 =>
 k17 x22 h16) fun x18 h19 =>
 obind (pickI x15 (some x18) (some (.bool false))) fun x23 =>
 spanK x23 true h19 (fun k24 =>
 obind (fadK 0 x9) fun x27 =>
 obind (ld0 h19 x27) fun x28 =>
 obind (binN .eql x28 (.int .i64 3)) fun x29 =>
 k24 x29 h19) fun x25 h26 =>
 spanK x25 false h26 (fun k30 =>
 obind (fadK 0 x9) fun x33 =>
 obind (ld0 h26 x33) fun x34 =>
 obind (binN .eql x34 (.int .i64 1)) fun x35 =>
 k30 x35 h26) fun x31 h32 =>
 spanK x31 true h32 (fun k36 =>
 callP (cf 100 [a1] h32) .pan fun x39 h40 =>
 k36 x39 h40) fun x37 h38 =>
 spanK x25 false h38 (fun k41 =>
 obind (pickI x31 (some x37) (some (.bool false))) fun x44 =>
 k41 x44 h38) fun x42 h43 =>
 spanK x23 true h43 (fun k45 =>
 obind (pickI x25 (some (.bool true)) (some x42)) fun x48 =>
 k45 x48 h43) fun x46 h47 =>
 obind (pickI x23 (some x46) (some (.bool false))) fun x49 =>
 .ok x49 h47
 else .fail
 else .fail
 else .fail
theorem e84_0 {a0 a1 : IV} (e : t84_0 (CL T) (J84 T) a0 a1 h = r) (hr : r ≠ .fail) : J84 T 0 [a0, a1] h = r := fj_step (by kernel_rfl) e hr
def js85 : List Jn := [⟨[], [0, 1]⟩, ⟨[1, 1], [0, 1, 4]⟩, ⟨[1, 1, 1], [0, 1, 4]⟩]
noncomputable def J85 (T : Tab) : Rec := fj Tryz.prog (CL T) Tryz.f85 js85
noncomputable def t85_0 (cf : CallF) (R : Rec) (a0 a1 : IV) (h : H) : CRes :=
 obind2 (newI h z16) fun x1 h2 =>
 callP (cf 38 [a0] h2) .pan fun x3 h4 =>
 spanK x3 true h4 (fun k5 =>
 callP (cf 101 [a0] h4) .pan fun x8 h9 =>
 obind (unI .not x8) fun x10 =>
 k5 x10 h9) fun x6 h7 =>
 obind (pickI x3 (some x6) (some (.bool false))) fun x11 =>
 condK x11
 (callP (cf 82 [a0, (.int .i64 40)] h7) .pan fun x12 h13 =>
 R 1 [a0, a1, x1] h13)
 (R 1 [a0, a1, x1] h7)
theorem e85_0 {a0 a1 : IV} (e : t85_0 (CL T) (J85 T) a0 a1 h = r) (hr : r ≠ .fail) : J85 T 0 [a0, a1] h = r := fj_step (by kernel_rfl) e hr
noncomputable def t85_1 (cf : CallF) (R : Rec) (a0 a1 a4 : IV) (h : H) : CRes :=
 callP (cf 38 [a0] h) .pan fun x14 h15 =>
 spanK x14 true h15 (fun k16 =>
 obind (binN .gtr a1 (.int .i64 32)) fun x19 =>
 k16 x19 h15) fun x17 h18 =>
 obind (pickI x14 (some x17) (some (.bool false))) fun x20 =>
 condK x20
 (callP (cf 82 [a0, (.int .i64 41)] h18) .pan fun x21 h22 =>
 R 2 [a0, a1, a4] h22)
 (R 2 [a0, a1, a4] h18)
theorem e85_1 {a0 a1 a4 : IV} (e : t85_1 (CL T) (J85 T) a0 a1 a4 h = r) (hr : r ≠ .fail) : J85 T 1 [a0, a1, a4] h = r := fj_step (by kernel_rfl) e hr
noncomputable def t85_2 (cf : CallF) (R : Rec) (a0 a1 a4 : IV) (h : H) : CRes :=
 callP (cf 38 [a0] h) .pan fun x23 h24 =>
 obind (unI .not x23) fun x25 =>
 condK x25
 (obind (bldK z16 p17 []) fun x26 =>
 obindH (stA 6 h24 a4 x26) fun h27 =>
 obind (ldA 6 h27 a4) fun x28 =>
 .ok x28 h27)
 (callP (cf 102 [a0, (.int .i64 1), a1] h24) .pan fun x29 h30 =>
 obind2 (newI h30 z16) fun x31 h32 =>
 obindH (stA 6 h32 x31 x29) fun h33 =>
 callP (cf 56 [a0] h33) .pan fun x34 h35 =>
 callP (cf 59 [a0, (.str ⟨1, 63⟩)] h35) .pan fun x36 h37 =>
 obind (unI .not x36) fun x38 =>
 condK x38
 (obind (ldA 6 h37 x31) fun x39 =>
 obindH (stA 6 h37 a4 x39) fun h40 =>
 obind (ldA 6 h40 a4) fun x41 =>
 .ok x41 h40)
 (obind (binN .add a1 (.int .i64 1)) fun x42 =>
 callP (cf 85 [a0, x42] h37) .pan fun x43 h44 =>
 obind2 (newI h44 z16) fun x45 h46 =>
 obindH (stA 6 h46 x45 x43) fun h47 =>
 callP (cf 57 [a0, (.str ⟨1, 58⟩)] h47) .pan fun x48 h49 =>
 obind (binN .add a1 (.int .i64 1)) fun x50 =>
 callP (cf 85 [a0, x50] h49) .pan fun x51 h52 =>
 obind2 (newI h52 z16) fun x53 h54 =>
 obindH (stA 6 h54 x53 x51) fun h55 =>
 obind (ldA 6 h55 x31) fun x56 =>
 obind (ldA 6 h55 x45) fun x57 =>
 obind (ldA 6 h55 x53) fun x58 =>
 obind2 (bslK false 6 z16 3 [(0, x56), (1, x57), (2, x58)] h55) fun x59 h60 =>
 obind (bldK z16 p17 [(0, (.int .i64 6)), (4, x59), (5, x34)]) fun x61 =>
 obindH (stA 6 h60 a4 x61) fun h62 =>
 obind (ldA 6 h62 a4) fun x63 =>
 .ok x63 h62))
theorem e85_2 {a0 a1 a4 : IV} (e : t85_2 (CL T) (J85 T) a0 a1 a4 h = r) (hr : r ≠ .fail) : J85 T 2 [a0, a1, a4] h = r := fj_step (by kernel_rfl) e hr
def js86 : List Jn := [⟨[], [0]⟩]
noncomputable def J86 (T : Tab) : Rec := fj Tryz.prog (CL T) Tryz.f86 js86
noncomputable def t86_0 (cf : CallF) (R : Rec) (a0 : IV) (h : H) : CRes :=
 obind2 (newI h z16) fun x1 h2 =>
 obind2 (newI h2 z16) fun x3 h4 =>
 callP (cf 59 [a0, (.str ⟨1, 91⟩)] h4) .pan fun x5 h6 =>
 obind (unI .not x5) fun x7 =>
 condK x7
 (obind (bldK z16 p17 []) fun x8 =>
 obind (bldK z16 p17 []) fun x9 =>
 obindH (stA 6 h6 x1 x8) fun h10 =>
 obindH (stA 6 h10 x3 x9) fun h11 =>
 obind (ldA 6 h11 x1) fun x12 =>
 obind (ldA 6 h11 x3) fun x13 =>
 .ok (.tup [(.bool false), x12, x13]) h11)
 (callP (cf 85 [a0, (.int .i64 1)] h6) .pan fun x14 h15 =>
 obind2 (newI h15 z16) fun x16 h17 =>
 obindH (stA 6 h17 x16 x14) fun h18 =>
 callP (cf 57 [a0, (.str ⟨1, 58⟩)] h18) .pan fun x19 h20 =>
 callP (cf 85 [a0, (.int .i64 1)] h20) .pan fun x21 h22 =>
 obind2 (newI h22 z16) fun x23 h24 =>
 obindH (stA 6 h24 x23 x21) fun h25 =>
 callP (cf 57 [a0, (.str ⟨1, 93⟩)] h25) .pan fun x26 h27 =>
 obind (ldA 6 h27 x16) fun x28 =>
 obind (ldA 6 h27 x23) fun x29 =>
 obindH (stA 6 h27 x1 x28) fun h30 =>
 obind (ldA 6 h30 x23) fun x31 =>
 bif IV.beq x31 x29 then
 obindH (stA 6 h30 x3 x29) fun h32 =>
 obind (ldA 6 h32 x1) fun x33 =>
 obind (ldA 6 h32 x3) fun x34 =>
 .ok (.tup [(.bool true), x33, x34]) h32
 else .fail)
theorem e86_0 {a0 : IV} (e : t86_0 (CL T) (J86 T) a0 h = r) (hr : r ≠ .fail) : J86 T 0 [a0] h = r := fj_step (by kernel_rfl) e hr
def js87 : List Jn := [⟨[], [0, 1]⟩, ⟨[1, 1], [0, 1, 4]⟩, ⟨[1, 1, 1], [0, 1, 4]⟩, ⟨[1, 1, 1, 1, 1, 1], [4, 5]⟩, ⟨[1, 1, 1, 1, 1, 1, 1, 1, 1, 1, 1, 1, 1, 1, 1, 0, 0, 1, 1, 1, 1, 1], [0, 4, 5]⟩]
noncomputable def J87 (T : Tab) : Rec := fj Tryz.prog (CL T) Tryz.f87 js87
noncomputable def t87_0 (cf : CallF) (R : Rec) (a0 a1 : IV) (h : H) : CRes :=
 obind2 (newI h z10) fun x1 h2 =>
 callP (cf 38 [a0] h2) .pan fun x3 h4 =>
 spanK x3 true h4 (fun k5 =>
 callP (cf 103 [a0] h4) .pan fun x8 h9 =>
 obind (unI .not x8) fun x10 =>
 k5 x10 h9) fun x6 h7 =>
 obind (pickI x3 (some x6) (some (.bool false))) fun x11 =>
 condK x11
 (callP (cf 82 [a0, (.int .i64 40)] h7) .pan fun x12 h13 =>
 R 1 [a0, a1, x1] h13)
 (R 1 [a0, a1, x1] h7)
theorem e87_0 {a0 a1 : IV} (e : t87_0 (CL T) (J87 T) a0 a1 h = r) (hr : r ≠ .fail) : J87 T 0 [a0, a1] h = r := fj_step (by kernel_rfl) e hr
noncomputable def t87_1 (cf : CallF) (R : Rec) (a0 a1 a4 : IV) (h : H) : CRes :=
 callP (cf 38 [a0] h) .pan fun x14 h15 =>
 spanK x14 true h15 (fun k16 =>
 obind (binN .gtr a1 (.int .i64 32)) fun x19 =>
 k16 x19 h15) fun x17 h18 =>
 obind (pickI x14 (some x17) (some (.bool false))) fun x20 =>
 condK x20
 (callP (cf 82 [a0, (.int .i64 41)] h18) .pan fun x21 h22 =>
 R 2 [a0, a1, a4] h22)
 (R 2 [a0, a1, a4] h18)
theorem e87_1 {a0 a1 a4 : IV} (e : t87_1 (CL T) (J87 T) a0 a1 a4 h = r) (hr : r ≠ .fail) : J87 T 1 [a0, a1, a4] h = r := fj_step (by kernel_rfl) e hr
noncomputable def t87_2 (cf : CallF) (R : Rec) (a0 a1 a4 : IV) (h : H) : CRes :=
 callP (cf 38 [a0] h) .pan fun x23 h24 =>
 obind (unI .not x23) fun x25 =>
 condK x25
 (obind (bldK z10 p21 []) fun x26 =>
 obindH (stA 48 h24 a4 x26) fun h27 =>
 obind (ldA 48 h27 a4) fun x28 =>
 .ok x28 h27)
 (callP (cf 56 [a0] h24) .pan fun x29 h30 =>
 obind (bldK z10 p21 [(17, x29)]) fun x31 =>
 obind2 (newI h30 z10) fun x32 h33 =>
 obindH (stA 48 h33 x32 x31) fun h34 =>
 callP (cf 59 [a0, (.str ⟨4, 1701996919⟩)] h34) .pan fun x35 h36 =>
 condK x35
 (obind (ldA 48 h36 x32) fun x37 =>
 callP (cf 104 [a0, x37, (.int .i64 1)] h36) .pan fun x38 h39 =>
 obindH (stA 48 h39 a4 x38) fun h40 =>
 obind (ldA 48 h40 a4) fun x41 =>
 .ok x41 h40)
 (callP (cf 59 [a0, (.str ⟨3, 6776178⟩)] h36) .pan fun x42 h43 =>
 condK x42
 (obind (ldA 48 h43 x32) fun x44 =>
 callP (cf 104 [a0, x44, (.int .i64 2)] h43) .pan fun x45 h46 =>
 obindH (stA 48 h46 a4 x45) fun h47 =>
 obind (ldA 48 h47 a4) fun x48 =>
 .ok x48 h47)
 (callP (cf 59 [a0, (.str ⟨10, 516535522800345012203372⟩)] h43) .pan fun x49 h50 =>
 condK x49
 (obind (fadK 0 x32) fun x51 =>
 obindH (stA 1 h50 x51 (.int .i64 3)) fun h52 =>
 callP (cf 58 [a0] h52) .pan fun x53 h54 =>
 obind (fadK 1 x32) fun x55 =>
 obindH (stA 1 h54 x55 x53) fun h56 =>
 callP (cf 57 [a0, (.str ⟨1, 61⟩)] h56) .pan fun x57 h58 =>
 callP (cf 85 [a0, (.int .i64 1)] h58) .pan fun x59 h60 =>
 obind (fadK 23 x32) fun x61 =>
 obindH (stA 6 h60 x61 x59) fun h62 =>
 callP (cf 57 [a0, (.str ⟨1, 59⟩)] h62) .pan fun x63 h64 =>
 R 3 [a4, x32] h64)
 (callP (cf 59 [a0, (.str ⟨6, 121390429860705⟩)] h50) .pan fun x65 h66 =>
 condK x65
 (obind (ldA 48 h66 x32) fun x67 =>
 callP (cf 105 [a0, x67] h66) .pan fun x68 h69 =>
 obindH (stA 48 h69 a4 x68) fun h70 =>
 obind (ldA 48 h70 a4) fun x71 =>
 .ok x71 h70)
 (callP (cf 59 [a0, (.str ⟨6, 126965163453537⟩)] h66) .pan fun x72 h73 =>
 condK x72
 (obind (ldA 48 h73 x32) fun x74 =>
 callP (cf 106 [a0, x74] h73) .pan fun x75 h76 =>
 obindH (stA 48 h76 a4 x75) fun h77 =>
 obind (ldA 48 h77 a4) fun x78 =>
 .ok x78 h77)
 (callP (cf 59 [a0, (.str ⟨3, 7499622⟩)] h73) .pan fun x79 h80 =>
 condK x79
 (obind (ldA 48 h80 x32) fun x81 =>
 callP (cf 107 [a0, x81, a1] h80) .pan fun x82 h83 =>
 obindH (stA 48 h83 a4 x82) fun h84 =>
 obind (ldA 48 h84 a4) fun x85 =>
 .ok x85 h84)
 (obind (fadK 0 x32) fun x86 =>
 obindH (stA 1 h80 x86 (.int .i64 7)) fun h87 =>
 callP (cf 58 [a0] h87) .pan fun x88 h89 =>
 obind (fadK 42 x32) fun x90 =>
 obindH (stA 1 h89 x90 x88) fun h91 =>
 callP (cf 59 [a0, (.str ⟨1, 35⟩)] h91) .pan fun x92 h93 =>
 condK x92
 (callP (cf 57 [a0, (.str ⟨1, 40⟩)] h93) .pan fun x94 h95 =>
 callP (cf 108 [a0, (.bool true)] h95) .pan fun x96 h97 =>
 obind (fadK 43 x32) fun x98 =>
 obindH (stA 1 h97 x98 x96) fun h99 =>
 R 4 [a0, a4, x32] h99)
 (R 4 [a0, a4, x32] h93))))))))
theorem e87_2 {a0 a1 a4 : IV} (e : t87_2 (CL T) (J87 T) a0 a1 a4 h = r) (hr : r ≠ .fail) : J87 T 2 [a0, a1, a4] h = r := fj_step (by kernel_rfl) e hr
noncomputable def t87_3 (cf : CallF) (R : Rec) (a4 a5 : IV) (h : H) : CRes :=
 obind (ldA 48 h a5) fun x100 =>
 obindH (stA 48 h a4 x100) fun h101 =>
 obind (ldA 48 h101 a4) fun x102 =>
 .ok x102 h101
theorem e87_3 {a4 a5 : IV} (e : t87_3 (CL T) (J87 T) a4 a5 h = r) (hr : r ≠ .fail) : J87 T 3 [a4, a5] h = r := fj_step (by kernel_rfl) e hr
noncomputable def t87_4 (cf : CallF) (R : Rec) (a0 a4 a5 : IV) (h : H) : CRes :=
 callP (cf 58 [a0] h) .pan fun x103 h104 =>
 obind (fadK 1 a5) fun x105 =>
 obindH (stA 1 h104 x105 x103) fun h106 =>
 callP (cf 57 [a0, (.str ⟨1, 40⟩)] h106) .pan fun x107 h108 =>
 callP (cf 108 [a0, (.bool false)] h108) .pan fun x109 h110 =>
 obind (fadK 44 a5) fun x111 =>
 obindH (stA 1 h110 x111 x109) fun h112 =>
 callP (cf 57 [a0, (.str ⟨1, 59⟩)] h112) .pan fun x113 h114 =>
 R 3 [a4, a5] h114
theorem e87_4 {a0 a4 a5 : IV} (e : t87_4 (CL T) (J87 T) a0 a4 a5 h = r) (hr : r ≠ .fail) : J87 T 4 [a0, a4, a5] h = r := fj_step (by kernel_rfl) e hr
def js88 : List Jn := [⟨[], [0, 1]⟩, ⟨[0, 0, 1], [0, 1]⟩]
noncomputable def J88 (T : Tab) : Rec := fj Tryz.prog (CL T) Tryz.f88 js88
noncomputable def t88_0 (cf : CallF) (R : Rec) (a0 a1 : IV) (h : H) : CRes :=
 R 1 [a0, a1] h
theorem e88_0 {a0 a1 : IV} (e : t88_0 (CL T) (J88 T) a0 a1 h = r) (hr : r ≠ .fail) : J88 T 0 [a0, a1] h = r := fj_step (by kernel_rfl) e hr
noncomputable def t88_1 (cf : CallF) (R : Rec) (a0 a1 : IV) (h : H) : CRes :=
 obind (eqP .neq h a0 .nilPtr) fun x1 =>
 condK x1
 (obind (nilI a0) fun x2 =>
 obind (fadK 1 x2) fun x3 =>
 obind (ld0 h x3) fun x4 =>
 obind (lkK true .nilPtr h x4 a1 true) fun x5 =>
 obind (extractI x5 0) fun x6 =>
 obind (extractI x5 1) fun x7 =>
 condK x7
 (.ok (.tup [x6, a0]) h)
 (obind (nilI a0) fun x8 =>
 obind (fadK 0 x8) fun x9 =>
 obind (ld0 h x9) fun x10 =>
 R 1 [x10, a1] h))
 (.ok (.tup [.nilPtr, .nilPtr]) h)
theorem e88_1 {a0 a1 : IV} (e : t88_1 (CL T) (J88 T) a0 a1 h = r) (hr : r ≠ .fail) : J88 T 1 [a0, a1] h = r := fj_step (by kernel_rfl) e hr
def js89 : List Jn := [⟨[], [0]⟩]
noncomputable def J89 (T : Tab) : Rec := fj Tryz.prog (CL T) Tryz.f89 js89
noncomputable def t89_0 (cf : CallF) (R : Rec) (a0 : IV) (h : H) : CRes :=
 obind2 (newI h (IV.cells a0)) fun x1 h2 =>
 obind (fadK 0 x1) fun x3 =>
 obind (ld0 h2 x3) fun x4 =>
 obind (binN .eql x4 (.int .i64 2)) fun x5 =>
 spanK x5 false h2 (fun k6 =>
 obind (fadK 0 x1) fun x9 =>
 obind (ld0 h2 x9) fun x10 =>
 obind (binN .eql x10 (.int .i64 3)) fun x11 =>
 k6 x11 h2) fun x7 h8 =>
 obind (pickI x5 (some (.bool true)) (some x7)) fun x12 =>
 spanK x12 false h8 (fun k13 =>
 obind (fadK 0 x1) fun x16 =>
 obind (ld0 h8 x16) fun x17 =>
 obind (binN .eql x17 (.int .i64 4)) fun x18 =>
 k13 x18 h8) fun x14 h15 =>
 obind (pickI x12 (some (.bool true)) (some x14)) fun x19 =>
 .ok x19 h15
theorem e89_0 {a0 : IV} (e : t89_0 (CL T) (J89 T) a0 h = r) (hr : r ≠ .fail) : J89 T 0 [a0] h = r := fj_step (by kernel_rfl) e hr
def js92 : List Jn := [⟨[], [0]⟩]
noncomputable def J92 (T : Tab) : Rec := fj Tryz.prog (CL T) Tryz.f92 js92
noncomputable def t92_0 (cf : CallF) (R : Rec) (a0 : IV) (h : H) : CRes :=
 obind (lenStr a0) fun x1 =>
 obind (binN .lss x1 (.int .i64 1)) fun x2 =>
 spanK x2 false h (fun k3 =>
 obind (lenStr a0) fun x6 =>
 obind (binN .gtr x6 (.int .i64 256)) fun x7 =>
 k3 x7 h) fun x4 h5 =>
 obind (pickI x2 (some (.bool true)) (some x4)) fun x8 =>
 spanK x8 false h5 (fun k9 =>
 callP (cf 111 [a0, (.str ⟨4, 2054697264⟩)] h5) .pan fun x12 h13 =>
 obind (binS .neq x12 (.str ⟨0, 0⟩)) fun x14 =>
 k9 x14 h13) fun x10 h11 =>
 obind (pickI x8 (some (.bool true)) (some x10)) fun x15 =>
 condK x15
 (.ok (.int .i64 10) h11)
 (.ok (.int .i64 0) h11)
theorem e92_0 {a0 : IV} (e : t92_0 (CL T) (J92 T) a0 h = r) (hr : r ≠ .fail) : J92 T 0 [a0] h = r := fj_step (by kernel_rfl) e hr
def js93 : List Jn := [⟨[], [0]⟩]
noncomputable def J93 (T : Tab) : Rec := fj Tryz.prog (CL T) Tryz.f93 js93
noncomputable def t93_0 (cf : CallF) (R : Rec) (a0 : IV) (h : H) : CRes :=
 callP (cf 112 [a0, (.str ⟨2, 31352⟩)] h) .pan fun x1 h2 =>
 obind (unI .not x1) fun x3 =>
 .ok x3 h2
theorem e93_0 {a0 : IV} (e : t93_0 (CL T) (J93 T) a0 h = r) (hr : r ≠ .fail) : J93 T 0 [a0] h = r := fj_step (by kernel_rfl) e hr
def js94 : List Jn := [⟨[], [0, 1]⟩, ⟨[0, 1, 0, 1, 1], [0, 1, 5, 8, 9]⟩]
noncomputable def J94 (T : Tab) : Rec := fj Tryz.prog (CL T) Tryz.f94 js94
noncomputable def t94_0 (cf : CallF) (R : Rec) (a0 a1 : IV) (h : H) : CRes :=
 obind (lenStr a0) fun x1 =>
 R 1 [a0, a1, (.int .i64 0), x1, (.int .i64 0)] h
theorem e94_0 {a0 a1 : IV} (e : t94_0 (CL T) (J94 T) a0 a1 h = r) (hr : r ≠ .fail) : J94 T 0 [a0, a1] h = r := fj_step (by kernel_rfl) e hr
noncomputable def t94_1 (cf : CallF) (R : Rec) (a0 a1 a5 a8 a9 : IV) (h : H) : CRes :=
 obind (binN .lss a9 a8) fun x2 =>
 condK x2
 (obind (binN .mul (.int .i64 2) a5) fun x3 =>
 obind (ixStr a0 a9) fun x4 =>
 obind (binN .sub x4 (.int .u8 48)) fun x5 =>
 obind (cvN .i64 x5) fun x6 =>
 obind (binN .add x3 x6) fun x7 =>
 obind (minI x7 a1) fun x8 =>
 obind (binN .add a9 (.int .i64 1)) fun x9 =>
 R 1 [a0, a1, x8, a8, x9] h)
 (.ok a5 h)
theorem e94_1 {a0 a1 a5 a8 a9 : IV} (e : t94_1 (CL T) (J94 T) a0 a1 a5 a8 a9 h = r) (hr : r ≠ .fail) : J94 T 1 [a0, a1, a5, a8, a9] h = r := fj_step (by kernel_rfl) e hr
def js95 : List Jn := [⟨[1], [0, 1, 2]⟩, ⟨[1, 1, 0, 1, 1], [0, 1, 3]⟩]
noncomputable def J95 (T : Tab) : Rec := cj Tryz.prog (CL T) Tryz.f95 js95
noncomputable def t95_0 (cf : CallF) (R : Rec) (a0 a1 a2 : IV) (h : H) : CRes :=
 obind (eqIf .neq true a2 .nilIface) fun x1 =>
 condK x1
 (obind (assertI 82 true (some (.agg [(.int .i64 0), (.int .i64 0)])) a2) fun x2 =>
 obind (extractI x2 0) fun x3 =>
 obind (extractI x2 1) fun x4 =>
 obind2 (newI h [(.int .i64 0), (.int .i64 0)]) fun x5 h6 =>
 obindH (stA 2 h6 x5 x3) fun h7 =>
 obind (unI .not x4) fun x8 =>
 condK x8
 (panK a2 h7 nop)
 (R 1 [a0, a1, x5] h7))
 (.ok (.tup []) h)
theorem e95_0 {a0 a1 a2 : IV} (e : t95_0 (CL T) (J95 T) a0 a1 a2 h = r) (hr : r ≠ .fail) : J95 T 0 [a0, a1, a2] h = r := cj_step (by kernel_rfl) e hr
noncomputable def t95_1 (cf : CallF) (R : Rec) (a0 a1 a3 : IV) (h : H) : CRes :=
 obind (fadK 0 a3) fun x9 =>
 obind (ldA 2 h x9) fun x10 =>
 obindH (stA 1 h a0 (.int .i64 0)) fun h11 =>
 obind (ldA 2 h11 x9) fun x12 =>
 bif IV.beq x12 x10 then
 obindH (stA 2 h11 a1 x10) fun h13 =>
 .ok (.tup []) h13
 else .fail
theorem e95_1 {a0 a1 a3 : IV} (e : t95_1 (CL T) (J95 T) a0 a1 a3 h = r) (hr : r ≠ .fail) : J95 T 1 [a0, a1, a3] h = r := cj_step (by kernel_rfl) e hr
theorem l95 {T : Tab} {a0 a1 : IV} {st : I.Mode} {h h' : H} {v : IV} (hst : st ≠ .done) (e : t95_0 (CL T) (J95 T) a0 a1 (recV st) h = .ok v h') : LV Tryz.prog (CL T) 95 [a0, a1] st h = some (.ret, h') := LV_of3 5 2 Tryz.func95 rfl rfl (by kernel_rfl) (of_decide_eq_true (by kernel_rfl)) hst rfl rfl (of_decide_eq_true (by kernel_rfl)) (e95_0 e (by simp))
def js96 : List Jn := [⟨[], [0, 1]⟩, ⟨[1, 1], [2, 3]⟩, ⟨[1, 1, 1, 1, 1], [2, 3, 5, 6]⟩, ⟨[0, 1, 0, 1, 0, 1, 1, 1, 1], [2, 3, 5, 6, 23, 24, 25]⟩, ⟨[1, 1, 1, 1, 1, 1, 1], [3, 5, 6, 10]⟩, ⟨[1, 1, 0, 1, 0, 1, 1, 1, 1, 1, 1], [2, 3, 5, 6, 11]⟩, ⟨[1, 0, 1, 0, 1, 0, 1, 1, 1, 1, 1, 1, 1], [3]⟩, ⟨[1, 0, 1, 1, 1, 1, 1, 1, 1, 0, 1, 0, 1, 1, 1, 1, 1, 1, 1], [6]⟩, ⟨[1, 1, 1, 1, 1, 1, 1, 1, 1, 0, 1, 0, 1, 1, 1, 1, 1, 1, 1], [5, 74, 103]⟩, ⟨[1, 1, 1, 1, 1, 1, 1, 1, 1, 1, 1, 0, 1, 0, 1, 1, 1, 1, 1, 1, 1], [5, 74, 111]⟩]
noncomputable def J96 (T : Tab) : Rec := fj Tryz.prog (CL T) Tryz.f96 js96
noncomputable def t96_0 (cf : CallF) (R : Rec) (a0 a1 : IV) (h : H) : CRes :=
 obind2 (newI h (IV.cells a0)) fun x1 h2 =>
 obind2 (newI h2 (IV.cells a1)) fun x3 h4 =>
 obind (ldA 6 h4 x3) fun x5 =>
 callP (cf 113 [x5] h4) .pan fun x6 h7 =>
 obind (unI .not x6) fun x8 =>
 condK x8
 (obind (fadK 5 x3) fun x9 =>
 obind (ld0 h7 x9) fun x10 =>
 callP (cf 25 [x10, (.int .i64 60)] h7) .pan fun x11 h12 =>
 R 1 [x1, x3] h12)
 (R 1 [x1, x3] h7)
theorem e96_0 {a0 a1 : IV} (e : t96_0 (CL T) (J96 T) a0 a1 h = r) (hr : r ≠ .fail) : J96 T 0 [a0, a1] h = r := fj_step (by kernel_rfl) e hr
noncomputable def t96_1 (cf : CallF) (R : Rec) (a2 a3 : IV) (h : H) : CRes :=
 obind (fadK 0 a3) fun x13 =>
 obind (ld0 h x13) fun x14 =>
 obind (binN .neq x14 (.int .i64 4)) fun x15 =>
 condK x15
 (obind (fadK 4 a3) fun x16 =>
 obind (ld0 h x16) fun x17 =>
 obind (lenS x17) fun x18 =>
 R 3 [a2, a3, .nilSlice, (.int .i64 0), x17, x18, (.int .i64 0)] h)
 (R 2 [a2, a3, .nilSlice, (.int .i64 0)] h)
theorem e96_1 {a2 a3 : IV} (e : t96_1 (CL T) (J96 T) a2 a3 h = r) (hr : r ≠ .fail) : J96 T 1 [a2, a3] h = r := fj_step (by kernel_rfl) e hr
noncomputable def t96_2 (cf : CallF) (R : Rec) (a2 a3 a5 a6 : IV) (h : H) : CRes :=
 obind (fadK 0 a3) fun x19 =>
 obind (ld0 h x19) fun x20 =>
 obind (binN .eql x20 (.int .i64 2)) fun x21 =>
 spanK x21 false h (fun k22 =>
 obind (fadK 0 a3) fun x25 =>
 obind (ld0 h x25) fun x26 =>
 obind (binN .eql x26 (.int .i64 3)) fun x27 =>
 k22 x27 h) fun x23 h24 =>
 obind (pickI x21 (some (.bool true)) (some x23)) fun x28 =>
 spanK x28 false h24 (fun k29 =>
 obind (fadK 0 a3) fun x32 =>
 obind (ld0 h24 x32) fun x33 =>
 obind (binN .eql x33 (.int .i64 4)) fun x34 =>
 k29 x34 h24) fun x30 h31 =>
 obind (pickI x28 (some (.bool true)) (some x30)) fun x35 =>
 condK x35
 (obind (fadK 1 a2) fun x36 =>
 obind (ld0 h31 x36) fun x37 =>
 obind (fadK 1 a3) fun x38 =>
 obind (ld0 h31 x38) fun x39 =>
 obind (lkK true (.int .i64 0) h31 x37 x39 true) fun x40 =>
 obind (extractI x40 0) fun x41 =>
 obind (extractI x40 1) fun x42 =>
 obind (unI .not x42) fun x43 =>
 condK x43
 (obind (fadK 5 a3) fun x44 =>
 obind (ld0 h31 x44) fun x45 =>
 callP (cf 25 [x45, (.int .i64 71)] h31) .pan fun x46 h47 =>
 R 5 [a2, a3, a5, a6, x41] h47)
 (R 5 [a2, a3, a5, a6, x41] h31))
 (R 4 [a3, a5, a6, (.int .i64 0)] h31)
theorem e96_2 {a2 a3 a5 a6 : IV} (e : t96_2 (CL T) (J96 T) a2 a3 a5 a6 h = r) (hr : r ≠ .fail) : J96 T 2 [a2, a3, a5, a6] h = r := fj_step (by kernel_rfl) e hr
noncomputable def t96_3 (cf : CallF) (R : Rec) (a2 a3 a5 a6 a23 a24 a25 : IV) (h : H) : CRes :=
 obind (binN .lss a25 a24) fun x48 =>
 condK x48
 (obind (ixS 6 a23 a25) fun x49 =>
 obind (ldA 6 h x49) fun x50 =>
 obind2 (newI h z16) fun x51 h52 =>
 obindH (stA 6 h52 x51 x50) fun h53 =>
 obind (ldA 2 h53 a2) fun x54 =>
 obind (ldA 6 h53 x51) fun x55 =>
 callP (cf 96 [x54, x55] h53) .pan fun x56 h57 =>
 obind2 (bslK true 1 [(.int .i64 0)] 1 [(0, x56)] h57) fun x58 h59 =>
 obind2 (appK 1 8 h59 a5 x58) fun x60 h61 =>
 obind (binN .add a6 x56) fun x62 =>
 obind (minI x62 (.int .i64 257)) fun x63 =>
 obind (binN .add a25 (.int .i64 1)) fun x64 =>
 R 3 [a2, a3, x60, x63, a23, a24, x64] h61)
 (R 2 [a2, a3, a5, a6] h)
theorem e96_3 {a2 a3 a5 a6 a23 a24 a25 : IV} (e : t96_3 (CL T) (J96 T) a2 a3 a5 a6 a23 a24 a25 h = r) (hr : r ≠ .fail) : J96 T 3 [a2, a3, a5, a6, a23, a24, a25] h = r := fj_step (by kernel_rfl) e hr
noncomputable def t96_4 (cf : CallF) (R : Rec) (a3 a5 a6 a10 : IV) (h : H) : CRes :=
 obind (fadK 0 a3) fun x65 =>
 obind (ld0 h x65) fun x66 =>
 obind (binN .eql x66 (.int .i64 1)) fun x67 =>
 condK x67
 (obind (fadK 2 a3) fun x68 =>
 obind (ld0 h x68) fun x69 =>
 callP (cf 92 [x69] h) .pan fun x70 h71 =>
 obind (binN .neq x70 (.int .i64 0)) fun x72 =>
 condK x72
 (obind (fadK 5 a3) fun x73 =>
 obind (ld0 h71 x73) fun x74 =>
 callP (cf 25 [x74, (.int .i64 60)] h71) .pan fun x75 h76 =>
 R 6 [a3] h76)
 (R 6 [a3] h71))
 (obind (binN .eql x66 (.int .i64 2)) fun x77 =>
 condK x77
 (.ok a10 h)
 (obind (binN .eql x66 (.int .i64 4)) fun x78 =>
 condK x78
 (obind (ldA 6 h a3) fun x79 =>
 callP (cf 114 [x79, a10] h) .pan fun x80 h81 =>
 .ok x80 h81)
 (obind (binN .eql x66 (.int .i64 5)) fun x82 =>
 condK x82
 (obind (binN .gtr a6 (.int .i64 256)) fun x83 =>
 condK x83
 (obind (fadK 5 a3) fun x84 =>
 obind (ld0 h x84) fun x85 =>
 callP (cf 25 [x85, (.int .i64 83)] h) .pan fun x86 h87 =>
 R 7 [a6] h87)
 (R 7 [a6] h))
 (obind (binN .eql x66 (.int .i64 7)) fun x88 =>
 condK x88
 (R 8 [a5, x66, x88] h)
 (obind (binN .eql x66 (.int .i64 9)) fun x89 =>
 condK x89
 (R 8 [a5, x66, x89] h)
 (obind (binN .eql x66 (.int .i64 15)) fun x90 =>
 condK x90
 (R 8 [a5, x66, x90] h)
 (obind (binN .eql x66 (.int .i64 16)) fun x91 =>
 R 8 [a5, x66, x91] h)))))))
theorem e96_4 {a3 a5 a6 a10 : IV} (e : t96_4 (CL T) (J96 T) a3 a5 a6 a10 h = r) (hr : r ≠ .fail) : J96 T 4 [a3, a5, a6, a10] h = r := fj_step (by kernel_rfl) e hr
noncomputable def t96_5 (cf : CallF) (R : Rec) (a2 a3 a5 a6 a11 : IV) (h : H) : CRes :=
 obind (fadK 0 a2) fun x92 =>
 obind (ld0 h x92) fun x93 =>
 obind (ixS 3 x93 a11) fun x94 =>
 obind (fadK 1 x94) fun x95 =>
 obind (ld0 h x95) fun x96 =>
 R 4 [a3, a5, a6, x96] h
theorem e96_5 {a2 a3 a5 a6 a11 : IV} (e : t96_5 (CL T) (J96 T) a2 a3 a5 a6 a11 h = r) (hr : r ≠ .fail) : J96 T 5 [a2, a3, a5, a6, a11] h = r := fj_step (by kernel_rfl) e hr
noncomputable def t96_6 (cf : CallF) (R : Rec) (a3 : IV) (h : H) : CRes :=
 obind (fadK 2 a3) fun x97 =>
 obind (ld0 h x97) fun x98 =>
 obind (lenStr x98) fun x99 =>
 .ok x99 h
theorem e96_6 {a3 : IV} (e : t96_6 (CL T) (J96 T) a3 h = r) (hr : r ≠ .fail) : J96 T 6 [a3] h = r := fj_step (by kernel_rfl) e hr
noncomputable def t96_7 (cf : CallF) (R : Rec) (a6 : IV) (h : H) : CRes :=
 .ok a6 h
theorem e96_7 {a6 : IV} (e : t96_7 (CL T) (J96 T) a6 h = r) (hr : r ≠ .fail) : J96 T 7 [a6] h = r := fj_step (by kernel_rfl) e hr
noncomputable def t96_8 (cf : CallF) (R : Rec) (a5 a74 a103 : IV) (h : H) : CRes :=
 condK a103
 (obind (ixS 1 a5 (.int .i64 0)) fun x100 =>
 obind (ld0 h x100) fun x101 =>
 .ok x101 h)
 (obind (binN .eql a74 (.int .i64 13)) fun x102 =>
 condK x102
 (R 9 [a5, a74, x102] h)
 (obind (binN .eql a74 (.int .i64 14)) fun x103 =>
 condK x103
 (R 9 [a5, a74, x103] h)
 (obind (binN .eql a74 (.int .i64 23)) fun x104 =>
 condK x104
 (R 9 [a5, a74, x104] h)
 (obind (binN .eql a74 (.int .i64 25)) fun x105 =>
 condK x105
 (R 9 [a5, a74, x105] h)
 (obind (binN .eql a74 (.int .i64 24)) fun x106 =>
 R 9 [a5, a74, x106] h)))))
theorem e96_8 {a5 a74 a103 : IV} (e : t96_8 (CL T) (J96 T) a5 a74 a103 h = r) (hr : r ≠ .fail) : J96 T 8 [a5, a74, a103] h = r := fj_step (by kernel_rfl) e hr
noncomputable def t96_9 (cf : CallF) (R : Rec) (a5 a74 a111 : IV) (h : H) : CRes :=
 condK a111
 (obind (ixS 1 a5 (.int .i64 0)) fun x107 =>
 obind (ld0 h x107) fun x108 =>
 obind (ixS 1 a5 (.int .i64 1)) fun x109 =>
 obind (ld0 h x109) fun x110 =>
 obind (maxI x108 x110) fun x111 =>
 .ok x111 h)
 (obind (binN .eql a74 (.int .i64 6)) fun x112 =>
 condK x112
 (obind (ixS 1 a5 (.int .i64 1)) fun x113 =>
 obind (ld0 h x113) fun x114 =>
 obind (ixS 1 a5 (.int .i64 2)) fun x115 =>
 obind (ld0 h x115) fun x116 =>
 obind (maxI x114 x116) fun x117 =>
 .ok x117 h)
 (.ok (.int .i64 1) h))
theorem e96_9 {a5 a74 a111 : IV} (e : t96_9 (CL T) (J96 T) a5 a74 a111 h = r) (hr : r ≠ .fail) : J96 T 9 [a5, a74, a111] h = r := fj_step (by kernel_rfl) e hr
def js99 : List Jn := [⟨[], [0]⟩, ⟨[1, 1, 1], [3]⟩]
noncomputable def J99 (T : Tab) : Rec := fj Tryz.prog (CL T) Tryz.f99 js99
noncomputable def t99_0 (cf : CallF) (R : Rec) (a0 : IV) (h : H) : CRes :=
 callP (cf 53 [a0] h) .pan fun x1 h2 =>
 condK x1
 (obind (binN .sub a0 (.int .u8 48)) fun x3 =>
 obind (cvN .i64 x3) fun x4 =>
 R 1 [x4] h2)
 (obind (binN .geq a0 (.int .u8 97)) fun x5 =>
 spanK x5 true h2 (fun k6 =>
 obind (binN .leq a0 (.int .u8 102)) fun x9 =>
 k6 x9 h2) fun x7 h8 =>
 obind (pickI x5 (some x7) (some (.bool false))) fun x10 =>
 condK x10
 (obind (binN .sub a0 (.int .u8 97)) fun x11 =>
 obind (cvN .i64 x11) fun x12 =>
 obind (binN .add x12 (.int .i64 10)) fun x13 =>
 R 1 [x13] h8)
 (obind (binN .geq a0 (.int .u8 65)) fun x14 =>
 spanK x14 true h8 (fun k15 =>
 obind (binN .leq a0 (.int .u8 70)) fun x18 =>
 k15 x18 h8) fun x16 h17 =>
 obind (pickI x14 (some x16) (some (.bool false))) fun x19 =>
 condK x19
 (obind (binN .sub a0 (.int .u8 65)) fun x20 =>
 obind (cvN .i64 x20) fun x21 =>
 obind (binN .add x21 (.int .i64 10)) fun x22 =>
 R 1 [x22] h17)
 (obind (binN .eql a0 (.int .u8 120)) fun x23 =>
 spanK x23 false h17 (fun k24 =>
 obind (binN .eql a0 (.int .u8 122)) fun x27 =>
 k24 x27 h17) fun x25 h26 =>
 obind (pickI x23 (some (.bool true)) (some x25)) fun x28 =>
 condK x28
 (obind2 (bslK true 1 [(.int .u8 0)] 4 [(0, a0), (1, a0), (2, a0), (3, a0)] h26) fun x29 h30 =>
 obind (cvS h30 x29) fun x31 =>
 .ok x31 h30)
 (R 1 [(.int .i64 (-1))] h26))))
theorem e99_0 {a0 : IV} (e : t99_0 (CL T) (J99 T) a0 h = r) (hr : r ≠ .fail) : J99 T 0 [a0] h = r := fj_step (by kernel_rfl) e hr
noncomputable def t99_1 (cf : CallF) (R : Rec) (a3 : IV) (h : H) : CRes :=
 obind (binN .lss a3 (.int .i64 0)) fun x32 =>
 condK x32
 (.ok (.str ⟨0, 0⟩) h)
 (callP (cf 78 [a3, (.int .i64 4)] h) .pan fun x33 h34 =>
 .ok x33 h34)
theorem e99_1 {a3 : IV} (e : t99_1 (CL T) (J99 T) a3 h = r) (hr : r ≠ .fail) : J99 T 1 [a3] h = r := fj_step (by kernel_rfl) e hr
def js100 : List Jn := [⟨[], [0]⟩, ⟨[0, 1, 0, 1, 1], [0, 3, 4]⟩]
noncomputable def J100 (T : Tab) : Rec := fj Tryz.prog (CL T) Tryz.f100 js100
noncomputable def t100_0 (cf : CallF) (R : Rec) (a0 : IV) (h : H) : CRes :=
 callP (cf 119 [] h) .pan fun x1 h2 =>
 R 1 [a0, x1, (.int .i64 0)] h2
theorem e100_0 {a0 : IV} (e : t100_0 (CL T) (J100 T) a0 h = r) (hr : r ≠ .fail) : J100 T 0 [a0] h = r := fj_step (by kernel_rfl) e hr
noncomputable def t100_1 (cf : CallF) (R : Rec) (a0 a3 a4 : IV) (h : H) : CRes :=
 obind (lenS a3) fun x3 =>
 obind (binN .lss a4 x3) fun x4 =>
 condK x4
 (obind (ixS 1 a3 a4) fun x5 =>
 obind (ld0 h x5) fun x6 =>
 obind (binS .eql x6 a0) fun x7 =>
 condK x7
 (.ok (.bool true) h)
 (obind (binN .add a4 (.int .i64 1)) fun x8 =>
 R 1 [a0, a3, x8] h))
 (.ok (.bool false) h)
theorem e100_1 {a0 a3 a4 : IV} (e : t100_1 (CL T) (J100 T) a0 a3 a4 h = r) (hr : r ≠ .fail) : J100 T 1 [a0, a3, a4] h = r := fj_step (by kernel_rfl) e hr
def js101 : List Jn := [⟨[], [0]⟩]
noncomputable def J101 (T : Tab) : Rec := fj Tryz.prog (CL T) Tryz.f101 js101
noncomputable def t101_0 (cf : CallF) (R : Rec) (a0 : IV) (h : H) : CRes :=
 obind (nilI a0) fun x1 =>
 obind (fadK 0 x1) fun x2 =>
 obind (ld0 h x2) fun x3 =>
 obind (nilI a0) fun x4 =>
 obind (fadK 1 x4) fun x5 =>
 obind (ld0 h x5) fun x6 =>
 obind (ixS 3 x3 x6) fun x7 =>
 obind (ldA 3 h x7) fun x8 =>
 obind2 (newI h z13) fun x9 h10 =>
 obind (ldA 3 h10 x7) fun x11 =>
 bif IV.beq x11 x8 then
 obind (ld0 h10 x5) fun x12 =>
 bif IV.beq x12 x6 then
 obind (ld0 h10 x2) fun x13 =>
 bif IV.beq x13 x3 then
 obindH (stA 3 h10 x9 x8) fun h14 =>
 obind (fadK 0 x9) fun x15 =>
 obind (ld0 h14 x15) fun x16 =>
 obind (binN .eql x16 (.int .i64 3)) fun x17 =>
 condK x17
 (obind (fadK 1 x9) fun x18 =>
 obind (ld0 h14 x18) fun x19 =>
 callP (cf 120 [x19] h14) .pan fun x20 h21 =>
 obind (binN .gtr x20 (.int .i64 0)) fun x22 =>
 spanK x22 false h21 (fun k23 =>
 obind (fadK 1 x9) fun x26 =>
 obind (ld0 h21 x26) fun x27 =>
 obind (binS .eql x27 (.str ⟨1, 40⟩)) fun x28 =>
 k23 x28 h21) fun x24 h25 =>
 obind (pickI x22 (some (.bool true)) (some x24)) fun x29 =>
 spanK x29 false h25 (fun k30 =>
 obind (fadK 1 x9) fun x33 =>
 obind (ld0 h25 x33) fun x34 =>
 obind (binS .eql x34 (.str ⟨1, 123⟩)) fun x35 =>
 k30 x35 h25) fun x31 h32 =>
 obind (pickI x29 (some (.bool true)) (some x31)) fun x36 =>
 .ok x36 h32)
 (obind (fadK 0 x9) fun x37 =>
 obind (ld0 h14 x37) fun x38 =>
 obind (binN .eql x38 (.int .i64 2)) fun x39 =>
 spanK x39 false h14 (fun k40 =>
 callP (cf 83 [a0] h14) .pan fun x43 h44 =>
 k40 x43 h44) fun x41 h42 =>
 obind (pickI x39 (some (.bool true)) (some x41)) fun x45 =>
 .ok x45 h42)
 else .fail
 else .fail
 else .fail
theorem e101_0 {a0 : IV} (e : t101_0 (CL T) (J101 T) a0 h = r) (hr : r ≠ .fail) : J101 T 0 [a0] h = r := fj_step (by kernel_rfl) e hr
def js102 : List Jn := [⟨[], [0, 1, 2]⟩, ⟨[1, 1, 1, 1], [6, 7]⟩, ⟨[0, 0, 1, 1, 1], [0, 1, 2, 6, 7]⟩, ⟨[1, 0, 0, 0, 0, 1, 1, 1], [0, 1, 2, 6, 7, 37]⟩]
noncomputable def J102 (T : Tab) : Rec := fj Tryz.prog (CL T) Tryz.f102 js102
noncomputable def t102_0 (cf : CallF) (R : Rec) (a0 a1 a2 : IV) (h : H) : CRes :=
 obind2 (newI h z16) fun x1 h2 =>
 obind (binN .gtr a1 (.int .i64 9)) fun x3 =>
 condK x3
 (callP (cf 121 [a0, a2] h2) .pan fun x4 h5 =>
 obindH (stA 6 h5 x1 x4) fun h6 =>
 obind (ldA 6 h6 x1) fun x7 =>
 .ok x7 h6)
 (obind (binN .add a1 (.int .i64 1)) fun x8 =>
 callP (cf 102 [a0, x8, a2] h2) .pan fun x9 h10 =>
 obind2 (newI h10 z16) fun x11 h12 =>
 obindH (stA 6 h12 x11 x9) fun h13 =>
 R 2 [a0, a1, a2, x1, x11] h13)
theorem e102_0 {a0 a1 a2 : IV} (e : t102_0 (CL T) (J102 T) a0 a1 a2 h = r) (hr : r ≠ .fail) : J102 T 0 [a0, a1, a2] h = r := fj_step (by kernel_rfl) e hr
noncomputable def t102_2 (cf : CallF) (R : Rec) (a0 a1 a2 a6 a7 : IV) (h : H) : CRes :=
 callP (cf 38 [a0] h) (fun v14 h15 =>
 .pan v14 h15) fun x16 h17 =>
 guardK x16 (obind (nilI a0) fun x18 =>
 obind (fadK 0 x18) fun x19 =>
 obind (ld0 h17 x19) fun x20 =>
 obind (nilI a0) fun x21 =>
 obind (fadK 1 x21) fun x22 =>
 obind (ld0 h17 x22) fun x23 =>
 obind (ixS 3 x20 x23) fun x24 =>
 obind (fadK 0 x24) fun x25 =>
 obind (ld0 h17 x25) fun x26 =>
 obind (binN .eql x26 (.int .i64 3)) fun x27 =>
 R 3 [a0, a1, a2, a6, a7, x27] h17)
 (R 3 [a0, a1, a2, a6, a7, (.bool false)] h17)
 (CRes.fail)
theorem e102_2 {a0 a1 a2 a6 a7 : IV} (e : t102_2 (CL T) (J102 T) a0 a1 a2 a6 a7 h = r) (hr : r ≠ .fail) : J102 T 2 [a0, a1, a2, a6, a7] h = r := fj_step (by kernel_rfl) e hr
noncomputable def t102_3 (cf : CallF) (R : Rec) (a0 a1 a2 a6 a7 a37 : IV) (h : H) : CRes :=
 condK a37
 (obind (nilI a0) fun x28 =>
 obind (fadK 0 x28) fun x29 =>
 obind (ld0 h x29) fun x30 =>
 obind (nilI a0) fun x31 =>
 obind (fadK 1 x31) fun x32 =>
 obind (ld0 h x32) fun x33 =>
 obind (ixS 3 x30 x33) fun x34 =>
 obind (fadK 1 x34) fun x35 =>
 obind (ld0 h x35) fun x36 =>
 callP (cf 122 [x36] h) (fun v37 h38 =>
 .pan v37 h38) fun x39 h40 =>
 obind (extractI x39 0) fun x41 =>
 obind (extractI x39 1) fun x42 =>
 obind (binN .neq x41 a1) fun x43 =>
 condK x43
 (R 1 [a6, a7] h40)
 (callP (cf 56 [a0] h40) .pan fun x44 h45 =>
 obind (nilI a0) fun x46 =>
 obind (fadK 1 x46) fun x47 =>
 obind (ld0 h45 x47) fun x48 =>
 obind (binN .add x48 (.int .i64 1)) fun x49 =>
 obind (nilI a0) fun x50 =>
 obind (fadK 1 x50) fun x51 =>
 obindH (stA 1 h45 x51 x49) fun h52 =>
 obind (binN .add a1 (.int .i64 1)) fun x53 =>
 callP (cf 102 [a0, x53, a2] h52) .pan fun x54 h55 =>
 obind2 (newI h55 z16) fun x56 h57 =>
 obindH (stA 6 h57 x56 x54) fun h58 =>
 obind (ldA 6 h58 a7) fun x59 =>
 obind (ldA 6 h58 x56) fun x60 =>
 obind2 (bslK false 6 z16 2 [(0, x59), (1, x60)] h58) fun x61 h62 =>
 obind (bldK z16 p17 [(0, x42), (4, x61), (5, x44)]) fun x63 =>
 obindH (stA 6 h62 a7 x63) fun h64 =>
 R 2 [a0, a1, a2, a6, a7] h64))
 (R 1 [a6, a7] h)
theorem e102_3 {a0 a1 a2 a6 a7 a37 : IV} (e : t102_3 (CL T) (J102 T) a0 a1 a2 a6 a7 a37 h = r) (hr : r ≠ .fail) : J102 T 3 [a0, a1, a2, a6, a7, a37] h = r := fj_step (by kernel_rfl) e hr
noncomputable def t102_1 (cf : CallF) (R : Rec) (a6 a7 : IV) (h : H) : CRes :=
 obind (ldA 6 h a7) fun x65 =>
 obindH (stA 6 h a6 x65) fun h66 =>
 obind (ldA 6 h66 a6) fun x67 =>
 .ok x67 h66
theorem e102_1 {a6 a7 : IV} (e : t102_1 (CL T) (J102 T) a6 a7 h = r) (hr : r ≠ .fail) : J102 T 1 [a6, a7] h = r := fj_step (by kernel_rfl) e hr
def js103 : List Jn := [⟨[], [0]⟩]
noncomputable def J103 (T : Tab) : Rec := fj Tryz.prog (CL T) Tryz.f103 js103
noncomputable def t103_0 (cf : CallF) (R : Rec) (a0 : IV) (h : H) : CRes :=
 callP (cf 83 [a0] h) .pan fun x1 h2 =>
 spanK x1 false h2 (fun k3 =>
 callP (cf 84 [a0, (.str ⟨4, 1701996919⟩)] h2) .pan fun x6 h7 =>
 k3 x6 h7) fun x4 h5 =>
 obind (pickI x1 (some (.bool true)) (some x4)) fun x8 =>
 spanK x8 false h5 (fun k9 =>
 callP (cf 84 [a0, (.str ⟨3, 6776178⟩)] h5) .pan fun x12 h13 =>
 k9 x12 h13) fun x10 h11 =>
 obind (pickI x8 (some (.bool true)) (some x10)) fun x14 =>
 spanK x14 false h11 (fun k15 =>
 callP (cf 84 [a0, (.str ⟨10, 516535522800345012203372⟩)] h11) .pan fun x18 h19 =>
 k15 x18 h19) fun x16 h17 =>
 obind (pickI x14 (some (.bool true)) (some x16)) fun x20 =>
 spanK x20 false h17 (fun k21 =>
 callP (cf 84 [a0, (.str ⟨6, 121390429860705⟩)] h17) .pan fun x24 h25 =>
 k21 x24 h25) fun x22 h23 =>
 obind (pickI x20 (some (.bool true)) (some x22)) fun x26 =>
 spanK x26 false h23 (fun k27 =>
 callP (cf 84 [a0, (.str ⟨6, 126965163453537⟩)] h23) .pan fun x30 h31 =>
 k27 x30 h31) fun x28 h29 =>
 obind (pickI x26 (some (.bool true)) (some x28)) fun x32 =>
 spanK x32 false h29 (fun k33 =>
 callP (cf 84 [a0, (.str ⟨3, 7499622⟩)] h29) .pan fun x36 h37 =>
 k33 x36 h37) fun x34 h35 =>
 obind (pickI x32 (some (.bool true)) (some x34)) fun x38 =>
 .ok x38 h35
theorem e103_0 {a0 : IV} (e : t103_0 (CL T) (J103 T) a0 h = r) (hr : r ≠ .fail) : J103 T 0 [a0] h = r := fj_step (by kernel_rfl) e hr
def js108 : List Jn := [⟨[], [0, 1]⟩, ⟨[1, 1, 1, 1], [0, 5]⟩, ⟨[0, 0, 1, 1, 1], [0, 5]⟩]
noncomputable def J108 (T : Tab) : Rec := fj Tryz.prog (CL T) Tryz.f108 js108
noncomputable def t108_0 (cf : CallF) (R : Rec) (a0 a1 : IV) (h : H) : CRes :=
 obind (unI .not a1) fun x1 =>
 spanK x1 true h (fun k2 =>
 callP (cf 59 [a0, (.str ⟨1, 41⟩)] h) .pan fun x5 h6 =>
 k2 x5 h6) fun x3 h4 =>
 obind (pickI x1 (some x3) (some (.bool false))) fun x7 =>
 condK x7
 (.ok .nilSlice h4)
 (R 2 [a0, .nilSlice] h4)
theorem e108_0 {a0 a1 : IV} (e : t108_0 (CL T) (J108 T) a0 a1 h = r) (hr : r ≠ .fail) : J108 T 0 [a0, a1] h = r := fj_step (by kernel_rfl) e hr
noncomputable def t108_2 (cf : CallF) (R : Rec) (a0 a5 : IV) (h : H) : CRes :=
 callP (cf 38 [a0] h) .pan fun x8 h9 =>
 condK x8
 (callP (cf 56 [a0] h9) .pan fun x10 h11 =>
 obind (bldK z5 p19 [(2, x10)]) fun x12 =>
 obind2 (newI h11 z5) fun x13 h14 =>
 obindH (stA 8 h14 x13 x12) fun h15 =>
 callP (cf 57 [a0, (.str ⟨1, 46⟩)] h15) .pan fun x16 h17 =>
 callP (cf 58 [a0] h17) .pan fun x18 h19 =>
 obind (fadK 0 x13) fun x20 =>
 obindH (stA 1 h19 x20 x18) fun h21 =>
 callP (cf 57 [a0, (.str ⟨1, 40⟩)] h21) .pan fun x22 h23 =>
 callP (cf 85 [a0, (.int .i64 1)] h23) .pan fun x24 h25 =>
 obind (fadK 1 x13) fun x26 =>
 obindH (stA 6 h25 x26 x24) fun h27 =>
 callP (cf 57 [a0, (.str ⟨1, 41⟩)] h27) .pan fun x28 h29 =>
 obind (ldA 8 h29 x13) fun x30 =>
 obind2 (bslK false 8 z5 1 [(0, x30)] h29) fun x31 h32 =>
 obind2 (appK 8 104 h32 a5 x31) fun x33 h34 =>
 callP (cf 59 [a0, (.str ⟨1, 44⟩)] h34) .pan fun x35 h36 =>
 obind (unI .not x35) fun x37 =>
 condK x37
 (R 1 [a0, x33] h36)
 (R 2 [a0, x33] h36))
 (R 1 [a0, a5] h9)
theorem e108_2 {a0 a5 : IV} (e : t108_2 (CL T) (J108 T) a0 a5 h = r) (hr : r ≠ .fail) : J108 T 2 [a0, a5] h = r := fj_step (by kernel_rfl) e hr
noncomputable def t108_1 (cf : CallF) (R : Rec) (a0 a5 : IV) (h : H) : CRes :=
 callP (cf 57 [a0, (.str ⟨1, 41⟩)] h) .pan fun x38 h39 =>
 .ok a5 h39
theorem e108_1 {a0 a5 : IV} (e : t108_1 (CL T) (J108 T) a0 a5 h = r) (hr : r ≠ .fail) : J108 T 1 [a0, a5] h = r := fj_step (by kernel_rfl) e hr
def js111 : List Jn := [⟨[], [0, 1]⟩]
noncomputable def J111 (T : Tab) : Rec := fj Tryz.prog (CL T) Tryz.f111 js111
noncomputable def t111_0 (cf : CallF) (R : Rec) (a0 a1 : IV) (h : H) : CRes :=
 obind (binS .eql a0 (.str ⟨0, 0⟩)) fun x1 =>
 spanK x1 false h (fun k2 =>
 obind (binS .eql a1 (.str ⟨0, 0⟩)) fun x5 =>
 k2 x5 h) fun x3 h4 =>
 obind (pickI x1 (some (.bool true)) (some x3)) fun x6 =>
 condK x6
 (.ok a0 h4)
 (obind (lenStr a1) fun x7 =>
 obind (binN .eql x7 (.int .i64 1)) fun x8 =>
 spanK x8 true h4 (fun k9 =>
 obind (ixStr a1 (.int .i64 0)) fun x12 =>
 obind (binN .lss x12 (.int .u8 128)) fun x13 =>
 k9 x13 h4) fun x10 h11 =>
 obind (pickI x8 (some x10) (some (.bool false))) fun x14 =>
 condK x14
 (obind (ixStr a1 (.int .i64 0)) fun x15 =>
 callP (cf 126 [a0, x15] h11) (fun v16 h17 =>
 obind (ixStr a1 (.int .i64 0)) fun x18 =>
 .pan v16 h17) fun x19 h20 =>
 obind (ixStr a1 (.int .i64 0)) fun x21 =>
 callP (cf 125 [x19, x21] h20) (fun v22 h23 =>
 .pan v22 h23) fun x24 h25 =>
 .ok x24 h25)
 (callP (cf 127 [a1] h11) .pan fun x26 h27 =>
 obind (extractI x26 0) fun x28 =>
 obind (extractI x26 1) fun x29 =>
 obind2 (newI h27 z22) fun x30 h31 =>
 obindH (stA 256 h31 x30 x28) fun h32 =>
 condK x29
 (callP (cf 129 [a0, x30] h32) .pan fun x33 h34 =>
 callP (cf 128 [x33, x30] h34) .pan fun x35 h36 =>
 .ok x35 h36)
 (callP (cf 131 [a0, a1] h32) .pan fun x37 h38 =>
 callP (cf 130 [x37, a1] h38) .pan fun x39 h40 =>
 .ok x39 h40)))
theorem e111_0 {a0 a1 : IV} (e : t111_0 (CL T) (J111 T) a0 a1 h = r) (hr : r ≠ .fail) : J111 T 0 [a0, a1] h = r := fj_step (by kernel_rfl) e hr
def js112 : List Jn := [⟨[], [0, 1]⟩]
noncomputable def J112 (T : Tab) : Rec := fj Tryz.prog (CL T) Tryz.f112 js112
noncomputable def t112_0 (cf : CallF) (R : Rec) (a0 a1 : IV) (h : H) : CRes :=
 callP (cf 132 [a0, a1] h) .pan fun x1 h2 =>
 obind (binN .geq x1 (.int .i64 0)) fun x3 =>
 .ok x3 h2
theorem e112_0 {a0 a1 : IV} (e : t112_0 (CL T) (J112 T) a0 a1 h = r) (hr : r ≠ .fail) : J112 T 0 [a0, a1] h = r := fj_step (by kernel_rfl) e hr
def js113 : List Jn := [⟨[], [0]⟩]
noncomputable def J113 (T : Tab) : Rec := fj Tryz.prog (CL T) Tryz.f113 js113
noncomputable def t113_0 (cf : CallF) (R : Rec) (a0 : IV) (h : H) : CRes :=
 obind2 (newI h (IV.cells a0)) fun x1 h2 =>
 obind (fadK 4 x1) fun x3 =>
 obind (ld0 h2 x3) fun x4 =>
 obind (lenS x4) fun x5 =>
 obind (fadK 0 x1) fun x6 =>
 obind (ld0 h2 x6) fun x7 =>
 obind (binN .eql x7 (.int .i64 1)) fun x8 =>
 spanK x8 false h2 (fun k9 =>
 obind (binN .eql x7 (.int .i64 2)) fun x12 =>
 k9 x12 h2) fun x10 h11 =>
 obind (pickI x8 (some (.bool true)) (some x10)) fun x13 =>
 condK x13
 (obind (binN .eql x5 (.int .i64 0)) fun x14 =>
 .ok x14 h11)
 (obind (binN .eql x7 (.int .i64 3)) fun x15 =>
 spanK x15 false h11 (fun k16 =>
 obind (binN .geq x7 (.int .i64 7)) fun x19 =>
 k16 x19 h11) fun x17 h18 =>
 spanK x17 true h18 (fun k20 =>
 obind (binN .leq x7 (.int .i64 12)) fun x23 =>
 k20 x23 h18) fun x21 h22 =>
 spanK x15 false h22 (fun k24 =>
 obind (pickI x17 (some x21) (some (.bool false))) fun x27 =>
 k24 x27 h22) fun x25 h26 =>
 obind (pickI x15 (some (.bool true)) (some x25)) fun x28 =>
 condK x28
 (obind (binN .eql x5 (.int .i64 1)) fun x29 =>
 .ok x29 h26)
 (obind (binN .eql x7 (.int .i64 5)) fun x30 =>
 condK x30
 (obind (binN .geq x5 (.int .i64 1)) fun x31 =>
 spanK x31 true h26 (fun k32 =>
 obind (binN .leq x5 (.int .i64 1048576)) fun x35 =>
 k32 x35 h26) fun x33 h34 =>
 obind (pickI x31 (some x33) (some (.bool false))) fun x36 =>
 .ok x36 h34)
 (obind (binN .eql x7 (.int .i64 6)) fun x37 =>
 condK x37
 (obind (binN .eql x5 (.int .i64 3)) fun x38 =>
 .ok x38 h26)
 (obind (binN .eql x5 (.int .i64 2)) fun x39 =>
 spanK x39 true h26 (fun k40 =>
 obind (fadK 0 x1) fun x43 =>
 obind (ld0 h26 x43) fun x44 =>
 obind (binN .eql x44 (.int .i64 4)) fun x45 =>
 k40 x45 h26) fun x41 h42 =>
 spanK x41 false h42 (fun k46 =>
 obind (fadK 0 x1) fun x49 =>
 obind (ld0 h42 x49) fun x50 =>
 obind (binN .geq x50 (.int .i64 13)) fun x51 =>
 k46 x51 h42) fun x47 h48 =>
 spanK x47 true h48 (fun k52 =>
 obind (fadK 0 x1) fun x55 =>
 obind (ld0 h48 x55) fun x56 =>
 obind (binN .leq x56 (.int .i64 27)) fun x57 =>
 k52 x57 h48) fun x53 h54 =>
 spanK x41 false h54 (fun k58 =>
 obind (pickI x47 (some x53) (some (.bool false))) fun x61 =>
 k58 x61 h54) fun x59 h60 =>
 spanK x39 true h60 (fun k62 =>
 obind (pickI x41 (some (.bool true)) (some x59)) fun x65 =>
 k62 x65 h60) fun x63 h64 =>
 obind (pickI x39 (some x63) (some (.bool false))) fun x66 =>
 .ok x66 h64))))
theorem e113_0 {a0 : IV} (e : t113_0 (CL T) (J113 T) a0 h = r) (hr : r ≠ .fail) : J113 T 0 [a0] h = r := fj_step (by kernel_rfl) e hr
def js119 : List Jn := [⟨[], []⟩]
noncomputable def J119 (T : Tab) : Rec := fj Tryz.prog (CL T) Tryz.f119 js119
noncomputable def t119_0 (cf : CallF) (R : Rec) (h : H) : CRes :=
 obind2 (bslK false 1 [(.str ⟨0, 0⟩)] 19 [(0, (.str ⟨6, 111516500389741⟩)), (1, (.str ⟨9, 1870936414602775522917⟩)), (2, (.str ⟨5, 500186508905⟩)), (3, (.str ⟨6, 128047746676079⟩)), (4, (.str ⟨3, 6776178⟩)), (5, (.str ⟨4, 1701996919⟩)), (6, (.str ⟨9, 2110239404018478768496⟩)), (7, (.str ⟨10, 516535522800345012203372⟩)), (8, (.str ⟨6, 121390429860705⟩)), (9, (.str ⟨6, 126965163453537⟩)), (10, (.str ⟨7, 28542653544230768⟩)), (11, (.str ⟨5, 474214786402⟩)), (12, (.str ⟨3, 6581861⟩)), (13, (.str ⟨2, 26217⟩)), (14, (.str ⟨4, 1702063205⟩)), (15, (.str ⟨4, 1702060387⟩)), (16, (.str ⟨7, 28555834764324453⟩)), (17, (.str ⟨7, 32770348699510116⟩)), (18, (.str ⟨3, 7499622⟩))] h) fun x1 h2 =>
 .ok x1 h2
theorem e119_0 (e : t119_0 (CL T) (J119 T) h = r) (hr : r ≠ .fail) : J119 T 0 [] h = r := fj_step (by kernel_rfl) e hr
def js120 : List Jn := [⟨[], [0]⟩, ⟨[0, 1, 0, 1, 1], [0, 3, 4]⟩]
noncomputable def J120 (T : Tab) : Rec := fj Tryz.prog (CL T) Tryz.f120 js120
noncomputable def t120_0 (cf : CallF) (R : Rec) (a0 : IV) (h : H) : CRes :=
 obind2 (bslK false 1 [(.str ⟨0, 0⟩)] 6 [(0, (.str ⟨1, 126⟩)), (1, (.str ⟨1, 33⟩)), (2, (.str ⟨1, 45⟩)), (3, (.str ⟨1, 38⟩)), (4, (.str ⟨1, 124⟩)), (5, (.str ⟨1, 94⟩))] h) fun x1 h2 =>
 R 1 [a0, x1, (.int .i64 0)] h2
theorem e120_0 {a0 : IV} (e : t120_0 (CL T) (J120 T) a0 h = r) (hr : r ≠ .fail) : J120 T 0 [a0] h = r := fj_step (by kernel_rfl) e hr
noncomputable def t120_1 (cf : CallF) (R : Rec) (a0 a3 a4 : IV) (h : H) : CRes :=
 obind (lenS a3) fun x3 =>
 obind (binN .lss a4 x3) fun x4 =>
 condK x4
 (obind (ixS 1 a3 a4) fun x5 =>
 obind (ld0 h x5) fun x6 =>
 obind (binS .eql x6 a0) fun x7 =>
 condK x7
 (obind (binN .add (.int .i64 7) a4) fun x8 =>
 .ok x8 h)
 (obind (binN .add a4 (.int .i64 1)) fun x9 =>
 R 1 [a0, a3, x9] h))
 (.ok (.int .i64 0) h)
theorem e120_1 {a0 a3 a4 : IV} (e : t120_1 (CL T) (J120 T) a0 a3 a4 h = r) (hr : r ≠ .fail) : J120 T 1 [a0, a3, a4] h = r := fj_step (by kernel_rfl) e hr
def js121 : List Jn := [⟨[], [0, 1]⟩, ⟨[1, 1], [0, 1, 4]⟩]
noncomputable def J121 (T : Tab) : Rec := fj Tryz.prog (CL T) Tryz.f121 js121
noncomputable def t121_0 (cf : CallF) (R : Rec) (a0 a1 : IV) (h : H) : CRes :=
 obind2 (newI h z16) fun x1 h2 =>
 callP (cf 38 [a0] h2) .pan fun x3 h4 =>
 spanK x3 true h4 (fun k5 =>
 callP (cf 101 [a0] h4) .pan fun x8 h9 =>
 obind (unI .not x8) fun x10 =>
 k5 x10 h9) fun x6 h7 =>
 obind (pickI x3 (some x6) (some (.bool false))) fun x11 =>
 condK x11
 (callP (cf 82 [a0, (.int .i64 40)] h7) .pan fun x12 h13 =>
 R 1 [a0, a1, x1] h13)
 (R 1 [a0, a1, x1] h7)
theorem e121_0 {a0 a1 : IV} (e : t121_0 (CL T) (J121 T) a0 a1 h = r) (hr : r ≠ .fail) : J121 T 0 [a0, a1] h = r := fj_step (by kernel_rfl) e hr
noncomputable def t121_1 (cf : CallF) (R : Rec) (a0 a1 a4 : IV) (h : H) : CRes :=
 callP (cf 38 [a0] h) .pan fun x14 h15 =>
 obind (unI .not x14) fun x16 =>
 condK x16
 (obind (bldK z16 p17 []) fun x17 =>
 obindH (stA 6 h15 a4 x17) fun h18 =>
 obind (ldA 6 h18 a4) fun x19 =>
 .ok x19 h18)
 (obind (nilI a0) fun x20 =>
 obind (fadK 0 x20) fun x21 =>
 obind (ld0 h15 x21) fun x22 =>
 obind (nilI a0) fun x23 =>
 obind (fadK 1 x23) fun x24 =>
 obind (ld0 h15 x24) fun x25 =>
 obind (ixS 3 x22 x25) fun x26 =>
 obind (ldA 3 h15 x26) fun x27 =>
 obind2 (newI h15 z13) fun x28 h29 =>
 obind (ldA 3 h29 x26) fun x30 =>
 bif IV.beq x30 x27 then
 obind (ld0 h29 x24) fun x31 =>
 bif IV.beq x31 x25 then
 obind (ld0 h29 x21) fun x32 =>
 bif IV.beq x32 x22 then
 obindH (stA 3 h29 x28 x27) fun h33 =>
 obind (fadK 1 x28) fun x34 =>
 obind (ld0 h33 x34) fun x35 =>
 callP (cf 120 [x35] h33) .pan fun x36 h37 =>
 obind (fadK 0 x28) fun x38 =>
 obind (ld0 h37 x38) fun x39 =>
 obind (binN .eql x39 (.int .i64 3)) fun x40 =>
 spanK x40 true h37 (fun k41 =>
 obind (binN .gtr x36 (.int .i64 0)) fun x44 =>
 k41 x44 h37) fun x42 h43 =>
 obind (pickI x40 (some x42) (some (.bool false))) fun x45 =>
 condK x45
 (obind (nilI a0) fun x46 =>
 obind (fadK 1 x46) fun x47 =>
 obind (ld0 h43 x47) fun x48 =>
 obind (binN .add x48 (.int .i64 1)) fun x49 =>
 obind (nilI a0) fun x50 =>
 obind (fadK 1 x50) fun x51 =>
 obindH (stA 1 h43 x51 x49) fun h52 =>
 obind (binN .add a1 (.int .i64 1)) fun x53 =>
 callP (cf 138 [a0, x53] h52) (fun v54 h55 =>
 obind (fadK 2 x28) fun x56 =>
 obind (ld0 h52 x56) fun x57 =>
 .pan v54 h55) fun x58 h59 =>
 obind2 (bslK false 6 z16 1 [(0, x58)] h59) fun x60 h61 =>
 obind (fadK 2 x28) fun x62 =>
 obind (ld0 h61 x62) fun x63 =>
 obind (ld0 h52 x62) fun x64 =>
 bif IV.beq x64 x63 then
 obind (ld0 h59 x62) fun x65 =>
 bif IV.beq x65 x63 then
 obind (bldK z16 p17 [(0, x36), (4, x60), (5, x63)]) fun x66 =>
 obindH (stA 6 h61 a4 x66) fun h67 =>
 obind (ldA 6 h67 a4) fun x68 =>
 .ok x68 h67
 else .fail
 else .fail)
 (callP (cf 123 [a0, a1] h43) .pan fun x69 h70 =>
 obindH (stA 6 h70 a4 x69) fun h71 =>
 obind (ldA 6 h71 a4) fun x72 =>
 .ok x72 h71)
 else .fail
 else .fail
 else .fail)
theorem e121_1 {a0 a1 a4 : IV} (e : t121_1 (CL T) (J121 T) a0 a1 a4 h = r) (hr : r ≠ .fail) : J121 T 1 [a0, a1, a4] h = r := fj_step (by kernel_rfl) e hr
def js122 : List Jn := [⟨[], [0]⟩, ⟨[0, 1, 0, 1, 1, 1, 1], [0, 4, 5, 6, 7]⟩]
noncomputable def J122 (T : Tab) : Rec := fj Tryz.prog (CL T) Tryz.f122 js122
noncomputable def t122_0 (cf : CallF) (R : Rec) (a0 : IV) (h : H) : CRes :=
 obind2 (bslK false 1 [(.str ⟨0, 0⟩)] 15 [(0, (.str ⟨2, 31868⟩)), (1, (.str ⟨2, 9766⟩)), (2, (.str ⟨1, 124⟩)), (3, (.str ⟨1, 94⟩)), (4, (.str ⟨1, 38⟩)), (5, (.str ⟨2, 15677⟩)), (6, (.str ⟨2, 15649⟩)), (7, (.str ⟨1, 60⟩)), (8, (.str ⟨2, 15676⟩)), (9, (.str ⟨1, 62⟩)), (10, (.str ⟨2, 15678⟩)), (11, (.str ⟨2, 15420⟩)), (12, (.str ⟨2, 15934⟩)), (13, (.str ⟨1, 43⟩)), (14, (.str ⟨1, 45⟩))] h) fun x1 h2 =>
 obind2 (bslK true 1 [(.int .i64 0)] 15 [(0, (.int .i64 1)), (1, (.int .i64 2)), (2, (.int .i64 3)), (3, (.int .i64 4)), (4, (.int .i64 5)), (5, (.int .i64 6)), (6, (.int .i64 6)), (7, (.int .i64 7)), (8, (.int .i64 7)), (9, (.int .i64 7)), (10, (.int .i64 7)), (11, (.int .i64 8)), (12, (.int .i64 8)), (13, (.int .i64 9)), (14, (.int .i64 9))] h2) fun x3 h4 =>
 obind2 (bslK true 1 [(.int .i64 0)] 15 [(0, (.int .i64 27)), (1, (.int .i64 26)), (2, (.int .i64 25)), (3, (.int .i64 24)), (4, (.int .i64 23)), (5, (.int .i64 21)), (6, (.int .i64 22)), (7, (.int .i64 17)), (8, (.int .i64 18)), (9, (.int .i64 19)), (10, (.int .i64 20)), (11, (.int .i64 15)), (12, (.int .i64 16)), (13, (.int .i64 13)), (14, (.int .i64 14))] h4) fun x5 h6 =>
 R 1 [a0, x1, x3, x5, (.int .i64 0)] h6
theorem e122_0 {a0 : IV} (e : t122_0 (CL T) (J122 T) a0 h = r) (hr : r ≠ .fail) : J122 T 0 [a0] h = r := fj_step (by kernel_rfl) e hr
noncomputable def t122_1 (cf : CallF) (R : Rec) (a0 a4 a5 a6 a7 : IV) (h : H) : CRes :=
 obind (lenS a4) fun x7 =>
 obind (binN .lss a7 x7) fun x8 =>
 condK x8
 (obind (ixS 1 a4 a7) fun x9 =>
 obind (ld0 h x9) fun x10 =>
 obind (binS .eql x10 a0) fun x11 =>
 condK x11
 (obind (ixS 1 a5 a7) fun x12 =>
 obind (ld0 h x12) fun x13 =>
 obind (ixS 1 a6 a7) fun x14 =>
 obind (ld0 h x14) fun x15 =>
 .ok (.tup [x13, x15]) h)
 (obind (binN .add a7 (.int .i64 1)) fun x16 =>
 R 1 [a0, a4, a5, a6, x16] h))
 (.ok (.tup [(.int .i64 0), (.int .i64 0)]) h)
theorem e122_1 {a0 a4 a5 a6 a7 : IV} (e : t122_1 (CL T) (J122 T) a0 a4 a5 a6 a7 h = r) (hr : r ≠ .fail) : J122 T 1 [a0, a4, a5, a6, a7] h = r := fj_step (by kernel_rfl) e hr
def js123 : List Jn := [⟨[], [0, 1]⟩, ⟨[0, 0, 1, 0, 1, 0, 1, 1, 1, 1], [0, 1, 4, 10]⟩, ⟨[1, 1, 1, 1, 1, 1, 1, 1, 1, 1], [0, 4, 11]⟩]
noncomputable def J123 (T : Tab) : Rec := fj Tryz.prog (CL T) Tryz.f123 js123
noncomputable def t123_0 (cf : CallF) (R : Rec) (a0 a1 : IV) (h : H) : CRes :=
 obind2 (newI h z16) fun x1 h2 =>
 obind (nilI a0) fun x3 =>
 obind (fadK 0 x3) fun x4 =>
 obind (ld0 h2 x4) fun x5 =>
 obind (nilI a0) fun x6 =>
 obind (fadK 1 x6) fun x7 =>
 obind (ld0 h2 x7) fun x8 =>
 obind (ixS 3 x5 x8) fun x9 =>
 obind (ldA 3 h2 x9) fun x10 =>
 obind2 (newI h2 z13) fun x11 h12 =>
 obind (ldA 3 h12 x9) fun x13 =>
 bif IV.beq x13 x10 then
 obind (ld0 h12 x7) fun x14 =>
 bif IV.beq x14 x8 then
 obind (ld0 h12 x4) fun x15 =>
 bif IV.beq x15 x5 then
 obindH (stA 3 h12 x11 x10) fun h16 =>
 obind (fadK 0 x11) fun x17 =>
 obind (ld0 h16 x17) fun x18 =>
 obind (binN .eql x18 (.int .i64 2)) fun x19 =>
 condK x19
 (obind (nilI a0) fun x20 =>
 obind (fadK 1 x20) fun x21 =>
 obind (ld0 h16 x21) fun x22 =>
 obind (binN .add x22 (.int .i64 1)) fun x23 =>
 obind (nilI a0) fun x24 =>
 obind (fadK 1 x24) fun x25 =>
 obindH (stA 1 h16 x25 x23) fun h26 =>
 obind (fadK 1 x11) fun x27 =>
 obind (ld0 h26 x27) fun x28 =>
 callP (cf 54 [x28] h26) .pan fun x29 h30 =>
 obind (extractI x29 0) fun x31 =>
 obind (extractI x29 1) fun x32 =>
 obind (extractI x29 2) fun x33 =>
 obind (fadK 2 x11) fun x34 =>
 obind (ld0 h30 x34) fun x35 =>
 obind (bldK z16 p17 [(0, (.int .i64 1)), (2, x31), (3, x32), (5, x35)]) fun x36 =>
 obindH (stA 6 h30 x1 x36) fun h37 =>
 obind (ldA 6 h37 x1) fun x38 =>
 .ok x38 h37)
 (callP (cf 59 [a0, (.str ⟨1, 40⟩)] h16) .pan fun x39 h40 =>
 condK x39
 (obind (binN .add a1 (.int .i64 1)) fun x41 =>
 callP (cf 85 [a0, x41] h40) .pan fun x42 h43 =>
 obind2 (newI h43 z16) fun x44 h45 =>
 obindH (stA 6 h45 x44 x42) fun h46 =>
 callP (cf 57 [a0, (.str ⟨1, 41⟩)] h46) .pan fun x47 h48 =>
 obind (ldA 6 h48 x44) fun x49 =>
 obindH (stA 6 h48 x1 x49) fun h50 =>
 obind (ldA 6 h50 x1) fun x51 =>
 .ok x51 h50)
 (callP (cf 59 [a0, (.str ⟨1, 123⟩)] h40) .pan fun x52 h53 =>
 condK x52
 (obind (binN .add a1 (.int .i64 1)) fun x54 =>
 callP (cf 85 [a0, x54] h53) (fun v55 h56 =>
 obind (fadK 2 x11) fun x57 =>
 obind (ld0 h53 x57) fun x58 =>
 .pan v55 h56) fun x59 h60 =>
 obind2 (bslK false 6 z16 1 [(0, x59)] h60) fun x61 h62 =>
 obind (fadK 2 x11) fun x63 =>
 obind (ld0 h62 x63) fun x64 =>
 obind (ld0 h53 x63) fun x65 =>
 bif IV.beq x65 x64 then
 obind (ld0 h60 x63) fun x66 =>
 bif IV.beq x66 x64 then
 obind (bldK z16 p17 [(0, (.int .i64 5)), (4, x61), (5, x64)]) fun x67 =>
 obind2 (newI h62 z16) fun x68 h69 =>
 obind (ld0 h69 x63) fun x70 =>
 bif IV.beq x70 x64 then
 obindH (stA 6 h69 x68 x67) fun h71 =>
 R 1 [a0, a1, x1, x68] h71
 else .fail
 else .fail
 else .fail)
 (callP (cf 58 [a0] h53) (fun v72 h73 =>
 obind (fadK 2 x11) fun x74 =>
 obind (ld0 h53 x74) fun x75 =>
 .pan v72 h73) fun x76 h77 =>
 obind (fadK 2 x11) fun x78 =>
 obind (ld0 h77 x78) fun x79 =>
 obind (ld0 h53 x78) fun x80 =>
 bif IV.beq x80 x79 then
 obind (bldK z16 p17 [(0, (.int .i64 2)), (1, x76), (5, x79)]) fun x81 =>
 obind2 (newI h77 z16) fun x82 h83 =>
 obind (ld0 h83 x78) fun x84 =>
 bif IV.beq x84 x79 then
 obindH (stA 6 h83 x82 x81) fun h85 =>
 callP (cf 59 [a0, (.str ⟨1, 91⟩)] h85) .pan fun x86 h87 =>
 obind (unI .not x86) fun x88 =>
 condK x88
 (obind (ldA 6 h87 x82) fun x89 =>
 obindH (stA 6 h87 x1 x89) fun h90 =>
 obind (ldA 6 h90 x1) fun x91 =>
 .ok x91 h90)
 (obind (fadK 0 x82) fun x92 =>
 obindH (stA 1 h87 x92 (.int .i64 3)) fun h93 =>
 obind (binN .add a1 (.int .i64 1)) fun x94 =>
 callP (cf 85 [a0, x94] h93) .pan fun x95 h96 =>
 obind2 (bslK false 6 z16 1 [(0, x95)] h96) fun x97 h98 =>
 obind (fadK 4 x82) fun x99 =>
 obindH (stA 1 h98 x99 x97) fun h100 =>
 callP (cf 59 [a0, (.str ⟨1, 58⟩)] h100) .pan fun x101 h102 =>
 condK x101
 (obind (fadK 0 x82) fun x103 =>
 obindH (stA 1 h102 x103 (.int .i64 4)) fun h104 =>
 obind (fadK 4 x82) fun x105 =>
 obind (ld0 h104 x105) fun x106 =>
 obind (binN .add a1 (.int .i64 1)) fun x107 =>
 callP (cf 85 [a0, x107] h104) (fun v108 h109 =>
 .pan v108 h109) fun x110 h111 =>
 obind (ld0 h111 x105) fun x112 =>
 bif IV.beq x112 x106 then
 obind2 (bslK false 6 z16 1 [(0, x110)] h111) fun x113 h114 =>
 obind (ld0 h114 x105) fun x115 =>
 bif IV.beq x115 x106 then
 obind2 (appK 6 80 h114 x106 x113) fun x116 h117 =>
 obind (fadK 4 x82) fun x118 =>
 obindH (stA 1 h117 x118 x116) fun h119 =>
 R 2 [a0, x1, x82] h119
 else .fail
 else .fail)
 (R 2 [a0, x1, x82] h102))
 else .fail
 else .fail)))
 else .fail
 else .fail
 else .fail
theorem e123_0 {a0 a1 : IV} (e : t123_0 (CL T) (J123 T) a0 a1 h = r) (hr : r ≠ .fail) : J123 T 0 [a0, a1] h = r := fj_step (by kernel_rfl) e hr
noncomputable def t123_1 (cf : CallF) (R : Rec) (a0 a1 a4 a10 : IV) (h : H) : CRes :=
 callP (cf 59 [a0, (.str ⟨1, 44⟩)] h) .pan fun x120 h121 =>
 condK x120
 (obind (fadK 4 a10) fun x122 =>
 obind (ld0 h121 x122) fun x123 =>
 obind (binN .add a1 (.int .i64 1)) fun x124 =>
 callP (cf 85 [a0, x124] h121) (fun v125 h126 =>
 .pan v125 h126) fun x127 h128 =>
 obind (ld0 h128 x122) fun x129 =>
 bif IV.beq x129 x123 then
 obind2 (bslK false 6 z16 1 [(0, x127)] h128) fun x130 h131 =>
 obind (ld0 h131 x122) fun x132 =>
 bif IV.beq x132 x123 then
 obind2 (appK 6 80 h131 x123 x130) fun x133 h134 =>
 obind (fadK 4 a10) fun x135 =>
 obindH (stA 1 h134 x135 x133) fun h136 =>
 R 1 [a0, a1, a4, a10] h136
 else .fail
 else .fail)
 (callP (cf 57 [a0, (.str ⟨1, 125⟩)] h121) .pan fun x137 h138 =>
 obind (ldA 6 h138 a10) fun x139 =>
 obindH (stA 6 h138 a4 x139) fun h140 =>
 obind (ldA 6 h140 a4) fun x141 =>
 .ok x141 h140)
theorem e123_1 {a0 a1 a4 a10 : IV} (e : t123_1 (CL T) (J123 T) a0 a1 a4 a10 h = r) (hr : r ≠ .fail) : J123 T 1 [a0, a1, a4, a10] h = r := fj_step (by kernel_rfl) e hr
noncomputable def t123_2 (cf : CallF) (R : Rec) (a0 a4 a11 : IV) (h : H) : CRes :=
 callP (cf 57 [a0, (.str ⟨1, 93⟩)] h) .pan fun x142 h143 =>
 obind (ldA 6 h143 a11) fun x144 =>
 obindH (stA 6 h143 a4 x144) fun h145 =>
 obind (ldA 6 h145 a4) fun x146 =>
 .ok x146 h145
theorem e123_2 {a0 a4 a11 : IV} (e : t123_2 (CL T) (J123 T) a0 a4 a11 h = r) (hr : r ≠ .fail) : J123 T 2 [a0, a4, a11] h = r := fj_step (by kernel_rfl) e hr
def js127 : List Jn := [⟨[], [0]⟩, ⟨[0, 1, 0, 1], [0, 2, 4]⟩]
noncomputable def J127 (T : Tab) : Rec := fj Tryz.prog (CL T) Tryz.f127 js127
noncomputable def t127_0 (cf : CallF) (R : Rec) (a0 : IV) (h : H) : CRes :=
 obind2 (newI h z22) fun x1 h2 =>
 R 1 [a0, x1, (.int .i64 0)] h2
theorem e127_0 {a0 : IV} (e : t127_0 (CL T) (J127 T) a0 h = r) (hr : r ≠ .fail) : J127 T 0 [a0] h = r := fj_step (by kernel_rfl) e hr
noncomputable def t127_1 (cf : CallF) (R : Rec) (a0 a2 a4 : IV) (h : H) : CRes :=
 obind (lenStr a0) fun x3 =>
 obind (binN .lss a4 x3) fun x4 =>
 condK x4
 (obind (ixStr a0 a4) fun x5 =>
 obind (binN .geq x5 (.int .u8 128)) fun x6 =>
 condK x6
 (obind (ldA 256 h a2) fun x7 =>
 obindH (stA 256 h a2 x7) fun h8 =>
 obind (ldA 256 h8 a2) fun x9 =>
 .ok (.tup [x9, (.bool false)]) h8)
 (obind (ixA 256 1 a2 x5) fun x10 =>
 obindH (stA 1 h x10 (.bool true)) fun h11 =>
 obind (binN .add a4 (.int .i64 1)) fun x12 =>
 R 1 [a0, a2, x12] h11))
 (obind (ldA 256 h a2) fun x13 =>
 obindH (stA 256 h a2 x13) fun h14 =>
 obind (ldA 256 h14 a2) fun x15 =>
 .ok (.tup [x15, (.bool true)]) h14)
theorem e127_1 {a0 a2 a4 : IV} (e : t127_1 (CL T) (J127 T) a0 a2 a4 h = r) (hr : r ≠ .fail) : J127 T 1 [a0, a2, a4] h = r := fj_step (by kernel_rfl) e hr
def js128 : List Jn := [⟨[], [0, 1]⟩, ⟨[1, 1], [0]⟩, ⟨[0, 0, 1], [0, 1]⟩]
noncomputable def J128 (T : Tab) : Rec := fj Tryz.prog (CL T) Tryz.f128 js128
noncomputable def t128_0 (cf : CallF) (R : Rec) (a0 a1 : IV) (h : H) : CRes :=
 R 2 [a0, a1] h
theorem e128_0 {a0 a1 : IV} (e : t128_0 (CL T) (J128 T) a0 a1 h = r) (hr : r ≠ .fail) : J128 T 0 [a0, a1] h = r := fj_step (by kernel_rfl) e hr
noncomputable def t128_2 (cf : CallF) (R : Rec) (a0 a1 : IV) (h : H) : CRes :=
 obind (lenStr a0) fun x1 =>
 obind (binN .gtr x1 (.int .i64 0)) fun x2 =>
 condK x2
 (obind (ixStr a0 (.int .i64 0)) fun x3 =>
 callP (cf 140 [a1, x3] h) .pan fun x4 h5 =>
 obind (unI .not x4) fun x6 =>
 condK x6
 (R 1 [a0] h5)
 (obind (slcStr a0 (some (.int .i64 1)) none) fun x7 =>
 R 2 [x7, a1] h5))
 (R 1 [a0] h)
theorem e128_2 {a0 a1 : IV} (e : t128_2 (CL T) (J128 T) a0 a1 h = r) (hr : r ≠ .fail) : J128 T 2 [a0, a1] h = r := fj_step (by kernel_rfl) e hr
noncomputable def t128_1 (cf : CallF) (R : Rec) (a0 : IV) (h : H) : CRes :=
 .ok a0 h
theorem e128_1 {a0 : IV} (e : t128_1 (CL T) (J128 T) a0 h = r) (hr : r ≠ .fail) : J128 T 1 [a0] h = r := fj_step (by kernel_rfl) e hr
def js129 : List Jn := [⟨[], [0, 1]⟩, ⟨[1, 1], [0]⟩, ⟨[0, 0, 1], [0, 1]⟩]
noncomputable def J129 (T : Tab) : Rec := fj Tryz.prog (CL T) Tryz.f129 js129
noncomputable def t129_0 (cf : CallF) (R : Rec) (a0 a1 : IV) (h : H) : CRes :=
 R 2 [a0, a1] h
theorem e129_0 {a0 a1 : IV} (e : t129_0 (CL T) (J129 T) a0 a1 h = r) (hr : r ≠ .fail) : J129 T 0 [a0, a1] h = r := fj_step (by kernel_rfl) e hr
noncomputable def t129_2 (cf : CallF) (R : Rec) (a0 a1 : IV) (h : H) : CRes :=
 obind (lenStr a0) fun x1 =>
 obind (binN .gtr x1 (.int .i64 0)) fun x2 =>
 condK x2
 (obind (lenStr a0) fun x3 =>
 obind (binN .sub x3 (.int .i64 1)) fun x4 =>
 obind (ixStr a0 x4) fun x5 =>
 callP (cf 140 [a1, x5] h) .pan fun x6 h7 =>
 obind (unI .not x6) fun x8 =>
 condK x8
 (R 1 [a0] h7)
 (obind (lenStr a0) fun x9 =>
 obind (binN .sub x9 (.int .i64 1)) fun x10 =>
 obind (slcStr a0 none (some x10)) fun x11 =>
 R 2 [x11, a1] h7))
 (R 1 [a0] h)
theorem e129_2 {a0 a1 : IV} (e : t129_2 (CL T) (J129 T) a0 a1 h = r) (hr : r ≠ .fail) : J129 T 2 [a0, a1] h = r := fj_step (by kernel_rfl) e hr
noncomputable def t129_1 (cf : CallF) (R : Rec) (a0 : IV) (h : H) : CRes :=
 .ok a0 h
theorem e129_1 {a0 : IV} (e : t129_1 (CL T) (J129 T) a0 h = r) (hr : r ≠ .fail) : J129 T 1 [a0] h = r := fj_step (by kernel_rfl) e hr
def js132 : List Jn := [⟨[], [0, 1]⟩, ⟨[1, 1, 0, 1, 0, 1, 1], [0, 5]⟩, ⟨[1, 1, 1, 1], [0, 1]⟩, ⟨[0, 1, 0, 0, 1, 1, 0, 1, 0, 1, 1, 1], [0, 6, 8]⟩, ⟨[0, 1, 0, 1, 1, 1, 1], [1, 45]⟩]
noncomputable def J132 (T : Tab) : Rec := fj Tryz.prog (CL T) Tryz.f132 js132
noncomputable def t132_0 (cf : CallF) (R : Rec) (a0 a1 : IV) (h : H) : CRes :=
 obind (binS .eql a1 (.str ⟨0, 0⟩)) fun x1 =>
 condK x1
 (.ok (.int .i64 (-1)) h)
 (obind (lenStr a1) fun x2 =>
 obind (binN .eql x2 (.int .i64 1)) fun x3 =>
 condK x3
 (obind (ixStr a1 (.int .i64 0)) fun x4 =>
 obind (cvN .i32 x4) fun x5 =>
 obind (binN .geq x5 (.int .i32 128)) fun x6 =>
 condK x6
 (R 1 [a0, (.int .i32 65533)] h)
 (R 1 [a0, x5] h))
 (obind (lenStr a0) fun x7 =>
 callP (cf 145 [x7] h) .pan fun x8 h9 =>
 condK x8
 (callP (cf 127 [a1] h9) .pan fun x10 h11 =>
 obind (extractI x10 0) fun x12 =>
 obind (extractI x10 1) fun x13 =>
 obind2 (newI h11 z22) fun x14 h15 =>
 obindH (stA 256 h15 x14 x12) fun h16 =>
 condK x13
 (R 3 [a0, x14, (.int .i64 0)] h16)
 (R 2 [a0, a1] h16))
 (R 2 [a0, a1] h9)))
theorem e132_0 {a0 a1 : IV} (e : t132_0 (CL T) (J132 T) a0 a1 h = r) (hr : r ≠ .fail) : J132 T 0 [a0, a1] h = r := fj_step (by kernel_rfl) e hr
noncomputable def t132_1 (cf : CallF) (R : Rec) (a0 a5 : IV) (h : H) : CRes :=
 callP (cf 144 [a0, a5] h) .pan fun x17 h18 =>
 .ok x17 h18
theorem e132_1 {a0 a5 : IV} (e : t132_1 (CL T) (J132 T) a0 a5 h = r) (hr : r ≠ .fail) : J132 T 1 [a0, a5] h = r := fj_step (by kernel_rfl) e hr
noncomputable def t132_2 (cf : CallF) (R : Rec) (a0 a1 : IV) (h : H) : CRes :=
 obind2 (rngS h a0) fun x19 h20 =>
 R 4 [a1, x19] h20
theorem e132_2 {a0 a1 : IV} (e : t132_2 (CL T) (J132 T) a0 a1 h = r) (hr : r ≠ .fail) : J132 T 2 [a0, a1] h = r := fj_step (by kernel_rfl) e hr
noncomputable def t132_3 (cf : CallF) (R : Rec) (a0 a6 a8 : IV) (h : H) : CRes :=
 obind (lenStr a0) fun x21 =>
 obind (binN .lss a8 x21) fun x22 =>
 condK x22
 (obind (ixStr a0 a8) fun x23 =>
 callP (cf 140 [a6, x23] h) .pan fun x24 h25 =>
 condK x24
 (.ok a8 h25)
 (obind (binN .add a8 (.int .i64 1)) fun x26 =>
 R 3 [a0, a6, x26] h25))
 (.ok (.int .i64 (-1)) h)
theorem e132_3 {a0 a6 a8 : IV} (e : t132_3 (CL T) (J132 T) a0 a6 a8 h = r) (hr : r ≠ .fail) : J132 T 3 [a0, a6, a8] h = r := fj_step (by kernel_rfl) e hr
noncomputable def t132_4 (cf : CallF) (R : Rec) (a1 a45 : IV) (h : H) : CRes :=
 obind2 (nextI h a45 true) fun x27 h28 =>
 obind (extractI x27 0) fun x29 =>
 condK x29
 (obind (extractI x27 1) fun x30 =>
 obind (extractI x27 2) fun x31 =>
 callP (cf 144 [a1, x31] h28) .pan fun x32 h33 =>
 obind (binN .geq x32 (.int .i64 0)) fun x34 =>
 condK x34
 (.ok x30 h33)
 (R 4 [a1, a45] h33))
 (.ok (.int .i64 (-1)) h28)
theorem e132_4 {a1 a45 : IV} (e : t132_4 (CL T) (J132 T) a1 a45 h = r) (hr : r ≠ .fail) : J132 T 4 [a1, a45] h = r := fj_step (by kernel_rfl) e hr
def js138 : List Jn := [⟨[], [0, 1]⟩, ⟨[1, 1], [0, 1, 4]⟩]
noncomputable def J138 (T : Tab) : Rec := fj Tryz.prog (CL T) Tryz.f138 js138
noncomputable def t138_0 (cf : CallF) (R : Rec) (a0 a1 : IV) (h : H) : CRes :=
 obind2 (newI h z16) fun x1 h2 =>
 callP (cf 38 [a0] h2) .pan fun x3 h4 =>
 spanK x3 true h4 (fun k5 =>
 callP (cf 101 [a0] h4) .pan fun x8 h9 =>
 k5 x8 h9) fun x6 h7 =>
 obind (pickI x3 (some x6) (some (.bool false))) fun x10 =>
 spanK x10 true h7 (fun k11 =>
 obind (binN .gtr a1 (.int .i64 32)) fun x14 =>
 k11 x14 h7) fun x12 h13 =>
 obind (pickI x10 (some x12) (some (.bool false))) fun x15 =>
 condK x15
 (callP (cf 82 [a0, (.int .i64 41)] h13) .pan fun x16 h17 =>
 R 1 [a0, a1, x1] h17)
 (R 1 [a0, a1, x1] h13)
theorem e138_0 {a0 a1 : IV} (e : t138_0 (CL T) (J138 T) a0 a1 h = r) (hr : r ≠ .fail) : J138 T 0 [a0, a1] h = r := fj_step (by kernel_rfl) e hr
noncomputable def t138_1 (cf : CallF) (R : Rec) (a0 a1 a4 : IV) (h : H) : CRes :=
 callP (cf 121 [a0, a1] h) .pan fun x18 h19 =>
 obindH (stA 6 h19 a4 x18) fun h20 =>
 obind (ldA 6 h20 a4) fun x21 =>
 .ok x21 h20
theorem e138_1 {a0 a1 a4 : IV} (e : t138_1 (CL T) (J138 T) a0 a1 a4 h = r) (hr : r ≠ .fail) : J138 T 1 [a0, a1, a4] h = r := fj_step (by kernel_rfl) e hr
def js140 : List Jn := [⟨[], [0, 1]⟩]
noncomputable def J140 (T : Tab) : Rec := fj Tryz.prog (CL T) Tryz.f140 js140
noncomputable def t140_0 (cf : CallF) (R : Rec) (a0 a1 : IV) (h : H) : CRes :=
 obind (nilI a0) fun x1 =>
 obind (ixA 256 1 x1 a1) fun x2 =>
 obind (ld0 h x2) fun x3 =>
 .ok x3 h
theorem e140_0 {a0 a1 : IV} (e : t140_0 (CL T) (J140 T) a0 a1 h = r) (hr : r ≠ .fail) : J140 T 0 [a0, a1] h = r := fj_step (by kernel_rfl) e hr
def js145 : List Jn := [⟨[], [0]⟩]
noncomputable def J145 (T : Tab) : Rec := fj Tryz.prog (CL T) Tryz.f145 js145
noncomputable def t145_0 (cf : CallF) (R : Rec) (a0 : IV) (h : H) : CRes :=
 obind (binN .gtr a0 (.int .i64 8)) fun x1 =>
 .ok x1 h
theorem e145_0 {a0 : IV} (e : t145_0 (CL T) (J145 T) a0 h = r) (hr : r ≠ .fail) : J145 T 0 [a0] h = r := fj_step (by kernel_rfl) e hr
end Go.Proofs.YtimjkkcondljeaaGreatDoor
namespace Go.Proofs.YtimjkkcondljeaaGreatDoor
open Go I
theorem lv9 {cf : CallF} {a b : IV} {h h' : H} (e : cf 10 [.nilIface, a] h = .ok (.bool false) h') : LV Tryz.prog cf 9 [a, b] .ret h = some (.ret, h') := by
  rw [LV_iff]
  refine ⟨1, ?_⟩
  have hb : Tryz.f9.body.isSome = true := rfl
  simp only [leaveI, Tryz.func9]
  unfold Tryz.f9
  simp only [execD, runOpsD, wantI, opI, callI, evalAll, enterI, argTmps]
  simp only [Fr.put, ev, T.get_set]
  simp [T.get_set, e]
  simp [exec, ev, T.get_set, afterD]
noncomputable def L9 (cf : CallF) (l : List IV) (st : I.Mode) (h : H) : Option (I.Mode × H) :=
 match l with
 | [a, _] => (match st with
  | .ret => (match cf 10 [.nilIface, a] h with
   | .ok (.bool false) h' => some (.ret, h')
   | _ => none)
  | _ => none)
 | _ => none
theorem lle9 {T : Tab} {cf : CallF} (hc : leC cf (CL T)) (l : List IV) (st : I.Mode) (h : H) : leO (L9 cf l st h) (LV Tryz.prog (CL T) 9 l st h) := by
  intro z hz
  unfold L9 at hz
  split at hz
  · rename_i a b
    split at hz
    · split at hz
      · rename_i h' e
        injection hz with hz
        subst hz
        have := hc 10 [.nilIface, a] h (by rw [e]; simp)
        rw [e] at this
        exact lv9 this
      · cases hz
    · cases hz
  · cases hz
end Go.Proofs.YtimjkkcondljeaaGreatDoor
