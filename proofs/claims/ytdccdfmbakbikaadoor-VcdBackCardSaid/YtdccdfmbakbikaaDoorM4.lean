import Derived.Test.YtdccdfmbakbikaaDoorChecked
import Derived.Test.YtdccdfmbakbikaaDoorM3
import Derived.Shelf.LaysM
import Derived.Shelf.LaysC
set_option maxRecDepth 100000
set_option linter.unusedVariables false
namespace Go.Proofs.YtdccdfmbakbikaaDoor
open Go I
noncomputable abbrev CL (T : Tab) : CallF := call Tryd.prog T
theorem noNum : NoNum Tryd.prog := by
  intro f fn hf
  have h : (Tryd.prog.funcs.all fun fn => !(fn.name == "runtime.NumGoroutine")) = true := by kernel_rfl
  simpa using Array.all_eq_true_iff_forall_mem.1 h fn (Array.mem_of_getElem? hf)
variable {T : Tab} {h : H} {r : CRes}
def z0 : List IV := [.nilSlice, .nilSlice, .nilSlice, .nilSlice]
def z1 : List IV := [(.int .i64 0), (.int .i64 0), (.str ⟨0, 0⟩)]
def p2 : List (Nat × Nat) := [(0, 1), (1, 1), (2, 1), (3, 1)]
def z3 : List IV := [.nilSlice, .nilMap, .nilSlice, .nilSlice, .nilSlice, .nilSlice]
def p4 : List (Nat × Nat) := [(0, 1), (1, 1), (2, 4)]
def p5 : List (Nat × Nat) := [(0, 1), (1, 1), (2, 1)]
def z6 : List IV := [(.bool false), (.bool false), (.bool false), (.bool false), (.bool false), (.bool false), (.bool false), (.bool false), (.bool false), (.bool false), (.bool false), (.bool false), (.bool false), (.bool false), (.bool false), (.bool false), (.bool false), (.bool false), (.bool false), (.bool false), (.bool false), (.bool false), (.bool false), (.bool false), (.bool false), (.bool false), (.bool false), (.bool false), (.bool false), (.bool false), (.bool false), (.bool false), (.bool false), (.bool false), (.bool false), (.bool false), (.bool false), (.bool false), (.bool false), (.bool false), (.bool false), (.bool false), (.bool false), (.bool false), (.bool false), (.bool false), (.bool false), (.bool false), (.bool false), (.bool false), (.bool false), (.bool false), (.bool false), (.bool false), (.bool false), (.bool false), (.bool false), (.bool false), (.bool false), (.bool false), (.bool false), (.bool false), (.bool false), (.bool false), (.bool false), (.bool false), (.bool false), (.bool false), (.bool false), (.bool false), (.bool false), (.bool false), (.bool false), (.bool false), (.bool false), (.bool false), (.bool false), (.bool false), (.bool false), (.bool false), (.bool false), (.bool false), (.bool false), (.bool false), (.bool false), (.bool false), (.bool false), (.bool false), (.bool false), (.bool false), (.bool false), (.bool false), (.bool false), (.bool false), (.bool false), (.bool false), (.bool false), (.bool false), (.bool false), (.bool false), (.bool false), (.bool false), (.bool false), (.bool false), (.bool false), (.bool false), (.bool false), (.bool false), (.bool false), (.bool false), (.bool false), (.bool false), (.bool false), (.bool false), (.bool false), (.bool false), (.bool false), (.bool false), (.bool false), (.bool false), (.bool false), (.bool false), (.bool false), (.bool false), (.bool false), (.bool false), (.bool false), (.bool false), (.bool false), (.bool false), (.bool false), (.bool false), (.bool false), (.bool false), (.bool false), (.bool false), (.bool false), (.bool false), (.bool false), (.bool false), (.bool false), (.bool false), (.bool false), (.bool false), (.bool false), (.bool false), (.bool false), (.bool false), (.bool false), (.bool false), (.bool false), (.bool false), (.bool false), (.bool false), (.bool false), (.bool false), (.bool false), (.bool false), (.bool false), (.bool false), (.bool false), (.bool false), (.bool false), (.bool false), (.bool false), (.bool false), (.bool false), (.bool false), (.bool false), (.bool false), (.bool false), (.bool false), (.bool false), (.bool false), (.bool false), (.bool false), (.bool false), (.bool false), (.bool false), (.bool false), (.bool false), (.bool false), (.bool false), (.bool false), (.bool false), (.bool false), (.bool false), (.bool false), (.bool false), (.bool false), (.bool false), (.bool false), (.bool false), (.bool false), (.bool false), (.bool false), (.bool false), (.bool false), (.bool false), (.bool false), (.bool false), (.bool false), (.bool false), (.bool false), (.bool false), (.bool false), (.bool false), (.bool false), (.bool false), (.bool false), (.bool false), (.bool false), (.bool false), (.bool false), (.bool false), (.bool false), (.bool false), (.bool false), (.bool false), (.bool false), (.bool false), (.bool false), (.bool false), (.bool false), (.bool false), (.bool false), (.bool false), (.bool false), (.bool false), (.bool false), (.bool false), (.bool false), (.bool false), (.bool false), (.bool false), (.bool false), (.bool false), (.bool false), (.bool false), (.bool false), (.bool false), (.bool false), (.bool false), (.bool false), (.bool false), (.bool false), (.bool false), (.bool false), (.bool false), (.bool false), (.bool false), (.bool false), (.bool false), (.bool false), (.bool false), (.bool false)]
def z7 : List IV := [(.str ⟨0, 0⟩), (.str ⟨0, 0⟩), .nilIface]
def js3 : List Jn := [⟨[], [0, 1]⟩, ⟨[1, 1, 1], [1]⟩]
noncomputable def J3 (T : Tab) : Rec := fj Tryd.prog (CL T) Tryd.f3 js3
noncomputable def t3_0 (cf : CallF) (R : Rec) (a0 a1 : IV) (h : H) : CRes :=
 obind2 (newI h (IV.cells a0)) fun x1 h2 =>
 obind (ldA 4 h2 x1) fun x3 =>
 callP (cf 7 [x3] h2) .pan fun x4 h5 =>
 obind (extractI x4 0) fun x6 =>
 obind (extractI x4 1) fun x7 =>
 obind (binN .eql x7 (.int .i64 0)) fun x8 =>
 condK x8
 (callP (cf 8 [x6] h5) .pan fun x9 h10 =>
 obind (extractI x9 0) fun x11 =>
 obind (extractI x9 1) fun x12 =>
 obind2 (newI h10 z0) fun x13 h14 =>
 obindH (stA 4 h14 x13 x11) fun h15 =>
 obind (binN .neq x12 (.int .i64 0)) fun x16 =>
 spanK x16 false h15 (fun k17 =>
 obind (ldA 4 h15 x13) fun x20 =>
 obind (ldA 4 h15 x1) fun x21 =>
 callP (cf 9 [x20, x21, (.bool true)] h15) .pan fun x22 h23 =>
 obind (unI .not x22) fun x24 =>
 k17 x24 h23) fun x18 h19 =>
 obind (pickI x16 (some (.bool true)) (some x18)) fun x25 =>
 condK x25
 (.ok (.bool false) h19)
 (R 1 [a1] h19))
 (obind (binS .neq x6 (.str ⟨0, 0⟩)) fun x26 =>
 spanK x26 false h5 (fun k27 =>
 obind (ldA 4 h5 x1) fun x30 =>
 callP (cf 10 [x30] h5) .pan fun x31 h32 =>
 k27 x31 h32) fun x28 h29 =>
 spanK x28 true h29 (fun k33 =>
 obind (binN .eql x7 (.int .i64 1)) fun x36 =>
 k33 x36 h29) fun x34 h35 =>
 spanK x26 false h35 (fun k37 =>
 obind (pickI x28 (some x34) (some (.bool false))) fun x40 =>
 k37 x40 h35) fun x38 h39 =>
 spanK x38 true h39 (fun k41 =>
 obind (ldA 4 h39 x1) fun x44 =>
 callP (cf 11 [x44] h39) .pan fun x45 h46 =>
 obind (unI .not x45) fun x47 =>
 k41 x47 h46) fun x42 h43 =>
 spanK x26 false h43 (fun k48 =>
 obind (pickI x38 (some x42) (some (.bool false))) fun x51 =>
 k48 x51 h43) fun x49 h50 =>
 obind (pickI x26 (some (.bool true)) (some x49)) fun x52 =>
 condK x52
 (.ok (.bool false) h50)
 (R 1 [a1] h50))
theorem e3_0 {a0 a1 : IV} (e : t3_0 (CL T) (J3 T) a0 a1 h = r) (hr : r ≠ .fail) : J3 T 0 [a0, a1] h = r := fj_step (by kernel_rfl) e hr
noncomputable def t3_1 (cf : CallF) (R : Rec) (a1 : IV) (h : H) : CRes :=
 obind (lenStr a1) fun x53 =>
 obind (binN .gtr x53 (.int .i64 65536)) fun x54 =>
 condK x54
 (callP (cf 12 [] h) .pan fun x55 h56 =>
 .ok x55 h56)
 (callP (cf 8 [a1] h) .pan fun x57 h58 =>
 obind (extractI x57 0) fun x59 =>
 obind (extractI x57 1) fun x60 =>
 obind2 (newI h58 z0) fun x61 h62 =>
 obindH (stA 4 h62 x61 x59) fun h63 =>
 obind (binN .neq x60 (.int .i64 0)) fun x64 =>
 condK x64
 (obind (fadK 0 x61) fun x65 =>
 obind (ld0 h63 x65) fun x66 =>
 obind (lenS x66) fun x67 =>
 obind (fadK 3 x61) fun x68 =>
 obind (ld0 h63 x68) fun x69 =>
 obind (lenS x69) fun x70 =>
 obind (binN .add x67 x70) fun x71 =>
 obind (binN .eql x71 (.int .i64 0)) fun x72 =>
 spanK x72 true h63 (fun k73 =>
 callP (cf 12 [] h63) .pan fun x76 h77 =>
 k73 x76 h77) fun x74 h75 =>
 obind (pickI x72 (some x74) (some (.bool false))) fun x78 =>
 .ok x78 h75)
 (obind (ldA 4 h63 x61) fun x79 =>
 callP (cf 7 [x79] h63) .pan fun x80 h81 =>
 obind (extractI x80 0) fun x82 =>
 obind (extractI x80 1) fun x83 =>
 obind (binN .eql x83 (.int .i64 0)) fun x84 =>
 spanK x84 true h81 (fun k85 =>
 obind (binS .eql x82 a1) fun x88 =>
 k85 x88 h81) fun x86 h87 =>
 obind (pickI x84 (some x86) (some (.bool false))) fun x89 =>
 spanK x89 true h87 (fun k90 =>
 callP (cf 12 [] h87) .pan fun x93 h94 =>
 k90 x93 h94) fun x91 h92 =>
 obind (pickI x89 (some x91) (some (.bool false))) fun x95 =>
 .ok x95 h92))
theorem e3_1 {a1 : IV} (e : t3_1 (CL T) (J3 T) a1 h = r) (hr : r ≠ .fail) : J3 T 1 [a1] h = r := fj_step (by kernel_rfl) e hr
theorem c3 (hT : OvStep T) (ho : T.ov 3 = none) (hp : T.pol 3 = true) {a0 a1 : IV} (hg : Gd h) (e : t3_0 (CL T) (J3 T) a0 a1 h = r) (hr : r ≠ .fail) : CL T 3 [a0, a1] h = r := call_good ho Tryd.func3 rfl rfl rfl hp hg hT (e3_0 e hr) hr
def js4 : List Jn := [⟨[], [0, 1]⟩]
noncomputable def J4 (T : Tab) : Rec := fj Tryd.prog (CL T) Tryd.f4 js4
noncomputable def t4_0 (cf : CallF) (R : Rec) (a0 a1 : IV) (h : H) : CRes :=
 callP (cf 13 [a0] h) .pan fun x1 h2 =>
 obind (extractI x1 0) fun x3 =>
 obind (extractI x1 1) fun x4 =>
 callP (cf 13 [a1] h2) .pan fun x5 h6 =>
 obind (extractI x5 0) fun x7 =>
 obind (extractI x5 1) fun x8 =>
 obind (binN .lss a0 (.int .i64 0)) fun x9 =>
 spanK x9 false h6 (fun k10 =>
 obind (binN .geq a0 (.int .i64 4096)) fun x13 =>
 k10 x13 h6) fun x11 h12 =>
 obind (pickI x9 (some (.bool true)) (some x11)) fun x14 =>
 condK x14
 (obind (binS .eql x3 (.str ⟨0, 0⟩)) fun x15 =>
 spanK x15 true h12 (fun k16 =>
 obind (binN .eql x4 (.int .i64 1)) fun x19 =>
 k16 x19 h12) fun x17 h18 =>
 obind (pickI x15 (some x17) (some (.bool false))) fun x20 =>
 spanK x20 true h18 (fun k21 =>
 callP (cf 12 [] h18) .pan fun x24 h25 =>
 k21 x24 h25) fun x22 h23 =>
 obind (pickI x20 (some x22) (some (.bool false))) fun x26 =>
 .ok x26 h23)
 (callP (cf 14 [a0] h12) .pan fun x27 h28 =>
 obind (binS .neq x3 x27) fun x29 =>
 spanK x29 false h28 (fun k30 =>
 obind (binN .neq x4 (.int .i64 0)) fun x33 =>
 k30 x33 h28) fun x31 h32 =>
 obind (pickI x29 (some (.bool true)) (some x31)) fun x34 =>
 condK x34
 (.ok (.bool false) h32)
 (obind (binN .lss a1 (.int .i64 0)) fun x35 =>
 spanK x35 false h32 (fun k36 =>
 obind (binN .geq a1 (.int .i64 4096)) fun x39 =>
 k36 x39 h32) fun x37 h38 =>
 obind (pickI x35 (some (.bool true)) (some x37)) fun x40 =>
 condK x40
 (obind (binS .eql x7 (.str ⟨0, 0⟩)) fun x41 =>
 spanK x41 true h38 (fun k42 =>
 obind (binN .eql x8 (.int .i64 1)) fun x45 =>
 k42 x45 h38) fun x43 h44 =>
 obind (pickI x41 (some x43) (some (.bool false))) fun x46 =>
 spanK x46 true h44 (fun k47 =>
 callP (cf 12 [] h44) .pan fun x50 h51 =>
 k47 x50 h51) fun x48 h49 =>
 obind (pickI x46 (some x48) (some (.bool false))) fun x52 =>
 .ok x52 h49)
 (obind (binN .eql x8 (.int .i64 0)) fun x53 =>
 spanK x53 true h38 (fun k54 =>
 obind (binS .eql x3 x7) fun x57 =>
 obind (binN .eql a0 a1) fun x58 =>
 obind (eqB .eql x57 x58) fun x59 =>
 k54 x59 h38) fun x55 h56 =>
 obind (pickI x53 (some x55) (some (.bool false))) fun x60 =>
 spanK x60 true h56 (fun k61 =>
 callP (cf 12 [] h56) .pan fun x64 h65 =>
 k61 x64 h65) fun x62 h63 =>
 obind (pickI x60 (some x62) (some (.bool false))) fun x66 =>
 .ok x66 h63)))
theorem e4_0 {a0 a1 : IV} (e : t4_0 (CL T) (J4 T) a0 a1 h = r) (hr : r ≠ .fail) : J4 T 0 [a0, a1] h = r := fj_step (by kernel_rfl) e hr
theorem c4 (hT : OvStep T) (ho : T.ov 4 = none) (hp : T.pol 4 = true) {a0 a1 : IV} (hg : Gd h) (e : t4_0 (CL T) (J4 T) a0 a1 h = r) (hr : r ≠ .fail) : CL T 4 [a0, a1] h = r := call_good ho Tryd.func4 rfl rfl rfl hp hg hT (e4_0 e hr) hr
def js5 : List Jn := [⟨[], [0, 1]⟩, ⟨[1, 1, 1], [2, 5]⟩]
noncomputable def J5 (T : Tab) : Rec := fj Tryd.prog (CL T) Tryd.f5 js5
noncomputable def t5_0 (cf : CallF) (R : Rec) (a0 a1 : IV) (h : H) : CRes :=
 obind2 (newI h (IV.cells a0)) fun x1 h2 =>
 obind (fadK 3 x1) fun x3 =>
 obind (ld0 h2 x3) fun x4 =>
 obind (lenS x4) fun x5 =>
 obind (binN .gtr x5 (.int .i64 0)) fun x6 =>
 condK x6
 (obind (binN .and a1 (.int .i64 65535)) fun x7 =>
 obind (fadK 3 x1) fun x8 =>
 obind (ld0 h2 x8) fun x9 =>
 obind (lenS x9) fun x10 =>
 obind (binN .add x10 (.int .i64 1)) fun x11 =>
 obind (binN .rem x7 x11) fun x12 =>
 R 1 [x1, x12] h2)
 (R 1 [x1, (.int .i64 0)] h2)
theorem e5_0 {a0 a1 : IV} (e : t5_0 (CL T) (J5 T) a0 a1 h = r) (hr : r ≠ .fail) : J5 T 0 [a0, a1] h = r := fj_step (by kernel_rfl) e hr
theorem c5 (hT : OvStep T) (ho : T.ov 5 = none) (hp : T.pol 5 = true) {a0 a1 : IV} (hg : Gd h) (e : t5_0 (CL T) (J5 T) a0 a1 h = r) (hr : r ≠ .fail) : CL T 5 [a0, a1] h = r := call_good ho Tryd.func5 rfl rfl rfl hp hg hT (e5_0 e hr) hr
def js6 : List Jn := [⟨[], [0]⟩, ⟨[0, 1, 0, 1, 1, 1, 1, 1, 1, 1], [1, 3, 5, 6, 7, 8, 9]⟩, ⟨[1, 1, 0, 0, 1, 0, 1, 1, 1, 1, 1, 1, 1], [1, 3, 5, 6, 7, 8, 9]⟩, ⟨[1, 1, 0, 0, 1, 0, 0, 1, 0, 1, 1, 1, 1, 1, 1, 1], [1, 3, 5, 6, 8, 9]⟩, ⟨[0, 1, 0, 1, 0, 1, 0, 1, 0, 0, 1, 0, 0, 1, 0, 1, 1, 1, 1, 1, 1, 1], [1, 3, 5, 6, 7, 8, 9, 10, 11]⟩]
noncomputable def J6 (T : Tab) : Rec := fj Tryd.prog (CL T) Tryd.f6 js6
noncomputable def t6_0 (cf : CallF) (R : Rec) (a0 : IV) (h : H) : CRes :=
 obind2 (newI h (IV.cells a0)) fun x1 h2 =>
 obind (ldA 4 h2 x1) fun x3 =>
 callP (cf 7 [x3] h2) .pan fun x4 h5 =>
 obind (extractI x4 0) fun x6 =>
 obind (extractI x4 1) fun x7 =>
 obind (binN .neq x7 (.int .i64 0)) fun x8 =>
 condK x8
 (obind (binS .eql x6 (.str ⟨0, 0⟩)) fun x9 =>
 spanK x9 true h5 (fun k10 =>
 callP (cf 12 [] h5) .pan fun x13 h14 =>
 k10 x13 h14) fun x11 h12 =>
 obind (pickI x9 (some x11) (some (.bool false))) fun x15 =>
 .ok x15 h12)
 (R 1 [x1, x6, (.int .i64 0), (.int .i64 0), (.str ⟨0, 0⟩), (.int .i64 (-1)), (.int .i64 0)] h5)
theorem e6_0 {a0 : IV} (e : t6_0 (CL T) (J6 T) a0 h = r) (hr : r ≠ .fail) : J6 T 0 [a0] h = r := fj_step (by kernel_rfl) e hr
theorem c6 (hT : OvStep T) (ho : T.ov 6 = none) (hp : T.pol 6 = true) {a0 : IV} (hg : Gd h) (e : t6_0 (CL T) (J6 T) a0 h = r) (hr : r ≠ .fail) : CL T 6 [a0] h = r := call_good ho Tryd.func6 rfl rfl rfl hp hg hT (e6_0 e hr) hr
def js7 : List Jn := [⟨[], [0]⟩, ⟨[0, 1, 0, 1, 1, 1, 1], [1, 4, 16, 17, 18]⟩, ⟨[1, 1, 0, 0, 1, 1, 0, 0, 1, 0, 1, 1, 1, 1], [1, 4, 5, 6, 16, 17, 18]⟩, ⟨[0, 1, 0, 1, 1, 1, 1, 1, 1], [1, 4, 47, 48, 49]⟩, ⟨[0, 1, 0, 1, 1, 1, 1, 1, 1, 1, 1], [1, 4, 61, 62, 63]⟩, ⟨[1, 1, 0, 0, 1, 1, 0, 0, 1, 0, 1, 1, 1, 1, 1, 1, 1, 1], [1, 4, 10, 61, 62, 63]⟩, ⟨[1, 0, 1, 0, 0, 1, 1, 0, 0, 1, 0, 1, 1, 1, 1, 1, 1, 1, 1], [1, 4, 10, 61, 62, 63, 81]⟩]
noncomputable def J7 (T : Tab) : Rec := fj Tryd.prog (CL T) Tryd.f7 js7
noncomputable def t7_0 (cf : CallF) (R : Rec) (a0 : IV) (h : H) : CRes :=
 obind2 (newI h (IV.cells a0)) fun x1 h2 =>
 obind (ldA 4 h2 x1) fun x3 =>
 callP (cf 15 [x3] h2) .pan fun x4 h5 =>
 obind (binN .neq x4 (.int .i64 0)) fun x6 =>
 condK x6
 (.ok (.tup [(.str ⟨0, 0⟩), (.int .i64 1)]) h5)
 (obind2 (newB h5 [.nilPtr, .nilSlice] 46) fun x7 h8 =>
 callP (cf 16 [x7, (.str ⟨44, 372417928818112564871583596543448252004672529497768332514574081386684445445215142980140321110602442961956⟩)] h8) .pan fun x9 h10 =>
 obind (fadK 0 x1) fun x11 =>
 obind (ld0 h10 x11) fun x12 =>
 obind (lenS x12) fun x13 =>
 R 1 [x1, x7, x12, x13, (.int .i64 0)] h10)
theorem e7_0 {a0 : IV} (e : t7_0 (CL T) (J7 T) a0 h = r) (hr : r ≠ .fail) : J7 T 0 [a0] h = r := fj_step (by kernel_rfl) e hr
noncomputable def t7_1 (cf : CallF) (R : Rec) (a1 a4 a16 a17 a18 : IV) (h : H) : CRes :=
 obind (binN .lss a18 a17) fun x14 =>
 condK x14
 (obind (ixS 1 a16 a18) fun x15 =>
 obind (ld0 h x15) fun x16 =>
 obind (binS .eql x16 (.str ⟨1, 95⟩)) fun x17 =>
 condK x17
 (.ok (.tup [(.str ⟨0, 0⟩), (.int .i64 1)]) h)
 (obind (binS .eql x16 (.str ⟨0, 0⟩)) fun x18 =>
 condK x18
 (R 2 [a1, a4, a18, (.str ⟨1, 95⟩), a16, a17, a18] h)
 (R 2 [a1, a4, a18, x16, a16, a17, a18] h)))
 (callP (cf 16 [a4, (.str ⟨45, 95877086440312645158151348174744568952353856492712646089714385966300053302821846437583023914514791984559396⟩)] h) .pan fun x19 h20 =>
 obind (fadK 2 a1) fun x21 =>
 obind (ld0 h20 x21) fun x22 =>
 obind (lenS x22) fun x23 =>
 R 3 [a1, a4, x22, x23, (.int .i64 0)] h20)
theorem e7_1 {a1 a4 a16 a17 a18 : IV} (e : t7_1 (CL T) (J7 T) a1 a4 a16 a17 a18 h = r) (hr : r ≠ .fail) : J7 T 1 [a1, a4, a16, a17, a18] h = r := fj_step (by kernel_rfl) e hr
noncomputable def t7_2 (cf : CallF) (R : Rec) (a1 a4 a5 a6 a16 a17 a18 : IV) (h : H) : CRes :=
 obind (fadK 1 a1) fun x24 =>
 obind (ld0 h x24) fun x25 =>
 obind (ixS 1 x25 a5) fun x26 =>
 obind (ld0 h x26) fun x27 =>
 callP (cf 17 [x27] h) .pan fun x28 h29 =>
 obind (binS .add (.str ⟨10, 152987092854847431603748⟩) x28) fun x30 =>
 obind (binS .add x30 (.str ⟨1, 32⟩)) fun x31 =>
 callP (cf 18 [a5] h29) .pan fun x32 h33 =>
 obind (binS .add x31 x32) fun x34 =>
 obind (binS .add x34 (.str ⟨1, 32⟩)) fun x35 =>
 obind (binS .add x35 a6) fun x36 =>
 obind (binS .add x36 (.str ⟨6, 11426465129504⟩)) fun x37 =>
 callP (cf 16 [a4, x37] h33) .pan fun x38 h39 =>
 obind (binN .add a18 (.int .i64 1)) fun x40 =>
 R 1 [a1, a4, a16, a17, x40] h39
theorem e7_2 {a1 a4 a5 a6 a16 a17 a18 : IV} (e : t7_2 (CL T) (J7 T) a1 a4 a5 a6 a16 a17 a18 h = r) (hr : r ≠ .fail) : J7 T 2 [a1, a4, a5, a6, a16, a17, a18] h = r := fj_step (by kernel_rfl) e hr
noncomputable def t7_3 (cf : CallF) (R : Rec) (a1 a4 a47 a48 a49 : IV) (h : H) : CRes :=
 obind (binN .lss a49 a48) fun x41 =>
 condK x41
 (obind (ixS 1 a47 a49) fun x42 =>
 obind (ld0 h x42) fun x43 =>
 callP (cf 19 [x43, a49] h) .pan fun x44 h45 =>
 callP (cf 16 [a4, x44] h45) .pan fun x46 h47 =>
 obind (binN .add a49 (.int .i64 1)) fun x48 =>
 R 3 [a1, a4, a47, a48, x48] h47)
 (callP (cf 16 [a4, (.str ⟨5, 44634629412⟩)] h) .pan fun x49 h50 =>
 obind (fadK 3 a1) fun x51 =>
 obind (ld0 h50 x51) fun x52 =>
 obind (lenS x52) fun x53 =>
 R 4 [a1, a4, x52, x53, (.int .i64 0)] h50)
theorem e7_3 {a1 a4 a47 a48 a49 : IV} (e : t7_3 (CL T) (J7 T) a1 a4 a47 a48 a49 h = r) (hr : r ≠ .fail) : J7 T 3 [a1, a4, a47, a48, a49] h = r := fj_step (by kernel_rfl) e hr
noncomputable def t7_4 (cf : CallF) (R : Rec) (a1 a4 a61 a62 a63 : IV) (h : H) : CRes :=
 obind (binN .lss a63 a62) fun x54 =>
 condK x54
 (obind (ixS 3 a61 a63) fun x55 =>
 obind (ldA 3 h x55) fun x56 =>
 obind2 (newI h z1) fun x57 h58 =>
 obindH (stA 3 h58 x57 x56) fun h59 =>
 obind (binN .eql a63 (.int .i64 0)) fun x60 =>
 guardK x60 (R 6 [a1, a4, x57, a61, a62, a63, (.bool true)] h59)
 (obind (fadK 3 a1) fun x61 =>
 obind (ld0 h59 x61) fun x62 =>
 obind (binN .sub a63 (.int .i64 1)) fun x63 =>
 obind (ixS 3 x62 x63) fun x64 =>
 obind (fadK 0 x64) fun x65 =>
 obind (ld0 h59 x65) fun x66 =>
 obind (fadK 0 x57) fun x67 =>
 obind (ld0 h59 x67) fun x68 =>
 obind (binN .neq x66 x68) fun x69 =>
 R 6 [a1, a4, x57, a61, a62, a63, x69] h59)
 (CRes.fail))
 (callP (cf 20 [a4] h) .pan fun x70 h71 =>
 obind (binN .gtr x70 (.int .i64 1048576)) fun x72 =>
 condK x72
 (.ok (.tup [(.str ⟨0, 0⟩), (.int .i64 4)]) h71)
 (callP (cf 21 [a4] h71) .pan fun x73 h74 =>
 .ok (.tup [x73, (.int .i64 0)]) h74))
theorem e7_4 {a1 a4 a61 a62 a63 : IV} (e : t7_4 (CL T) (J7 T) a1 a4 a61 a62 a63 h = r) (hr : r ≠ .fail) : J7 T 4 [a1, a4, a61, a62, a63] h = r := fj_step (by kernel_rfl) e hr
noncomputable def t7_6 (cf : CallF) (R : Rec) (a1 a4 a10 a61 a62 a63 a81 : IV) (h : H) : CRes :=
 condK a81
 (obind (fadK 0 a10) fun x75 =>
 obind (ld0 h x75) fun x76 =>
 callP (cf 17 [x76] h) .pan fun x77 h78 =>
 obind (binS .add (.str ⟨1, 35⟩) x77) fun x79 =>
 obind (binS .add x79 (.str ⟨1, 10⟩)) fun x80 =>
 callP (cf 16 [a4, x80] h78) .pan fun x81 h82 =>
 R 5 [a1, a4, a10, a61, a62, a63] h82)
 (R 5 [a1, a4, a10, a61, a62, a63] h)
theorem e7_6 {a1 a4 a10 a61 a62 a63 a81 : IV} (e : t7_6 (CL T) (J7 T) a1 a4 a10 a61 a62 a63 a81 h = r) (hr : r ≠ .fail) : J7 T 6 [a1, a4, a10, a61, a62, a63, a81] h = r := fj_step (by kernel_rfl) e hr
noncomputable def t7_5 (cf : CallF) (R : Rec) (a1 a4 a10 a61 a62 a63 : IV) (h : H) : CRes :=
 obind (fadK 2 a10) fun x83 =>
 obind (ld0 h x83) fun x84 =>
 obind (fadK 1 a10) fun x85 =>
 obind (ld0 h x85) fun x86 =>
 callP (cf 19 [x84, x86] h) .pan fun x87 h88 =>
 callP (cf 16 [a4, x87] h88) .pan fun x89 h90 =>
 callP (cf 20 [a4] h90) .pan fun x91 h92 =>
 obind (binN .gtr x91 (.int .i64 1048576)) fun x93 =>
 condK x93
 (.ok (.tup [(.str ⟨0, 0⟩), (.int .i64 4)]) h92)
 (obind (binN .add a63 (.int .i64 1)) fun x94 =>
 R 4 [a1, a4, a61, a62, x94] h92)
theorem e7_5 {a1 a4 a10 a61 a62 a63 : IV} (e : t7_5 (CL T) (J7 T) a1 a4 a10 a61 a62 a63 h = r) (hr : r ≠ .fail) : J7 T 5 [a1, a4, a10, a61, a62, a63] h = r := fj_step (by kernel_rfl) e hr
theorem c7 (hT : OvStep T) (ho : T.ov 7 = none) (hp : T.pol 7 = true) {a0 : IV} (hg : Gd h) (e : t7_0 (CL T) (J7 T) a0 h = r) (hr : r ≠ .fail) : CL T 7 [a0] h = r := call_good ho Tryd.func7 rfl rfl rfl hp hg hT (e7_0 e hr) hr
def js8 : List Jn := [⟨[], [0]⟩, ⟨[0, 1, 0, 1, 1, 1, 1, 1], [0, 2, 3, 4, 30, 31]⟩, ⟨[0, 1, 0, 1, 1, 1, 1, 1, 1, 1, 1], [0, 2, 3, 4, 7, 8]⟩, ⟨[1, 1, 0, 0, 1, 0, 1, 1, 1, 1, 1, 1, 1, 1], [0, 2, 3, 4, 7]⟩]
noncomputable def J8 (T : Tab) : Rec := fj Tryd.prog (CL T) Tryd.f8 js8
noncomputable def J8d (T : Tab) (d0 d1 : IV) : Rec := fj1 Tryd.prog (CL T) Tryd.f8 js8 22 [d0, d1]
noncomputable def t8_0 (cf : CallF) (R : Rec) (a0 : IV) (h : H) : CRes :=
 obind2 (newI h z0) fun x1 h2 =>
 obind2 (newI h2 [(.int .i64 0)]) fun x3 h4 =>
 obind (lenStr a0) fun x5 =>
 obind (binN .gtr x5 (.int .i64 1048576)) fun x6 =>
 condK x6
 (obind (bldK z0 p2 []) fun x7 =>
 obindH (stA 4 h4 x1 x7) fun h8 =>
 obindH (stA 1 h8 x3 (.int .i64 4)) fun h9 =>
 obind (ldA 4 h9 x1) fun x10 =>
 obind (ld0 h9 x3) fun x11 =>
 .ok (.tup [x10, x11]) h9)
 (callP (cf 23 [a0, (.str ⟨1, 10⟩)] h4) (dfP (LV Tryd.prog cf 22 [x1, x3]) fun h12 =>
 obind (ldA 4 h12 x1) fun x13 =>
 obind (ld0 h12 x3) fun x14 =>
 .ok (.tup [x13, x14]) h12) fun x15 h16 =>
 mapK h16 fun x18 h17 =>
 obind (bldK z3 p4 [(0, x15), (1, x18)]) fun x19 =>
 obind2 (newI h17 (IV.cells x19)) fun x20 h21 =>
 callP (cf 24 [x20] h21) (dfP (LV Tryd.prog cf 22 [x1, x3]) fun h22 =>
 obind (ldA 4 h22 x1) fun x23 =>
 obind (ld0 h22 x3) fun x24 =>
 .ok (.tup [x23, x24]) h22) fun x25 h26 =>
 obind (nilI x20) fun x27 =>
 obind (fadK 2 x27) fun x28 =>
 obind (fadK 0 x28) fun x29 =>
 obind (ld0 h26 x29) fun x30 =>
 obind (lenS x30) fun x31 =>
 fj1 Tryd.prog cf Tryd.f8 js8 22 [x1, x3] 1 [a0, x1, x3, x20, x31, (.int .i64 0)] h26)
theorem e8_0 {a0 : IV} (e : t8_0 (CL T) (J8 T) a0 h = r) (hr : r ≠ .fail) : J8 T 0 [a0] h = r := fj_step (by kernel_rfl) e hr
noncomputable def t8_1d (cf : CallF) (R : Rec) (d0 d1 a0 a2 a3 a4 a30 a31 : IV) (h : H) : CRes :=
 obind (binN .lss a31 a30) fun x32 =>
 condK x32
 (callP (cf 26 [a4] h) (dfP (LV Tryd.prog cf 22 [d0, d1]) fun h33 =>
 obind (ldA 4 h33 a2) fun x34 =>
 obind (ld0 h33 a3) fun x35 =>
 .ok (.tup [x34, x35]) h33) fun x36 h37 =>
 callP (cf 25 [a4, x36] h37) (dfP (LV Tryd.prog cf 22 [d0, d1]) fun h38 =>
 obind (ldA 4 h38 a2) fun x39 =>
 obind (ld0 h38 a3) fun x40 =>
 .ok (.tup [x39, x40]) h38) fun x41 h42 =>
 obind (extractI x41 0) fun x43 =>
 obind (extractI x41 1) fun x44 =>
 obind (nilI a4) fun x45 =>
 obind (fadK 2 x45) fun x46 =>
 obind (fadK 2 x46) fun x47 =>
 obind (ld0 h42 x47) fun x48 =>
 obind2 (bslK false 1 [(.str ⟨0, 0⟩)] 1 [(0, x44)] h42) fun x49 h50 =>
 obind2 (appK 1 16 h50 x48 x49) fun x51 h52 =>
 obind (nilI a4) fun x53 =>
 obind (fadK 2 x53) fun x54 =>
 obind (fadK 2 x54) fun x55 =>
 obindH (stA 1 h52 x55 x51) fun h56 =>
 obind (binN .add a31 (.int .i64 1)) fun x57 =>
 R 1 [a0, a2, a3, a4, a30, x57] h56)
 (callP (cf 26 [a4] h) (dfP (LV Tryd.prog cf 22 [d0, d1]) fun h58 =>
 obind (ldA 4 h58 a2) fun x59 =>
 obind (ld0 h58 a3) fun x60 =>
 .ok (.tup [x59, x60]) h58) fun x61 h62 =>
 obind (binS .eql x61 (.str ⟨4, 1684956452⟩)) fun x63 =>
 callP (cf 27 [x63] h62) (dfP (LV Tryd.prog cf 22 [d0, d1]) fun h64 =>
 obind (ldA 4 h64 a2) fun x65 =>
 obind (ld0 h64 a3) fun x66 =>
 .ok (.tup [x65, x66]) h64) fun x67 h68 =>
 callP (cf 26 [a4] h68) (dfP (LV Tryd.prog cf 22 [d0, d1]) fun h69 =>
 obind (ldA 4 h69 a2) fun x70 =>
 obind (ld0 h69 a3) fun x71 =>
 .ok (.tup [x70, x71]) h69) fun x72 h73 =>
 R 2 [a0, a2, a3, a4, (.int .i64 (-1)), x72] h73)
theorem e8_1d {d0 d1 a0 a2 a3 a4 a30 a31 : IV} (e : t8_1d (CL T) (J8d T d0 d1) d0 d1 a0 a2 a3 a4 a30 a31 h = r) (hr : r ≠ .fail) : J8d T d0 d1 1 [a0, a2, a3, a4, a30, a31] h = r := fj1_step (by kernel_rfl) e hr
noncomputable def t8_2d (cf : CallF) (R : Rec) (d0 d1 a0 a2 a3 a4 a7 a8 : IV) (h : H) : CRes :=
 obind (binS .neq a8 (.str ⟨0, 0⟩)) fun x74 =>
 condK x74
 (obind (ixStr a8 (.int .i64 0)) fun x75 =>
 obind (binN .eql x75 (.int .u8 35)) fun x76 =>
 condK x76
 (obind (slcStr a8 (some (.int .i64 1)) none) fun x77 =>
 callP (cf 28 [x77] h) (dfP (LV Tryd.prog cf 22 [d0, d1]) fun h78 =>
 obind (ldA 4 h78 a2) fun x79 =>
 obind (ld0 h78 a3) fun x80 =>
 .ok (.tup [x79, x80]) h78) fun x81 h82 =>
 R 3 [a0, a2, a3, a4, x81] h82)
 (callP (cf 25 [a4, a8] h) (dfP (LV Tryd.prog cf 22 [d0, d1]) fun h83 =>
 obind (ldA 4 h83 a2) fun x84 =>
 obind (ld0 h83 a3) fun x85 =>
 .ok (.tup [x84, x85]) h83) fun x86 h87 =>
 obind (extractI x86 0) fun x88 =>
 obind (extractI x86 1) fun x89 =>
 obind (nilI a4) fun x90 =>
 obind (fadK 2 x90) fun x91 =>
 obind (fadK 3 x91) fun x92 =>
 obind (ld0 h87 x92) fun x93 =>
 obind (bldK z1 p5 [(0, a7), (1, x88), (2, x89)]) fun x94 =>
 obind2 (bslK false 3 z1 1 [(0, x94)] h87) fun x95 h96 =>
 obind2 (appK 3 32 h96 x93 x95) fun x97 h98 =>
 obind (nilI a4) fun x99 =>
 obind (fadK 2 x99) fun x100 =>
 obind (fadK 3 x100) fun x101 =>
 obindH (stA 1 h98 x101 x97) fun h102 =>
 R 3 [a0, a2, a3, a4, a7] h102))
 (obind (nilI a4) fun x103 =>
 obind (fadK 2 x103) fun x104 =>
 obind (ldA 4 h x104) fun x105 =>
 callP (cf 7 [x105] h) (dfP (LV Tryd.prog cf 22 [d0, d1]) fun h106 =>
 obind (ldA 4 h106 a2) fun x107 =>
 obind (ld0 h106 a3) fun x108 =>
 .ok (.tup [x107, x108]) h106) fun x109 h110 =>
 obind (extractI x109 0) fun x111 =>
 obind (extractI x109 1) fun x112 =>
 obind (binN .eql x112 (.int .i64 0)) fun x113 =>
 spanK x113 true h110 (fun k114 =>
 obind (binS .eql x111 a0) fun x117 =>
 k114 x117 h110) fun x115 h116 =>
 obind (pickI x113 (some x115) (some (.bool false))) fun x118 =>
 callP (cf 27 [x118] h116) (dfP (LV Tryd.prog cf 22 [d0, d1]) fun h119 =>
 obind (ldA 4 h119 a2) fun x120 =>
 obind (ld0 h119 a3) fun x121 =>
 .ok (.tup [x120, x121]) h119) fun x122 h123 =>
 obind (nilI a4) fun x124 =>
 obind (fadK 2 x124) fun x125 =>
 obind (ldA 4 h123 x125) fun x126 =>
 obindH (stA 4 h123 a2 x126) fun h127 =>
 obindH (stA 1 h127 a3 (.int .i64 0)) fun h128 =>
 dfK (LV Tryd.prog cf 22 [d0, d1] .ret h128) fun h129 =>
 obind (ldA 4 h129 a2) fun x130 =>
 obind (ld0 h129 a3) fun x131 =>
 .ok (.tup [x130, x131]) h129)
theorem e8_2d {d0 d1 a0 a2 a3 a4 a7 a8 : IV} (e : t8_2d (CL T) (J8d T d0 d1) d0 d1 a0 a2 a3 a4 a7 a8 h = r) (hr : r ≠ .fail) : J8d T d0 d1 2 [a0, a2, a3, a4, a7, a8] h = r := fj1_step (by kernel_rfl) e hr
noncomputable def t8_3d (cf : CallF) (R : Rec) (d0 d1 a0 a2 a3 a4 a7 : IV) (h : H) : CRes :=
 callP (cf 26 [a4] h) (dfP (LV Tryd.prog cf 22 [d0, d1]) fun h132 =>
 obind (ldA 4 h132 a2) fun x133 =>
 obind (ld0 h132 a3) fun x134 =>
 .ok (.tup [x133, x134]) h132) fun x135 h136 =>
 R 2 [a0, a2, a3, a4, a7, x135] h136
theorem e8_3d {d0 d1 a0 a2 a3 a4 a7 : IV} (e : t8_3d (CL T) (J8d T d0 d1) d0 d1 a0 a2 a3 a4 a7 h = r) (hr : r ≠ .fail) : J8d T d0 d1 3 [a0, a2, a3, a4, a7] h = r := fj1_step (by kernel_rfl) e hr
theorem c8 (hT : OvStep T) (ho : T.ov 8 = none) (hp : T.pol 8 = true) {a0 : IV} (hg : Gd h) (e : t8_0 (CL T) (J8 T) a0 h = r) (hr : r ≠ .fail) : CL T 8 [a0] h = r := call_good ho Tryd.func8 rfl rfl rfl hp hg hT (e8_0 e hr) hr
def js9 : List Jn := [⟨[], [0, 1, 2]⟩, ⟨[0, 1, 0, 1, 1], [2, 3, 4, 7]⟩, ⟨[0, 1, 0, 1, 1, 1], [2, 3, 4, 8]⟩, ⟨[0, 1, 0, 1, 1, 1, 1], [2, 3, 4, 9]⟩, ⟨[0, 1, 0, 1, 1, 1, 1, 1], [3, 4, 10]⟩]
noncomputable def J9 (T : Tab) : Rec := fj Tryd.prog (CL T) Tryd.f9 js9
noncomputable def t9_0 (cf : CallF) (R : Rec) (a0 a1 a2 : IV) (h : H) : CRes :=
 obind2 (newI h (IV.cells a0)) fun x1 h2 =>
 obind2 (newI h2 (IV.cells a1)) fun x3 h4 =>
 obind (fadK 2 x1) fun x5 =>
 obind (ld0 h4 x5) fun x6 =>
 obind (lenS x6) fun x7 =>
 obind (fadK 2 x3) fun x8 =>
 obind (ld0 h4 x8) fun x9 =>
 obind (lenS x9) fun x10 =>
 obind (binN .neq x7 x10) fun x11 =>
 spanK x11 false h4 (fun k12 =>
 obind (fadK 1 x1) fun x15 =>
 obind (ld0 h4 x15) fun x16 =>
 obind (lenS x16) fun x17 =>
 obind (fadK 1 x3) fun x18 =>
 obind (ld0 h4 x18) fun x19 =>
 obind (lenS x19) fun x20 =>
 obind (binN .neq x17 x20) fun x21 =>
 k12 x21 h4) fun x13 h14 =>
 obind (pickI x11 (some (.bool true)) (some x13)) fun x22 =>
 spanK x22 false h14 (fun k23 =>
 obind (fadK 3 x1) fun x26 =>
 obind (ld0 h14 x26) fun x27 =>
 obind (lenS x27) fun x28 =>
 obind (fadK 3 x3) fun x29 =>
 obind (ld0 h14 x29) fun x30 =>
 obind (lenS x30) fun x31 =>
 obind (binN .neq x28 x31) fun x32 =>
 k23 x32 h14) fun x24 h25 =>
 obind (pickI x22 (some (.bool true)) (some x24)) fun x33 =>
 spanK x33 false h25 (fun k34 =>
 k34 a2 h25) fun x35 h36 =>
 spanK x35 true h36 (fun k37 =>
 obind (fadK 0 x1) fun x40 =>
 obind (ld0 h36 x40) fun x41 =>
 obind (lenS x41) fun x42 =>
 obind (fadK 0 x3) fun x43 =>
 obind (ld0 h36 x43) fun x44 =>
 obind (lenS x44) fun x45 =>
 obind (binN .neq x42 x45) fun x46 =>
 k37 x46 h36) fun x38 h39 =>
 spanK x33 false h39 (fun k47 =>
 obind (pickI x35 (some x38) (some (.bool false))) fun x50 =>
 k47 x50 h39) fun x48 h49 =>
 obind (pickI x33 (some (.bool true)) (some x48)) fun x51 =>
 condK x51
 (.ok (.bool false) h49)
 (R 1 [a2, x1, x3, (.int .i64 0)] h49)
theorem e9_0 {a0 a1 a2 : IV} (e : t9_0 (CL T) (J9 T) a0 a1 a2 h = r) (hr : r ≠ .fail) : J9 T 0 [a0, a1, a2] h = r := fj_step (by kernel_rfl) e hr
noncomputable def t9_1 (cf : CallF) (R : Rec) (a2 a3 a4 a7 : IV) (h : H) : CRes :=
 obind (fadK 2 a3) fun x52 =>
 obind (ld0 h x52) fun x53 =>
 obind (lenS x53) fun x54 =>
 obind (binN .lss a7 x54) fun x55 =>
 condK x55
 (obind (fadK 2 a3) fun x56 =>
 obind (ld0 h x56) fun x57 =>
 obind (ixS 1 x57 a7) fun x58 =>
 obind (ld0 h x58) fun x59 =>
 obind (fadK 2 a4) fun x60 =>
 obind (ld0 h x60) fun x61 =>
 obind (ixS 1 x61 a7) fun x62 =>
 obind (ld0 h x62) fun x63 =>
 obind (binS .neq x59 x63) fun x64 =>
 condK x64
 (.ok (.bool false) h)
 (obind (binN .add a7 (.int .i64 1)) fun x65 =>
 R 1 [a2, a3, a4, x65] h))
 (R 2 [a2, a3, a4, (.int .i64 0)] h)
theorem e9_1 {a2 a3 a4 a7 : IV} (e : t9_1 (CL T) (J9 T) a2 a3 a4 a7 h = r) (hr : r ≠ .fail) : J9 T 1 [a2, a3, a4, a7] h = r := fj_step (by kernel_rfl) e hr
noncomputable def t9_2 (cf : CallF) (R : Rec) (a2 a3 a4 a8 : IV) (h : H) : CRes :=
 obind (fadK 1 a3) fun x66 =>
 obind (ld0 h x66) fun x67 =>
 obind (lenS x67) fun x68 =>
 obind (binN .lss a8 x68) fun x69 =>
 condK x69
 (obind (fadK 1 a3) fun x70 =>
 obind (ld0 h x70) fun x71 =>
 obind (ixS 1 x71 a8) fun x72 =>
 obind (ld0 h x72) fun x73 =>
 obind (fadK 1 a4) fun x74 =>
 obind (ld0 h x74) fun x75 =>
 obind (ixS 1 x75 a8) fun x76 =>
 obind (ld0 h x76) fun x77 =>
 obind (binN .neq x73 x77) fun x78 =>
 condK x78
 (.ok (.bool false) h)
 (obind (binN .add a8 (.int .i64 1)) fun x79 =>
 R 2 [a2, a3, a4, x79] h))
 (R 3 [a2, a3, a4, (.int .i64 0)] h)
theorem e9_2 {a2 a3 a4 a8 : IV} (e : t9_2 (CL T) (J9 T) a2 a3 a4 a8 h = r) (hr : r ≠ .fail) : J9 T 2 [a2, a3, a4, a8] h = r := fj_step (by kernel_rfl) e hr
noncomputable def t9_3 (cf : CallF) (R : Rec) (a2 a3 a4 a9 : IV) (h : H) : CRes :=
 obind (fadK 0 a3) fun x80 =>
 obind (ld0 h x80) fun x81 =>
 obind (lenS x81) fun x82 =>
 obind (binN .lss a9 x82) fun x83 =>
 spanK x83 true h (fun k84 =>
 k84 a2 h) fun x85 h86 =>
 obind (pickI x83 (some x85) (some (.bool false))) fun x87 =>
 condK x87
 (obind (fadK 0 a3) fun x88 =>
 obind (ld0 h86 x88) fun x89 =>
 obind (ixS 1 x89 a9) fun x90 =>
 obind (ld0 h86 x90) fun x91 =>
 obind (fadK 0 a4) fun x92 =>
 obind (ld0 h86 x92) fun x93 =>
 obind (ixS 1 x93 a9) fun x94 =>
 obind (ld0 h86 x94) fun x95 =>
 obind (binS .neq x91 x95) fun x96 =>
 condK x96
 (.ok (.bool false) h86)
 (obind (binN .add a9 (.int .i64 1)) fun x97 =>
 R 3 [a2, a3, a4, x97] h86))
 (R 4 [a3, a4, (.int .i64 0)] h86)
theorem e9_3 {a2 a3 a4 a9 : IV} (e : t9_3 (CL T) (J9 T) a2 a3 a4 a9 h = r) (hr : r ≠ .fail) : J9 T 3 [a2, a3, a4, a9] h = r := fj_step (by kernel_rfl) e hr
noncomputable def t9_4 (cf : CallF) (R : Rec) (a3 a4 a10 : IV) (h : H) : CRes :=
 obind (fadK 3 a3) fun x98 =>
 obind (ld0 h x98) fun x99 =>
 obind (lenS x99) fun x100 =>
 obind (binN .lss a10 x100) fun x101 =>
 condK x101
 (obind (fadK 3 a3) fun x102 =>
 obind (ld0 h x102) fun x103 =>
 obind (ixS 3 x103 a10) fun x104 =>
 obind (ldA 3 h x104) fun x105 =>
 obind (fadK 3 a4) fun x106 =>
 obind (ld0 h x106) fun x107 =>
 obind (ixS 3 x107 a10) fun x108 =>
 obind (ldA 3 h x108) fun x109 =>
 obind (binK Tryd.prog h .neq 41 false false x105 x109) fun x110 =>
 condK x110
 (.ok (.bool false) h)
 (obind (binN .add a10 (.int .i64 1)) fun x111 =>
 R 4 [a3, a4, x111] h))
 (.ok (.bool true) h)
theorem e9_4 {a3 a4 a10 : IV} (e : t9_4 (CL T) (J9 T) a3 a4 a10 h = r) (hr : r ≠ .fail) : J9 T 4 [a3, a4, a10] h = r := fj_step (by kernel_rfl) e hr
theorem c9 (hT : OvStep T) (ho : T.ov 9 = none) (hp : T.pol 9 = true) {a0 a1 a2 : IV} (hg : Gd h) (e : t9_0 (CL T) (J9 T) a0 a1 a2 h = r) (hr : r ≠ .fail) : CL T 9 [a0, a1, a2] h = r := call_good ho Tryd.func9 rfl rfl rfl hp hg hT (e9_0 e hr) hr
def js10 : List Jn := [⟨[], [0]⟩, ⟨[0, 1, 0, 1, 1, 1], [1, 3, 4]⟩, ⟨[1, 0, 0, 1, 0, 0, 1, 0, 1, 1, 1], [1, 3, 4, 61]⟩, ⟨[0, 1, 0, 1, 1, 1, 1, 1, 1], [1, 3, 5, 6]⟩, ⟨[1, 0, 1, 0, 0, 1, 0, 0, 1, 0, 1, 1, 1, 1, 1, 1], [1, 3, 5, 6, 7, 111]⟩, ⟨[1, 0, 1, 1, 0, 0, 1, 0, 0, 1, 0, 1, 1, 1, 1, 1, 1], [1, 3, 5, 6, 7, 137]⟩]
noncomputable def J10 (T : Tab) : Rec := fj Tryd.prog (CL T) Tryd.f10 js10
noncomputable def t10_0 (cf : CallF) (R : Rec) (a0 : IV) (h : H) : CRes :=
 obind2 (newI h (IV.cells a0)) fun x1 h2 =>
 obind (fadK 0 x1) fun x3 =>
 obind (ld0 h2 x3) fun x4 =>
 obind (lenS x4) fun x5 =>
 obind (binN .gtr x5 (.int .i64 4096)) fun x6 =>
 spanK x6 false h2 (fun k7 =>
 obind (fadK 1 x1) fun x10 =>
 obind (ld0 h2 x10) fun x11 =>
 obind (lenS x11) fun x12 =>
 obind (binN .neq x12 x5) fun x13 =>
 k7 x13 h2) fun x8 h9 =>
 obind (pickI x6 (some (.bool true)) (some x8)) fun x14 =>
 spanK x14 false h9 (fun k15 =>
 obind (fadK 2 x1) fun x18 =>
 obind (ld0 h9 x18) fun x19 =>
 obind (lenS x19) fun x20 =>
 obind (binN .neq x20 x5) fun x21 =>
 k15 x21 h9) fun x16 h17 =>
 obind (pickI x14 (some (.bool true)) (some x16)) fun x22 =>
 condK x22
 (.ok (.bool false) h17)
 (R 1 [x1, x5, (.int .i64 0)] h17)
theorem e10_0 {a0 : IV} (e : t10_0 (CL T) (J10 T) a0 h = r) (hr : r ≠ .fail) : J10 T 0 [a0] h = r := fj_step (by kernel_rfl) e hr
noncomputable def t10_1 (cf : CallF) (R : Rec) (a1 a3 a4 : IV) (h : H) : CRes :=
 obind (binN .lss a4 a3) fun x23 =>
 condK x23
 (obind (fadK 0 a1) fun x24 =>
 obind (ld0 h x24) fun x25 =>
 obind (ixS 1 x25 a4) fun x26 =>
 obind (ld0 h x26) fun x27 =>
 callP (cf 29 [x27] h) (fun v28 h29 =>
 .pan v28 h29) fun x30 h31 =>
 obind (unI .not x30) fun x32 =>
 guardK x32 (R 2 [a1, a3, a4, (.bool true)] h31)
 (obind (fadK 2 a1) fun x33 =>
 obind (ld0 h31 x33) fun x34 =>
 obind (ixS 1 x34 a4) fun x35 =>
 obind (ld0 h31 x35) fun x36 =>
 callP (cf 30 [x36] h31) (fun v37 h38 =>
 .pan v37 h38) fun x39 h40 =>
 obind (unI .not x39) fun x41 =>
 guardK x41 (R 2 [a1, a3, a4, (.bool true)] h40)
 (obind (fadK 2 a1) fun x42 =>
 obind (ld0 h40 x42) fun x43 =>
 obind (ixS 1 x43 a4) fun x44 =>
 obind (ld0 h40 x44) fun x45 =>
 obind (lenStr x45) fun x46 =>
 obind (fadK 1 a1) fun x47 =>
 obind (ld0 h40 x47) fun x48 =>
 obind (ixS 1 x48 a4) fun x49 =>
 obind (ld0 h40 x49) fun x50 =>
 obind (binN .neq x46 x50) fun x51 =>
 R 2 [a1, a3, a4, x51] h40)
 (CRes.fail))
 (CRes.fail))
 (obind (fadK 2 a1) fun x52 =>
 obind (ld0 h x52) fun x53 =>
 obind2 (appK 1 16 h .nilSlice x53) fun x54 h55 =>
 R 3 [a1, a3, x54, (.int .i64 0)] h55)
theorem e10_1 {a1 a3 a4 : IV} (e : t10_1 (CL T) (J10 T) a1 a3 a4 h = r) (hr : r ≠ .fail) : J10 T 1 [a1, a3, a4] h = r := fj_step (by kernel_rfl) e hr
noncomputable def t10_2 (cf : CallF) (R : Rec) (a1 a3 a4 a61 : IV) (h : H) : CRes :=
 condK a61
 (.ok (.bool false) h)
 (obind (binN .add a4 (.int .i64 1)) fun x56 =>
 R 1 [a1, a3, x56] h)
theorem e10_2 {a1 a3 a4 a61 : IV} (e : t10_2 (CL T) (J10 T) a1 a3 a4 a61 h = r) (hr : r ≠ .fail) : J10 T 2 [a1, a3, a4, a61] h = r := fj_step (by kernel_rfl) e hr
noncomputable def t10_3 (cf : CallF) (R : Rec) (a1 a3 a5 a6 : IV) (h : H) : CRes :=
 obind (fadK 3 a1) fun x57 =>
 obind (ld0 h x57) fun x58 =>
 obind (lenS x58) fun x59 =>
 obind (binN .lss a6 x59) fun x60 =>
 condK x60
 (obind (fadK 3 a1) fun x61 =>
 obind (ld0 h x61) fun x62 =>
 obind (ixS 3 x62 a6) fun x63 =>
 obind (ldA 3 h x63) fun x64 =>
 obind2 (newI h z1) fun x65 h66 =>
 obindH (stA 3 h66 x65 x64) fun h67 =>
 obind (fadK 1 x65) fun x68 =>
 obind (ld0 h67 x68) fun x69 =>
 obind (binN .lss x69 (.int .i64 0)) fun x70 =>
 guardK x70 (R 4 [a1, a3, a5, a6, x65, (.bool true)] h67)
 (obind (fadK 1 x65) fun x71 =>
 obind (ld0 h67 x71) fun x72 =>
 obind (binN .geq x72 a3) fun x73 =>
 guardK x73 (R 4 [a1, a3, a5, a6, x65, (.bool true)] h67)
 (obind (fadK 0 x65) fun x74 =>
 obind (ld0 h67 x74) fun x75 =>
 obind (binN .lss x75 (.int .i64 0)) fun x76 =>
 guardK x76 (R 4 [a1, a3, a5, a6, x65, (.bool true)] h67)
 (obind (fadK 0 x65) fun x77 =>
 obind (ld0 h67 x77) fun x78 =>
 obind (binN .gtr x78 (.int .i64 4611686018427387903)) fun x79 =>
 guardK x79 (R 4 [a1, a3, a5, a6, x65, (.bool true)] h67)
 (obind (binN .gtr a6 (.int .i64 0)) fun x80 =>
 guardK x80 (obind (fadK 3 a1) fun x81 =>
 obind (ld0 h67 x81) fun x82 =>
 obind (binN .sub a6 (.int .i64 1)) fun x83 =>
 obind (ixS 3 x82 x83) fun x84 =>
 obind (ldA 3 h67 x84) fun x85 =>
 obind (ldA 3 h67 x65) fun x86 =>
 callP (cf 31 [x85, x86] h67) (fun v87 h88 =>
 .pan v87 h88) fun x89 h90 =>
 obind (unI .not x89) fun x91 =>
 R 4 [a1, a3, a5, a6, x65, x91] h90)
 (R 4 [a1, a3, a5, a6, x65, (.bool false)] h67)
 (CRes.fail))
 (CRes.fail))
 (CRes.fail))
 (CRes.fail))
 (CRes.fail))
 (.ok (.bool true) h)
theorem e10_3 {a1 a3 a5 a6 : IV} (e : t10_3 (CL T) (J10 T) a1 a3 a5 a6 h = r) (hr : r ≠ .fail) : J10 T 3 [a1, a3, a5, a6] h = r := fj_step (by kernel_rfl) e hr
noncomputable def t10_4 (cf : CallF) (R : Rec) (a1 a3 a5 a6 a7 a111 : IV) (h : H) : CRes :=
 condK a111
 (.ok (.bool false) h)
 (obind (fadK 2 a7) fun x92 =>
 obind (ld0 h x92) fun x93 =>
 callP (cf 30 [x93] h) (fun v94 h95 =>
 .pan v94 h95) fun x96 h97 =>
 obind (unI .not x96) fun x98 =>
 guardK x98 (R 5 [a1, a3, a5, a6, a7, (.bool true)] h97)
 (obind (fadK 2 a7) fun x99 =>
 obind (ld0 h97 x99) fun x100 =>
 obind (lenStr x100) fun x101 =>
 obind (fadK 1 a1) fun x102 =>
 obind (ld0 h97 x102) fun x103 =>
 obind (fadK 1 a7) fun x104 =>
 obind (ld0 h97 x104) fun x105 =>
 obind (ixS 1 x103 x105) fun x106 =>
 obind (ld0 h97 x106) fun x107 =>
 obind (binN .neq x101 x107) fun x108 =>
 guardK x108 (R 5 [a1, a3, a5, a6, a7, (.bool true)] h97)
 (obind (fadK 2 a7) fun x109 =>
 obind (ld0 h97 x109) fun x110 =>
 obind (fadK 1 a7) fun x111 =>
 obind (ld0 h97 x111) fun x112 =>
 obind (ixS 1 a5 x112) fun x113 =>
 obind (ld0 h97 x113) fun x114 =>
 obind (binS .eql x110 x114) fun x115 =>
 R 5 [a1, a3, a5, a6, a7, x115] h97)
 (CRes.fail))
 (CRes.fail))
theorem e10_4 {a1 a3 a5 a6 a7 a111 : IV} (e : t10_4 (CL T) (J10 T) a1 a3 a5 a6 a7 a111 h = r) (hr : r ≠ .fail) : J10 T 4 [a1, a3, a5, a6, a7, a111] h = r := fj_step (by kernel_rfl) e hr
noncomputable def t10_5 (cf : CallF) (R : Rec) (a1 a3 a5 a6 a7 a137 : IV) (h : H) : CRes :=
 condK a137
 (.ok (.bool false) h)
 (obind (fadK 1 a7) fun x116 =>
 obind (ld0 h x116) fun x117 =>
 obind (fadK 2 a7) fun x118 =>
 obind (ld0 h x118) fun x119 =>
 obind (ixS 1 a5 x117) fun x120 =>
 obindH (stA 1 h x120 x119) fun h121 =>
 obind (binN .add a6 (.int .i64 1)) fun x122 =>
 R 3 [a1, a3, a5, x122] h121)
theorem e10_5 {a1 a3 a5 a6 a7 a137 : IV} (e : t10_5 (CL T) (J10 T) a1 a3 a5 a6 a7 a137 h = r) (hr : r ≠ .fail) : J10 T 5 [a1, a3, a5, a6, a7, a137] h = r := fj_step (by kernel_rfl) e hr
theorem c10 (hT : OvStep T) (ho : T.ov 10 = none) (hp : T.pol 10 = false) {a0 : IV} (hg : Gd h) (e : t10_0 (CL T) (J10 T) a0 (h.setPol false) = r) (hr : r ≠ .fail) : CL T 10 [a0] h = r.setPol true := call_drop ho Tryd.func10 rfl rfl rfl hp hg (e10_0 e hr) hr
def js11 : List Jn := [⟨[], [0]⟩, ⟨[0, 1, 0, 1], [1, 3]⟩]
noncomputable def J11 (T : Tab) : Rec := fj Tryd.prog (CL T) Tryd.f11 js11
noncomputable def t11_0 (cf : CallF) (R : Rec) (a0 : IV) (h : H) : CRes :=
 obind2 (newI h (IV.cells a0)) fun x1 h2 =>
 R 1 [x1, (.int .i64 0)] h2
theorem e11_0 {a0 : IV} (e : t11_0 (CL T) (J11 T) a0 h = r) (hr : r ≠ .fail) : J11 T 0 [a0] h = r := fj_step (by kernel_rfl) e hr
noncomputable def t11_1 (cf : CallF) (R : Rec) (a1 a3 : IV) (h : H) : CRes :=
 obind (fadK 0 a1) fun x3 =>
 obind (ld0 h x3) fun x4 =>
 obind (lenS x4) fun x5 =>
 obind (binN .lss a3 x5) fun x6 =>
 condK x6
 (obind (fadK 0 a1) fun x7 =>
 obind (ld0 h x7) fun x8 =>
 obind (ixS 1 x8 a3) fun x9 =>
 obind (ld0 h x9) fun x10 =>
 obind (binS .eql x10 (.str ⟨1, 95⟩)) fun x11 =>
 condK x11
 (.ok (.bool true) h)
 (obind (binN .add a3 (.int .i64 1)) fun x12 =>
 R 1 [a1, x12] h))
 (.ok (.bool false) h)
theorem e11_1 {a1 a3 : IV} (e : t11_1 (CL T) (J11 T) a1 a3 h = r) (hr : r ≠ .fail) : J11 T 1 [a1, a3] h = r := fj_step (by kernel_rfl) e hr
theorem c11 (hT : OvStep T) (ho : T.ov 11 = none) (hp : T.pol 11 = true) {a0 : IV} (hg : Gd h) (e : t11_0 (CL T) (J11 T) a0 h = r) (hr : r ≠ .fail) : CL T 11 [a0] h = r := call_good ho Tryd.func11 rfl rfl rfl hp hg hT (e11_0 e hr) hr
def js12 : List Jn := [⟨[], []⟩]
noncomputable def J12 (T : Tab) : Rec := fj Tryd.prog (CL T) Tryd.f12 js12
noncomputable def t12_0 (cf : CallF) (R : Rec) (h : H) : CRes :=
 obind2 (bslK false 1 [(.str ⟨0, 0⟩)] 1 [(0, (.str ⟨1, 97⟩))] h) fun x1 h2 =>
 obind2 (bslK true 1 [(.int .i64 0)] 1 [(0, (.int .i64 1))] h2) fun x3 h4 =>
 obind2 (bslK false 1 [(.str ⟨0, 0⟩)] 1 [(0, (.str ⟨1, 120⟩))] h4) fun x5 h6 =>
 obind (bldK z1 p5 [(0, (.int .i64 5)), (2, (.str ⟨1, 49⟩))]) fun x7 =>
 obind2 (bslK false 3 z1 1 [(0, x7)] h6) fun x8 h9 =>
 obind (bldK z0 p2 [(0, x1), (1, x3), (2, x5), (3, x8)]) fun x10 =>
 obind2 (newI h9 z0) fun x11 h12 =>
 obindH (stA 4 h12 x11 x10) fun h13 =>
 obind (ldA 4 h13 x11) fun x14 =>
 callP (cf 7 [x14] h13) .pan fun x15 h16 =>
 obind (extractI x15 0) fun x17 =>
 obind (extractI x15 1) fun x18 =>
 callP (cf 8 [x17] h16) .pan fun x19 h20 =>
 obind (extractI x19 0) fun x21 =>
 obind (extractI x19 1) fun x22 =>
 obind2 (newI h20 z0) fun x23 h24 =>
 obindH (stA 4 h24 x23 x21) fun h25 =>
 callP (cf 13 [(.int .i64 94)] h25) .pan fun x26 h27 =>
 obind (extractI x26 0) fun x28 =>
 obind (extractI x26 1) fun x29 =>
 obind (binN .eql x18 (.int .i64 0)) fun x30 =>
 spanK x30 true h27 (fun k31 =>
 obind (binN .eql x22 (.int .i64 0)) fun x34 =>
 k31 x34 h27) fun x32 h33 =>
 obind (pickI x30 (some x32) (some (.bool false))) fun x35 =>
 spanK x35 true h33 (fun k36 =>
 obind (ldA 4 h33 x23) fun x39 =>
 obind (ldA 4 h33 x11) fun x40 =>
 callP (cf 9 [x39, x40, (.bool true)] h33) .pan fun x41 h42 =>
 k36 x41 h42) fun x37 h38 =>
 obind (pickI x35 (some x37) (some (.bool false))) fun x43 =>
 spanK x43 true h38 (fun k44 =>
 obind (binS .eql x28 (.str ⟨2, 8481⟩)) fun x47 =>
 k44 x47 h38) fun x45 h46 =>
 obind (pickI x43 (some x45) (some (.bool false))) fun x48 =>
 spanK x48 true h46 (fun k49 =>
 obind (binN .eql x29 (.int .i64 0)) fun x52 =>
 k49 x52 h46) fun x50 h51 =>
 obind (pickI x48 (some x50) (some (.bool false))) fun x53 =>
 spanK x53 true h51 (fun k54 =>
 obind (lenStr x17) fun x57 =>
 obind (binN .gtr x57 (.int .i64 12)) fun x58 =>
 k54 x58 h51) fun x55 h56 =>
 obind (pickI x53 (some x55) (some (.bool false))) fun x59 =>
 spanK x59 true h56 (fun k60 =>
 obind (lenStr x17) fun x63 =>
 obind (binN .sub x63 (.int .i64 6)) fun x64 =>
 obind (slcStr x17 (some x64) none) fun x65 =>
 obind (binS .eql x65 (.str ⟨6, 11137672951075⟩)) fun x66 =>
 k60 x66 h56) fun x61 h62 =>
 obind (pickI x59 (some x61) (some (.bool false))) fun x67 =>
 .ok x67 h62
theorem e12_0 (e : t12_0 (CL T) (J12 T) h = r) (hr : r ≠ .fail) : J12 T 0 [] h = r := fj_step (by kernel_rfl) e hr
theorem c12 (hT : OvStep T) (ho : T.ov 12 = none) (hp : T.pol 12 = true) (hg : Gd h) (e : t12_0 (CL T) (J12 T) h = r) (hr : r ≠ .fail) : CL T 12 [] h = r := call_good ho Tryd.func12 rfl rfl rfl hp hg hT (e12_0 e hr) hr
def js13 : List Jn := [⟨[], [0]⟩]
noncomputable def J13 (T : Tab) : Rec := fj Tryd.prog (CL T) Tryd.f13 js13
noncomputable def t13_0 (cf : CallF) (R : Rec) (a0 : IV) (h : H) : CRes :=
 obind (binN .lss a0 (.int .i64 0)) fun x1 =>
 spanK x1 false h (fun k2 =>
 obind (binN .geq a0 (.int .i64 4096)) fun x5 =>
 k2 x5 h) fun x3 h4 =>
 obind (pickI x1 (some (.bool true)) (some x3)) fun x6 =>
 condK x6
 (.ok (.tup [(.str ⟨0, 0⟩), (.int .i64 1)]) h4)
 (callP (cf 18 [a0] h4) .pan fun x7 h8 =>
 .ok (.tup [x7, (.int .i64 0)]) h8)
theorem e13_0 {a0 : IV} (e : t13_0 (CL T) (J13 T) a0 h = r) (hr : r ≠ .fail) : J13 T 0 [a0] h = r := fj_step (by kernel_rfl) e hr
theorem c13 (hT : OvStep T) (ho : T.ov 13 = none) (hp : T.pol 13 = true) {a0 : IV} (hg : Gd h) (e : t13_0 (CL T) (J13 T) a0 h = r) (hr : r ≠ .fail) : CL T 13 [a0] h = r := call_good ho Tryd.func13 rfl rfl rfl hp hg hT (e13_0 e hr) hr
def js14 : List Jn := [⟨[], [0]⟩, ⟨[0, 0, 1, 1], [0, 3]⟩]
noncomputable def J14 (T : Tab) : Rec := fj Tryd.prog (CL T) Tryd.f14 js14
noncomputable def t14_0 (cf : CallF) (R : Rec) (a0 : IV) (h : H) : CRes :=
 R 1 [a0, .nilSlice] h
theorem e14_0 {a0 : IV} (e : t14_0 (CL T) (J14 T) a0 h = r) (hr : r ≠ .fail) : J14 T 0 [a0] h = r := fj_step (by kernel_rfl) e hr
noncomputable def t14_1 (cf : CallF) (R : Rec) (a0 a3 : IV) (h : H) : CRes :=
 obind (binN .geq a0 (.int .i64 0)) fun x1 =>
 condK x1
 (obind (binN .rem a0 (.int .i64 94)) fun x2 =>
 obind (binN .add (.int .i64 33) x2) fun x3 =>
 obind (cvN .u8 x3) fun x4 =>
 obind2 (bslK true 1 [(.int .u8 0)] 1 [(0, x4)] h) fun x5 h6 =>
 obind2 (appB 5 1 1 h6 a3 x5) fun x7 h8 =>
 obind (binN .quo a0 (.int .i64 94)) fun x9 =>
 obind (binN .sub x9 (.int .i64 1)) fun x10 =>
 R 1 [x10, x7] h8)
 (obind (cvS h a3) fun x11 =>
 .ok x11 h)
theorem e14_1 {a0 a3 : IV} (e : t14_1 (CL T) (J14 T) a0 a3 h = r) (hr : r ≠ .fail) : J14 T 1 [a0, a3] h = r := fj_step (by kernel_rfl) e hr
theorem c14 (hT : OvStep T) (ho : T.ov 14 = none) (hp : T.pol 14 = true) {a0 : IV} (hg : Gd h) (e : t14_0 (CL T) (J14 T) a0 h = r) (hr : r ≠ .fail) : CL T 14 [a0] h = r := call_good ho Tryd.func14 rfl rfl rfl hp hg hT (e14_0 e hr) hr
def js15 : List Jn := [⟨[], [0]⟩, ⟨[0, 1, 0, 1, 1, 1], [1, 3, 28, 29]⟩, ⟨[1, 1, 1, 0, 0, 1, 1, 0, 0, 1, 0, 1, 1, 1], [1, 3, 28, 29, 70]⟩, ⟨[0, 1, 0, 1, 1, 1, 1, 1], [1, 3, 6, 76, 77, 78]⟩, ⟨[1, 0, 1, 0, 0, 1, 1, 0, 0, 1, 0, 1, 1, 1, 1, 1], [1, 3, 6, 8, 76, 77, 78, 116]⟩, ⟨[1, 0, 1, 1, 0, 0, 1, 1, 0, 0, 1, 0, 1, 1, 1, 1, 1], [1, 3, 6, 8, 76, 77, 78, 142]⟩]
noncomputable def J15 (T : Tab) : Rec := fj Tryd.prog (CL T) Tryd.f15 js15
noncomputable def t15_0 (cf : CallF) (R : Rec) (a0 : IV) (h : H) : CRes :=
 obind2 (newI h (IV.cells a0)) fun x1 h2 =>
 obind (fadK 0 x1) fun x3 =>
 obind (ld0 h2 x3) fun x4 =>
 obind (lenS x4) fun x5 =>
 obind (binN .gtr x5 (.int .i64 4096)) fun x6 =>
 spanK x6 false h2 (fun k7 =>
 obind (fadK 1 x1) fun x10 =>
 obind (ld0 h2 x10) fun x11 =>
 obind (lenS x11) fun x12 =>
 obind (binN .neq x12 x5) fun x13 =>
 k7 x13 h2) fun x8 h9 =>
 obind (pickI x6 (some (.bool true)) (some x8)) fun x14 =>
 spanK x14 false h9 (fun k15 =>
 obind (fadK 2 x1) fun x18 =>
 obind (ld0 h9 x18) fun x19 =>
 obind (lenS x19) fun x20 =>
 obind (binN .neq x20 x5) fun x21 =>
 k15 x21 h9) fun x16 h17 =>
 obind (pickI x14 (some (.bool true)) (some x16)) fun x22 =>
 condK x22
 (.ok (.int .i64 1) h17)
 (R 1 [x1, x5, x5, (.int .i64 0)] h17)
theorem e15_0 {a0 : IV} (e : t15_0 (CL T) (J15 T) a0 h = r) (hr : r ≠ .fail) : J15 T 0 [a0] h = r := fj_step (by kernel_rfl) e hr
noncomputable def t15_1 (cf : CallF) (R : Rec) (a1 a3 a28 a29 : IV) (h : H) : CRes :=
 obind (binN .lss a29 a28) fun x23 =>
 condK x23
 (obind (fadK 0 a1) fun x24 =>
 obind (ld0 h x24) fun x25 =>
 obind (ixS 1 x25 a29) fun x26 =>
 obind (ld0 h x26) fun x27 =>
 obind (lenStr x27) fun x28 =>
 obind (binN .gtr x28 (.int .i64 256)) fun x29 =>
 guardK x29 (R 2 [a1, a3, a28, a29, (.bool true)] h)
 (obind (fadK 0 a1) fun x30 =>
 obind (ld0 h x30) fun x31 =>
 obind (ixS 1 x31 a29) fun x32 =>
 obind (ld0 h x32) fun x33 =>
 callP (cf 33 [x33, (.func 32 [])] h) (fun v34 h35 =>
 .pan v34 h35) fun x36 h37 =>
 guardK x36 (R 2 [a1, a3, a28, a29, (.bool true)] h37)
 (obind (fadK 2 a1) fun x38 =>
 obind (ld0 h37 x38) fun x39 =>
 obind (ixS 1 x39 a29) fun x40 =>
 obind (ld0 h37 x40) fun x41 =>
 callP (cf 34 [x41] h37) (fun v42 h43 =>
 .pan v42 h43) fun x44 h45 =>
 obind (binN .neq x44 (.int .i64 0)) fun x46 =>
 guardK x46 (R 2 [a1, a3, a28, a29, (.bool true)] h45)
 (obind (fadK 2 a1) fun x47 =>
 obind (ld0 h45 x47) fun x48 =>
 obind (ixS 1 x48 a29) fun x49 =>
 obind (ld0 h45 x49) fun x50 =>
 obind (lenStr x50) fun x51 =>
 obind (fadK 1 a1) fun x52 =>
 obind (ld0 h45 x52) fun x53 =>
 obind (ixS 1 x53 a29) fun x54 =>
 obind (ld0 h45 x54) fun x55 =>
 obind (binN .neq x51 x55) fun x56 =>
 R 2 [a1, a3, a28, a29, x56] h45)
 (CRes.fail))
 (CRes.fail))
 (CRes.fail))
 (obind (fadK 2 a1) fun x57 =>
 obind (ld0 h x57) fun x58 =>
 callP (cf 35 [x58] h) .pan fun x59 h60 =>
 obind (fadK 3 a1) fun x61 =>
 obind (ld0 h60 x61) fun x62 =>
 obind (lenS x62) fun x63 =>
 R 3 [a1, a3, x59, x62, x63, (.int .i64 0)] h60)
theorem e15_1 {a1 a3 a28 a29 : IV} (e : t15_1 (CL T) (J15 T) a1 a3 a28 a29 h = r) (hr : r ≠ .fail) : J15 T 1 [a1, a3, a28, a29] h = r := fj_step (by kernel_rfl) e hr
noncomputable def t15_2 (cf : CallF) (R : Rec) (a1 a3 a28 a29 a70 : IV) (h : H) : CRes :=
 condK a70
 (.ok (.int .i64 1) h)
 (obind (binN .add a29 (.int .i64 1)) fun x64 =>
 R 1 [a1, a3, a28, x64] h)
theorem e15_2 {a1 a3 a28 a29 a70 : IV} (e : t15_2 (CL T) (J15 T) a1 a3 a28 a29 a70 h = r) (hr : r ≠ .fail) : J15 T 2 [a1, a3, a28, a29, a70] h = r := fj_step (by kernel_rfl) e hr
noncomputable def t15_3 (cf : CallF) (R : Rec) (a1 a3 a6 a76 a77 a78 : IV) (h : H) : CRes :=
 obind (binN .lss a78 a77) fun x65 =>
 condK x65
 (obind (ixS 3 a76 a78) fun x66 =>
 obind (ldA 3 h x66) fun x67 =>
 obind2 (newI h z1) fun x68 h69 =>
 obindH (stA 3 h69 x68 x67) fun h70 =>
 obind (fadK 1 x68) fun x71 =>
 obind (ld0 h70 x71) fun x72 =>
 obind (binN .lss x72 (.int .i64 0)) fun x73 =>
 guardK x73 (R 4 [a1, a3, a6, x68, a76, a77, a78, (.bool true)] h70)
 (obind (fadK 1 x68) fun x74 =>
 obind (ld0 h70 x74) fun x75 =>
 obind (binN .geq x75 a3) fun x76 =>
 guardK x76 (R 4 [a1, a3, a6, x68, a76, a77, a78, (.bool true)] h70)
 (obind (fadK 0 x68) fun x77 =>
 obind (ld0 h70 x77) fun x78 =>
 obind (binN .lss x78 (.int .i64 0)) fun x79 =>
 guardK x79 (R 4 [a1, a3, a6, x68, a76, a77, a78, (.bool true)] h70)
 (obind (fadK 0 x68) fun x80 =>
 obind (ld0 h70 x80) fun x81 =>
 obind (binN .gtr x81 (.int .i64 4611686018427387903)) fun x82 =>
 guardK x82 (R 4 [a1, a3, a6, x68, a76, a77, a78, (.bool true)] h70)
 (obind (binN .gtr a78 (.int .i64 0)) fun x83 =>
 guardK x83 (obind (fadK 3 a1) fun x84 =>
 obind (ld0 h70 x84) fun x85 =>
 obind (binN .sub a78 (.int .i64 1)) fun x86 =>
 obind (ixS 3 x85 x86) fun x87 =>
 obind (ldA 3 h70 x87) fun x88 =>
 obind (ldA 3 h70 x68) fun x89 =>
 callP (cf 36 [x88, x89] h70) (fun v90 h91 =>
 .pan v90 h91) fun x92 h93 =>
 obind (binN .geq x92 (.int .i64 0)) fun x94 =>
 R 4 [a1, a3, a6, x68, a76, a77, a78, x94] h93)
 (R 4 [a1, a3, a6, x68, a76, a77, a78, (.bool false)] h70)
 (CRes.fail))
 (CRes.fail))
 (CRes.fail))
 (CRes.fail))
 (CRes.fail))
 (.ok (.int .i64 0) h)
theorem e15_3 {a1 a3 a6 a76 a77 a78 : IV} (e : t15_3 (CL T) (J15 T) a1 a3 a6 a76 a77 a78 h = r) (hr : r ≠ .fail) : J15 T 3 [a1, a3, a6, a76, a77, a78] h = r := fj_step (by kernel_rfl) e hr
noncomputable def t15_4 (cf : CallF) (R : Rec) (a1 a3 a6 a8 a76 a77 a78 a116 : IV) (h : H) : CRes :=
 condK a116
 (.ok (.int .i64 1) h)
 (obind (fadK 2 a8) fun x95 =>
 obind (ld0 h x95) fun x96 =>
 callP (cf 34 [x96] h) (fun v97 h98 =>
 .pan v97 h98) fun x99 h100 =>
 obind (binN .neq x99 (.int .i64 0)) fun x101 =>
 guardK x101 (R 5 [a1, a3, a6, a8, a76, a77, a78, (.bool true)] h100)
 (obind (fadK 2 a8) fun x102 =>
 obind (ld0 h100 x102) fun x103 =>
 obind (lenStr x103) fun x104 =>
 obind (fadK 1 a1) fun x105 =>
 obind (ld0 h100 x105) fun x106 =>
 obind (fadK 1 a8) fun x107 =>
 obind (ld0 h100 x107) fun x108 =>
 obind (ixS 1 x106 x108) fun x109 =>
 obind (ld0 h100 x109) fun x110 =>
 obind (binN .neq x104 x110) fun x111 =>
 guardK x111 (R 5 [a1, a3, a6, a8, a76, a77, a78, (.bool true)] h100)
 (obind (fadK 2 a8) fun x112 =>
 obind (ld0 h100 x112) fun x113 =>
 obind (fadK 1 a8) fun x114 =>
 obind (ld0 h100 x114) fun x115 =>
 obind (ixS 1 a6 x115) fun x116 =>
 obind (ld0 h100 x116) fun x117 =>
 obind (binS .eql x113 x117) fun x118 =>
 R 5 [a1, a3, a6, a8, a76, a77, a78, x118] h100)
 (CRes.fail))
 (CRes.fail))
theorem e15_4 {a1 a3 a6 a8 a76 a77 a78 a116 : IV} (e : t15_4 (CL T) (J15 T) a1 a3 a6 a8 a76 a77 a78 a116 h = r) (hr : r ≠ .fail) : J15 T 4 [a1, a3, a6, a8, a76, a77, a78, a116] h = r := fj_step (by kernel_rfl) e hr
noncomputable def t15_5 (cf : CallF) (R : Rec) (a1 a3 a6 a8 a76 a77 a78 a142 : IV) (h : H) : CRes :=
 condK a142
 (.ok (.int .i64 1) h)
 (obind (fadK 1 a8) fun x119 =>
 obind (ld0 h x119) fun x120 =>
 obind (fadK 2 a8) fun x121 =>
 obind (ld0 h x121) fun x122 =>
 obind (ixS 1 a6 x120) fun x123 =>
 obindH (stA 1 h x123 x122) fun h124 =>
 obind (binN .add a78 (.int .i64 1)) fun x125 =>
 R 3 [a1, a3, a6, a76, a77, x125] h124)
theorem e15_5 {a1 a3 a6 a8 a76 a77 a78 a142 : IV} (e : t15_5 (CL T) (J15 T) a1 a3 a6 a8 a76 a77 a78 a142 h = r) (hr : r ≠ .fail) : J15 T 5 [a1, a3, a6, a8, a76, a77, a78, a142] h = r := fj_step (by kernel_rfl) e hr
theorem c15 (hT : OvStep T) (ho : T.ov 15 = none) (hp : T.pol 15 = true) {a0 : IV} (hg : Gd h) (e : t15_0 (CL T) (J15 T) a0 h = r) (hr : r ≠ .fail) : CL T 15 [a0] h = r := call_good ho Tryd.func15 rfl rfl rfl hp hg hT (e15_0 e hr) hr
def js16 : List Jn := [⟨[], [0, 1]⟩]
noncomputable def J16 (T : Tab) : Rec := fj Tryd.prog (CL T) Tryd.f16 js16
noncomputable def t16_0 (cf : CallF) (R : Rec) (a0 a1 : IV) (h : H) : CRes :=
 callP (cf 37 [a0] h) .pan fun x1 h2 =>
 obind (nilI a0) fun x3 =>
 obind (fadK 1 x3) fun x4 =>
 obind (ld0 h2 x4) fun x5 =>
 obind2 (appB 5 1 1 h2 x5 a1) fun x6 h7 =>
 obind (nilI a0) fun x8 =>
 obind (fadK 1 x8) fun x9 =>
 obindH (stA 1 h7 x9 x6) fun h10 =>
 obind (lenStr a1) fun x11 =>
 .ok (.tup [x11, .nilIface]) h10
theorem e16_0 {a0 a1 : IV} (e : t16_0 (CL T) (J16 T) a0 a1 h = r) (hr : r ≠ .fail) : J16 T 0 [a0, a1] h = r := fj_step (by kernel_rfl) e hr
theorem c16 (hT : OvStep T) (ho : T.ov 16 = none) (hp : T.pol 16 = true) {a0 a1 : IV} (hg : Gd h) (e : t16_0 (CL T) (J16 T) a0 a1 h = r) (hr : r ≠ .fail) : CL T 16 [a0, a1] h = r := call_good ho Tryd.func16 rfl rfl rfl hp hg hT (e16_0 e hr) hr
def js18 : List Jn := [⟨[], [0]⟩, ⟨[0, 0, 1, 1], [0, 3]⟩]
noncomputable def J18 (T : Tab) : Rec := fj Tryd.prog (CL T) Tryd.f18 js18
noncomputable def t18_0 (cf : CallF) (R : Rec) (a0 : IV) (h : H) : CRes :=
 R 1 [a0, .nilSlice] h
theorem e18_0 {a0 : IV} (e : t18_0 (CL T) (J18 T) a0 h = r) (hr : r ≠ .fail) : J18 T 0 [a0] h = r := fj_step (by kernel_rfl) e hr
noncomputable def t18_1 (cf : CallF) (R : Rec) (a0 a3 : IV) (h : H) : CRes :=
 obind (binN .geq a0 (.int .i64 0)) fun x1 =>
 condK x1
 (obind (binN .rem a0 (.int .i64 94)) fun x2 =>
 obind (binN .add (.int .i64 33) x2) fun x3 =>
 obind (cvN .u8 x3) fun x4 =>
 obind2 (bslK true 1 [(.int .u8 0)] 1 [(0, x4)] h) fun x5 h6 =>
 obind2 (appB 5 1 1 h6 a3 x5) fun x7 h8 =>
 obind (binN .quo a0 (.int .i64 94)) fun x9 =>
 obind (binN .sub x9 (.int .i64 1)) fun x10 =>
 R 1 [x10, x7] h8)
 (obind (cvS h a3) fun x11 =>
 .ok x11 h)
theorem e18_1 {a0 a3 : IV} (e : t18_1 (CL T) (J18 T) a0 a3 h = r) (hr : r ≠ .fail) : J18 T 1 [a0, a3] h = r := fj_step (by kernel_rfl) e hr
theorem c18 (hT : OvStep T) (ho : T.ov 18 = none) (hp : T.pol 18 = true) {a0 : IV} (hg : Gd h) (e : t18_0 (CL T) (J18 T) a0 h = r) (hr : r ≠ .fail) : CL T 18 [a0] h = r := call_good ho Tryd.func18 rfl rfl rfl hp hg hT (e18_0 e hr) hr
def js19 : List Jn := [⟨[], [0, 1]⟩]
noncomputable def J19 (T : Tab) : Rec := fj Tryd.prog (CL T) Tryd.f19 js19
noncomputable def t19_0 (cf : CallF) (R : Rec) (a0 a1 : IV) (h : H) : CRes :=
 obind (lenStr a0) fun x1 =>
 obind (binN .eql x1 (.int .i64 1)) fun x2 =>
 condK x2
 (callP (cf 18 [a1] h) .pan fun x3 h4 =>
 obind (binS .add a0 x3) fun x5 =>
 obind (binS .add x5 (.str ⟨1, 10⟩)) fun x6 =>
 .ok x6 h4)
 (obind (binS .add (.str ⟨1, 98⟩) a0) fun x7 =>
 obind (binS .add x7 (.str ⟨1, 32⟩)) fun x8 =>
 callP (cf 18 [a1] h) .pan fun x9 h10 =>
 obind (binS .add x8 x9) fun x11 =>
 obind (binS .add x11 (.str ⟨1, 10⟩)) fun x12 =>
 .ok x12 h10)
theorem e19_0 {a0 a1 : IV} (e : t19_0 (CL T) (J19 T) a0 a1 h = r) (hr : r ≠ .fail) : J19 T 0 [a0, a1] h = r := fj_step (by kernel_rfl) e hr
theorem c19 (hT : OvStep T) (ho : T.ov 19 = none) (hp : T.pol 19 = true) {a0 a1 : IV} (hg : Gd h) (e : t19_0 (CL T) (J19 T) a0 a1 h = r) (hr : r ≠ .fail) : CL T 19 [a0, a1] h = r := call_good ho Tryd.func19 rfl rfl rfl hp hg hT (e19_0 e hr) hr
def js20 : List Jn := [⟨[], [0]⟩]
noncomputable def J20 (T : Tab) : Rec := fj Tryd.prog (CL T) Tryd.f20 js20
noncomputable def t20_0 (cf : CallF) (R : Rec) (a0 : IV) (h : H) : CRes :=
 obind (nilI a0) fun x1 =>
 obind (fadK 1 x1) fun x2 =>
 obind (ld0 h x2) fun x3 =>
 obind (lenS x3) fun x4 =>
 .ok x4 h
theorem e20_0 {a0 : IV} (e : t20_0 (CL T) (J20 T) a0 h = r) (hr : r ≠ .fail) : J20 T 0 [a0] h = r := fj_step (by kernel_rfl) e hr
theorem c20 (hT : OvStep T) (ho : T.ov 20 = none) (hp : T.pol 20 = true) {a0 : IV} (hg : Gd h) (e : t20_0 (CL T) (J20 T) a0 h = r) (hr : r ≠ .fail) : CL T 20 [a0] h = r := call_good ho Tryd.func20 rfl rfl rfl hp hg hT (e20_0 e hr) hr
def js21 : List Jn := [⟨[], [0]⟩]
noncomputable def J21 (T : Tab) : Rec := fj Tryd.prog (CL T) Tryd.f21 js21
noncomputable def t21_0 (cf : CallF) (R : Rec) (a0 : IV) (h : H) : CRes :=
 obind (nilI a0) fun x1 =>
 obind (fadK 1 x1) fun x2 =>
 obind (ld0 h x2) fun x3 =>
 obind (sliceDataI x3) fun x4 =>
 obind (nilI a0) fun x5 =>
 obind (fadK 1 x5) fun x6 =>
 obind (ld0 h x6) fun x7 =>
 obind (ld0 h x6) fun x8 =>
 bif IV.beq x8 x7 then
 obind (lenS x7) fun x9 =>
 obind (lenS x7) fun x10 =>
 bif IV.beq x10 x9 then
 obind2 (bytesStr 5 h x4 x9) fun x11 h12 =>
 .ok x11 h12
 else .fail
 else .fail
theorem e21_0 {a0 : IV} (e : t21_0 (CL T) (J21 T) a0 h = r) (hr : r ≠ .fail) : J21 T 0 [a0] h = r := fj_step (by kernel_rfl) e hr
theorem c21 (hT : OvStep T) (ho : T.ov 21 = none) (hp : T.pol 21 = true) {a0 : IV} (hg : Gd h) (e : t21_0 (CL T) (J21 T) a0 h = r) (hr : r ≠ .fail) : CL T 21 [a0] h = r := call_good ho Tryd.func21 rfl rfl rfl hp hg hT (e21_0 e hr) hr
def js22 : List Jn := [⟨[1], [0, 1, 2]⟩, ⟨[1, 0, 1, 1], [0, 1]⟩]
noncomputable def J22 (T : Tab) : Rec := cj Tryd.prog (CL T) Tryd.f22 js22
noncomputable def t22_0 (cf : CallF) (R : Rec) (a0 a1 a2 : IV) (h : H) : CRes :=
 obind (eqIf .neq true a2 .nilIface) fun x1 =>
 condK x1
 (obind (assertI 55 true (some (.agg [])) a2) fun x2 =>
 obind (extractI x2 0) fun x3 =>
 obind (extractI x2 1) fun x4 =>
 obind2 (newI h []) fun x5 h6 =>
 obindH (stA 0 h6 x5 x3) fun h7 =>
 obind (unI .not x4) fun x8 =>
 condK x8
 (panK a2 h7 nop)
 (R 1 [a0, a1] h7))
 (.ok (.tup []) h)
theorem e22_0 {a0 a1 a2 : IV} (e : t22_0 (CL T) (J22 T) a0 a1 a2 h = r) (hr : r ≠ .fail) : J22 T 0 [a0, a1, a2] h = r := cj_step (by kernel_rfl) e hr
noncomputable def t22_1 (cf : CallF) (R : Rec) (a0 a1 : IV) (h : H) : CRes :=
 obind (bldK z0 p2 []) fun x9 =>
 obindH (stA 4 h a0 x9) fun h10 =>
 obindH (stA 1 h10 a1 (.int .i64 190)) fun h11 =>
 .ok (.tup []) h11
theorem e22_1 {a0 a1 : IV} (e : t22_1 (CL T) (J22 T) a0 a1 h = r) (hr : r ≠ .fail) : J22 T 1 [a0, a1] h = r := cj_step (by kernel_rfl) e hr
theorem l22 {T : Tab} {a0 a1 : IV} {st : I.Mode} {h h' : H} {v : IV} (hst : st ≠ .done) (e : t22_0 (CL T) (J22 T) a0 a1 (recV st) h = .ok v h') : LV Tryd.prog (CL T) 22 [a0, a1] st h = some (.ret, h') := LV_of3 5 2 Tryd.func22 rfl rfl (by kernel_rfl) (of_decide_eq_true (by kernel_rfl)) hst rfl rfl (of_decide_eq_true (by kernel_rfl)) (e22_0 e (by simp))
def js23 : List Jn := [⟨[], [0, 1]⟩]
noncomputable def J23 (T : Tab) : Rec := fj Tryd.prog (CL T) Tryd.f23 js23
noncomputable def t23_0 (cf : CallF) (R : Rec) (a0 a1 : IV) (h : H) : CRes :=
 callP (cf 39 [a0, a1, (.int .i64 0), (.int .i64 (-1))] h) .pan fun x1 h2 =>
 .ok x1 h2
theorem e23_0 {a0 a1 : IV} (e : t23_0 (CL T) (J23 T) a0 a1 h = r) (hr : r ≠ .fail) : J23 T 0 [a0, a1] h = r := fj_step (by kernel_rfl) e hr
theorem c23 (hT : OvStep T) (ho : T.ov 23 = none) (hp : T.pol 23 = true) {a0 a1 : IV} (hg : Gd h) (e : t23_0 (CL T) (J23 T) a0 a1 h = r) (hr : r ≠ .fail) : CL T 23 [a0, a1] h = r := call_good ho Tryd.func23 rfl rfl rfl hp hg hT (e23_0 e hr) hr
def js24 : List Jn := [⟨[], [0]⟩, ⟨[0, 1, 0, 1], [0, 2]⟩, ⟨[1, 1, 1, 1, 1, 0, 0, 1, 0, 0, 1, 0, 1], [0, 3]⟩]
noncomputable def J24 (T : Tab) : Rec := fj Tryd.prog (CL T) Tryd.f24 js24
noncomputable def t24_0 (cf : CallF) (R : Rec) (a0 : IV) (h : H) : CRes :=
 callP (cf 26 [a0] h) .pan fun x1 h2 =>
 obind (binS .eql x1 (.str ⟨20, 573360969688401281526989655801287553678907634724⟩)) fun x3 =>
 spanK x3 true h2 (fun k4 =>
 callP (cf 26 [a0] h2) .pan fun x7 h8 =>
 obind (binS .eql x7 (.str ⟨22, 37575784509498047304093631126285379671082732007682852⟩)) fun x9 =>
 k4 x9 h8) fun x5 h6 =>
 obind (pickI x3 (some x5) (some (.bool false))) fun x10 =>
 callP (cf 27 [x10] h6) .pan fun x11 h12 =>
 callP (cf 26 [a0] h12) .pan fun x13 h14 =>
 R 1 [a0, x13] h14
theorem e24_0 {a0 : IV} (e : t24_0 (CL T) (J24 T) a0 h = r) (hr : r ≠ .fail) : J24 T 0 [a0] h = r := fj_step (by kernel_rfl) e hr
noncomputable def t24_1 (cf : CallF) (R : Rec) (a0 a2 : IV) (h : H) : CRes :=
 obind (binS .neq a2 (.str ⟨13, 7956981874617361452794851128612⟩)) fun x15 =>
 condK x15
 (callP (cf 23 [a2, (.str ⟨1, 32⟩)] h) .pan fun x16 h17 =>
 obind (lenS x16) fun x18 =>
 obind (binN .eql x18 (.int .i64 6)) fun x19 =>
 spanK x19 true h17 (fun k20 =>
 obind (ixS 1 x16 (.int .i64 0)) fun x23 =>
 obind (ld0 h17 x23) fun x24 =>
 obind (binS .eql x24 (.str ⟨4, 1918989860⟩)) fun x25 =>
 k20 x25 h17) fun x21 h22 =>
 obind (pickI x19 (some x21) (some (.bool false))) fun x26 =>
 spanK x26 true h22 (fun k27 =>
 obind (ixS 1 x16 (.int .i64 1)) fun x30 =>
 obind (ld0 h22 x30) fun x31 =>
 obind (binS .eql x31 (.str ⟨4, 1701996919⟩)) fun x32 =>
 k27 x32 h22) fun x28 h29 =>
 obind (pickI x26 (some x28) (some (.bool false))) fun x33 =>
 spanK x33 true h29 (fun k34 =>
 obind (ixS 1 x16 (.int .i64 5)) fun x37 =>
 obind (ld0 h29 x37) fun x38 =>
 obind (binS .eql x38 (.str ⟨4, 1684956452⟩)) fun x39 =>
 k34 x39 h29) fun x35 h36 =>
 obind (pickI x33 (some x35) (some (.bool false))) fun x40 =>
 callP (cf 27 [x40] h36) .pan fun x41 h42 =>
 obind (nilI a0) fun x43 =>
 obind (fadK 1 x43) fun x44 =>
 obind (ld0 h42 x44) fun x45 =>
 obind (ixS 1 x16 (.int .i64 3)) fun x46 =>
 obind (ld0 h42 x46) fun x47 =>
 obind (nilI a0) fun x48 =>
 obind (fadK 2 x48) fun x49 =>
 obind (fadK 0 x49) fun x50 =>
 obind (ld0 h42 x50) fun x51 =>
 obind (lenS x51) fun x52 =>
 obindH (mupK true h42 x45 x47 x52) fun h53 =>
 obind (nilI a0) fun x54 =>
 obind (fadK 2 x54) fun x55 =>
 obind (fadK 1 x55) fun x56 =>
 obind (ld0 h53 x56) fun x57 =>
 obind (ixS 1 x16 (.int .i64 2)) fun x58 =>
 obind (ld0 h53 x58) fun x59 =>
 callP (cf 28 [x59] h53) (fun v60 h61 =>
 .pan v60 h61) fun x62 h63 =>
 obind (ld0 h63 x56) fun x64 =>
 bif IV.beq x64 x57 then
 obind2 (bslK true 1 [(.int .i64 0)] 1 [(0, x62)] h63) fun x65 h66 =>
 obind (ld0 h66 x56) fun x67 =>
 bif IV.beq x67 x57 then
 obind2 (appK 1 8 h66 x57 x65) fun x68 h69 =>
 obind (nilI a0) fun x70 =>
 obind (fadK 2 x70) fun x71 =>
 obind (fadK 1 x71) fun x72 =>
 obindH (stA 1 h69 x72 x68) fun h73 =>
 obind (ixS 1 x16 (.int .i64 4)) fun x74 =>
 obind (ld0 h73 x74) fun x75 =>
 obind (binS .eql x75 (.str ⟨1, 95⟩)) fun x76 =>
 condK x76
 (obind (ixS 1 x16 (.int .i64 4)) fun x77 =>
 obindH (stA 1 h73 x77 (.str ⟨0, 0⟩)) fun h78 =>
 R 2 [a0, x16] h78)
 (R 2 [a0, x16] h73)
 else .fail
 else .fail)
 (callP (cf 26 [a0] h) .pan fun x79 h80 =>
 obind (binS .eql x79 (.str ⟨20, 573360969688401287803447223673949885673767855396⟩)) fun x81 =>
 spanK x81 true h80 (fun k82 =>
 callP (cf 26 [a0] h80) .pan fun x85 h86 =>
 obind (binS .eql x85 (.str ⟨9, 2129617567494907978788⟩)) fun x87 =>
 k82 x87 h86) fun x83 h84 =>
 obind (pickI x81 (some x83) (some (.bool false))) fun x88 =>
 callP (cf 27 [x88] h84) .pan fun x89 h90 =>
 .ok (.tup []) h90)
theorem e24_1 {a0 a2 : IV} (e : t24_1 (CL T) (J24 T) a0 a2 h = r) (hr : r ≠ .fail) : J24 T 1 [a0, a2] h = r := fj_step (by kernel_rfl) e hr
noncomputable def t24_2 (cf : CallF) (R : Rec) (a0 a3 : IV) (h : H) : CRes :=
 obind (nilI a0) fun x91 =>
 obind (fadK 2 x91) fun x92 =>
 obind (fadK 0 x92) fun x93 =>
 obind (ld0 h x93) fun x94 =>
 obind (ixS 1 a3 (.int .i64 4)) fun x95 =>
 obind (ld0 h x95) fun x96 =>
 obind2 (bslK false 1 [(.str ⟨0, 0⟩)] 1 [(0, x96)] h) fun x97 h98 =>
 obind (ld0 h98 x93) fun x99 =>
 bif IV.beq x99 x94 then
 obind2 (appK 1 16 h98 x94 x97) fun x100 h101 =>
 obind (nilI a0) fun x102 =>
 obind (fadK 2 x102) fun x103 =>
 obind (fadK 0 x103) fun x104 =>
 obindH (stA 1 h101 x104 x100) fun h105 =>
 callP (cf 26 [a0] h105) .pan fun x106 h107 =>
 R 1 [a0, x106] h107
 else .fail
theorem e24_2 {a0 a3 : IV} (e : t24_2 (CL T) (J24 T) a0 a3 h = r) (hr : r ≠ .fail) : J24 T 2 [a0, a3] h = r := fj_step (by kernel_rfl) e hr
theorem c24 (hT : OvStep T) (ho : T.ov 24 = none) (hp : T.pol 24 = true) {a0 : IV} (hg : Gd h) (e : t24_0 (CL T) (J24 T) a0 h = r) (hr : r ≠ .fail) : CL T 24 [a0] h = r := call_good ho Tryd.func24 rfl rfl rfl hp hg hT (e24_0 e hr) hr
def js25 : List Jn := [⟨[], [0, 1]⟩, ⟨[1, 1, 1, 1], [0, 5, 6]⟩]
noncomputable def J25 (T : Tab) : Rec := fj Tryd.prog (CL T) Tryd.f25 js25
noncomputable def t25_0 (cf : CallF) (R : Rec) (a0 a1 : IV) (h : H) : CRes :=
 obind (binS .neq a1 (.str ⟨0, 0⟩)) fun x1 =>
 callP (cf 27 [x1] h) .pan fun x2 h3 =>
 obind (slcStr a1 none (some (.int .i64 1))) fun x4 =>
 obind (slcStr a1 (some (.int .i64 1)) none) fun x5 =>
 obind (ixStr a1 (.int .i64 0)) fun x6 =>
 obind (binN .eql x6 (.int .u8 98)) fun x7 =>
 condK x7
 (obind (slcStr a1 (some (.int .i64 1)) none) fun x8 =>
 callP (cf 40 [x8, (.str ⟨1, 32⟩)] h3) .pan fun x9 h10 =>
 obind (extractI x9 0) fun x11 =>
 obind (extractI x9 1) fun x12 =>
 obind (extractI x9 2) fun x13 =>
 R 1 [a0, x11, x12] h10)
 (R 1 [a0, x4, x5] h3)
theorem e25_0 {a0 a1 : IV} (e : t25_0 (CL T) (J25 T) a0 a1 h = r) (hr : r ≠ .fail) : J25 T 0 [a0, a1] h = r := fj_step (by kernel_rfl) e hr
noncomputable def t25_1 (cf : CallF) (R : Rec) (a0 a5 a6 : IV) (h : H) : CRes :=
 obind (nilI a0) fun x14 =>
 obind (fadK 1 x14) fun x15 =>
 obind (ld0 h x15) fun x16 =>
 obind (lkK true (.int .i64 0) h x16 a6 true) fun x17 =>
 obind (extractI x17 0) fun x18 =>
 obind (extractI x17 1) fun x19 =>
 callP (cf 27 [x19] h) .pan fun x20 h21 =>
 .ok (.tup [x18, a5]) h21
theorem e25_1 {a0 a5 a6 : IV} (e : t25_1 (CL T) (J25 T) a0 a5 a6 h = r) (hr : r ≠ .fail) : J25 T 1 [a0, a5, a6] h = r := fj_step (by kernel_rfl) e hr
theorem c25 (hT : OvStep T) (ho : T.ov 25 = none) (hp : T.pol 25 = true) {a0 a1 : IV} (hg : Gd h) (e : t25_0 (CL T) (J25 T) a0 a1 h = r) (hr : r ≠ .fail) : CL T 25 [a0, a1] h = r := call_good ho Tryd.func25 rfl rfl rfl hp hg hT (e25_0 e hr) hr
def js26 : List Jn := [⟨[], [0]⟩]
noncomputable def J26 (T : Tab) : Rec := fj Tryd.prog (CL T) Tryd.f26 js26
noncomputable def t26_0 (cf : CallF) (R : Rec) (a0 : IV) (h : H) : CRes :=
 obind (nilI a0) fun x1 =>
 obind (fadK 0 x1) fun x2 =>
 obind (ld0 h x2) fun x3 =>
 obind (lenS x3) fun x4 =>
 obind (binN .gtr x4 (.int .i64 0)) fun x5 =>
 callP (cf 27 [x5] h) .pan fun x6 h7 =>
 obind (nilI a0) fun x8 =>
 obind (fadK 0 x8) fun x9 =>
 obind (ld0 h7 x9) fun x10 =>
 obind (ixS 1 x10 (.int .i64 0)) fun x11 =>
 obind (ld0 h7 x11) fun x12 =>
 obind (nilI a0) fun x13 =>
 obind (fadK 0 x13) fun x14 =>
 obind (ld0 h7 x14) fun x15 =>
 obind (slcS 1 x15 (some (.int .i64 1)) none none) fun x16 =>
 obind (nilI a0) fun x17 =>
 obind (fadK 0 x17) fun x18 =>
 obindH (stA 1 h7 x18 x16) fun h19 =>
 .ok x12 h19
theorem e26_0 {a0 : IV} (e : t26_0 (CL T) (J26 T) a0 h = r) (hr : r ≠ .fail) : J26 T 0 [a0] h = r := fj_step (by kernel_rfl) e hr
theorem c26 (hT : OvStep T) (ho : T.ov 26 = none) (hp : T.pol 26 = true) {a0 : IV} (hg : Gd h) (e : t26_0 (CL T) (J26 T) a0 h = r) (hr : r ≠ .fail) : CL T 26 [a0] h = r := call_good ho Tryd.func26 rfl rfl rfl hp hg hT (e26_0 e hr) hr
def js27 : List Jn := [⟨[], [0]⟩]
noncomputable def J27 (T : Tab) : Rec := fj Tryd.prog (CL T) Tryd.f27 js27
noncomputable def t27_0 (cf : CallF) (R : Rec) (a0 : IV) (h : H) : CRes :=
 obind (unI .not a0) fun x1 =>
 condK x1
 (obind (bldK [] [] []) fun x2 =>
 panK (.iface 55 x2) h .pan)
 (.ok (.tup []) h)
theorem e27_0 {a0 : IV} (e : t27_0 (CL T) (J27 T) a0 h = r) (hr : r ≠ .fail) : J27 T 0 [a0] h = r := fj_step (by kernel_rfl) e hr
theorem c27 (hT : OvStep T) (ho : T.ov 27 = none) (hp : T.pol 27 = true) {a0 : IV} (hg : Gd h) (e : t27_0 (CL T) (J27 T) a0 h = r) (hr : r ≠ .fail) : CL T 27 [a0] h = r := call_good ho Tryd.func27 rfl rfl rfl hp hg hT (e27_0 e hr) hr
def js28 : List Jn := [⟨[], [0]⟩]
noncomputable def J28 (T : Tab) : Rec := fj Tryd.prog (CL T) Tryd.f28 js28
noncomputable def t28_0 (cf : CallF) (R : Rec) (a0 : IV) (h : H) : CRes :=
 callP (cf 41 [a0] h) .pan fun x1 h2 =>
 obind (extractI x1 0) fun x3 =>
 obind (extractI x1 1) fun x4 =>
 obind (eqIf .eql true x4 .nilIface) fun x5 =>
 spanK x5 true h2 (fun k6 =>
 callP (cf 17 [x3] h2) .pan fun x9 h10 =>
 obind (binS .eql x9 a0) fun x11 =>
 k6 x11 h10) fun x7 h8 =>
 obind (pickI x5 (some x7) (some (.bool false))) fun x12 =>
 callP (cf 27 [x12] h8) .pan fun x13 h14 =>
 .ok x3 h14
theorem e28_0 {a0 : IV} (e : t28_0 (CL T) (J28 T) a0 h = r) (hr : r ≠ .fail) : J28 T 0 [a0] h = r := fj_step (by kernel_rfl) e hr
theorem c28 (hT : OvStep T) (ho : T.ov 28 = none) (hp : T.pol 28 = true) {a0 : IV} (hg : Gd h) (e : t28_0 (CL T) (J28 T) a0 h = r) (hr : r ≠ .fail) : CL T 28 [a0] h = r := call_good ho Tryd.func28 rfl rfl rfl hp hg hT (e28_0 e hr) hr
def js29 : List Jn := [⟨[], [0]⟩, ⟨[0, 1, 0, 1], [0, 3]⟩]
noncomputable def J29 (T : Tab) : Rec := fj Tryd.prog (CL T) Tryd.f29 js29
noncomputable def t29_0 (cf : CallF) (R : Rec) (a0 : IV) (h : H) : CRes :=
 R 1 [a0, (.int .i64 0)] h
theorem e29_0 {a0 : IV} (e : t29_0 (CL T) (J29 T) a0 h = r) (hr : r ≠ .fail) : J29 T 0 [a0] h = r := fj_step (by kernel_rfl) e hr
noncomputable def t29_1 (cf : CallF) (R : Rec) (a0 a3 : IV) (h : H) : CRes :=
 obind (lenStr a0) fun x1 =>
 obind (binN .lss a3 x1) fun x2 =>
 condK x2
 (obind (ixStr a0 a3) fun x3 =>
 obind (binN .lss x3 (.int .u8 33)) fun x4 =>
 spanK x4 false h (fun k5 =>
 obind (ixStr a0 a3) fun x8 =>
 obind (binN .gtr x8 (.int .u8 126)) fun x9 =>
 k5 x9 h) fun x6 h7 =>
 obind (pickI x4 (some (.bool true)) (some x6)) fun x10 =>
 condK x10
 (.ok (.bool false) h7)
 (obind (binN .add a3 (.int .i64 1)) fun x11 =>
 R 1 [a0, x11] h7))
 (obind (lenStr a0) fun x12 =>
 obind (binN .leq x12 (.int .i64 256)) fun x13 =>
 .ok x13 h)
theorem e29_1 {a0 a3 : IV} (e : t29_1 (CL T) (J29 T) a0 a3 h = r) (hr : r ≠ .fail) : J29 T 1 [a0, a3] h = r := fj_step (by kernel_rfl) e hr
theorem c29 (hT : OvStep T) (ho : T.ov 29 = none) (hp : T.pol 29 = true) {a0 : IV} (hg : Gd h) (e : t29_0 (CL T) (J29 T) a0 h = r) (hr : r ≠ .fail) : CL T 29 [a0] h = r := call_good ho Tryd.func29 rfl rfl rfl hp hg hT (e29_0 e hr) hr
def js30 : List Jn := [⟨[], [0]⟩, ⟨[0, 1, 0, 1], [0, 3]⟩]
noncomputable def J30 (T : Tab) : Rec := fj Tryd.prog (CL T) Tryd.f30 js30
noncomputable def t30_0 (cf : CallF) (R : Rec) (a0 : IV) (h : H) : CRes :=
 R 1 [a0, (.int .i64 0)] h
theorem e30_0 {a0 : IV} (e : t30_0 (CL T) (J30 T) a0 h = r) (hr : r ≠ .fail) : J30 T 0 [a0] h = r := fj_step (by kernel_rfl) e hr
noncomputable def t30_1 (cf : CallF) (R : Rec) (a0 a3 : IV) (h : H) : CRes :=
 obind (lenStr a0) fun x1 =>
 obind (binN .lss a3 x1) fun x2 =>
 condK x2
 (obind (ixStr a0 a3) fun x3 =>
 obind (binN .neq x3 (.int .u8 48)) fun x4 =>
 spanK x4 true h (fun k5 =>
 obind (ixStr a0 a3) fun x8 =>
 obind (binN .neq x8 (.int .u8 49)) fun x9 =>
 k5 x9 h) fun x6 h7 =>
 obind (pickI x4 (some x6) (some (.bool false))) fun x10 =>
 spanK x10 true h7 (fun k11 =>
 obind (ixStr a0 a3) fun x14 =>
 obind (binN .neq x14 (.int .u8 120)) fun x15 =>
 k11 x15 h7) fun x12 h13 =>
 obind (pickI x10 (some x12) (some (.bool false))) fun x16 =>
 spanK x16 true h13 (fun k17 =>
 obind (ixStr a0 a3) fun x20 =>
 obind (binN .neq x20 (.int .u8 122)) fun x21 =>
 k17 x21 h13) fun x18 h19 =>
 obind (pickI x16 (some x18) (some (.bool false))) fun x22 =>
 condK x22
 (.ok (.bool false) h19)
 (obind (binN .add a3 (.int .i64 1)) fun x23 =>
 R 1 [a0, x23] h19))
 (obind (lenStr a0) fun x24 =>
 obind (binN .geq x24 (.int .i64 1)) fun x25 =>
 spanK x25 true h (fun k26 =>
 obind (lenStr a0) fun x29 =>
 obind (binN .leq x29 (.int .i64 256)) fun x30 =>
 k26 x30 h) fun x27 h28 =>
 obind (pickI x25 (some x27) (some (.bool false))) fun x31 =>
 .ok x31 h28)
theorem e30_1 {a0 a3 : IV} (e : t30_1 (CL T) (J30 T) a0 a3 h = r) (hr : r ≠ .fail) : J30 T 1 [a0, a3] h = r := fj_step (by kernel_rfl) e hr
theorem c30 (hT : OvStep T) (ho : T.ov 30 = none) (hp : T.pol 30 = true) {a0 : IV} (hg : Gd h) (e : t30_0 (CL T) (J30 T) a0 h = r) (hr : r ≠ .fail) : CL T 30 [a0] h = r := call_good ho Tryd.func30 rfl rfl rfl hp hg hT (e30_0 e hr) hr
def js31 : List Jn := [⟨[], [0, 1]⟩]
noncomputable def J31 (T : Tab) : Rec := fj Tryd.prog (CL T) Tryd.f31 js31
noncomputable def t31_0 (cf : CallF) (R : Rec) (a0 a1 : IV) (h : H) : CRes :=
 obind2 (newI h (IV.cells a0)) fun x1 h2 =>
 obind2 (newI h2 (IV.cells a1)) fun x3 h4 =>
 obind (fadK 0 x1) fun x5 =>
 obind (ld0 h4 x5) fun x6 =>
 obind (fadK 0 x3) fun x7 =>
 obind (ld0 h4 x7) fun x8 =>
 obind (binN .lss x6 x8) fun x9 =>
 spanK x9 false h4 (fun k10 =>
 obind (fadK 0 x1) fun x13 =>
 obind (ld0 h4 x13) fun x14 =>
 obind (fadK 0 x3) fun x15 =>
 obind (ld0 h4 x15) fun x16 =>
 obind (binN .eql x14 x16) fun x17 =>
 k10 x17 h4) fun x11 h12 =>
 spanK x11 true h12 (fun k18 =>
 obind (fadK 1 x1) fun x21 =>
 obind (ld0 h12 x21) fun x22 =>
 obind (fadK 1 x3) fun x23 =>
 obind (ld0 h12 x23) fun x24 =>
 obind (binN .lss x22 x24) fun x25 =>
 k18 x25 h12) fun x19 h20 =>
 spanK x9 false h20 (fun k26 =>
 obind (pickI x11 (some x19) (some (.bool false))) fun x29 =>
 k26 x29 h20) fun x27 h28 =>
 obind (pickI x9 (some (.bool true)) (some x27)) fun x30 =>
 .ok x30 h28
theorem e31_0 {a0 a1 : IV} (e : t31_0 (CL T) (J31 T) a0 a1 h = r) (hr : r ≠ .fail) : J31 T 0 [a0, a1] h = r := fj_step (by kernel_rfl) e hr
theorem c31 (hT : OvStep T) (ho : T.ov 31 = none) (hp : T.pol 31 = true) {a0 a1 : IV} (hg : Gd h) (e : t31_0 (CL T) (J31 T) a0 a1 h = r) (hr : r ≠ .fail) : CL T 31 [a0, a1] h = r := call_good ho Tryd.func31 rfl rfl rfl hp hg hT (e31_0 e hr) hr
def js32 : List Jn := [⟨[], [0]⟩]
noncomputable def J32 (T : Tab) : Rec := fj Tryd.prog (CL T) Tryd.f32 js32
noncomputable def t32_0 (cf : CallF) (R : Rec) (a0 : IV) (h : H) : CRes :=
 obind (binN .lss a0 (.int .i32 33)) fun x1 =>
 spanK x1 false h (fun k2 =>
 obind (binN .gtr a0 (.int .i32 126)) fun x5 =>
 k2 x5 h) fun x3 h4 =>
 obind (pickI x1 (some (.bool true)) (some x3)) fun x6 =>
 .ok x6 h4
theorem e32_0 {a0 : IV} (e : t32_0 (CL T) (J32 T) a0 h = r) (hr : r ≠ .fail) : J32 T 0 [a0] h = r := fj_step (by kernel_rfl) e hr
theorem c32 (hT : OvStep T) (ho : T.ov 32 = none) (hp : T.pol 32 = true) {a0 : IV} (hg : Gd h) (e : t32_0 (CL T) (J32 T) a0 h = r) (hr : r ≠ .fail) : CL T 32 [a0] h = r := call_good ho Tryd.func32 rfl rfl rfl hp hg hT (e32_0 e hr) hr
def js33 : List Jn := [⟨[], [0, 1]⟩]
noncomputable def J33 (T : Tab) : Rec := fj Tryd.prog (CL T) Tryd.f33 js33
noncomputable def t33_0 (cf : CallF) (R : Rec) (a0 a1 : IV) (h : H) : CRes :=
 callP (cf 42 [a0, a1] h) .pan fun x1 h2 =>
 obind (binN .geq x1 (.int .i64 0)) fun x3 =>
 .ok x3 h2
theorem e33_0 {a0 a1 : IV} (e : t33_0 (CL T) (J33 T) a0 a1 h = r) (hr : r ≠ .fail) : J33 T 0 [a0, a1] h = r := fj_step (by kernel_rfl) e hr
theorem c33 (hT : OvStep T) (ho : T.ov 33 = none) (hp : T.pol 33 = true) {a0 a1 : IV} (hg : Gd h) (e : t33_0 (CL T) (J33 T) a0 a1 h = r) (hr : r ≠ .fail) : CL T 33 [a0, a1] h = r := call_good ho Tryd.func33 rfl rfl rfl hp hg hT (e33_0 e hr) hr
def js34 : List Jn := [⟨[], [0]⟩]
noncomputable def J34 (T : Tab) : Rec := fj Tryd.prog (CL T) Tryd.f34 js34
noncomputable def t34_0 (cf : CallF) (R : Rec) (a0 : IV) (h : H) : CRes :=
 obind (lenStr a0) fun x1 =>
 obind (binN .lss x1 (.int .i64 1)) fun x2 =>
 spanK x2 false h (fun k3 =>
 obind (lenStr a0) fun x6 =>
 obind (binN .gtr x6 (.int .i64 256)) fun x7 =>
 k3 x7 h) fun x4 h5 =>
 obind (pickI x2 (some (.bool true)) (some x4)) fun x8 =>
 spanK x8 false h5 (fun k9 =>
 callP (cf 43 [a0, (.str ⟨4, 2054697264⟩)] h5) .pan fun x12 h13 =>
 obind (binS .neq x12 (.str ⟨0, 0⟩)) fun x14 =>
 k9 x14 h13) fun x10 h11 =>
 obind (pickI x8 (some (.bool true)) (some x10)) fun x15 =>
 condK x15
 (.ok (.int .i64 10) h11)
 (.ok (.int .i64 0) h11)
theorem e34_0 {a0 : IV} (e : t34_0 (CL T) (J34 T) a0 h = r) (hr : r ≠ .fail) : J34 T 0 [a0] h = r := fj_step (by kernel_rfl) e hr
theorem c34 (hT : OvStep T) (ho : T.ov 34 = none) (hp : T.pol 34 = true) {a0 : IV} (hg : Gd h) (e : t34_0 (CL T) (J34 T) a0 h = r) (hr : r ≠ .fail) : CL T 34 [a0] h = r := call_good ho Tryd.func34 rfl rfl rfl hp hg hT (e34_0 e hr) hr
def js35 : List Jn := [⟨[], [0]⟩]
noncomputable def J35 (T : Tab) : Rec := fj Tryd.prog (CL T) Tryd.f35 js35
noncomputable def t35_0 (cf : CallF) (R : Rec) (a0 : IV) (h : H) : CRes :=
 obind (eqSl .eql a0 .nilSlice) fun x1 =>
 condK x1
 (.ok .nilSlice h)
 (obind2 (bslK false 1 [(.str ⟨0, 0⟩)] 0 [] h) fun x2 h3 =>
 obind2 (appK 1 16 h3 x2 a0) fun x4 h5 =>
 .ok x4 h5)
theorem e35_0 {a0 : IV} (e : t35_0 (CL T) (J35 T) a0 h = r) (hr : r ≠ .fail) : J35 T 0 [a0] h = r := fj_step (by kernel_rfl) e hr
theorem c35 (hT : OvStep T) (ho : T.ov 35 = none) (hp : T.pol 35 = false) {a0 : IV} (hg : Gd h) (e : t35_0 (CL T) (J35 T) a0 (h.setPol false) = r) (hr : r ≠ .fail) : CL T 35 [a0] h = r.setPol true := call_drop ho Tryd.func35 rfl rfl rfl hp hg (e35_0 e hr) hr
def js36 : List Jn := [⟨[], [0, 1]⟩]
noncomputable def J36 (T : Tab) : Rec := fj Tryd.prog (CL T) Tryd.f36 js36
noncomputable def t36_0 (cf : CallF) (R : Rec) (a0 a1 : IV) (h : H) : CRes :=
 obind2 (newI h (IV.cells a0)) fun x1 h2 =>
 obind2 (newI h2 (IV.cells a1)) fun x3 h4 =>
 obind (fadK 0 x1) fun x5 =>
 obind (ld0 h4 x5) fun x6 =>
 obind (fadK 0 x3) fun x7 =>
 obind (ld0 h4 x7) fun x8 =>
 callP (cf 45 [x6, x8] h4) (fun v9 h10 =>
 obind (fadK 1 x1) fun x11 =>
 obind (ld0 h4 x11) fun x12 =>
 obind (fadK 1 x3) fun x13 =>
 obind (ld0 h4 x13) fun x14 =>
 .pan v9 h10) fun x15 h16 =>
 obind (fadK 1 x1) fun x17 =>
 obind (ld0 h16 x17) fun x18 =>
 obind (ld0 h4 x17) fun x19 =>
 bif IV.beq x19 x18 then
 obind (fadK 1 x3) fun x20 =>
 obind (ld0 h16 x20) fun x21 =>
 obind (ld0 h4 x20) fun x22 =>
 bif IV.beq x22 x21 then
 callP (cf 45 [x18, x21] h16) (fun v23 h24 =>
 .pan v23 h24) fun x25 h26 =>
 obind2 (bslK true 1 [(.int .i64 0)] 2 [(0, x15), (1, x25)] h26) fun x27 h28 =>
 callP (cf 44 [x27] h28) (fun v29 h30 =>
 .pan v29 h30) fun x31 h32 =>
 .ok x31 h32
 else .fail
 else .fail
theorem e36_0 {a0 a1 : IV} (e : t36_0 (CL T) (J36 T) a0 a1 h = r) (hr : r ≠ .fail) : J36 T 0 [a0, a1] h = r := fj_step (by kernel_rfl) e hr
theorem c36 (hT : OvStep T) (ho : T.ov 36 = none) (hp : T.pol 36 = true) {a0 a1 : IV} (hg : Gd h) (e : t36_0 (CL T) (J36 T) a0 a1 h = r) (hr : r ≠ .fail) : CL T 36 [a0, a1] h = r := call_good ho Tryd.func36 rfl rfl rfl hp hg hT (e36_0 e hr) hr
def js37 : List Jn := [⟨[], [0]⟩]
noncomputable def J37 (T : Tab) : Rec := fj Tryd.prog (CL T) Tryd.f37 js37
noncomputable def t37_0 (cf : CallF) (R : Rec) (a0 : IV) (h : H) : CRes :=
 obind (nilI a0) fun x1 =>
 obind (fadK 0 x1) fun x2 =>
 obind (ld0 h x2) fun x3 =>
 obind (eqP .eql h x3 .nilPtr) fun x4 =>
 condK x4
 (obind2 (convI Tryd.prog h 43 82 a0) fun x5 h6 =>
 callP (cf 46 [x5] h6) .pan fun x7 h8 =>
 obind2 (convI Tryd.prog h8 82 43 x7) fun x9 h10 =>
 obind (nilI a0) fun x11 =>
 obind (fadK 0 x11) fun x12 =>
 obindH (stA 1 h10 x12 x9) fun h13 =>
 .ok (.tup []) h13)
 (obind (nilI a0) fun x14 =>
 obind (fadK 0 x14) fun x15 =>
 obind (ld0 h x15) fun x16 =>
 obind (eqP .neq h x16 a0) fun x17 =>
 condK x17
 (CRes.fail)
 (.ok (.tup []) h))
theorem e37_0 {a0 : IV} (e : t37_0 (CL T) (J37 T) a0 h = r) (hr : r ≠ .fail) : J37 T 0 [a0] h = r := fj_step (by kernel_rfl) e hr
theorem c37 (hT : OvStep T) (ho : T.ov 37 = none) (hp : T.pol 37 = true) {a0 : IV} (hg : Gd h) (e : t37_0 (CL T) (J37 T) a0 h = r) (hr : r ≠ .fail) : CL T 37 [a0] h = r := call_good ho Tryd.func37 rfl rfl rfl hp hg hT (e37_0 e hr) hr
def js39 : List Jn := [⟨[], [0, 1, 2, 3]⟩, ⟨[1, 1, 1, 1], [0, 1, 2, 3]⟩, ⟨[1, 1, 1, 1, 1, 1, 1, 1, 1], [0, 9, 10]⟩, ⟨[0, 0, 1, 1, 1, 1, 1, 1, 1, 1], [0, 1, 2, 3, 9, 10]⟩]
noncomputable def J39 (T : Tab) : Rec := fj Tryd.prog (CL T) Tryd.f39 js39
noncomputable def t39_0 (cf : CallF) (R : Rec) (a0 a1 a2 a3 : IV) (h : H) : CRes :=
 obind (binN .eql a3 (.int .i64 0)) fun x1 =>
 condK x1
 (.ok .nilSlice h)
 (obind (binS .eql a1 (.str ⟨0, 0⟩)) fun x2 =>
 condK x2
 (callP (cf 48 [a0, a3] h) .pan fun x3 h4 =>
 .ok x3 h4)
 (obind (binN .lss a3 (.int .i64 0)) fun x5 =>
 condK x5
 (callP (cf 49 [a0, a1] h) .pan fun x6 h7 =>
 obind (binN .add x6 (.int .i64 1)) fun x8 =>
 R 1 [a0, a1, a2, x8] h7)
 (R 1 [a0, a1, a2, a3] h)))
theorem e39_0 {a0 a1 a2 a3 : IV} (e : t39_0 (CL T) (J39 T) a0 a1 a2 a3 h = r) (hr : r ≠ .fail) : J39 T 0 [a0, a1, a2, a3] h = r := fj_step (by kernel_rfl) e hr
noncomputable def t39_1 (cf : CallF) (R : Rec) (a0 a1 a2 a3 : IV) (h : H) : CRes :=
 obind (lenStr a0) fun x9 =>
 obind (binN .add x9 (.int .i64 1)) fun x10 =>
 obind (minI a3 x10) fun x11 =>
 obind2 (mksK 1 16 [(.str ⟨0, 0⟩)] h x11 x11) fun x12 h13 =>
 obind (binN .sub x11 (.int .i64 1)) fun x14 =>
 R 3 [a0, a1, a2, x14, x12, (.int .i64 0)] h13
theorem e39_1 {a0 a1 a2 a3 : IV} (e : t39_1 (CL T) (J39 T) a0 a1 a2 a3 h = r) (hr : r ≠ .fail) : J39 T 1 [a0, a1, a2, a3] h = r := fj_step (by kernel_rfl) e hr
noncomputable def t39_3 (cf : CallF) (R : Rec) (a0 a1 a2 a3 a9 a10 : IV) (h : H) : CRes :=
 obind (binN .lss a10 a3) fun x15 =>
 condK x15
 (callP (cf 50 [a0, a1] h) .pan fun x16 h17 =>
 obind (binN .lss x16 (.int .i64 0)) fun x18 =>
 condK x18
 (R 2 [a0, a9, a10] h17)
 (obind (binN .add x16 a2) fun x19 =>
 obind (slcStr a0 none (some x19)) fun x20 =>
 obind (ixS 1 a9 a10) fun x21 =>
 obindH (stA 1 h17 x21 x20) fun h22 =>
 obind (lenStr a1) fun x23 =>
 obind (binN .add x16 x23) fun x24 =>
 obind (slcStr a0 (some x24) none) fun x25 =>
 obind (binN .add a10 (.int .i64 1)) fun x26 =>
 R 3 [x25, a1, a2, a3, a9, x26] h22))
 (R 2 [a0, a9, a10] h)
theorem e39_3 {a0 a1 a2 a3 a9 a10 : IV} (e : t39_3 (CL T) (J39 T) a0 a1 a2 a3 a9 a10 h = r) (hr : r ≠ .fail) : J39 T 3 [a0, a1, a2, a3, a9, a10] h = r := fj_step (by kernel_rfl) e hr
noncomputable def t39_2 (cf : CallF) (R : Rec) (a0 a9 a10 : IV) (h : H) : CRes :=
 obind (ixS 1 a9 a10) fun x27 =>
 obindH (stA 1 h x27 a0) fun h28 =>
 obind (binN .add a10 (.int .i64 1)) fun x29 =>
 obind (slcS 1 a9 none (some x29) none) fun x30 =>
 .ok x30 h28
theorem e39_2 {a0 a9 a10 : IV} (e : t39_2 (CL T) (J39 T) a0 a9 a10 h = r) (hr : r ≠ .fail) : J39 T 2 [a0, a9, a10] h = r := fj_step (by kernel_rfl) e hr
theorem c39 (hT : OvStep T) (ho : T.ov 39 = none) (hp : T.pol 39 = true) {a0 a1 a2 a3 : IV} (hg : Gd h) (e : t39_0 (CL T) (J39 T) a0 a1 a2 a3 h = r) (hr : r ≠ .fail) : CL T 39 [a0, a1, a2, a3] h = r := call_good ho Tryd.func39 rfl rfl rfl hp hg hT (e39_0 e hr) hr
def js40 : List Jn := [⟨[], [0, 1]⟩]
noncomputable def J40 (T : Tab) : Rec := fj Tryd.prog (CL T) Tryd.f40 js40
noncomputable def t40_0 (cf : CallF) (R : Rec) (a0 a1 : IV) (h : H) : CRes :=
 callP (cf 51 [a0, a1] h) .pan fun x1 h2 =>
 obind (extractI x1 0) fun x3 =>
 obind (extractI x1 1) fun x4 =>
 obind (extractI x1 2) fun x5 =>
 .ok (.tup [x3, x4, x5]) h2
theorem e40_0 {a0 a1 : IV} (e : t40_0 (CL T) (J40 T) a0 a1 h = r) (hr : r ≠ .fail) : J40 T 0 [a0, a1] h = r := fj_step (by kernel_rfl) e hr
theorem c40 (hT : OvStep T) (ho : T.ov 40 = none) (hp : T.pol 40 = true) {a0 a1 : IV} (hg : Gd h) (e : t40_0 (CL T) (J40 T) a0 a1 h = r) (hr : r ≠ .fail) : CL T 40 [a0, a1] h = r := call_good ho Tryd.func40 rfl rfl rfl hp hg hT (e40_0 e hr) hr
def js42 : List Jn := [⟨[], [0, 1]⟩]
noncomputable def J42 (T : Tab) : Rec := fj Tryd.prog (CL T) Tryd.f42 js42
noncomputable def t42_0 (cf : CallF) (R : Rec) (a0 a1 : IV) (h : H) : CRes :=
 callP (cf 54 [a0, a1, (.bool true)] h) .pan fun x1 h2 =>
 .ok x1 h2
theorem e42_0 {a0 a1 : IV} (e : t42_0 (CL T) (J42 T) a0 a1 h = r) (hr : r ≠ .fail) : J42 T 0 [a0, a1] h = r := fj_step (by kernel_rfl) e hr
theorem c42 (hT : OvStep T) (ho : T.ov 42 = none) (hp : T.pol 42 = true) {a0 a1 : IV} (hg : Gd h) (e : t42_0 (CL T) (J42 T) a0 a1 h = r) (hr : r ≠ .fail) : CL T 42 [a0, a1] h = r := call_good ho Tryd.func42 rfl rfl rfl hp hg hT (e42_0 e hr) hr
def js43 : List Jn := [⟨[], [0, 1]⟩]
noncomputable def J43 (T : Tab) : Rec := fj Tryd.prog (CL T) Tryd.f43 js43
noncomputable def t43_0 (cf : CallF) (R : Rec) (a0 a1 : IV) (h : H) : CRes :=
 obind (binS .eql a0 (.str ⟨0, 0⟩)) fun x1 =>
 spanK x1 false h (fun k2 =>
 obind (binS .eql a1 (.str ⟨0, 0⟩)) fun x5 =>
 k2 x5 h) fun x3 h4 =>
 obind (pickI x1 (some (.bool true)) (some x3)) fun x6 =>
 condK x6
 (.ok a0 h4)
 (obind (lenStr a1) fun x7 =>
 obind (binN .eql x7 (.int .i64 1)) fun x8 =>
 spanK x8 true h4 (fun k9 =>
 obind (ixStr a1 (.int .i64 0)) fun x12 =>
 obind (binN .lss x12 (.int .u8 128)) fun x13 =>
 k9 x13 h4) fun x10 h11 =>
 obind (pickI x8 (some x10) (some (.bool false))) fun x14 =>
 condK x14
 (obind (ixStr a1 (.int .i64 0)) fun x15 =>
 callP (cf 56 [a0, x15] h11) (fun v16 h17 =>
 obind (ixStr a1 (.int .i64 0)) fun x18 =>
 .pan v16 h17) fun x19 h20 =>
 obind (ixStr a1 (.int .i64 0)) fun x21 =>
 callP (cf 55 [x19, x21] h20) (fun v22 h23 =>
 .pan v22 h23) fun x24 h25 =>
 .ok x24 h25)
 (callP (cf 57 [a1] h11) .pan fun x26 h27 =>
 obind (extractI x26 0) fun x28 =>
 obind (extractI x26 1) fun x29 =>
 obind2 (newI h27 z6) fun x30 h31 =>
 obindH (stA 256 h31 x30 x28) fun h32 =>
 condK x29
 (callP (cf 59 [a0, x30] h32) .pan fun x33 h34 =>
 callP (cf 58 [x33, x30] h34) .pan fun x35 h36 =>
 .ok x35 h36)
 (callP (cf 61 [a0, a1] h32) .pan fun x37 h38 =>
 callP (cf 60 [x37, a1] h38) .pan fun x39 h40 =>
 .ok x39 h40)))
theorem e43_0 {a0 a1 : IV} (e : t43_0 (CL T) (J43 T) a0 a1 h = r) (hr : r ≠ .fail) : J43 T 0 [a0, a1] h = r := fj_step (by kernel_rfl) e hr
theorem c43 (hT : OvStep T) (ho : T.ov 43 = none) (hp : T.pol 43 = true) {a0 a1 : IV} (hg : Gd h) (e : t43_0 (CL T) (J43 T) a0 a1 h = r) (hr : r ≠ .fail) : CL T 43 [a0, a1] h = r := call_good ho Tryd.func43 rfl rfl rfl hp hg hT (e43_0 e hr) hr
def js44 : List Jn := [⟨[], [0]⟩, ⟨[0, 1, 0, 1, 1], [3, 6, 7, 8]⟩]
noncomputable def J44 (T : Tab) : Rec := fj Tryd.prog (CL T) Tryd.f44 js44
noncomputable def t44_0 (cf : CallF) (R : Rec) (a0 : IV) (h : H) : CRes :=
 obind (lenS a0) fun x1 =>
 R 1 [(.int .i64 0), a0, x1, (.int .i64 0)] h
theorem e44_0 {a0 : IV} (e : t44_0 (CL T) (J44 T) a0 h = r) (hr : r ≠ .fail) : J44 T 0 [a0] h = r := fj_step (by kernel_rfl) e hr
noncomputable def t44_1 (cf : CallF) (R : Rec) (a3 a6 a7 a8 : IV) (h : H) : CRes :=
 obind (binN .lss a8 a7) fun x2 =>
 condK x2
 (obind (ixS 1 a6 a8) fun x3 =>
 obind (ld0 h x3) fun x4 =>
 obind (binN .neq x4 a3) fun x5 =>
 condK x5
 (.ok x4 h)
 (obind (binN .add a8 (.int .i64 1)) fun x6 =>
 R 1 [a3, a6, a7, x6] h))
 (.ok a3 h)
theorem e44_1 {a3 a6 a7 a8 : IV} (e : t44_1 (CL T) (J44 T) a3 a6 a7 a8 h = r) (hr : r ≠ .fail) : J44 T 1 [a3, a6, a7, a8] h = r := fj_step (by kernel_rfl) e hr
theorem c44 (hT : OvStep T) (ho : T.ov 44 = none) (hp : T.pol 44 = true) {a0 : IV} (hg : Gd h) (e : t44_0 (CL T) (J44 T) a0 h = r) (hr : r ≠ .fail) : CL T 44 [a0] h = r := call_good ho Tryd.func44 rfl rfl rfl hp hg hT (e44_0 e hr) hr
def js45 : List Jn := [⟨[], [0, 1]⟩]
noncomputable def J45 (T : Tab) : Rec := fj Tryd.prog (CL T) Tryd.f45 js45
noncomputable def t45_0 (cf : CallF) (R : Rec) (a0 a1 : IV) (h : H) : CRes :=
 callP (cf 62 [a0] h) .pan fun x1 h2 =>
 callP (cf 62 [a1] h2) .pan fun x3 h4 =>
 condK x1
 (condK x3
 (.ok (.int .i64 0) h4)
 (.ok (.int .i64 (-1)) h4))
 (condK x3
 (.ok (.int .i64 1) h4)
 (obind (binN .lss a0 a1) fun x5 =>
 condK x5
 (.ok (.int .i64 (-1)) h4)
 (obind (binN .gtr a0 a1) fun x6 =>
 condK x6
 (.ok (.int .i64 1) h4)
 (.ok (.int .i64 0) h4))))
theorem e45_0 {a0 a1 : IV} (e : t45_0 (CL T) (J45 T) a0 a1 h = r) (hr : r ≠ .fail) : J45 T 0 [a0, a1] h = r := fj_step (by kernel_rfl) e hr
theorem c45 (hT : OvStep T) (ho : T.ov 45 = none) (hp : T.pol 45 = true) {a0 a1 : IV} (hg : Gd h) (e : t45_0 (CL T) (J45 T) a0 a1 h = r) (hr : r ≠ .fail) : CL T 45 [a0, a1] h = r := call_good ho Tryd.func45 rfl rfl rfl hp hg hT (e45_0 e hr) hr
def js50 : List Jn := [⟨[], [0, 1]⟩]
noncomputable def J50 (T : Tab) : Rec := fj Tryd.prog (CL T) Tryd.f50 js50
noncomputable def t50_0 (cf : CallF) (R : Rec) (a0 a1 : IV) (h : H) : CRes :=
 callP (cf 70 [a0, a1] h) .pan fun x1 h2 =>
 .ok x1 h2
theorem e50_0 {a0 a1 : IV} (e : t50_0 (CL T) (J50 T) a0 a1 h = r) (hr : r ≠ .fail) : J50 T 0 [a0, a1] h = r := fj_step (by kernel_rfl) e hr
theorem c50 (hT : OvStep T) (ho : T.ov 50 = none) (hp : T.pol 50 = true) {a0 a1 : IV} (hg : Gd h) (e : t50_0 (CL T) (J50 T) a0 a1 h = r) (hr : r ≠ .fail) : CL T 50 [a0, a1] h = r := call_good ho Tryd.func50 rfl rfl rfl hp hg hT (e50_0 e hr) hr
def js51 : List Jn := [⟨[], [0, 1]⟩]
noncomputable def J51 (T : Tab) : Rec := fj Tryd.prog (CL T) Tryd.f51 js51
noncomputable def t51_0 (cf : CallF) (R : Rec) (a0 a1 : IV) (h : H) : CRes :=
 callP (cf 70 [a0, a1] h) .pan fun x1 h2 =>
 obind (binN .geq x1 (.int .i64 0)) fun x3 =>
 condK x3
 (obind (slcStr a0 none (some x1)) fun x4 =>
 obind (lenStr a1) fun x5 =>
 obind (binN .add x1 x5) fun x6 =>
 obind (slcStr a0 (some x6) none) fun x7 =>
 .ok (.tup [x4, x7, (.bool true)]) h2)
 (.ok (.tup [a0, (.str ⟨0, 0⟩), (.bool false)]) h2)
theorem e51_0 {a0 a1 : IV} (e : t51_0 (CL T) (J51 T) a0 a1 h = r) (hr : r ≠ .fail) : J51 T 0 [a0, a1] h = r := fj_step (by kernel_rfl) e hr
theorem c51 (hT : OvStep T) (ho : T.ov 51 = none) (hp : T.pol 51 = true) {a0 a1 : IV} (hg : Gd h) (e : t51_0 (CL T) (J51 T) a0 a1 h = r) (hr : r ≠ .fail) : CL T 51 [a0, a1] h = r := call_good ho Tryd.func51 rfl rfl rfl hp hg hT (e51_0 e hr) hr
def js53 : List Jn := [⟨[], [0, 1, 2, 3, 4]⟩]
noncomputable def J53 (T : Tab) : Rec := fj Tryd.prog (CL T) Tryd.f53 js53
noncomputable def t53_0 (cf : CallF) (R : Rec) (a0 a1 a2 a3 a4 : IV) (h : H) : CRes :=
 obind (eqIf .eql false a4 (.iface 106 (.int .i64 2))) fun x1 =>
 condK x1
 (callP (cf 72 [a0, a1] h) .pan fun x2 h3 =>
 .ok (.iface 109 x2) h3)
 (obind (eqIf .eql false a4 (.iface 106 (.int .i64 1))) fun x4 =>
 condK x4
 (callP (cf 73 [a0, a1] h) .pan fun x5 h6 =>
 .ok (.iface 109 x5) h6)
 (obind (eqIf .eql false a4 (.iface 106 (.int .i64 3))) fun x7 =>
 condK x7
 (callP (cf 74 [a0, a1, a2] h) .pan fun x8 h9 =>
 .ok (.iface 109 x8) h9)
 (obind (eqIf .eql false a4 (.iface 106 (.int .i64 4))) fun x10 =>
 condK x10
 (callP (cf 75 [a0, a1, a3] h) .pan fun x11 h12 =>
 .ok (.iface 109 x11) h12)
 (.ok a4 h))))
theorem e53_0 {a0 a1 a2 a3 a4 : IV} (e : t53_0 (CL T) (J53 T) a0 a1 a2 a3 a4 h = r) (hr : r ≠ .fail) : J53 T 0 [a0, a1, a2, a3, a4] h = r := fj_step (by kernel_rfl) e hr
theorem c53 (hT : OvStep T) (ho : T.ov 53 = none) (hp : T.pol 53 = true) {a0 a1 a2 a3 a4 : IV} (hg : Gd h) (e : t53_0 (CL T) (J53 T) a0 a1 a2 a3 a4 h = r) (hr : r ≠ .fail) : CL T 53 [a0, a1, a2, a3, a4] h = r := call_good ho Tryd.func53 rfl rfl rfl hp hg hT (e53_0 e hr) hr
def js54 : List Jn := [⟨[], [0, 1, 2]⟩, ⟨[0, 1, 0, 1], [1, 2, 10]⟩]
noncomputable def J54 (T : Tab) : Rec := fj Tryd.prog (CL T) Tryd.f54 js54
noncomputable def t54_0 (cf : CallF) (R : Rec) (a0 a1 a2 : IV) (h : H) : CRes :=
 obind2 (rngS h a0) fun x1 h2 =>
 R 1 [a1, a2, x1] h2
theorem e54_0 {a0 a1 a2 : IV} (e : t54_0 (CL T) (J54 T) a0 a1 a2 h = r) (hr : r ≠ .fail) : J54 T 0 [a0, a1, a2] h = r := fj_step (by kernel_rfl) e hr
noncomputable def t54_1 (cf : CallF) (R : Rec) (a1 a2 a10 : IV) (h : H) : CRes :=
 obind2 (nextI h a10 true) fun x3 h4 =>
 obind (extractI x3 0) fun x5 =>
 condK x5
 (obind (extractI x3 1) fun x6 =>
 obind (extractI x3 2) fun x7 =>
 funK a1 fun f10 c11 => callP (cf f10 ([x7] ++ c11) h4) .pan fun x8 h9 =>
 obind (eqB .eql x8 a2) fun x12 =>
 condK x12
 (.ok x6 h9)
 (R 1 [a1, a2, a10] h9))
 (.ok (.int .i64 (-1)) h4)
theorem e54_1 {a1 a2 a10 : IV} (e : t54_1 (CL T) (J54 T) a1 a2 a10 h = r) (hr : r ≠ .fail) : J54 T 1 [a1, a2, a10] h = r := fj_step (by kernel_rfl) e hr
theorem c54 (hT : OvStep T) (ho : T.ov 54 = none) (hp : T.pol 54 = true) {a0 a1 a2 : IV} (hg : Gd h) (e : t54_0 (CL T) (J54 T) a0 a1 a2 h = r) (hr : r ≠ .fail) : CL T 54 [a0, a1, a2] h = r := call_good ho Tryd.func54 rfl rfl rfl hp hg hT (e54_0 e hr) hr
def js55 : List Jn := [⟨[], [0, 1]⟩, ⟨[0, 0, 1], [0, 1]⟩]
noncomputable def J55 (T : Tab) : Rec := fj Tryd.prog (CL T) Tryd.f55 js55
noncomputable def t55_0 (cf : CallF) (R : Rec) (a0 a1 : IV) (h : H) : CRes :=
 R 1 [a0, a1] h
theorem e55_0 {a0 a1 : IV} (e : t55_0 (CL T) (J55 T) a0 a1 h = r) (hr : r ≠ .fail) : J55 T 0 [a0, a1] h = r := fj_step (by kernel_rfl) e hr
noncomputable def t55_1 (cf : CallF) (R : Rec) (a0 a1 : IV) (h : H) : CRes :=
 obind (lenStr a0) fun x1 =>
 obind (binN .gtr x1 (.int .i64 0)) fun x2 =>
 spanK x2 true h (fun k3 =>
 obind (ixStr a0 (.int .i64 0)) fun x6 =>
 obind (binN .eql x6 a1) fun x7 =>
 k3 x7 h) fun x4 h5 =>
 obind (pickI x2 (some x4) (some (.bool false))) fun x8 =>
 condK x8
 (obind (slcStr a0 (some (.int .i64 1)) none) fun x9 =>
 R 1 [x9, a1] h5)
 (.ok a0 h5)
theorem e55_1 {a0 a1 : IV} (e : t55_1 (CL T) (J55 T) a0 a1 h = r) (hr : r ≠ .fail) : J55 T 1 [a0, a1] h = r := fj_step (by kernel_rfl) e hr
theorem c55 (hT : OvStep T) (ho : T.ov 55 = none) (hp : T.pol 55 = true) {a0 a1 : IV} (hg : Gd h) (e : t55_0 (CL T) (J55 T) a0 a1 h = r) (hr : r ≠ .fail) : CL T 55 [a0, a1] h = r := call_good ho Tryd.func55 rfl rfl rfl hp hg hT (e55_0 e hr) hr
def js56 : List Jn := [⟨[], [0, 1]⟩, ⟨[0, 0, 1], [0, 1]⟩]
noncomputable def J56 (T : Tab) : Rec := fj Tryd.prog (CL T) Tryd.f56 js56
noncomputable def t56_0 (cf : CallF) (R : Rec) (a0 a1 : IV) (h : H) : CRes :=
 R 1 [a0, a1] h
theorem e56_0 {a0 a1 : IV} (e : t56_0 (CL T) (J56 T) a0 a1 h = r) (hr : r ≠ .fail) : J56 T 0 [a0, a1] h = r := fj_step (by kernel_rfl) e hr
noncomputable def t56_1 (cf : CallF) (R : Rec) (a0 a1 : IV) (h : H) : CRes :=
 obind (lenStr a0) fun x1 =>
 obind (binN .gtr x1 (.int .i64 0)) fun x2 =>
 spanK x2 true h (fun k3 =>
 obind (lenStr a0) fun x6 =>
 obind (binN .sub x6 (.int .i64 1)) fun x7 =>
 obind (ixStr a0 x7) fun x8 =>
 obind (binN .eql x8 a1) fun x9 =>
 k3 x9 h) fun x4 h5 =>
 obind (pickI x2 (some x4) (some (.bool false))) fun x10 =>
 condK x10
 (obind (lenStr a0) fun x11 =>
 obind (binN .sub x11 (.int .i64 1)) fun x12 =>
 obind (slcStr a0 none (some x12)) fun x13 =>
 R 1 [x13, a1] h5)
 (.ok a0 h5)
theorem e56_1 {a0 a1 : IV} (e : t56_1 (CL T) (J56 T) a0 a1 h = r) (hr : r ≠ .fail) : J56 T 1 [a0, a1] h = r := fj_step (by kernel_rfl) e hr
theorem c56 (hT : OvStep T) (ho : T.ov 56 = none) (hp : T.pol 56 = true) {a0 a1 : IV} (hg : Gd h) (e : t56_0 (CL T) (J56 T) a0 a1 h = r) (hr : r ≠ .fail) : CL T 56 [a0, a1] h = r := call_good ho Tryd.func56 rfl rfl rfl hp hg hT (e56_0 e hr) hr
def js58 : List Jn := [⟨[], [0, 1]⟩, ⟨[1, 1], [0]⟩, ⟨[0, 0, 1], [0, 1]⟩]
noncomputable def J58 (T : Tab) : Rec := fj Tryd.prog (CL T) Tryd.f58 js58
noncomputable def t58_0 (cf : CallF) (R : Rec) (a0 a1 : IV) (h : H) : CRes :=
 R 2 [a0, a1] h
theorem e58_0 {a0 a1 : IV} (e : t58_0 (CL T) (J58 T) a0 a1 h = r) (hr : r ≠ .fail) : J58 T 0 [a0, a1] h = r := fj_step (by kernel_rfl) e hr
noncomputable def t58_2 (cf : CallF) (R : Rec) (a0 a1 : IV) (h : H) : CRes :=
 obind (lenStr a0) fun x1 =>
 obind (binN .gtr x1 (.int .i64 0)) fun x2 =>
 condK x2
 (obind (ixStr a0 (.int .i64 0)) fun x3 =>
 callP (cf 76 [a1, x3] h) .pan fun x4 h5 =>
 obind (unI .not x4) fun x6 =>
 condK x6
 (R 1 [a0] h5)
 (obind (slcStr a0 (some (.int .i64 1)) none) fun x7 =>
 R 2 [x7, a1] h5))
 (R 1 [a0] h)
theorem e58_2 {a0 a1 : IV} (e : t58_2 (CL T) (J58 T) a0 a1 h = r) (hr : r ≠ .fail) : J58 T 2 [a0, a1] h = r := fj_step (by kernel_rfl) e hr
noncomputable def t58_1 (cf : CallF) (R : Rec) (a0 : IV) (h : H) : CRes :=
 .ok a0 h
theorem e58_1 {a0 : IV} (e : t58_1 (CL T) (J58 T) a0 h = r) (hr : r ≠ .fail) : J58 T 1 [a0] h = r := fj_step (by kernel_rfl) e hr
theorem c58 (hT : OvStep T) (ho : T.ov 58 = none) (hp : T.pol 58 = true) {a0 a1 : IV} (hg : Gd h) (e : t58_0 (CL T) (J58 T) a0 a1 h = r) (hr : r ≠ .fail) : CL T 58 [a0, a1] h = r := call_good ho Tryd.func58 rfl rfl rfl hp hg hT (e58_0 e hr) hr
def js59 : List Jn := [⟨[], [0, 1]⟩, ⟨[1, 1], [0]⟩, ⟨[0, 0, 1], [0, 1]⟩]
noncomputable def J59 (T : Tab) : Rec := fj Tryd.prog (CL T) Tryd.f59 js59
noncomputable def t59_0 (cf : CallF) (R : Rec) (a0 a1 : IV) (h : H) : CRes :=
 R 2 [a0, a1] h
theorem e59_0 {a0 a1 : IV} (e : t59_0 (CL T) (J59 T) a0 a1 h = r) (hr : r ≠ .fail) : J59 T 0 [a0, a1] h = r := fj_step (by kernel_rfl) e hr
noncomputable def t59_2 (cf : CallF) (R : Rec) (a0 a1 : IV) (h : H) : CRes :=
 obind (lenStr a0) fun x1 =>
 obind (binN .gtr x1 (.int .i64 0)) fun x2 =>
 condK x2
 (obind (lenStr a0) fun x3 =>
 obind (binN .sub x3 (.int .i64 1)) fun x4 =>
 obind (ixStr a0 x4) fun x5 =>
 callP (cf 76 [a1, x5] h) .pan fun x6 h7 =>
 obind (unI .not x6) fun x8 =>
 condK x8
 (R 1 [a0] h7)
 (obind (lenStr a0) fun x9 =>
 obind (binN .sub x9 (.int .i64 1)) fun x10 =>
 obind (slcStr a0 none (some x10)) fun x11 =>
 R 2 [x11, a1] h7))
 (R 1 [a0] h)
theorem e59_2 {a0 a1 : IV} (e : t59_2 (CL T) (J59 T) a0 a1 h = r) (hr : r ≠ .fail) : J59 T 2 [a0, a1] h = r := fj_step (by kernel_rfl) e hr
noncomputable def t59_1 (cf : CallF) (R : Rec) (a0 : IV) (h : H) : CRes :=
 .ok a0 h
theorem e59_1 {a0 : IV} (e : t59_1 (CL T) (J59 T) a0 h = r) (hr : r ≠ .fail) : J59 T 1 [a0] h = r := fj_step (by kernel_rfl) e hr
theorem c59 (hT : OvStep T) (ho : T.ov 59 = none) (hp : T.pol 59 = true) {a0 a1 : IV} (hg : Gd h) (e : t59_0 (CL T) (J59 T) a0 a1 h = r) (hr : r ≠ .fail) : CL T 59 [a0, a1] h = r := call_good ho Tryd.func59 rfl rfl rfl hp hg hT (e59_0 e hr) hr
def js62 : List Jn := [⟨[], [0]⟩]
noncomputable def J62 (T : Tab) : Rec := fj Tryd.prog (CL T) Tryd.f62 js62
noncomputable def t62_0 (cf : CallF) (R : Rec) (a0 : IV) (h : H) : CRes :=
 obind (binN .neq a0 a0) fun x1 =>
 .ok x1 h
theorem e62_0 {a0 : IV} (e : t62_0 (CL T) (J62 T) a0 h = r) (hr : r ≠ .fail) : J62 T 0 [a0] h = r := fj_step (by kernel_rfl) e hr
theorem c62 (hT : OvStep T) (ho : T.ov 62 = none) (hp : T.pol 62 = true) {a0 : IV} (hg : Gd h) (e : t62_0 (CL T) (J62 T) a0 h = r) (hr : r ≠ .fail) : CL T 62 [a0] h = r := call_good ho Tryd.func62 rfl rfl rfl hp hg hT (e62_0 e hr) hr
def js75 : List Jn := [⟨[], [0, 1, 2]⟩]
noncomputable def J75 (T : Tab) : Rec := fj Tryd.prog (CL T) Tryd.f75 js75
noncomputable def t75_0 (cf : CallF) (R : Rec) (a0 a1 a2 : IV) (h : H) : CRes :=
 callP (cf 90 [a1] h) .pan fun x1 h2 =>
 callP (cf 17 [a2] h2) .pan fun x3 h4 =>
 obind (binS .add (.str ⟨17, 11023923368035339908895700075316841442921⟩) x3) fun x5 =>
 callP (cf 91 [x5] h4) .pan fun x6 h7 =>
 obind (bldK z7 p5 [(0, a0), (1, x1), (2, x6)]) fun x8 =>
 obind2 (newI h7 (IV.cells x8)) fun x9 h10 =>
 .ok x9 h10
theorem e75_0 {a0 a1 a2 : IV} (e : t75_0 (CL T) (J75 T) a0 a1 a2 h = r) (hr : r ≠ .fail) : J75 T 0 [a0, a1, a2] h = r := fj_step (by kernel_rfl) e hr
theorem c75 (hT : OvStep T) (ho : T.ov 75 = none) (hp : T.pol 75 = true) {a0 a1 a2 : IV} (hg : Gd h) (e : t75_0 (CL T) (J75 T) a0 a1 a2 h = r) (hr : r ≠ .fail) : CL T 75 [a0, a1, a2] h = r := call_good ho Tryd.func75 rfl rfl rfl hp hg hT (e75_0 e hr) hr
def js76 : List Jn := [⟨[], [0, 1]⟩]
noncomputable def J76 (T : Tab) : Rec := fj Tryd.prog (CL T) Tryd.f76 js76
noncomputable def t76_0 (cf : CallF) (R : Rec) (a0 a1 : IV) (h : H) : CRes :=
 obind (nilI a0) fun x1 =>
 obind (ixA 256 1 x1 a1) fun x2 =>
 obind (ld0 h x2) fun x3 =>
 .ok x3 h
theorem e76_0 {a0 a1 : IV} (e : t76_0 (CL T) (J76 T) a0 a1 h = r) (hr : r ≠ .fail) : J76 T 0 [a0, a1] h = r := fj_step (by kernel_rfl) e hr
theorem c76 (hT : OvStep T) (ho : T.ov 76 = none) (hp : T.pol 76 = true) {a0 a1 : IV} (hg : Gd h) (e : t76_0 (CL T) (J76 T) a0 a1 h = r) (hr : r ≠ .fail) : CL T 76 [a0, a1] h = r := call_good ho Tryd.func76 rfl rfl rfl hp hg hT (e76_0 e hr) hr
def js80 : List Jn := [⟨[], [0]⟩, ⟨[1, 1], [0, 2]⟩, ⟨[1, 1, 1], [0, 2]⟩, ⟨[1, 1, 1, 1], [0, 2]⟩]
noncomputable def J80 (T : Tab) : Rec := fj Tryd.prog (CL T) Tryd.f80 js80
noncomputable def t80_0 (cf : CallF) (R : Rec) (a0 : IV) (h : H) : CRes :=
 obind (binN .geq a0 (.int .u64 4294967296)) fun x1 =>
 condK x1
 (obind (binN .shr a0 (.int .u64 32)) fun x2 =>
 R 1 [x2, (.int .i64 32)] h)
 (R 1 [a0, (.int .i64 0)] h)
theorem e80_0 {a0 : IV} (e : t80_0 (CL T) (J80 T) a0 h = r) (hr : r ≠ .fail) : J80 T 0 [a0] h = r := fj_step (by kernel_rfl) e hr
theorem c80 (hT : OvStep T) (ho : T.ov 80 = none) (hp : T.pol 80 = true) {a0 : IV} (hg : Gd h) (e : t80_0 (CL T) (J80 T) a0 h = r) (hr : r ≠ .fail) : CL T 80 [a0] h = r := call_good ho Tryd.func80 rfl rfl rfl hp hg hT (e80_0 e hr) hr
def js85 : List Jn := [⟨[], [0, 1]⟩]
noncomputable def J85 (T : Tab) : Rec := fj Tryd.prog (CL T) Tryd.f85 js85
noncomputable def t85_0 (cf : CallF) (R : Rec) (a0 a1 : IV) (h : H) : CRes :=
 callP (cf 96 [a0, a1] h) .pan fun x1 h2 =>
 .ok x1 h2
theorem e85_0 {a0 a1 : IV} (e : t85_0 (CL T) (J85 T) a0 a1 h = r) (hr : r ≠ .fail) : J85 T 0 [a0, a1] h = r := fj_step (by kernel_rfl) e hr
theorem c85 (hT : OvStep T) (ho : T.ov 85 = none) (hp : T.pol 85 = true) {a0 a1 : IV} (hg : Gd h) (e : t85_0 (CL T) (J85 T) a0 a1 h = r) (hr : r ≠ .fail) : CL T 85 [a0, a1] h = r := call_good ho Tryd.func85 rfl rfl rfl hp hg hT (e85_0 e hr) hr
def js95 : List Jn := [⟨[], [0]⟩]
noncomputable def J95 (T : Tab) : Rec := fj Tryd.prog (CL T) Tryd.f95 js95
noncomputable def t95_0 (cf : CallF) (R : Rec) (a0 : IV) (h : H) : CRes :=
 obind (binN .eql a0 (.int .u64 0)) fun x1 =>
 condK x1
 (.ok (.int .i64 64) h)
 (obind (unI .neg a0) fun x2 =>
 obind (binN .and a0 x2) fun x3 =>
 obind (binN .mul x3 (.int .u64 285870213051353865)) fun x4 =>
 obind (binN .shr x4 (.int .u64 58)) fun x5 =>
 CRes.fail)
theorem e95_0 {a0 : IV} (e : t95_0 (CL T) (J95 T) a0 h = r) (hr : r ≠ .fail) : J95 T 0 [a0] h = r := fj_step (by kernel_rfl) e hr
theorem c95 (hT : OvStep T) (ho : T.ov 95 = none) (hp : T.pol 95 = true) {a0 : IV} (hg : Gd h) (e : t95_0 (CL T) (J95 T) a0 h = r) (hr : r ≠ .fail) : CL T 95 [a0] h = r := call_good ho Tryd.func95 rfl rfl rfl hp hg hT (e95_0 e hr) hr
def js98 : List Jn := [⟨[], [0]⟩]
noncomputable def J98 (T : Tab) : Rec := fj Tryd.prog (CL T) Tryd.f98 js98
noncomputable def t98_0 (cf : CallF) (R : Rec) (a0 : IV) (h : H) : CRes :=
 obind (binN .or a0 (.int .u8 32)) fun x1 =>
 .ok x1 h
theorem e98_0 {a0 : IV} (e : t98_0 (CL T) (J98 T) a0 h = r) (hr : r ≠ .fail) : J98 T 0 [a0] h = r := fj_step (by kernel_rfl) e hr
theorem c98 (hT : OvStep T) (ho : T.ov 98 = none) (hp : T.pol 98 = true) {a0 : IV} (hg : Gd h) (e : t98_0 (CL T) (J98 T) a0 h = r) (hr : r ≠ .fail) : CL T 98 [a0] h = r := call_good ho Tryd.func98 rfl rfl rfl hp hg hT (e98_0 e hr) hr
end Go.Proofs.YtdccdfmbakbikaaDoor
namespace Go.Proofs.YtdccdfmbakbikaaDoor
open Go Go.Shelf
def lay138_ren : Go.Shelf.Ren := ⟨fun | 138 => 49 | 195 => 67 | 218 => 69 | 143 => 50 | 219 => 70 | 217 => 85 | 225 => 86 | 224 => 87 | 267 => 88 | 266 => 96 | 314 => 97 | n => n, fun | 9 => 9 | 3 => 3 | 4 => 4 | 5 => 5 | 0 => 0 | 46 => 119 | 146 => 133 | 51 => 117 | n => n, fun | 1 => 1 | n => n⟩
theorem lay138 : Go.Proofs.Lays.n138 Tryd.prog lay138_ren where
  mixed := by kernel_rfl
  f138 := Tryd.func49.trans (congrArg some (by kernel_rfl))
  f143 := Tryd.func50.trans (congrArg some (by kernel_rfl))
  f195 := Tryd.func67.trans (congrArg some (by kernel_rfl))
  f217 := Tryd.func85.trans (congrArg some (by kernel_rfl))
  f218 := Tryd.func69.trans (congrArg some (by kernel_rfl))
  f219 := Tryd.func70.trans (congrArg some (by kernel_rfl))
  f224 := Tryd.func87.trans (congrArg some (by kernel_rfl))
  f225 := Tryd.func86.trans (congrArg some (by kernel_rfl))
  f266 := Tryd.func96.trans (congrArg some (by kernel_rfl))
  f267 := Tryd.func88.trans (congrArg some (by kernel_rfl))
  f314 := Tryd.func97.trans (congrArg some (by kernel_rfl))
  t0 := Tryd.underlying0
  a0 := Tryd.isAgg0
  z0 := Tryd.sizeOf0
  v0 := Tryd.zeroValue0
  t3 := Tryd.underlying3
  a3 := Tryd.isAgg3
  z3 := Tryd.sizeOf3
  v3 := Tryd.zeroValue3
  t4 := Tryd.underlying4
  a4 := Tryd.isAgg4
  z4 := Tryd.sizeOf4
  v4 := Tryd.zeroValue4
  t5 := Tryd.underlying5
  a5 := Tryd.isAgg5
  z5 := Tryd.sizeOf5
  v5 := Tryd.zeroValue5
  t9 := Tryd.underlying9
  a9 := Tryd.isAgg9
  z9 := Tryd.sizeOf9
  v9 := Tryd.zeroValue9
  t46 := Tryd.underlying119
  a46 := Tryd.isAgg119
  z46 := Tryd.sizeOf119
  v46 := Tryd.zeroValue119
  t51 := Tryd.underlying117
  a51 := Tryd.isAgg117
  z51 := Tryd.sizeOf117
  v51 := Tryd.zeroValue117
  t146 := Tryd.underlying133
  a146 := Tryd.isAgg133
  z146 := Tryd.sizeOf133
  v146 := Tryd.zeroValue133
  g1 := by kernel_rfl
def lay219_ren : Go.Shelf.Ren := ⟨fun | 219 => 70 | 217 => 85 | 225 => 86 | 224 => 87 | 267 => 88 | 266 => 96 | 314 => 97 | n => n, fun | 9 => 9 | 3 => 3 | 4 => 4 | 5 => 5 | 46 => 119 | 146 => 133 | 51 => 117 | n => n, fun | 1 => 1 | n => n⟩
theorem lay219 : Go.Proofs.LaysM.n219 Tryd.prog lay219_ren where
  mixed := by kernel_rfl
  f217 := Tryd.func85.trans (congrArg some (by kernel_rfl))
  f219 := Tryd.func70.trans (congrArg some (by kernel_rfl))
  f224 := Tryd.func87.trans (congrArg some (by kernel_rfl))
  f225 := Tryd.func86.trans (congrArg some (by kernel_rfl))
  f266 := Tryd.func96.trans (congrArg some (by kernel_rfl))
  f267 := Tryd.func88.trans (congrArg some (by kernel_rfl))
  f314 := Tryd.func97.trans (congrArg some (by kernel_rfl))
  t3 := Tryd.underlying3
  a3 := Tryd.isAgg3
  z3 := Tryd.sizeOf3
  v3 := Tryd.zeroValue3
  t4 := Tryd.underlying4
  a4 := Tryd.isAgg4
  z4 := Tryd.sizeOf4
  v4 := Tryd.zeroValue4
  t5 := Tryd.underlying5
  a5 := Tryd.isAgg5
  z5 := Tryd.sizeOf5
  v5 := Tryd.zeroValue5
  t9 := Tryd.underlying9
  a9 := Tryd.isAgg9
  z9 := Tryd.sizeOf9
  v9 := Tryd.zeroValue9
  t46 := Tryd.underlying119
  a46 := Tryd.isAgg119
  z46 := Tryd.sizeOf119
  v46 := Tryd.zeroValue119
  t51 := Tryd.underlying117
  a51 := Tryd.isAgg117
  z51 := Tryd.sizeOf117
  v51 := Tryd.zeroValue117
  t146 := Tryd.underlying133
  a146 := Tryd.isAgg133
  z146 := Tryd.sizeOf133
  v146 := Tryd.zeroValue133
  g1 := by kernel_rfl
  i3 := by kernel_rfl
  i4 := by kernel_rfl
  i5 := by kernel_rfl
  i9 := by kernel_rfl
  i46 := by kernel_rfl
  i51 := by kernel_rfl
  i146 := by kernel_rfl
  m1 := by kernel_rfl
  s1_3 := fun w h => Go.Proofs.cell_of_shapedOpen_int (zero := #[.int .i64 0]) (t := 3) h (of_decide_eq_true (by kernel_rfl)) (by kernel_rfl) rfl (by kernel_rfl) (by kernel_rfl) Tryd.underlying3
def lay171_ren : Go.Shelf.Ren := ⟨fun | 171 => 17 | 243 => 38 | 246 => 47 | 283 => 63 | 284 => 64 | 285 => 65 | 286 => 66 | 129 => 80 | 317 => 79 | 318 => 81 | 319 => 82 | 320 => 83 | 337 => 94 | 338 => 95 | n => n, fun | 3 => 3 | 9 => 9 | 2 => 2 | 4 => 4 | 171 => 97 | 0 => 0 | 53 => 98 | 37 => 44 | 5 => 5 | 173 => 101 | 212 => 116 | 51 => 117 | 20 => 20 | 213 => 118 | 46 => 119 | 232 => 139 | 233 => 140 | n => n, fun | 17 => 0 | 18 => 6 | 19 => 7 | n => n⟩
theorem lay171 : Go.Proofs.LaysM.n171 Tryd.prog lay171_ren where
  mixed := by kernel_rfl
  f129 := Tryd.func80.trans (congrArg some (by kernel_rfl))
  f171 := Tryd.func17.trans (congrArg some (by kernel_rfl))
  f243 := Tryd.func38.trans (congrArg some (by kernel_rfl))
  f246 := Tryd.func47.trans (congrArg some (by kernel_rfl))
  f283 := Tryd.func63.trans (congrArg some (by kernel_rfl))
  f284 := Tryd.func64.trans (congrArg some (by kernel_rfl))
  f285 := Tryd.func65.trans (congrArg some (by kernel_rfl))
  f286 := Tryd.func66.trans (congrArg some (by kernel_rfl))
  f317 := Tryd.func79.trans (congrArg some (by kernel_rfl))
  f318 := Tryd.func81.trans (congrArg some (by kernel_rfl))
  f319 := Tryd.func82.trans (congrArg some (by kernel_rfl))
  f320 := Tryd.func83.trans (congrArg some (by kernel_rfl))
  f337 := Tryd.func94.trans (congrArg some (by kernel_rfl))
  f338 := Tryd.func95.trans (congrArg some (by kernel_rfl))
  t0 := Tryd.underlying0
  a0 := Tryd.isAgg0
  z0 := Tryd.sizeOf0
  v0 := Tryd.zeroValue0
  t2 := Tryd.underlying2
  a2 := Tryd.isAgg2
  z2 := Tryd.sizeOf2
  v2 := Tryd.zeroValue2
  t3 := Tryd.underlying3
  a3 := Tryd.isAgg3
  z3 := Tryd.sizeOf3
  v3 := Tryd.zeroValue3
  t4 := Tryd.underlying4
  a4 := Tryd.isAgg4
  z4 := Tryd.sizeOf4
  v4 := Tryd.zeroValue4
  t5 := Tryd.underlying5
  a5 := Tryd.isAgg5
  z5 := Tryd.sizeOf5
  v5 := Tryd.zeroValue5
  t9 := Tryd.underlying9
  a9 := Tryd.isAgg9
  z9 := Tryd.sizeOf9
  v9 := Tryd.zeroValue9
  t20 := Tryd.underlying20
  a20 := Tryd.isAgg20
  z20 := Tryd.sizeOf20
  v20 := Tryd.zeroValue20
  t37 := Tryd.underlying44
  a37 := Tryd.isAgg44
  z37 := Tryd.sizeOf44
  v37 := Tryd.zeroValue44
  t46 := Tryd.underlying119
  a46 := Tryd.isAgg119
  z46 := Tryd.sizeOf119
  v46 := Tryd.zeroValue119
  t51 := Tryd.underlying117
  a51 := Tryd.isAgg117
  z51 := Tryd.sizeOf117
  v51 := Tryd.zeroValue117
  t53 := Tryd.underlying98
  a53 := Tryd.isAgg98
  z53 := Tryd.sizeOf98
  v53 := Tryd.zeroValue98
  t171 := Tryd.underlying97
  a171 := Tryd.isAgg97
  z171 := Tryd.sizeOf97
  v171 := Tryd.zeroValue97
  t173 := Tryd.underlying101
  a173 := Tryd.isAgg101
  z173 := Tryd.sizeOf101
  v173 := Tryd.zeroValue101
  t212 := Tryd.underlying116
  a212 := Tryd.isAgg116
  z212 := Tryd.sizeOf116
  v212 := Tryd.zeroValue116
  t213 := Tryd.underlying118
  a213 := Tryd.isAgg118
  z213 := Tryd.sizeOf118
  t232 := Tryd.underlying139
  a232 := Tryd.isAgg139
  z232 := Tryd.sizeOf139
  v232 := Tryd.zeroValue139
  t233 := Tryd.underlying140
  a233 := Tryd.isAgg140
  z233 := Tryd.sizeOf140
  v233 := Tryd.zeroValue140
  g17 := by kernel_rfl
  g18 := by kernel_rfl
  g19 := by kernel_rfl
  i0 := by kernel_rfl
  i2 := by kernel_rfl
  i3 := by kernel_rfl
  i4 := by kernel_rfl
  i5 := by kernel_rfl
  i9 := by kernel_rfl
  i20 := by kernel_rfl
  i37 := by kernel_rfl
  i46 := by kernel_rfl
  i51 := by kernel_rfl
  i53 := by kernel_rfl
  i171 := by kernel_rfl
  i173 := by kernel_rfl
  i212 := by kernel_rfl
  i232 := by kernel_rfl
  i233 := by kernel_rfl
  m17 := by kernel_rfl
  m18 := by kernel_rfl
  m19 := by kernel_rfl
end Go.Proofs.YtdccdfmbakbikaaDoor
namespace Go.Proofs.YtdccdfmbakbikaaDoor
open Go Go.Shelf
def lay172_ren : Go.Shelf.Ren := ⟨fun | 172 => 41 | 244 => 52 | 245 => 53 | 247 => 71 | 279 => 72 | 280 => 73 | 281 => 74 | 282 => 75 | 287 => 89 | 316 => 90 | 171 => 17 | 205 => 91 | 321 => 98 | 322 => 99 | 243 => 38 | 246 => 47 | 283 => 63 | 284 => 64 | 285 => 65 | 286 => 66 | 129 => 80 | 317 => 79 | 318 => 81 | 319 => 82 | 320 => 83 | 337 => 94 | 338 => 95 | n => n, fun | 9 => 9 | 3 => 3 | 75 => 48 | 76 => 49 | 4 => 4 | 5 => 5 | 167 => 106 | 37 => 44 | 0 => 0 | 85 => 107 | 2 => 2 | 168 => 109 | 53 => 98 | 175 => 121 | 46 => 119 | 210 => 125 | 127 => 73 | 145 => 138 | 143 => 136 | 21 => 21 | 171 => 97 | 173 => 101 | 212 => 116 | 51 => 117 | 20 => 20 | 213 => 118 | 232 => 139 | 233 => 140 | 80 => 53 | n => n, fun | 15 => 2 | 16 => 3 | 17 => 0 | 18 => 6 | 19 => 7 | n => n⟩
theorem lay172 : Go.Proofs.LaysC.n172 Tryd.prog lay172_ren where
  mixed := by kernel_rfl
  f129 := Tryd.func80.trans (congrArg some (by kernel_rfl))
  f171 := Tryd.func17.trans (congrArg some (by kernel_rfl))
  f172 := Tryd.func41.trans (congrArg some (by kernel_rfl))
  f205 := Tryd.func91.trans (congrArg some (by kernel_rfl))
  f243 := Tryd.func38.trans (congrArg some (by kernel_rfl))
  f244 := Tryd.func52.trans (congrArg some (by kernel_rfl))
  f245 := Tryd.func53.trans (congrArg some (by kernel_rfl))
  f246 := Tryd.func47.trans (congrArg some (by kernel_rfl))
  f247 := Tryd.func71.trans (congrArg some (by kernel_rfl))
  f279 := Tryd.func72.trans (congrArg some (by kernel_rfl))
  f280 := Tryd.func73.trans (congrArg some (by kernel_rfl))
  f281 := Tryd.func74.trans (congrArg some (by kernel_rfl))
  f282 := Tryd.func75.trans (congrArg some (by kernel_rfl))
  f283 := Tryd.func63.trans (congrArg some (by kernel_rfl))
  f284 := Tryd.func64.trans (congrArg some (by kernel_rfl))
  f285 := Tryd.func65.trans (congrArg some (by kernel_rfl))
  f286 := Tryd.func66.trans (congrArg some (by kernel_rfl))
  f287 := Tryd.func89.trans (congrArg some (by kernel_rfl))
  f316 := Tryd.func90.trans (congrArg some (by kernel_rfl))
  f317 := Tryd.func79.trans (congrArg some (by kernel_rfl))
  f318 := Tryd.func81.trans (congrArg some (by kernel_rfl))
  f319 := Tryd.func82.trans (congrArg some (by kernel_rfl))
  f320 := Tryd.func83.trans (congrArg some (by kernel_rfl))
  f321 := Tryd.func98.trans (congrArg some (by kernel_rfl))
  f322 := Tryd.func99.trans (congrArg some (by kernel_rfl))
  f337 := Tryd.func94.trans (congrArg some (by kernel_rfl))
  f338 := Tryd.func95.trans (congrArg some (by kernel_rfl))
  t0 := Tryd.underlying0
  a0 := Tryd.isAgg0
  z0 := Tryd.sizeOf0
  v0 := Tryd.zeroValue0
  t2 := Tryd.underlying2
  a2 := Tryd.isAgg2
  z2 := Tryd.sizeOf2
  v2 := Tryd.zeroValue2
  t3 := Tryd.underlying3
  a3 := Tryd.isAgg3
  z3 := Tryd.sizeOf3
  v3 := Tryd.zeroValue3
  t4 := Tryd.underlying4
  a4 := Tryd.isAgg4
  z4 := Tryd.sizeOf4
  v4 := Tryd.zeroValue4
  t5 := Tryd.underlying5
  a5 := Tryd.isAgg5
  z5 := Tryd.sizeOf5
  v5 := Tryd.zeroValue5
  t9 := Tryd.underlying9
  a9 := Tryd.isAgg9
  z9 := Tryd.sizeOf9
  v9 := Tryd.zeroValue9
  t20 := Tryd.underlying20
  a20 := Tryd.isAgg20
  z20 := Tryd.sizeOf20
  v20 := Tryd.zeroValue20
  t21 := Tryd.underlying21
  a21 := Tryd.isAgg21
  z21 := Tryd.sizeOf21
  v21 := Tryd.zeroValue21
  t37 := Tryd.underlying44
  a37 := Tryd.isAgg44
  z37 := Tryd.sizeOf44
  v37 := Tryd.zeroValue44
  t46 := Tryd.underlying119
  a46 := Tryd.isAgg119
  z46 := Tryd.sizeOf119
  v46 := Tryd.zeroValue119
  t51 := Tryd.underlying117
  a51 := Tryd.isAgg117
  z51 := Tryd.sizeOf117
  v51 := Tryd.zeroValue117
  t53 := Tryd.underlying98
  a53 := Tryd.isAgg98
  z53 := Tryd.sizeOf98
  v53 := Tryd.zeroValue98
  t75 := Tryd.underlying48
  a75 := Tryd.isAgg48
  z75 := Tryd.sizeOf48
  v75 := Tryd.zeroValue48
  t76 := Tryd.underlying49
  a76 := Tryd.isAgg49
  z76 := Tryd.sizeOf49
  v76 := Tryd.zeroValue49
  t85 := Tryd.underlying107
  a85 := Tryd.isAgg107
  z85 := Tryd.sizeOf107
  v85 := Tryd.zeroValue107
  t127 := Tryd.underlying73
  a127 := Tryd.isAgg73
  z127 := Tryd.sizeOf73
  v127 := Tryd.zeroValue73
  t143 := Tryd.underlying136
  a143 := Tryd.isAgg136
  z143 := Tryd.sizeOf136
  v143 := Tryd.zeroValue136
  t145 := Tryd.underlying138
  a145 := Tryd.isAgg138
  z145 := Tryd.sizeOf138
  v145 := Tryd.zeroValue138
  t167 := Tryd.underlying106
  a167 := Tryd.isAgg106
  z167 := Tryd.sizeOf106
  v167 := Tryd.zeroValue106
  t168 := Tryd.underlying109
  a168 := Tryd.isAgg109
  z168 := Tryd.sizeOf109
  v168 := Tryd.zeroValue109
  t171 := Tryd.underlying97
  a171 := Tryd.isAgg97
  z171 := Tryd.sizeOf97
  v171 := Tryd.zeroValue97
  t173 := Tryd.underlying101
  a173 := Tryd.isAgg101
  z173 := Tryd.sizeOf101
  v173 := Tryd.zeroValue101
  t175 := Tryd.underlying121
  a175 := Tryd.isAgg121
  z175 := Tryd.sizeOf121
  v175 := Tryd.zeroValue121
  t210 := Tryd.underlying125
  a210 := Tryd.isAgg125
  z210 := Tryd.sizeOf125
  v210 := Tryd.zeroValue125
  t212 := Tryd.underlying116
  a212 := Tryd.isAgg116
  z212 := Tryd.sizeOf116
  v212 := Tryd.zeroValue116
  t213 := Tryd.underlying118
  a213 := Tryd.isAgg118
  z213 := Tryd.sizeOf118
  t232 := Tryd.underlying139
  a232 := Tryd.isAgg139
  z232 := Tryd.sizeOf139
  v232 := Tryd.zeroValue139
  t233 := Tryd.underlying140
  a233 := Tryd.isAgg140
  z233 := Tryd.sizeOf140
  v233 := Tryd.zeroValue140
  g15 := by kernel_rfl
  g16 := by kernel_rfl
  g17 := by kernel_rfl
  g18 := by kernel_rfl
  g19 := by kernel_rfl
  t80 := Tryd.underlying53
  a80 := Tryd.isAgg53
  z80 := Tryd.sizeOf53
  v80 := Tryd.zeroValue53
  i0 := by kernel_rfl
  i2 := by kernel_rfl
  i3 := by kernel_rfl
  i4 := by kernel_rfl
  i5 := by kernel_rfl
  i9 := by kernel_rfl
  i20 := by kernel_rfl
  i21 := by kernel_rfl
  i37 := by kernel_rfl
  i46 := by kernel_rfl
  i51 := by kernel_rfl
  i53 := by kernel_rfl
  i75 := by kernel_rfl
  i76 := by kernel_rfl
  i80 := by kernel_rfl
  i85 := by kernel_rfl
  i127 := by kernel_rfl
  i143 := by kernel_rfl
  i145 := by kernel_rfl
  i167 := by kernel_rfl
  i168 := by kernel_rfl
  i171 := by kernel_rfl
  i173 := by kernel_rfl
  i175 := by kernel_rfl
  i210 := by kernel_rfl
  i212 := by kernel_rfl
  i232 := by kernel_rfl
  i233 := by kernel_rfl
  m15 := by kernel_rfl
  m16 := by kernel_rfl
  m17 := by kernel_rfl
  m18 := by kernel_rfl
  m19 := by kernel_rfl
  c0 := by kernel_rfl
  c2 := by kernel_rfl
  c3 := by kernel_rfl
  c4 := by kernel_rfl
  c5 := by kernel_rfl
  c9 := by kernel_rfl
  c20 := by kernel_rfl
  c21 := by kernel_rfl
  c37 := by kernel_rfl
  c46 := by kernel_rfl
  c51 := by kernel_rfl
  c53 := by kernel_rfl
  c75 := by kernel_rfl
  c76 := by kernel_rfl
  c80 := by kernel_rfl
  c85 := by kernel_rfl
  c127 := by kernel_rfl
  c143 := by kernel_rfl
  c145 := by kernel_rfl
  c167 := by kernel_rfl
  c168 := by kernel_rfl
  c171 := by kernel_rfl
  c173 := by kernel_rfl
  c175 := by kernel_rfl
  c210 := by kernel_rfl
  c212 := by kernel_rfl
  c213 := by kernel_rfl
  c232 := by kernel_rfl
  c233 := by kernel_rfl
end Go.Proofs.YtdccdfmbakbikaaDoor
