/- M4: Law02: calls, by a table of functions that are told by hand. Printed by gen.py (own tool): each function in words of its own, from join to join. Law02: three of the library's functions are told by the kit's contracts: which numbers they have here. -/
import Derived.Test.YtfegkjmghbdogaaDoorChecked
import Derived.Test.YtfegkjmghbdogaaDoorM3
import Derived.Shelf.LaysM
import Derived.Shelf.Pu.Lays
import Derived.Shelf.Strings.BuilderX
namespace Go.Proofs.YtfegkjmghbdogaaDoor
open Go I
set_option maxRecDepth 100000

noncomputable abbrev CL (T : Tab) : CallF := call Tryd.prog T
theorem noNum : NoNum Tryd.prog := by
  intro f fn hf
  have h : (Tryd.prog.funcs.all fun fn => !(fn.name == "runtime.NumGoroutine")) = true := by kernel_rfl
  simpa using Array.all_eq_true_iff_forall_mem.1 h fn (Array.mem_of_getElem? hf)

end Go.Proofs.YtfegkjmghbdogaaDoor

namespace Go.Proofs.YtfegkjmghbdogaaDoor
open Go I
set_option linter.unusedVariables false
set_option maxRecDepth 100000

def z0 : List IV := [(.int .i64 0), (.str ⟨0, 0⟩), (.int .i64 0)]
def p1 : List (Nat × Nat) := [(0, 1), (1, 1), (2, 1)]
def z2 : List IV := [(.bool false), (.bool false), (.bool false), (.bool false), (.bool false), (.bool false), (.bool false), (.bool false), (.bool false), (.bool false), (.bool false), (.bool false), (.bool false), (.bool false), (.bool false), (.bool false), (.bool false), (.bool false), (.bool false), (.bool false), (.bool false), (.bool false), (.bool false), (.bool false), (.bool false), (.bool false), (.bool false), (.bool false), (.bool false), (.bool false), (.bool false), (.bool false), (.bool false), (.bool false), (.bool false), (.bool false), (.bool false), (.bool false), (.bool false), (.bool false), (.bool false), (.bool false), (.bool false), (.bool false), (.bool false), (.bool false), (.bool false), (.bool false), (.bool false), (.bool false), (.bool false), (.bool false), (.bool false), (.bool false), (.bool false), (.bool false), (.bool false), (.bool false), (.bool false), (.bool false), (.bool false), (.bool false), (.bool false), (.bool false), (.bool false), (.bool false), (.bool false), (.bool false), (.bool false), (.bool false), (.bool false), (.bool false), (.bool false), (.bool false), (.bool false), (.bool false), (.bool false), (.bool false), (.bool false), (.bool false), (.bool false), (.bool false), (.bool false), (.bool false), (.bool false), (.bool false), (.bool false), (.bool false), (.bool false), (.bool false), (.bool false), (.bool false), (.bool false), (.bool false), (.bool false), (.bool false), (.bool false), (.bool false), (.bool false), (.bool false), (.bool false), (.bool false), (.bool false), (.bool false), (.bool false), (.bool false), (.bool false), (.bool false), (.bool false), (.bool false), (.bool false), (.bool false), (.bool false), (.bool false), (.bool false), (.bool false), (.bool false), (.bool false), (.bool false), (.bool false), (.bool false), (.bool false), (.bool false), (.bool false), (.bool false), (.bool false), (.bool false), (.bool false), (.bool false), (.bool false), (.bool false), (.bool false), (.bool false), (.bool false), (.bool false), (.bool false), (.bool false), (.bool false), (.bool false), (.bool false), (.bool false), (.bool false), (.bool false), (.bool false), (.bool false), (.bool false), (.bool false), (.bool false), (.bool false), (.bool false), (.bool false), (.bool false), (.bool false), (.bool false), (.bool false), (.bool false), (.bool false), (.bool false), (.bool false), (.bool false), (.bool false), (.bool false), (.bool false), (.bool false), (.bool false), (.bool false), (.bool false), (.bool false), (.bool false), (.bool false), (.bool false), (.bool false), (.bool false), (.bool false), (.bool false), (.bool false), (.bool false), (.bool false), (.bool false), (.bool false), (.bool false), (.bool false), (.bool false), (.bool false), (.bool false), (.bool false), (.bool false), (.bool false), (.bool false), (.bool false), (.bool false), (.bool false), (.bool false), (.bool false), (.bool false), (.bool false), (.bool false), (.bool false), (.bool false), (.bool false), (.bool false), (.bool false), (.bool false), (.bool false), (.bool false), (.bool false), (.bool false), (.bool false), (.bool false), (.bool false), (.bool false), (.bool false), (.bool false), (.bool false), (.bool false), (.bool false), (.bool false), (.bool false), (.bool false), (.bool false), (.bool false), (.bool false), (.bool false), (.bool false), (.bool false), (.bool false), (.bool false), (.bool false), (.bool false), (.bool false), (.bool false), (.bool false), (.bool false), (.bool false), (.bool false), (.bool false), (.bool false), (.bool false), (.bool false), (.bool false), (.bool false), (.bool false), (.bool false), (.bool false), (.bool false), (.bool false), (.bool false), (.bool false), (.bool false), (.bool false), (.bool false), (.bool false), (.bool false), (.bool false), (.bool false), (.bool false)]
-- silkworm/silkwormlaw02.LexerNumbers
def js3 : List Jn := [⟨[], [0]⟩]
noncomputable def J3 (T : Tab) : Rec := fj Tryd.prog (CL T) Tryd.f3 js3
noncomputable def t3_0 (cf : CallF) (R : Rec) (a0 : IV) (h : H) : CRes :=
 callP (cf 8 [a0] h) .pan fun x1 h2 =>
 obind (extractI x1 0) fun x3 =>
 obind (extractI x1 1) fun x4 =>
 obind (extractI x1 2) fun x5 =>
 callP (cf 9 [a0] h2) .pan fun x6 h7 =>
 obind (extractI x6 0) fun x8 =>
 obind (extractI x6 1) fun x9 =>
 obind (extractI x6 2) fun x10 =>
 obind (binS .eql x3 x8) fun x11 =>
 spanK x11 true h7 (fun k12 =>
 obind (eqB .eql x4 x9) fun x15 =>
 k12 x15 h7) fun x13 h14 =>
 obind (pickI x11 (some x13) (some (.bool false))) fun x16 =>
 spanK x16 true h14 (fun k17 =>
 obind (binN .eql x5 x10) fun x20 =>
 k17 x20 h14) fun x18 h19 =>
 obind (pickI x16 (some x18) (some (.bool false))) fun x21 =>
 spanK x21 true h19 (fun k22 =>
 callP (cf 10 [] h19) .pan fun x25 h26 =>
 k22 x25 h26) fun x23 h24 =>
 obind (pickI x21 (some x23) (some (.bool false))) fun x27 =>
 .ok x27 h24
theorem e3_0 {T : Tab} {a0 : IV} {h : H} {r : CRes} (e : t3_0 (CL T) (J3 T) a0 h = r) (hr : r ≠ .fail) : J3 T 0 [a0] h = r := fj_step (fn := Tryd.f3) (js := js3) (by kernel_rfl) e hr
theorem c3 {T : Tab} (hT : OvStep T) (ho : T.ov 3 = none) (hp : T.pol 3 = true) {a0 : IV} {h : H} {r : CRes} (hg : Gd h) (e : t3_0 (CL T) (J3 T) a0 h = r) (hr : r ≠ .fail) : CL T 3 [a0] h = r := call_good ho Tryd.func3 rfl rfl rfl hp hg hT (e3_0 e hr) hr

-- silkworm/silkwormlaw02.LexerPlaces
def js4 : List Jn := [⟨[], [0]⟩, ⟨[0, 1, 0, 1, 1, 1, 1, 1], [0, 3, 5, 6]⟩, ⟨[1, 1, 1, 0, 0, 1, 0, 0, 1, 0, 1, 1, 1, 1, 1], [0, 3, 5, 6, 7, 8]⟩, ⟨[1, 1, 1, 1, 0, 0, 1, 0, 0, 1, 0, 1, 1, 1, 1, 1], [0, 3, 5, 6, 7, 8]⟩]
noncomputable def J4 (T : Tab) : Rec := fj Tryd.prog (CL T) Tryd.f4 js4
noncomputable def t4_0 (cf : CallF) (R : Rec) (a0 : IV) (h : H) : CRes :=
 callP (cf 11 [a0] h) .pan fun x1 h2 =>
 obind (extractI x1 0) fun x3 =>
 obind (extractI x1 1) fun x4 =>
 obind (lenS x4) fun x5 =>
 obind (binN .gtr x5 (.int .i64 0)) fun x6 =>
 condK x6
 (obind (lenS x4) fun x7 =>
 obind (binN .eql x7 (.int .i64 1)) fun x8 =>
 spanK x8 true h2 (fun k9 =>
 obind (lenS x3) fun x12 =>
 obind (binN .eql x12 (.int .i64 0)) fun x13 =>
 k9 x13 h2) fun x10 h11 =>
 obind (pickI x8 (some x10) (some (.bool false))) fun x14 =>
 spanK x14 true h11 (fun k15 =>
 obind (ixS 2 x4 (.int .i64 0)) fun x18 =>
 obind (fadK 0 x18) fun x19 =>
 obind (ld0 h11 x19) fun x20 =>
 obind (binN .geq x20 (.int .i64 0)) fun x21 =>
 k15 x21 h11) fun x16 h17 =>
 obind (pickI x14 (some x16) (some (.bool false))) fun x22 =>
 spanK x22 true h17 (fun k23 =>
 obind (ixS 2 x4 (.int .i64 0)) fun x26 =>
 obind (fadK 0 x26) fun x27 =>
 obind (ld0 h17 x27) fun x28 =>
 obind (lenStr a0) fun x29 =>
 obind (binN .lss x28 x29) fun x30 =>
 k23 x30 h17) fun x24 h25 =>
 spanK x24 false h25 (fun k31 =>
 obind (ixS 2 x4 (.int .i64 0)) fun x34 =>
 obind (fadK 0 x34) fun x35 =>
 obind (ld0 h25 x35) fun x36 =>
 obind (binN .eql x36 (.int .i64 0)) fun x37 =>
 k31 x37 h25) fun x32 h33 =>
 spanK x22 true h33 (fun k38 =>
 obind (pickI x24 (some (.bool true)) (some x32)) fun x41 =>
 k38 x41 h33) fun x39 h40 =>
 obind (pickI x22 (some x39) (some (.bool false))) fun x42 =>
 spanK x42 true h40 (fun k43 =>
 obind (ixS 2 x4 (.int .i64 0)) fun x46 =>
 obind (fadK 1 x46) fun x47 =>
 obind (ld0 h40 x47) fun x48 =>
 obind (binN .neq x48 (.int .i64 0)) fun x49 =>
 k43 x49 h40) fun x44 h45 =>
 obind (pickI x42 (some x44) (some (.bool false))) fun x50 =>
 spanK x50 true h45 (fun k51 =>
 callP (cf 10 [] h45) .pan fun x54 h55 =>
 k51 x54 h55) fun x52 h53 =>
 obind (pickI x50 (some x52) (some (.bool false))) fun x56 =>
 .ok x56 h53)
 (obind (lenS x3) fun x57 =>
 obind (binN .eql x57 (.int .i64 0)) fun x58 =>
 spanK x58 false h2 (fun k59 =>
 obind (lenS x3) fun x62 =>
 obind (binN .sub x62 (.int .i64 1)) fun x63 =>
 obind (ixS 3 x3 x63) fun x64 =>
 obind (ldA 3 h2 x64) fun x65 =>
 obind (lenStr a0) fun x66 =>
 obind (bldK z0 p1 [(0, (.int .i64 6)), (2, x66)]) fun x67 =>
 obind (binK Tryd.prog h2 .neq 34 false false x65 x67) fun x68 =>
 k59 x68 h2) fun x60 h61 =>
 obind (pickI x58 (some (.bool true)) (some x60)) fun x69 =>
 condK x69
 (.ok (.bool false) h61)
 (R 1 [a0, x3, (.int .i64 0), (.int .i64 0)] h61))
theorem e4_0 {T : Tab} {a0 : IV} {h : H} {r : CRes} (e : t4_0 (CL T) (J4 T) a0 h = r) (hr : r ≠ .fail) : J4 T 0 [a0] h = r := fj_step (fn := Tryd.f4) (js := js4) (by kernel_rfl) e hr
theorem c4 {T : Tab} (hT : OvStep T) (ho : T.ov 4 = none) (hp : T.pol 4 = true) {a0 : IV} {h : H} {r : CRes} (hg : Gd h) (e : t4_0 (CL T) (J4 T) a0 h = r) (hr : r ≠ .fail) : CL T 4 [a0] h = r := call_good ho Tryd.func4 rfl rfl rfl hp hg hT (e4_0 e hr) hr

-- silkworm/silkwormlaw02.LexerJoins
def js5 : List Jn := [⟨[], [0, 1]⟩, ⟨[0, 1, 0, 1, 1, 1, 1, 1, 1, 1], [0, 5, 7, 9, 11]⟩, ⟨[1, 1, 0, 0, 1, 0, 0, 1, 0, 1, 1, 1, 1, 1, 1, 1], [0, 5, 7, 9, 11, 12]⟩]
noncomputable def J5 (T : Tab) : Rec := fj Tryd.prog (CL T) Tryd.f5 js5
noncomputable def t5_0 (cf : CallF) (R : Rec) (a0 a1 : IV) (h : H) : CRes :=
 obind (lenStr a0) fun x1 =>
 obind (binN .gtr x1 (.int .i64 16384)) fun x2 =>
 spanK x2 false h (fun k3 =>
 obind (lenStr a1) fun x6 =>
 obind (binN .gtr x6 (.int .i64 16384)) fun x7 =>
 k3 x7 h) fun x4 h5 =>
 obind (pickI x2 (some (.bool true)) (some x4)) fun x8 =>
 condK x8
 (callP (cf 10 [] h5) .pan fun x9 h10 =>
 .ok x9 h10)
 (obind (binS .add a0 (.str ⟨1, 10⟩)) fun x11 =>
 callP (cf 11 [x11] h5) .pan fun x12 h13 =>
 obind (extractI x12 0) fun x14 =>
 obind (extractI x12 1) fun x15 =>
 callP (cf 11 [a1] h13) .pan fun x16 h17 =>
 obind (extractI x16 0) fun x18 =>
 obind (extractI x16 1) fun x19 =>
 obind (binS .add a0 (.str ⟨1, 10⟩)) fun x20 =>
 obind (binS .add x20 a1) fun x21 =>
 callP (cf 11 [x21] h17) .pan fun x22 h23 =>
 obind (extractI x22 0) fun x24 =>
 obind (extractI x22 1) fun x25 =>
 obind (lenS x15) fun x26 =>
 obind (binN .gtr x26 (.int .i64 0)) fun x27 =>
 spanK x27 false h23 (fun k28 =>
 obind (lenS x19) fun x31 =>
 obind (binN .gtr x31 (.int .i64 0)) fun x32 =>
 k28 x32 h23) fun x29 h30 =>
 obind (pickI x27 (some (.bool true)) (some x29)) fun x33 =>
 spanK x33 false h30 (fun k34 =>
 obind (lenS x14) fun x37 =>
 obind (lenS x18) fun x38 =>
 obind (binN .add x37 x38) fun x39 =>
 obind (binN .gtr x39 (.int .i64 16384)) fun x40 =>
 k34 x40 h30) fun x35 h36 =>
 obind (pickI x33 (some (.bool true)) (some x35)) fun x41 =>
 condK x41
 (callP (cf 10 [] h36) .pan fun x42 h43 =>
 .ok x42 h43)
 (obind (lenS x14) fun x44 =>
 obind (binN .eql x44 (.int .i64 0)) fun x45 =>
 spanK x45 false h36 (fun k46 =>
 obind (lenS x18) fun x49 =>
 obind (binN .eql x49 (.int .i64 0)) fun x50 =>
 k46 x50 h36) fun x47 h48 =>
 obind (pickI x45 (some (.bool true)) (some x47)) fun x51 =>
 spanK x51 false h48 (fun k52 =>
 obind (lenS x25) fun x55 =>
 obind (binN .gtr x55 (.int .i64 0)) fun x56 =>
 k52 x56 h48) fun x53 h54 =>
 obind (pickI x51 (some (.bool true)) (some x53)) fun x57 =>
 spanK x57 false h54 (fun k58 =>
 obind (lenS x24) fun x61 =>
 obind (lenS x14) fun x62 =>
 obind (lenS x18) fun x63 =>
 obind (binN .add x62 x63) fun x64 =>
 obind (binN .sub x64 (.int .i64 1)) fun x65 =>
 obind (binN .neq x61 x65) fun x66 =>
 k58 x66 h54) fun x59 h60 =>
 obind (pickI x57 (some (.bool true)) (some x59)) fun x67 =>
 condK x67
 (.ok (.bool false) h60)
 (R 1 [a0, x14, x18, x24, (.int .i64 0)] h60)))
theorem e5_0 {T : Tab} {a0 a1 : IV} {h : H} {r : CRes} (e : t5_0 (CL T) (J5 T) a0 a1 h = r) (hr : r ≠ .fail) : J5 T 0 [a0, a1] h = r := fj_step (fn := Tryd.f5) (js := js5) (by kernel_rfl) e hr
noncomputable def t5_1 (cf : CallF) (R : Rec) (a0 a5 a7 a9 a11 : IV) (h : H) : CRes :=
 obind (lenS a9) fun x68 =>
 obind (binN .lss a11 x68) fun x69 =>
 condK x69
 (obind (bldK z0 p1 []) fun x70 =>
 obind2 (newI h z0) fun x71 h72 =>
 obindH (stA 3 h72 x71 x70) fun h73 =>
 obind (lenS a5) fun x74 =>
 obind (binN .sub x74 (.int .i64 1)) fun x75 =>
 obind (binN .lss a11 x75) fun x76 =>
 condK x76
 (obind (ixS 3 a5 a11) fun x77 =>
 obind (ldA 3 h73 x77) fun x78 =>
 obindH (stA 3 h73 x71 x78) fun h79 =>
 R 2 [a0, a5, a7, a9, a11, x71] h79)
 (obind (lenS a5) fun x80 =>
 obind (binN .sub a11 x80) fun x81 =>
 obind (binN .add x81 (.int .i64 1)) fun x82 =>
 obind (ixS 3 a7 x82) fun x83 =>
 obind (ldA 3 h73 x83) fun x84 =>
 obindH (stA 3 h73 x71 x84) fun h85 =>
 obind (fadK 2 x71) fun x86 =>
 obind (ld0 h85 x86) fun x87 =>
 obind (lenStr a0) fun x88 =>
 obind (binN .add x87 x88) fun x89 =>
 obind (binN .add x89 (.int .i64 1)) fun x90 =>
 obind (fadK 2 x71) fun x91 =>
 obindH (stA 1 h85 x91 x90) fun h92 =>
 R 2 [a0, a5, a7, a9, a11, x71] h92))
 (callP (cf 10 [] h) .pan fun x93 h94 =>
 .ok x93 h94)
theorem e5_1 {T : Tab} {a0 a5 a7 a9 a11 : IV} {h : H} {r : CRes} (e : t5_1 (CL T) (J5 T) a0 a5 a7 a9 a11 h = r) (hr : r ≠ .fail) : J5 T 1 [a0, a5, a7, a9, a11] h = r := fj_step (fn := Tryd.f5) (js := js5) (by kernel_rfl) e hr
noncomputable def t5_2 (cf : CallF) (R : Rec) (a0 a5 a7 a9 a11 a12 : IV) (h : H) : CRes :=
 obind (ixS 3 a9 a11) fun x95 =>
 obind (ldA 3 h x95) fun x96 =>
 obind (ldA 3 h a12) fun x97 =>
 obind (binK Tryd.prog h .neq 34 false false x96 x97) fun x98 =>
 condK x98
 (.ok (.bool false) h)
 (obind (binN .add a11 (.int .i64 1)) fun x99 =>
 R 1 [a0, a5, a7, a9, x99] h)
theorem e5_2 {T : Tab} {a0 a5 a7 a9 a11 a12 : IV} {h : H} {r : CRes} (e : t5_2 (CL T) (J5 T) a0 a5 a7 a9 a11 a12 h = r) (hr : r ≠ .fail) : J5 T 2 [a0, a5, a7, a9, a11, a12] h = r := fj_step (fn := Tryd.f5) (js := js5) (by kernel_rfl) e hr
theorem c5 {T : Tab} (hT : OvStep T) (ho : T.ov 5 = none) (hp : T.pol 5 = true) {a0 a1 : IV} {h : H} {r : CRes} (hg : Gd h) (e : t5_0 (CL T) (J5 T) a0 a1 h = r) (hr : r ≠ .fail) : CL T 5 [a0, a1] h = r := call_good ho Tryd.func5 rfl rfl rfl hp hg hT (e5_0 e hr) hr

-- silkworm/silkwormlaw02.LexerBits
def js6 : List Jn := [⟨[], [0, 1, 2]⟩, ⟨[0, 1, 0, 1, 1, 1, 1], [0, 1, 7, 8, 9]⟩, ⟨[1, 1, 0, 0, 1, 0, 0, 1, 0, 1, 1, 1, 1], [0, 1, 7, 8, 9, 10]⟩, ⟨[0, 1, 0, 1, 1, 1, 1, 1, 1, 1, 1, 1], [14, 15, 16]⟩]
noncomputable def J6 (T : Tab) : Rec := fj Tryd.prog (CL T) Tryd.f6 js6
noncomputable def t6_0 (cf : CallF) (R : Rec) (a0 a1 a2 : IV) (h : H) : CRes :=
 callP (cf 12 [a0] h) .pan fun x1 h2 =>
 obind (unI .not x1) fun x3 =>
 condK x3
 (callP (cf 10 [] h2) .pan fun x4 h5 =>
 .ok x4 h5)
 (obind2 (bslK false 1 [(.str ⟨0, 0⟩)] 10 [(0, (.str ⟨0, 0⟩)), (1, (.str ⟨1, 49⟩)), (2, (.str ⟨1, 50⟩)), (3, (.str ⟨1, 51⟩)), (4, (.str ⟨1, 52⟩)), (5, (.str ⟨1, 53⟩)), (6, (.str ⟨1, 54⟩)), (7, (.str ⟨1, 55⟩)), (8, (.str ⟨1, 56⟩)), (9, (.str ⟨1, 57⟩))] h2) fun x6 h7 =>
 obind (lenStr a0) fun x8 =>
 R 1 [a0, a1, x6, (.str ⟨0, 0⟩), x8] h7)
theorem e6_0 {T : Tab} {a0 a1 a2 : IV} {h : H} {r : CRes} (e : t6_0 (CL T) (J6 T) a0 a1 a2 h = r) (hr : r ≠ .fail) : J6 T 0 [a0, a1, a2] h = r := fj_step (fn := Tryd.f6) (js := js6) (by kernel_rfl) e hr
theorem c6 {T : Tab} (hT : OvStep T) (ho : T.ov 6 = none) (hp : T.pol 6 = true) {a0 a1 a2 : IV} {h : H} {r : CRes} (hg : Gd h) (e : t6_0 (CL T) (J6 T) a0 a1 a2 h = r) (hr : r ≠ .fail) : CL T 6 [a0, a1, a2] h = r := call_good ho Tryd.func6 rfl rfl rfl hp hg hT (e6_0 e hr) hr

-- silkworm/silkwormlaw02.LexerHex
def js7 : List Jn := [⟨[], [0, 1]⟩, ⟨[0, 1, 0, 1, 1, 1, 1, 1, 1], [0, 5, 6, 7, 8, 9]⟩, ⟨[0, 1, 0, 1, 1, 1, 1, 1, 1, 1, 1], [0, 5, 6, 7, 8, 10, 11, 12]⟩]
noncomputable def J7 (T : Tab) : Rec := fj Tryd.prog (CL T) Tryd.f7 js7
noncomputable def t7_0 (cf : CallF) (R : Rec) (a0 a1 : IV) (h : H) : CRes :=
 obind2 (bslK false 1 [(.str ⟨0, 0⟩)] 18 [(0, (.str ⟨4, 808464432⟩)), (1, (.str ⟨4, 825241648⟩)), (2, (.str ⟨4, 808529968⟩)), (3, (.str ⟨4, 825307184⟩)), (4, (.str ⟨4, 808464688⟩)), (5, (.str ⟨4, 825241904⟩)), (6, (.str ⟨4, 808530224⟩)), (7, (.str ⟨4, 825307440⟩)), (8, (.str ⟨4, 808464433⟩)), (9, (.str ⟨4, 825241649⟩)), (10, (.str ⟨4, 808529969⟩)), (11, (.str ⟨4, 825307185⟩)), (12, (.str ⟨4, 808464689⟩)), (13, (.str ⟨4, 825241905⟩)), (14, (.str ⟨4, 808530225⟩)), (15, (.str ⟨4, 825307441⟩)), (16, (.str ⟨4, 2021161080⟩)), (17, (.str ⟨4, 2054847098⟩))] h) fun x1 h2 =>
 obind (lenS a0) fun x3 =>
 obind (binN .eql x3 (.int .i64 0)) fun x4 =>
 spanK x4 false h2 (fun k5 =>
 obind (lenS a0) fun x8 =>
 obind (binN .gtr x8 (.int .i64 60)) fun x9 =>
 k5 x9 h2) fun x6 h7 =>
 obind (pickI x4 (some (.bool true)) (some x6)) fun x10 =>
 condK x10
 (callP (cf 10 [] h7) .pan fun x11 h12 =>
 .ok x11 h12)
 (obind (binN .and a1 (.int .i64 255)) fun x13 =>
 obind (binN .add (.int .i64 1) x13) fun x14 =>
 R 1 [a0, (.str ⟨18, 10668668875418930475461405453970842420654384⟩), x1, x14, (.str ⟨0, 0⟩), x14] h7)
theorem e7_0 {T : Tab} {a0 a1 : IV} {h : H} {r : CRes} (e : t7_0 (CL T) (J7 T) a0 a1 h = r) (hr : r ≠ .fail) : J7 T 0 [a0, a1] h = r := fj_step (fn := Tryd.f7) (js := js7) (by kernel_rfl) e hr
theorem c7 {T : Tab} (hT : OvStep T) (ho : T.ov 7 = none) (hp : T.pol 7 = true) {a0 a1 : IV} {h : H} {r : CRes} (hg : Gd h) (e : t7_0 (CL T) (J7 T) a0 a1 h = r) (hr : r ≠ .fail) : CL T 7 [a0, a1] h = r := call_good ho Tryd.func7 rfl rfl rfl hp hg hT (e7_0 e hr) hr

-- silkworm/lexer.Number
def js8 : List Jn := [⟨[], [0]⟩, ⟨[1, 1, 1, 1], [5, 6, 7, 8]⟩, ⟨[1, 1, 1, 1, 1, 1], [6, 7, 9, 10]⟩]
noncomputable def J8 (T : Tab) : Rec := fj Tryd.prog (CL T) Tryd.f8 js8
noncomputable def t8_0 (cf : CallF) (R : Rec) (a0 : IV) (h : H) : CRes :=
 callP (cf 14 [a0, (.str ⟨1, 39⟩)] h) .pan fun x1 h2 =>
 obind (extractI x1 0) fun x3 =>
 obind (extractI x1 1) fun x4 =>
 obind (extractI x1 2) fun x5 =>
 condK x5
 (R 1 [x3, x4, x5, (.int .i64 256)] h2)
 (R 1 [x3, x4, x5, (.int .i64 4294967295)] h2)
theorem e8_0 {T : Tab} {a0 : IV} {h : H} {r : CRes} (e : t8_0 (CL T) (J8 T) a0 h = r) (hr : r ≠ .fail) : J8 T 0 [a0] h = r := fj_step (fn := Tryd.f8) (js := js8) (by kernel_rfl) e hr
noncomputable def t8_1 (cf : CallF) (R : Rec) (a5 a6 a7 a8 : IV) (h : H) : CRes :=
 callP (cf 15 [a5] h) .pan fun x6 h7 =>
 condK x6
 (callP (cf 16 [a5, a8] h7) .pan fun x8 h9 =>
 obind (extractI x8 0) fun x10 =>
 obind (extractI x8 1) fun x11 =>
 R 2 [a6, a7, x10, x11] h9)
 (R 2 [a6, a7, (.int .i64 0), x6] h7)
theorem e8_1 {T : Tab} {a5 a6 a7 a8 : IV} {h : H} {r : CRes} (e : t8_1 (CL T) (J8 T) a5 a6 a7 a8 h = r) (hr : r ≠ .fail) : J8 T 1 [a5, a6, a7, a8] h = r := fj_step (fn := Tryd.f8) (js := js8) (by kernel_rfl) e hr
noncomputable def t8_2 (cf : CallF) (R : Rec) (a6 a7 a9 a10 : IV) (h : H) : CRes :=
 obind (unI .not a10) fun x12 =>
 spanK x12 false h (fun k13 =>
 k13 a7 h) fun x14 h15 =>
 spanK x14 true h15 (fun k16 =>
 obind (binN .lss a9 (.int .i64 1)) fun x19 =>
 k16 x19 h15) fun x17 h18 =>
 spanK x17 false h18 (fun k20 =>
 obind (binS .eql a6 (.str ⟨0, 0⟩)) fun x23 =>
 k20 x23 h18) fun x21 h22 =>
 spanK x14 true h22 (fun k24 =>
 obind (pickI x17 (some (.bool true)) (some x21)) fun x27 =>
 k24 x27 h22) fun x25 h26 =>
 spanK x12 false h26 (fun k28 =>
 obind (pickI x14 (some x25) (some (.bool false))) fun x31 =>
 k28 x31 h26) fun x29 h30 =>
 obind (pickI x12 (some (.bool true)) (some x29)) fun x32 =>
 condK x32
 (.ok (.tup [(.str ⟨0, 0⟩), (.bool false), (.int .i64 21)]) h30)
 (obind (unI .not a7) fun x33 =>
 condK x33
 (callP (cf 17 [a9, (.int .i64 32)] h30) .pan fun x34 h35 =>
 obind (extractI x34 0) fun x36 =>
 obind (extractI x34 1) fun x37 =>
 .ok (.tup [x36, (.bool true), (.int .i64 0)]) h35)
 (obind (ixStr a6 (.int .i64 0)) fun x38 =>
 obind (slcStr a6 (some (.int .i64 1)) none) fun x39 =>
 callP (cf 18 [x38, x39] h30) (fun v40 h41 =>
 .pan v40 h41) fun x42 h43 =>
 obind (binS .eql x42 (.str ⟨0, 0⟩)) fun x44 =>
 condK x44
 (.ok (.tup [(.str ⟨0, 0⟩), (.bool false), (.int .i64 21)]) h43)
 (obind (lenStr x42) fun x45 =>
 obind (binN .geq x45 a9) fun x46 =>
 condK x46
 (obind (lenStr x42) fun x47 =>
 obind (binN .sub x47 a9) fun x48 =>
 obind (slcStr x42 (some x48) none) fun x49 =>
 .ok (.tup [x49, (.bool false), (.int .i64 0)]) h43)
 (obind (ixStr x42 (.int .i64 0)) fun x50 =>
 obind (binN .eql x50 (.int .u8 120)) fun x51 =>
 spanK x51 false h43 (fun k52 =>
 obind (ixStr x42 (.int .i64 0)) fun x55 =>
 obind (binN .eql x55 (.int .u8 122)) fun x56 =>
 k52 x56 h43) fun x53 h54 =>
 obind (pickI x51 (some (.bool true)) (some x53)) fun x57 =>
 condK x57
 (obind (slcStr x42 none (some (.int .i64 1))) fun x58 =>
 obind (lenStr x42) fun x59 =>
 obind (binN .sub a9 x59) fun x60 =>
 callP (cf 19 [x58, x60] h54) .pan fun x61 h62 =>
 obind (binS .add x61 x42) fun x63 =>
 .ok (.tup [x63, (.bool false), (.int .i64 0)]) h62)
 (obind (lenStr x42) fun x64 =>
 obind (binN .sub a9 x64) fun x65 =>
 callP (cf 19 [(.str ⟨1, 48⟩), x65] h54) .pan fun x66 h67 =>
 obind (binS .add x66 x42) fun x68 =>
 .ok (.tup [x68, (.bool false), (.int .i64 0)]) h67)))))
theorem e8_2 {T : Tab} {a6 a7 a9 a10 : IV} {h : H} {r : CRes} (e : t8_2 (CL T) (J8 T) a6 a7 a9 a10 h = r) (hr : r ≠ .fail) : J8 T 2 [a6, a7, a9, a10] h = r := fj_step (fn := Tryd.f8) (js := js8) (by kernel_rfl) e hr
theorem c8 {T : Tab} (hT : OvStep T) (ho : T.ov 8 = none) (hp : T.pol 8 = true) {a0 : IV} {h : H} {r : CRes} (hg : Gd h) (e : t8_0 (CL T) (J8 T) a0 h = r) (hr : r ≠ .fail) : CL T 8 [a0] h = r := call_good ho Tryd.func8 rfl rfl rfl hp hg hT (e8_0 e hr) hr

-- silkworm/silkwormref02.Number
def js9 : List Jn := [⟨[], [0]⟩, ⟨[0, 1, 0, 1, 1], [0, 5, 6]⟩, ⟨[1, 1, 0, 0, 1, 0, 1, 1], [0, 5, 6]⟩]
noncomputable def J9 (T : Tab) : Rec := fj Tryd.prog (CL T) Tryd.f9 js9
noncomputable def t9_0 (cf : CallF) (R : Rec) (a0 : IV) (h : H) : CRes :=
 R 1 [a0, (.int .i64 (-1)), (.int .i64 0)] h
theorem e9_0 {T : Tab} {a0 : IV} {h : H} {r : CRes} (e : t9_0 (CL T) (J9 T) a0 h = r) (hr : r ≠ .fail) : J9 T 0 [a0] h = r := fj_step (fn := Tryd.f9) (js := js9) (by kernel_rfl) e hr
theorem c9 {T : Tab} (hT : OvStep T) (ho : T.ov 9 = none) (hp : T.pol 9 = true) {a0 : IV} {h : H} {r : CRes} (hg : Gd h) (e : t9_0 (CL T) (J9 T) a0 h = r) (hr : r ≠ .fail) : CL T 9 [a0] h = r := call_good ho Tryd.func9 rfl rfl rfl hp hg hT (e9_0 e hr) hr

-- silkworm/silkwormlaw02.awake
def js10 : List Jn := [⟨[], []⟩]
noncomputable def J10 (T : Tab) : Rec := fj Tryd.prog (CL T) Tryd.f10 js10
noncomputable def t10_0 (cf : CallF) (R : Rec) (h : H) : CRes :=
 callP (cf 11 [(.str ⟨16, 131760682089130210233105055610239197281⟩)] h) .pan fun x1 h2 =>
 obind (extractI x1 0) fun x3 =>
 obind (extractI x1 1) fun x4 =>
 callP (cf 8 [(.str ⟨4, 2019698484⟩)] h2) .pan fun x5 h6 =>
 obind (extractI x5 0) fun x7 =>
 obind (extractI x5 1) fun x8 =>
 obind (extractI x5 2) fun x9 =>
 obind (lenS x4) fun x10 =>
 obind (binN .eql x10 (.int .i64 0)) fun x11 =>
 spanK x11 true h6 (fun k12 =>
 obind (lenS x3) fun x15 =>
 obind (binN .eql x15 (.int .i64 5)) fun x16 =>
 k12 x16 h6) fun x13 h14 =>
 obind (pickI x11 (some x13) (some (.bool false))) fun x17 =>
 spanK x17 true h14 (fun k18 =>
 obind (ixS 3 x3 (.int .i64 2)) fun x21 =>
 obind (fadK 1 x21) fun x22 =>
 obind (ld0 h14 x22) fun x23 =>
 obind (binS .eql x23 (.str ⟨5, 516224591668⟩)) fun x24 =>
 k18 x24 h14) fun x19 h20 =>
 obind (pickI x17 (some x19) (some (.bool false))) fun x25 =>
 spanK x25 true h20 (fun k26 =>
 obind (ixS 3 x3 (.int .i64 4)) fun x29 =>
 obind (fadK 0 x29) fun x30 =>
 obind (ld0 h20 x30) fun x31 =>
 obind (binN .eql x31 (.int .i64 6)) fun x32 =>
 k26 x32 h20) fun x27 h28 =>
 obind (pickI x25 (some x27) (some (.bool false))) fun x33 =>
 spanK x33 true h28 (fun k34 =>
 obind (binS .eql x7 (.str ⟨4, 2021161080⟩)) fun x37 =>
 k34 x37 h28) fun x35 h36 =>
 obind (pickI x33 (some x35) (some (.bool false))) fun x38 =>
 spanK x38 true h36 (fun k39 =>
 obind (unI .not x8) fun x42 =>
 k39 x42 h36) fun x40 h41 =>
 obind (pickI x38 (some x40) (some (.bool false))) fun x43 =>
 spanK x43 true h41 (fun k44 =>
 obind (binN .eql x9 (.int .i64 0)) fun x47 =>
 k44 x47 h41) fun x45 h46 =>
 obind (pickI x43 (some x45) (some (.bool false))) fun x48 =>
 .ok x48 h46
theorem e10_0 {T : Tab} {h : H} {r : CRes} (e : t10_0 (CL T) (J10 T) h = r) (hr : r ≠ .fail) : J10 T 0 [] h = r := fj_step (fn := Tryd.f10) (js := js10) (by kernel_rfl) e hr
theorem c10 {T : Tab} (hT : OvStep T) (ho : T.ov 10 = none) (hp : T.pol 10 = true) {h : H} {r : CRes} (hg : Gd h) (e : t10_0 (CL T) (J10 T) h = r) (hr : r ≠ .fail) : CL T 10 [] h = r := call_good ho Tryd.func10 rfl rfl rfl hp hg hT (e10_0 e hr) hr

-- silkworm/lexer.Lex
def js11 : List Jn := [⟨[], [0]⟩, ⟨[0, 1, 0, 1, 1, 1, 1], [0, 4, 5, 6]⟩, ⟨[1, 1, 1, 0, 1, 0, 0, 1, 0, 1, 1, 1, 1], [0, 4, 5, 6, 9, 10]⟩]
noncomputable def J11 (T : Tab) : Rec := fj Tryd.prog (CL T) Tryd.f11 js11
noncomputable def t11_0 (cf : CallF) (R : Rec) (a0 : IV) (h : H) : CRes :=
 obind (lenStr a0) fun x1 =>
 obind (binN .gtr x1 (.int .i64 65536)) fun x2 =>
 condK x2
 (callP (cf 24 [(.int .i64 0), (.int .i64 4)] h) .pan fun x3 h4 =>
 .ok (.tup [.nilSlice, x3]) h4)
 (R 1 [a0, .nilSlice, (.bool false), (.int .i64 0)] h)
theorem e11_0 {T : Tab} {a0 : IV} {h : H} {r : CRes} (e : t11_0 (CL T) (J11 T) a0 h = r) (hr : r ≠ .fail) : J11 T 0 [a0] h = r := fj_step (fn := Tryd.f11) (js := js11) (by kernel_rfl) e hr
noncomputable def t11_1 (cf : CallF) (R : Rec) (a0 a4 a5 a6 : IV) (h : H) : CRes :=
 obind (lenStr a0) fun x5 =>
 obind (binN .lss a6 x5) fun x6 =>
 condK x6
 (callP (cf 25 [a0, a6] h) .pan fun x7 h8 =>
 obind (extractI x7 0) fun x9 =>
 obind (extractI x7 1) fun x10 =>
 condK x10
 (obind (binN .lss x9 (.int .i64 0)) fun x11 =>
 condK x11
 (callP (cf 24 [a6, (.int .i64 20)] h8) .pan fun x12 h13 =>
 .ok (.tup [.nilSlice, x12]) h13)
 (R 1 [a0, a4, a5, x9] h8))
 (obind (bldK z0 p1 [(0, (.int .i64 5)), (2, a6)]) fun x14 =>
 obind (binN .add a6 (.int .i64 1)) fun x15 =>
 obind2 (newI h8 z0) fun x16 h17 =>
 obindH (stA 3 h17 x16 x14) fun h18 =>
 obind (ixStr a0 a6) fun x19 =>
 obind (binN .eql x19 (.int .u8 10)) fun x20 =>
 spanK x20 true h18 (fun k21 =>
 k21 a5 h18) fun x22 h23 =>
 obind (pickI x20 (some x22) (some (.bool false))) fun x24 =>
 condK x24
 (R 2 [a0, a4, (.bool false), a6, x16, x15] h23)
 (obind (ixStr a0 a6) fun x25 =>
 callP (cf 26 [x25] h23) .pan fun x26 h27 =>
 obind (binN .eql x26 (.int .i64 1)) fun x28 =>
 condK x28
 (obind (binN .add a6 (.int .i64 1)) fun x29 =>
 R 1 [a0, a4, a5, x29] h27)
 (callP (cf 27 [a0, a6] h27) .pan fun x30 h31 =>
 obind (extractI x30 0) fun x32 =>
 obind (extractI x30 1) fun x33 =>
 obind (extractI x30 2) fun x34 =>
 obindH (stA 3 h31 x16 x32) fun h35 =>
 obind (binN .neq x34 (.int .i64 0)) fun x36 =>
 condK x36
 (callP (cf 24 [a6, x34] h35) .pan fun x37 h38 =>
 .ok (.tup [.nilSlice, x37]) h38)
 (spanK a5 false h35 (fun k39 =>
 obind (fadK 0 x16) fun x42 =>
 obind (ld0 h35 x42) fun x43 =>
 obind (binN .eql x43 (.int .i64 4)) fun x44 =>
 k39 x44 h35) fun x40 h41 =>
 spanK x40 true h41 (fun k45 =>
 obind (fadK 1 x16) fun x48 =>
 obind (ld0 h41 x48) fun x49 =>
 obind (binS .eql x49 (.str ⟨6, 111524889126244⟩)) fun x50 =>
 k45 x50 h41) fun x46 h47 =>
 spanK a5 false h47 (fun k51 =>
 obind (pickI x40 (some x46) (some (.bool false))) fun x54 =>
 k51 x54 h47) fun x52 h53 =>
 obind (pickI a5 (some (.bool true)) (some x52)) fun x55 =>
 R 2 [a0, a4, x55, a6, x16, x33] h53)))))
 (obind (lenStr a0) fun x56 =>
 obind (bldK z0 p1 [(0, (.int .i64 6)), (2, x56)]) fun x57 =>
 obind2 (bslK false 3 z0 1 [(0, x57)] h) fun x58 h59 =>
 obind2 (appK 3 32 h59 a4 x58) fun x60 h61 =>
 .ok (.tup [x60, .nilSlice]) h61)
theorem e11_1 {T : Tab} {a0 a4 a5 a6 : IV} {h : H} {r : CRes} (e : t11_1 (CL T) (J11 T) a0 a4 a5 a6 h = r) (hr : r ≠ .fail) : J11 T 1 [a0, a4, a5, a6] h = r := fj_step (fn := Tryd.f11) (js := js11) (by kernel_rfl) e hr
noncomputable def t11_2 (cf : CallF) (R : Rec) (a0 a4 a5 a6 a9 a10 : IV) (h : H) : CRes :=
 obind (lenS a4) fun x62 =>
 obind (binN .eql x62 (.int .i64 16384)) fun x63 =>
 condK x63
 (callP (cf 24 [a6, (.int .i64 2)] h) .pan fun x64 h65 =>
 .ok (.tup [.nilSlice, x64]) h65)
 (obind (ldA 3 h a9) fun x66 =>
 obind2 (bslK false 3 z0 1 [(0, x66)] h) fun x67 h68 =>
 obind2 (appK 3 32 h68 a4 x67) fun x69 h70 =>
 R 1 [a0, x69, a5, a10] h70)
theorem e11_2 {T : Tab} {a0 a4 a5 a6 a9 a10 : IV} {h : H} {r : CRes} (e : t11_2 (CL T) (J11 T) a0 a4 a5 a6 a9 a10 h = r) (hr : r ≠ .fail) : J11 T 2 [a0, a4, a5, a6, a9, a10] h = r := fj_step (fn := Tryd.f11) (js := js11) (by kernel_rfl) e hr
theorem c11 {T : Tab} (hT : OvStep T) (ho : T.ov 11 = none) (hp : T.pol 11 = true) {a0 : IV} {h : H} {r : CRes} (hg : Gd h) (e : t11_0 (CL T) (J11 T) a0 h = r) (hr : r ≠ .fail) : CL T 11 [a0] h = r := call_good ho Tryd.func11 rfl rfl rfl hp hg hT (e11_0 e hr) hr

-- silkworm/silkwormref01.May
-- silkworm/silkwormref01.Of
-- strings.Cut
def js14 : List Jn := [⟨[], [0, 1]⟩]
noncomputable def J14 (T : Tab) : Rec := fj Tryd.prog (CL T) Tryd.f14 js14
noncomputable def t14_0 (cf : CallF) (R : Rec) (a0 a1 : IV) (h : H) : CRes :=
 callP (cf 28 [a0, a1] h) .pan fun x1 h2 =>
 obind (extractI x1 0) fun x3 =>
 obind (extractI x1 1) fun x4 =>
 obind (extractI x1 2) fun x5 =>
 .ok (.tup [x3, x4, x5]) h2
theorem e14_0 {T : Tab} {a0 a1 : IV} {h : H} {r : CRes} (e : t14_0 (CL T) (J14 T) a0 a1 h = r) (hr : r ≠ .fail) : J14 T 0 [a0, a1] h = r := fj_step (fn := Tryd.f14) (js := js14) (by kernel_rfl) e hr
theorem c14 {T : Tab} (hT : OvStep T) (ho : T.ov 14 = none) (hp : T.pol 14 = true) {a0 a1 : IV} {h : H} {r : CRes} (hg : Gd h) (e : t14_0 (CL T) (J14 T) a0 a1 h = r) (hr : r ≠ .fail) : CL T 14 [a0, a1] h = r := call_good ho Tryd.func14 rfl rfl rfl hp hg hT (e14_0 e hr) hr

-- silkworm/lexer.plain
def js15 : List Jn := [⟨[], [0]⟩]
noncomputable def J15 (T : Tab) : Rec := fj Tryd.prog (CL T) Tryd.f15 js15
noncomputable def t15_0 (cf : CallF) (R : Rec) (a0 : IV) (h : H) : CRes :=
 obind (binS .eql a0 (.str ⟨1, 48⟩)) fun x1 =>
 spanK x1 false h (fun k2 =>
 obind (binS .neq a0 (.str ⟨0, 0⟩)) fun x5 =>
 k2 x5 h) fun x3 h4 =>
 spanK x3 true h4 (fun k6 =>
 obind (ixStr a0 (.int .i64 0)) fun x9 =>
 obind (binN .neq x9 (.int .u8 48)) fun x10 =>
 k6 x10 h4) fun x7 h8 =>
 spanK x1 false h8 (fun k11 =>
 obind (pickI x3 (some x7) (some (.bool false))) fun x14 =>
 k11 x14 h8) fun x12 h13 =>
 spanK x12 true h13 (fun k15 =>
 obind (lenStr a0) fun x18 =>
 obind (binN .leq x18 (.int .i64 10)) fun x19 =>
 k15 x19 h13) fun x16 h17 =>
 spanK x1 false h17 (fun k20 =>
 obind (pickI x12 (some x16) (some (.bool false))) fun x23 =>
 k20 x23 h17) fun x21 h22 =>
 obind (pickI x1 (some (.bool true)) (some x21)) fun x24 =>
 .ok x24 h22
theorem e15_0 {T : Tab} {a0 : IV} {h : H} {r : CRes} (e : t15_0 (CL T) (J15 T) a0 h = r) (hr : r ≠ .fail) : J15 T 0 [a0] h = r := fj_step (fn := Tryd.f15) (js := js15) (by kernel_rfl) e hr
theorem c15 {T : Tab} (hT : OvStep T) (ho : T.ov 15 = none) (hp : T.pol 15 = true) {a0 : IV} {h : H} {r : CRes} (hg : Gd h) (e : t15_0 (CL T) (J15 T) a0 h = r) (hr : r ≠ .fail) : CL T 15 [a0] h = r := call_good ho Tryd.func15 rfl rfl rfl hp hg hT (e15_0 e hr) hr

-- silkworm/lexer.decimal
def js16 : List Jn := [⟨[], [0, 1]⟩]
noncomputable def J16 (T : Tab) : Rec := fj Tryd.prog (CL T) Tryd.f16 js16
noncomputable def t16_0 (cf : CallF) (R : Rec) (a0 a1 : IV) (h : H) : CRes :=
 callP (cf 29 [a0, (.int .i64 10), (.int .i64 62)] h) .pan fun x1 h2 =>
 obind (extractI x1 0) fun x3 =>
 obind (extractI x1 1) fun x4 =>
 obind (cvN .i64 x3) fun x5 =>
 obind (eqIf .eql true x4 .nilIface) fun x6 =>
 spanK x6 true h2 (fun k7 =>
 obind (ixStr a0 (.int .i64 0)) fun x10 =>
 obind (binN .neq x10 (.int .u8 43)) fun x11 =>
 k7 x11 h2) fun x8 h9 =>
 obind (pickI x6 (some x8) (some (.bool false))) fun x12 =>
 spanK x12 true h9 (fun k13 =>
 obind (cvN .i64 x3) fun x16 =>
 obind (binN .leq x16 a1) fun x17 =>
 k13 x17 h9) fun x14 h15 =>
 obind (pickI x12 (some x14) (some (.bool false))) fun x18 =>
 .ok (.tup [x5, x18]) h15
theorem e16_0 {T : Tab} {a0 a1 : IV} {h : H} {r : CRes} (e : t16_0 (CL T) (J16 T) a0 a1 h = r) (hr : r ≠ .fail) : J16 T 0 [a0, a1] h = r := fj_step (fn := Tryd.f16) (js := js16) (by kernel_rfl) e hr
theorem c16 {T : Tab} (hT : OvStep T) (ho : T.ov 16 = none) (hp : T.pol 16 = true) {a0 a1 : IV} {h : H} {r : CRes} (hg : Gd h) (e : t16_0 (CL T) (J16 T) a0 a1 h = r) (hr : r ≠ .fail) : CL T 16 [a0, a1] h = r := call_good ho Tryd.func16 rfl rfl rfl hp hg hT (e16_0 e hr) hr

-- silkworm/logic.Of
def js17 : List Jn := [⟨[], [0, 1]⟩, ⟨[0, 1, 0, 1, 1, 1], [0, 6, 7]⟩]
noncomputable def J17 (T : Tab) : Rec := fj Tryd.prog (CL T) Tryd.f17 js17
noncomputable def t17_0 (cf : CallF) (R : Rec) (a0 a1 : IV) (h : H) : CRes :=
 obind (binN .lss a0 (.int .i64 0)) fun x1 =>
 spanK x1 false h (fun k2 =>
 obind (binN .lss a1 (.int .i64 1)) fun x5 =>
 k2 x5 h) fun x3 h4 =>
 obind (pickI x1 (some (.bool true)) (some x3)) fun x6 =>
 spanK x6 false h4 (fun k7 =>
 obind (binN .gtr a1 (.int .i64 256)) fun x10 =>
 k7 x10 h4) fun x8 h9 =>
 obind (pickI x6 (some (.bool true)) (some x8)) fun x11 =>
 condK x11
 (.ok (.tup [(.str ⟨0, 0⟩), (.int .i64 1)]) h9)
 (obind2 (mksK 1 1 [(.int .u8 0)] h9 a1 a1) fun x12 h13 =>
 obind (binN .sub a1 (.int .i64 1)) fun x14 =>
 R 1 [a0, x12, x14] h13)
theorem e17_0 {T : Tab} {a0 a1 : IV} {h : H} {r : CRes} (e : t17_0 (CL T) (J17 T) a0 a1 h = r) (hr : r ≠ .fail) : J17 T 0 [a0, a1] h = r := fj_step (fn := Tryd.f17) (js := js17) (by kernel_rfl) e hr
noncomputable def t17_1 (cf : CallF) (R : Rec) (a0 a6 a7 : IV) (h : H) : CRes :=
 obind (binN .geq a7 (.int .i64 0)) fun x15 =>
 condK x15
 (obind (binN .and a0 (.int .i64 1)) fun x16 =>
 obind (cvN .u8 x16) fun x17 =>
 obind (binN .add (.int .u8 48) x17) fun x18 =>
 obind (ixS 1 a6 a7) fun x19 =>
 obindH (stA 1 h x19 x18) fun h20 =>
 obind (binN .shr a0 (.int .u64 1)) fun x21 =>
 obind (binN .sub a7 (.int .i64 1)) fun x22 =>
 R 1 [x21, a6, x22] h20)
 (obind (cvS h a6) fun x23 =>
 .ok (.tup [x23, (.int .i64 0)]) h)
theorem e17_1 {T : Tab} {a0 a6 a7 : IV} {h : H} {r : CRes} (e : t17_1 (CL T) (J17 T) a0 a6 a7 h = r) (hr : r ≠ .fail) : J17 T 1 [a0, a6, a7] h = r := fj_step (fn := Tryd.f17) (js := js17) (by kernel_rfl) e hr
theorem c17 {T : Tab} (hT : OvStep T) (ho : T.ov 17 = none) (hp : T.pol 17 = true) {a0 a1 : IV} {h : H} {r : CRes} (hg : Gd h) (e : t17_0 (CL T) (J17 T) a0 a1 h = r) (hr : r ≠ .fail) : CL T 17 [a0, a1] h = r := call_good ho Tryd.func17 rfl rfl rfl hp hg hT (e17_0 e hr) hr

-- silkworm/lexer.bits
def js18 : List Jn := [⟨[], [0, 1]⟩, ⟨[1, 1, 1], [5]⟩, ⟨[1, 1, 0, 1, 0, 1, 0, 1, 1], [6, 7]⟩, ⟨[0, 1, 0, 1, 1, 1, 1, 1, 0, 1, 0, 1, 1], [1, 5, 60, 61]⟩, ⟨[1, 1, 1, 0, 0, 1, 0, 1, 1, 1, 1, 1, 0, 1, 0, 1, 1], [1, 5, 60, 61]⟩, ⟨[1, 0, 1, 1, 1, 0, 0, 1, 1, 0, 0, 1, 0, 1, 1, 1, 1, 1, 0, 1, 0, 1, 1], [1, 5, 10, 60, 61, 87]⟩]
noncomputable def J18 (T : Tab) : Rec := fj Tryd.prog (CL T) Tryd.f18 js18
noncomputable def t18_0 (cf : CallF) (R : Rec) (a0 a1 : IV) (h : H) : CRes :=
 obind2 (newB h [.nilPtr, .nilSlice] 64) fun x1 h2 =>
 obind (binN .eql a0 (.int .u8 100)) fun x3 =>
 condK x3
 (callP (cf 30 [a1, (.str ⟨1, 48⟩)] h2) .pan fun x4 h5 =>
 obind (binS .add x4 (.str ⟨0, 0⟩)) fun x6 =>
 callP (cf 16 [x6, (.int .i64 2147483647)] h5) .pan fun x7 h8 =>
 obind (extractI x7 0) fun x9 =>
 obind (extractI x7 1) fun x10 =>
 obind (binS .neq a1 (.str ⟨0, 0⟩)) fun x11 =>
 spanK x11 true h8 (fun k12 =>
 callP (cf 31 [a1, (.str ⟨1, 48⟩)] h8) .pan fun x15 h16 =>
 obind (binS .eql x15 (.str ⟨0, 0⟩)) fun x17 =>
 k12 x17 h16) fun x13 h14 =>
 obind (pickI x11 (some x13) (some (.bool false))) fun x18 =>
 condK x18
 (R 2 [(.int .i64 0), (.bool true)] h14)
 (R 2 [x9, x10] h14))
 (obind (binN .eql a0 (.int .u8 98)) fun x19 =>
 condK x19
 (callP (cf 32 [a1] h2) .pan fun x20 h21 =>
 obind (binN .neq x20 (.int .i64 0)) fun x22 =>
 spanK x22 true h21 (fun k23 =>
 obind (lenStr a1) fun x26 =>
 obind (binN .leq x26 (.int .i64 256)) fun x27 =>
 k23 x27 h21) fun x24 h25 =>
 obind (pickI x22 (some x24) (some (.bool false))) fun x28 =>
 spanK x28 false h25 (fun k29 =>
 callP (cf 31 [a1, (.str ⟨4, 2054697264⟩)] h25) .pan fun x32 h33 =>
 obind (binS .neq x32 (.str ⟨0, 0⟩)) fun x34 =>
 k29 x34 h33) fun x30 h31 =>
 obind (pickI x28 (some (.bool true)) (some x30)) fun x35 =>
 condK x35
 (.ok (.str ⟨0, 0⟩) h31)
 (.ok a1 h31))
 (obind (binN .eql a0 (.int .u8 104)) fun x36 =>
 condK x36
 (obind (lenStr a1) fun x37 =>
 R 3 [a1, x1, x37, (.int .i64 0)] h2)
 (R 1 [x1] h2)))
theorem e18_0 {T : Tab} {a0 a1 : IV} {h : H} {r : CRes} (e : t18_0 (CL T) (J18 T) a0 a1 h = r) (hr : r ≠ .fail) : J18 T 0 [a0, a1] h = r := fj_step (fn := Tryd.f18) (js := js18) (by kernel_rfl) e hr
noncomputable def t18_1 (cf : CallF) (R : Rec) (a5 : IV) (h : H) : CRes :=
 callP (cf 34 [a5] h) .pan fun x38 h39 =>
 .ok x38 h39
theorem e18_1 {T : Tab} {a5 : IV} {h : H} {r : CRes} (e : t18_1 (CL T) (J18 T) a5 h = r) (hr : r ≠ .fail) : J18 T 1 [a5] h = r := fj_step (fn := Tryd.f18) (js := js18) (by kernel_rfl) e hr
noncomputable def t18_2 (cf : CallF) (R : Rec) (a6 a7 : IV) (h : H) : CRes :=
 obind (unI .not a7) fun x40 =>
 condK x40
 (.ok (.str ⟨0, 0⟩) h)
 (callP (cf 17 [a6, (.int .i64 31)] h) .pan fun x41 h42 =>
 obind (extractI x41 0) fun x43 =>
 obind (extractI x41 1) fun x44 =>
 .ok x43 h42)
theorem e18_2 {T : Tab} {a6 a7 : IV} {h : H} {r : CRes} (e : t18_2 (CL T) (J18 T) a6 a7 h = r) (hr : r ≠ .fail) : J18 T 2 [a6, a7] h = r := fj_step (fn := Tryd.f18) (js := js18) (by kernel_rfl) e hr
noncomputable def t18_3 (cf : CallF) (R : Rec) (a1 a5 a60 a61 : IV) (h : H) : CRes :=
 obind (binN .lss a61 a60) fun x45 =>
 condK x45
 (obind (ixStr a1 a61) fun x46 =>
 obind (binN .eql x46 (.int .u8 120)) fun x47 =>
 condK x47
 (R 5 [a1, a5, a61, a60, a61, x47] h)
 (obind (binN .eql x46 (.int .u8 122)) fun x48 =>
 R 5 [a1, a5, a61, a60, a61, x48] h))
 (R 1 [a5] h)
theorem e18_3 {T : Tab} {a1 a5 a60 a61 : IV} {h : H} {r : CRes} (e : t18_3 (CL T) (J18 T) a1 a5 a60 a61 h = r) (hr : r ≠ .fail) : J18 T 3 [a1, a5, a60, a61] h = r := fj_step (fn := Tryd.f18) (js := js18) (by kernel_rfl) e hr
noncomputable def t18_5 (cf : CallF) (R : Rec) (a1 a5 a10 a60 a61 a87 : IV) (h : H) : CRes :=
 condK a87
 (obind (binN .add a10 (.int .i64 1)) fun x49 =>
 obind (slcStr a1 (some a10) (some x49)) fun x50 =>
 callP (cf 19 [x50, (.int .i64 4)] h) .pan fun x51 h52 =>
 callP (cf 33 [a5, x51] h52) .pan fun x53 h54 =>
 R 4 [a1, a5, a60, a61] h54)
 (obind (binN .add a10 (.int .i64 1)) fun x55 =>
 obind (slcStr a1 (some a10) (some x55)) fun x56 =>
 callP (cf 29 [x56, (.int .i64 16), (.int .i64 8)] h) .pan fun x57 h58 =>
 obind (extractI x57 0) fun x59 =>
 obind (extractI x57 1) fun x60 =>
 obind (eqIf .neq true x60 .nilIface) fun x61 =>
 condK x61
 (.ok (.str ⟨0, 0⟩) h58)
 (obind (cvN .i64 x59) fun x62 =>
 callP (cf 17 [x62, (.int .i64 4)] h58) .pan fun x63 h64 =>
 obind (extractI x63 0) fun x65 =>
 obind (extractI x63 1) fun x66 =>
 callP (cf 33 [a5, x65] h64) .pan fun x67 h68 =>
 R 4 [a1, a5, a60, a61] h68))
theorem e18_5 {T : Tab} {a1 a5 a10 a60 a61 a87 : IV} {h : H} {r : CRes} (e : t18_5 (CL T) (J18 T) a1 a5 a10 a60 a61 a87 h = r) (hr : r ≠ .fail) : J18 T 5 [a1, a5, a10, a60, a61, a87] h = r := fj_step (fn := Tryd.f18) (js := js18) (by kernel_rfl) e hr
noncomputable def t18_4 (cf : CallF) (R : Rec) (a1 a5 a60 a61 : IV) (h : H) : CRes :=
 obind (binN .add a61 (.int .i64 1)) fun x69 =>
 R 3 [a1, a5, a60, x69] h
theorem e18_4 {T : Tab} {a1 a5 a60 a61 : IV} {h : H} {r : CRes} (e : t18_4 (CL T) (J18 T) a1 a5 a60 a61 h = r) (hr : r ≠ .fail) : J18 T 4 [a1, a5, a60, a61] h = r := fj_step (fn := Tryd.f18) (js := js18) (by kernel_rfl) e hr
theorem c18 {T : Tab} (hT : OvStep T) (ho : T.ov 18 = none) (hp : T.pol 18 = true) {a0 a1 : IV} {h : H} {r : CRes} (hg : Gd h) (e : t18_0 (CL T) (J18 T) a0 a1 h = r) (hr : r ≠ .fail) : CL T 18 [a0, a1] h = r := call_good ho Tryd.func18 rfl rfl rfl hp hg hT (e18_0 e hr) hr

-- silkworm/silkwormref02.decimal
-- silkworm/silkwormref02.digits
-- silkworm/silkwormref01.All
-- silkworm/silkwormref01.Fit
-- silkworm/lexer.refused
def js24 : List Jn := [⟨[], [0, 1]⟩]
noncomputable def J24 (T : Tab) : Rec := fj Tryd.prog (CL T) Tryd.f24 js24
noncomputable def t24_0 (cf : CallF) (R : Rec) (a0 a1 : IV) (h : H) : CRes :=
 obind (bldK [(.int .i64 0), (.int .i64 0)] [(0, 1), (1, 1)] [(0, a0), (1, a1)]) fun x1 =>
 obind2 (bslK false 2 [(.int .i64 0), (.int .i64 0)] 1 [(0, x1)] h) fun x2 h3 =>
 .ok x2 h3
theorem e24_0 {T : Tab} {a0 a1 : IV} {h : H} {r : CRes} (e : t24_0 (CL T) (J24 T) a0 a1 h = r) (hr : r ≠ .fail) : J24 T 0 [a0, a1] h = r := fj_step (fn := Tryd.f24) (js := js24) (by kernel_rfl) e hr
theorem c24 {T : Tab} (hT : OvStep T) (ho : T.ov 24 = none) (hp : T.pol 24 = true) {a0 a1 : IV} {h : H} {r : CRes} (hg : Gd h) (e : t24_0 (CL T) (J24 T) a0 a1 h = r) (hr : r ≠ .fail) : CL T 24 [a0, a1] h = r := call_good ho Tryd.func24 rfl rfl rfl hp hg hT (e24_0 e hr) hr

-- silkworm/lexer.comment
def js25 : List Jn := [⟨[], [0, 1]⟩]
noncomputable def J25 (T : Tab) : Rec := fj Tryd.prog (CL T) Tryd.f25 js25
noncomputable def t25_0 (cf : CallF) (R : Rec) (a0 a1 : IV) (h : H) : CRes :=
 obind (slcStr a0 (some a1) none) fun x1 =>
 callP (cf 36 [x1, (.str ⟨2, 12079⟩)] h) .pan fun x2 h3 =>
 condK x2
 (callP (cf 41 [x1, (.int .u8 10)] h3) .pan fun x4 h5 =>
 obind (binN .geq x4 (.int .i64 0)) fun x6 =>
 condK x6
 (obind (binN .add a1 x4) fun x7 =>
 .ok (.tup [x7, (.bool true)]) h5)
 (obind (lenStr a0) fun x8 =>
 .ok (.tup [x8, (.bool true)]) h5))
 (callP (cf 36 [x1, (.str ⟨2, 10799⟩)] h3) .pan fun x9 h10 =>
 condK x9
 (obind (slcStr x1 (some (.int .i64 2)) none) fun x11 =>
 callP (cf 42 [x11, (.str ⟨2, 12074⟩)] h10) .pan fun x12 h13 =>
 obind (binN .geq x12 (.int .i64 0)) fun x14 =>
 condK x14
 (obind (binN .add a1 x12) fun x15 =>
 obind (binN .add x15 (.int .i64 4)) fun x16 =>
 .ok (.tup [x16, (.bool true)]) h13)
 (.ok (.tup [(.int .i64 (-1)), (.bool true)]) h13))
 (.ok (.tup [(.int .i64 0), (.bool false)]) h10))
theorem e25_0 {T : Tab} {a0 a1 : IV} {h : H} {r : CRes} (e : t25_0 (CL T) (J25 T) a0 a1 h = r) (hr : r ≠ .fail) : J25 T 0 [a0, a1] h = r := fj_step (fn := Tryd.f25) (js := js25) (by kernel_rfl) e hr
theorem c25 {T : Tab} (hT : OvStep T) (ho : T.ov 25 = none) (hp : T.pol 25 = true) {a0 a1 : IV} {h : H} {r : CRes} (hg : Gd h) (e : t25_0 (CL T) (J25 T) a0 a1 h = r) (hr : r ≠ .fail) : CL T 25 [a0, a1] h = r := call_good ho Tryd.func25 rfl rfl rfl hp hg hT (e25_0 e hr) hr

-- silkworm/lexer.kind
-- silkworm/lexer.token
def js27 : List Jn := [⟨[], [0, 1]⟩, ⟨[1, 1, 1], [4]⟩, ⟨[1, 1, 0, 1, 1, 1, 1, 1, 1, 1, 0, 1, 0, 1, 1], [2, 3, 4, 12]⟩]
noncomputable def J27 (T : Tab) : Rec := fj Tryd.prog (CL T) Tryd.f27 js27
noncomputable def t27_0 (cf : CallF) (R : Rec) (a0 a1 : IV) (h : H) : CRes :=
 obind2 (newI h (IV.cells a0)) fun x1 h2 =>
 obind2 (newI h2 (IV.cells a1)) fun x3 h4 =>
 obind2 (newI h4 z0) fun x5 h6 =>
 obind (ld0 h6 x1) fun x7 =>
 obind (ld0 h6 x3) fun x8 =>
 obind (ixStr x7 x8) fun x9 =>
 callP (cf 26 [x9] h6) .pan fun x10 h11 =>
 obind (binN .eql x10 (.int .i64 2)) fun x12 =>
 condK x12
 (obind (ld0 h11 x3) fun x13 =>
 funK (.func 43 [x1, x3]) fun f16 c17 => callP (cf f16 ([(.int .i64 1), x13] ++ c17) h11) .pan fun x14 h15 =>
 obind (extractI x14 0) fun x18 =>
 obind (extractI x14 1) fun x19 =>
 obind (extractI x14 2) fun x20 =>
 obindH (stA 3 h15 x5 x18) fun h21 =>
 obind (ldA 3 h21 x5) fun x22 =>
 .ok (.tup [x22, x19, x20]) h21)
 (obind (binN .eql x10 (.int .i64 4)) fun x23 =>
 condK x23
 (obind (ld0 h11 x3) fun x24 =>
 obind (binN .add x24 (.int .i64 1)) fun x25 =>
 obind (ld0 h11 x1) fun x26 =>
 obind (lenStr x26) fun x27 =>
 obind (binN .lss x25 x27) fun x28 =>
 spanK x28 true h11 (fun k29 =>
 obind (ld0 h11 x1) fun x32 =>
 obind (ld0 h11 x3) fun x33 =>
 obind (binN .add x33 (.int .i64 1)) fun x34 =>
 obind (ixStr x32 x34) fun x35 =>
 callP (cf 26 [x35] h11) .pan fun x36 h37 =>
 obind (binN .eql x36 (.int .i64 2)) fun x38 =>
 k29 x38 h37) fun x30 h31 =>
 obind (pickI x28 (some x30) (some (.bool false))) fun x39 =>
 condK x39
 (obind (ld0 h31 x3) fun x40 =>
 obind (binN .add x40 (.int .i64 1)) fun x41 =>
 funK (.func 43 [x1, x3]) fun f44 c45 => callP (cf f44 ([(.int .i64 4), x41] ++ c45) h31) .pan fun x42 h43 =>
 obind (extractI x42 0) fun x46 =>
 obind (extractI x42 1) fun x47 =>
 obind (extractI x42 2) fun x48 =>
 obindH (stA 3 h43 x5 x46) fun h49 =>
 obind (ldA 3 h49 x5) fun x50 =>
 .ok (.tup [x50, x47, x48]) h49)
 (R 1 [x5] h31))
 (obind (binN .eql x10 (.int .i64 3)) fun x51 =>
 condK x51
 (obind (ld0 h11 x1) fun x52 =>
 obind (ld0 h11 x3) fun x53 =>
 obind2 (bslK true 1 [(.int .i64 0)] 3 [(0, (.int .i64 2)), (1, (.int .i64 3)), (2, (.int .i64 3))] h11) fun x54 h55 =>
 callP (cf 44 [x52, x53, x54] h55) .pan fun x56 h57 =>
 obind (ld0 h57 x1) fun x58 =>
 obind (ld0 h57 x3) fun x59 =>
 obind (slcStr x58 (some x59) (some x56)) fun x60 =>
 callP (cf 8 [x60] h57) .pan fun x61 h62 =>
 obind (extractI x61 0) fun x63 =>
 obind (extractI x61 1) fun x64 =>
 obind (extractI x61 2) fun x65 =>
 obind (ld0 h62 x1) fun x66 =>
 obind (ld0 h62 x3) fun x67 =>
 obind (slcStr x66 (some x67) (some x56)) fun x68 =>
 obind (ld0 h62 x3) fun x69 =>
 obind (bldK z0 p1 [(0, (.int .i64 2)), (1, x68), (2, x69)]) fun x70 =>
 obindH (stA 3 h62 x5 x70) fun h71 =>
 obind (ldA 3 h71 x5) fun x72 =>
 .ok (.tup [x72, x56, x65]) h71)
 (obind (binN .eql x10 (.int .i64 5)) fun x73 =>
 condK x73
 (obind (ld0 h11 x3) fun x74 =>
 obind (binN .add x74 (.int .i64 1)) fun x75 =>
 obind (ld0 h11 x1) fun x76 =>
 obind (lenStr x76) fun x77 =>
 obind (binN .lss x75 x77) fun x78 =>
 spanK x78 true h11 (fun k79 =>
 obind (ld0 h11 x1) fun x82 =>
 obind (ld0 h11 x3) fun x83 =>
 obind (ld0 h11 x3) fun x84 =>
 obind (binN .add x84 (.int .i64 2)) fun x85 =>
 obind (slcStr x82 (some x83) (some x85)) fun x86 =>
 obind (binS .add (.str ⟨1, 32⟩) x86) fun x87 =>
 obind (binS .add x87 (.str ⟨1, 32⟩)) fun x88 =>
 callP (cf 45 [(.str ⟨25, 202393441589788371169259346588455910987090342398092682602016⟩), x88] h11) .pan fun x89 h90 =>
 k79 x89 h90) fun x80 h81 =>
 obind (pickI x78 (some x80) (some (.bool false))) fun x91 =>
 condK x91
 (R 2 [x1, x3, x5, (.int .i64 2)] h81)
 (R 2 [x1, x3, x5, (.int .i64 1)] h81))
 (R 1 [x5] h11))))
theorem e27_0 {T : Tab} {a0 a1 : IV} {h : H} {r : CRes} (e : t27_0 (CL T) (J27 T) a0 a1 h = r) (hr : r ≠ .fail) : J27 T 0 [a0, a1] h = r := fj_step (fn := Tryd.f27) (js := js27) (by kernel_rfl) e hr
noncomputable def t27_1 (cf : CallF) (R : Rec) (a4 : IV) (h : H) : CRes :=
 obind (bldK z0 p1 []) fun x92 =>
 obindH (stA 3 h a4 x92) fun h93 =>
 obind (ldA 3 h93 a4) fun x94 =>
 .ok (.tup [x94, (.int .i64 0), (.int .i64 20)]) h93
theorem e27_1 {T : Tab} {a4 : IV} {h : H} {r : CRes} (e : t27_1 (CL T) (J27 T) a4 h = r) (hr : r ≠ .fail) : J27 T 1 [a4] h = r := fj_step (fn := Tryd.f27) (js := js27) (by kernel_rfl) e hr
noncomputable def t27_2 (cf : CallF) (R : Rec) (a2 a3 a4 a12 : IV) (h : H) : CRes :=
 obind (ld0 h a2) fun x95 =>
 obind (ld0 h a3) fun x96 =>
 obind (ld0 h a3) fun x97 =>
 obind (binN .add x97 a12) fun x98 =>
 obind (slcStr x95 (some x96) (some x98)) fun x99 =>
 obind (ld0 h a3) fun x100 =>
 obind (bldK z0 p1 [(0, (.int .i64 3)), (1, x99), (2, x100)]) fun x101 =>
 obind (ld0 h a3) fun x102 =>
 obind (binN .add x102 a12) fun x103 =>
 obindH (stA 3 h a4 x101) fun h104 =>
 obind (binN .add x102 a12) fun x105 =>
 bif IV.beq x105 x103 then
 obind (ld0 h104 a3) fun x106 =>
 bif IV.beq x106 x102 then
 obind (ldA 3 h104 a4) fun x107 =>
 .ok (.tup [x107, x103, (.int .i64 0)]) h104
 else .fail
 else .fail
theorem e27_2 {T : Tab} {a2 a3 a4 a12 : IV} {h : H} {r : CRes} (e : t27_2 (CL T) (J27 T) a2 a3 a4 a12 h = r) (hr : r ≠ .fail) : J27 T 2 [a2, a3, a4, a12] h = r := fj_step (fn := Tryd.f27) (js := js27) (by kernel_rfl) e hr
theorem c27 {T : Tab} (hT : OvStep T) (ho : T.ov 27 = none) (hp : T.pol 27 = true) {a0 a1 : IV} {h : H} {r : CRes} (hg : Gd h) (e : t27_0 (CL T) (J27 T) a0 a1 h = r) (hr : r ≠ .fail) : CL T 27 [a0, a1] h = r := call_good ho Tryd.func27 rfl rfl rfl hp hg hT (e27_0 e hr) hr

-- internal/stringslite.Cut
def js28 : List Jn := [⟨[], [0, 1]⟩]
noncomputable def J28 (T : Tab) : Rec := fj Tryd.prog (CL T) Tryd.f28 js28
noncomputable def t28_0 (cf : CallF) (R : Rec) (a0 a1 : IV) (h : H) : CRes :=
 callP (cf 46 [a0, a1] h) .pan fun x1 h2 =>
 obind (binN .geq x1 (.int .i64 0)) fun x3 =>
 condK x3
 (obind (slcStr a0 none (some x1)) fun x4 =>
 obind (lenStr a1) fun x5 =>
 obind (binN .add x1 x5) fun x6 =>
 obind (slcStr a0 (some x6) none) fun x7 =>
 .ok (.tup [x4, x7, (.bool true)]) h2)
 (.ok (.tup [a0, (.str ⟨0, 0⟩), (.bool false)]) h2)
theorem e28_0 {T : Tab} {a0 a1 : IV} {h : H} {r : CRes} (e : t28_0 (CL T) (J28 T) a0 a1 h = r) (hr : r ≠ .fail) : J28 T 0 [a0, a1] h = r := fj_step (fn := Tryd.f28) (js := js28) (by kernel_rfl) e hr
theorem c28 {T : Tab} (hT : OvStep T) (ho : T.ov 28 = none) (hp : T.pol 28 = true) {a0 a1 : IV} {h : H} {r : CRes} (hg : Gd h) (e : t28_0 (CL T) (J28 T) a0 a1 h = r) (hr : r ≠ .fail) : CL T 28 [a0, a1] h = r := call_good ho Tryd.func28 rfl rfl rfl hp hg hT (e28_0 e hr) hr

-- strconv.ParseUint
def js29 : List Jn := [⟨[], [0, 1, 2]⟩]
noncomputable def J29 (T : Tab) : Rec := fj Tryd.prog (CL T) Tryd.f29 js29
noncomputable def t29_0 (cf : CallF) (R : Rec) (a0 a1 a2 : IV) (h : H) : CRes :=
 callP (cf 47 [a0, a1, a2] h) .pan fun x1 h2 =>
 obind (extractI x1 0) fun x3 =>
 obind (extractI x1 1) fun x4 =>
 obind (eqIf .neq true x4 .nilIface) fun x5 =>
 condK x5
 (callP (cf 48 [(.str ⟨9, 2147778296661251613008⟩), a0, a1, a2, x4] h2) .pan fun x6 h7 =>
 .ok (.tup [x3, x6]) h7)
 (.ok (.tup [x3, .nilIface]) h2)
theorem e29_0 {T : Tab} {a0 a1 a2 : IV} {h : H} {r : CRes} (e : t29_0 (CL T) (J29 T) a0 a1 a2 h = r) (hr : r ≠ .fail) : J29 T 0 [a0, a1, a2] h = r := fj_step (fn := Tryd.f29) (js := js29) (by kernel_rfl) e hr
theorem c29 {T : Tab} (hT : OvStep T) (ho : T.ov 29 = none) (hp : T.pol 29 = true) {a0 a1 a2 : IV} {h : H} {r : CRes} (hg : Gd h) (e : t29_0 (CL T) (J29 T) a0 a1 a2 h = r) (hr : r ≠ .fail) : CL T 29 [a0, a1, a2] h = r := call_good ho Tryd.func29 rfl rfl rfl hp hg hT (e29_0 e hr) hr

-- strings.TrimLeft
def js30 : List Jn := [⟨[], [0, 1]⟩]
noncomputable def J30 (T : Tab) : Rec := fj Tryd.prog (CL T) Tryd.f30 js30
noncomputable def t30_0 (cf : CallF) (R : Rec) (a0 a1 : IV) (h : H) : CRes :=
 obind (binS .eql a0 (.str ⟨0, 0⟩)) fun x1 =>
 spanK x1 false h (fun k2 =>
 obind (binS .eql a1 (.str ⟨0, 0⟩)) fun x5 =>
 k2 x5 h) fun x3 h4 =>
 obind (pickI x1 (some (.bool true)) (some x3)) fun x6 =>
 condK x6
 (.ok a0 h4)
 (obind (lenStr a1) fun x7 =>
 obind (binN .eql x7 (.int .i64 1)) fun x8 =>
 spanK x8 true h4 (fun k9 =>
 obind (ixStr a1 (.int .i64 0)) fun x12 =>
 obind (binN .lss x12 (.int .u8 128)) fun x13 =>
 k9 x13 h4) fun x10 h11 =>
 obind (pickI x8 (some x10) (some (.bool false))) fun x14 =>
 condK x14
 (obind (ixStr a1 (.int .i64 0)) fun x15 =>
 callP (cf 49 [a0, x15] h11) .pan fun x16 h17 =>
 .ok x16 h17)
 (callP (cf 50 [a1] h11) .pan fun x18 h19 =>
 obind (extractI x18 0) fun x20 =>
 obind (extractI x18 1) fun x21 =>
 obind2 (newI h19 z2) fun x22 h23 =>
 obindH (stA 256 h23 x22 x20) fun h24 =>
 condK x21
 (callP (cf 51 [a0, x22] h24) .pan fun x25 h26 =>
 .ok x25 h26)
 (callP (cf 52 [a0, a1] h24) .pan fun x27 h28 =>
 .ok x27 h28)))
theorem e30_0 {T : Tab} {a0 a1 : IV} {h : H} {r : CRes} (e : t30_0 (CL T) (J30 T) a0 a1 h = r) (hr : r ≠ .fail) : J30 T 0 [a0, a1] h = r := fj_step (fn := Tryd.f30) (js := js30) (by kernel_rfl) e hr
theorem c30 {T : Tab} (hT : OvStep T) (ho : T.ov 30 = none) (hp : T.pol 30 = true) {a0 a1 : IV} {h : H} {r : CRes} (hg : Gd h) (e : t30_0 (CL T) (J30 T) a0 a1 h = r) (hr : r ≠ .fail) : CL T 30 [a0, a1] h = r := call_good ho Tryd.func30 rfl rfl rfl hp hg hT (e30_0 e hr) hr

-- strings.Trim
def js31 : List Jn := [⟨[], [0, 1]⟩]
noncomputable def J31 (T : Tab) : Rec := fj Tryd.prog (CL T) Tryd.f31 js31
noncomputable def t31_0 (cf : CallF) (R : Rec) (a0 a1 : IV) (h : H) : CRes :=
 obind (binS .eql a0 (.str ⟨0, 0⟩)) fun x1 =>
 spanK x1 false h (fun k2 =>
 obind (binS .eql a1 (.str ⟨0, 0⟩)) fun x5 =>
 k2 x5 h) fun x3 h4 =>
 obind (pickI x1 (some (.bool true)) (some x3)) fun x6 =>
 condK x6
 (.ok a0 h4)
 (obind (lenStr a1) fun x7 =>
 obind (binN .eql x7 (.int .i64 1)) fun x8 =>
 spanK x8 true h4 (fun k9 =>
 obind (ixStr a1 (.int .i64 0)) fun x12 =>
 obind (binN .lss x12 (.int .u8 128)) fun x13 =>
 k9 x13 h4) fun x10 h11 =>
 obind (pickI x8 (some x10) (some (.bool false))) fun x14 =>
 condK x14
 (obind (ixStr a1 (.int .i64 0)) fun x15 =>
 callP (cf 53 [a0, x15] h11) (fun v16 h17 =>
 obind (ixStr a1 (.int .i64 0)) fun x18 =>
 .pan v16 h17) fun x19 h20 =>
 obind (ixStr a1 (.int .i64 0)) fun x21 =>
 callP (cf 49 [x19, x21] h20) (fun v22 h23 =>
 .pan v22 h23) fun x24 h25 =>
 .ok x24 h25)
 (callP (cf 50 [a1] h11) .pan fun x26 h27 =>
 obind (extractI x26 0) fun x28 =>
 obind (extractI x26 1) fun x29 =>
 obind2 (newI h27 z2) fun x30 h31 =>
 obindH (stA 256 h31 x30 x28) fun h32 =>
 condK x29
 (callP (cf 54 [a0, x30] h32) .pan fun x33 h34 =>
 callP (cf 51 [x33, x30] h34) .pan fun x35 h36 =>
 .ok x35 h36)
 (callP (cf 55 [a0, a1] h32) .pan fun x37 h38 =>
 callP (cf 52 [x37, a1] h38) .pan fun x39 h40 =>
 .ok x39 h40)))
theorem e31_0 {T : Tab} {a0 a1 : IV} {h : H} {r : CRes} (e : t31_0 (CL T) (J31 T) a0 a1 h = r) (hr : r ≠ .fail) : J31 T 0 [a0, a1] h = r := fj_step (fn := Tryd.f31) (js := js31) (by kernel_rfl) e hr
theorem c31 {T : Tab} (hT : OvStep T) (ho : T.ov 31 = none) (hp : T.pol 31 = true) {a0 a1 : IV} {h : H} {r : CRes} (hg : Gd h) (e : t31_0 (CL T) (J31 T) a0 a1 h = r) (hr : r ≠ .fail) : CL T 31 [a0, a1] h = r := call_good ho Tryd.func31 rfl rfl rfl hp hg hT (e31_0 e hr) hr

-- silkworm/logic.Check
def js32 : List Jn := [⟨[], [0]⟩]
noncomputable def J32 (T : Tab) : Rec := fj Tryd.prog (CL T) Tryd.f32 js32
noncomputable def t32_0 (cf : CallF) (R : Rec) (a0 : IV) (h : H) : CRes :=
 obind (lenStr a0) fun x1 =>
 obind (binN .lss x1 (.int .i64 1)) fun x2 =>
 spanK x2 false h (fun k3 =>
 obind (lenStr a0) fun x6 =>
 obind (binN .gtr x6 (.int .i64 256)) fun x7 =>
 k3 x7 h) fun x4 h5 =>
 obind (pickI x2 (some (.bool true)) (some x4)) fun x8 =>
 spanK x8 false h5 (fun k9 =>
 callP (cf 31 [a0, (.str ⟨4, 2054697264⟩)] h5) .pan fun x12 h13 =>
 obind (binS .neq x12 (.str ⟨0, 0⟩)) fun x14 =>
 k9 x14 h13) fun x10 h11 =>
 obind (pickI x8 (some (.bool true)) (some x10)) fun x15 =>
 condK x15
 (.ok (.int .i64 10) h11)
 (.ok (.int .i64 0) h11)
theorem e32_0 {T : Tab} {a0 : IV} {h : H} {r : CRes} (e : t32_0 (CL T) (J32 T) a0 h = r) (hr : r ≠ .fail) : J32 T 0 [a0] h = r := fj_step (fn := Tryd.f32) (js := js32) (by kernel_rfl) e hr
theorem c32 {T : Tab} (hT : OvStep T) (ho : T.ov 32 = none) (hp : T.pol 32 = true) {a0 : IV} {h : H} {r : CRes} (hg : Gd h) (e : t32_0 (CL T) (J32 T) a0 h = r) (hr : r ≠ .fail) : CL T 32 [a0] h = r := call_good ho Tryd.func32 rfl rfl rfl hp hg hT (e32_0 e hr) hr

-- (*strings.Builder).WriteString
def js33 : List Jn := [⟨[], [0, 1]⟩]
noncomputable def J33 (T : Tab) : Rec := fj Tryd.prog (CL T) Tryd.f33 js33
noncomputable def t33_0 (cf : CallF) (R : Rec) (a0 a1 : IV) (h : H) : CRes :=
 callP (cf 56 [a0] h) .pan fun x1 h2 =>
 obind (nilI a0) fun x3 =>
 obind (fadK 1 x3) fun x4 =>
 obind (ld0 h2 x4) fun x5 =>
 obind2 (appB 5 1 1 h2 x5 a1) fun x6 h7 =>
 obind (nilI a0) fun x8 =>
 obind (fadK 1 x8) fun x9 =>
 obindH (stA 1 h7 x9 x6) fun h10 =>
 obind (lenStr a1) fun x11 =>
 .ok (.tup [x11, .nilIface]) h10
theorem e33_0 {T : Tab} {a0 a1 : IV} {h : H} {r : CRes} (e : t33_0 (CL T) (J33 T) a0 a1 h = r) (hr : r ≠ .fail) : J33 T 0 [a0, a1] h = r := fj_step (fn := Tryd.f33) (js := js33) (by kernel_rfl) e hr
theorem c33 {T : Tab} (hT : OvStep T) (ho : T.ov 33 = none) (hp : T.pol 33 = true) {a0 a1 : IV} {h : H} {r : CRes} (hg : Gd h) (e : t33_0 (CL T) (J33 T) a0 a1 h = r) (hr : r ≠ .fail) : CL T 33 [a0, a1] h = r := call_good ho Tryd.func33 rfl rfl rfl hp hg hT (e33_0 e hr) hr

-- (*strings.Builder).String
def js34 : List Jn := [⟨[], [0]⟩]
noncomputable def J34 (T : Tab) : Rec := fj Tryd.prog (CL T) Tryd.f34 js34
noncomputable def t34_0 (cf : CallF) (R : Rec) (a0 : IV) (h : H) : CRes :=
 obind (nilI a0) fun x1 =>
 obind (fadK 1 x1) fun x2 =>
 obind (ld0 h x2) fun x3 =>
 obind (sliceDataI x3) fun x4 =>
 obind (nilI a0) fun x5 =>
 obind (fadK 1 x5) fun x6 =>
 obind (ld0 h x6) fun x7 =>
 obind (ld0 h x6) fun x8 =>
 bif IV.beq x8 x7 then
 obind (lenS x7) fun x9 =>
 obind (lenS x7) fun x10 =>
 bif IV.beq x10 x9 then
 obind2 (bytesStr 5 h x4 x9) fun x11 h12 =>
 .ok x11 h12
 else .fail
 else .fail
theorem e34_0 {T : Tab} {a0 : IV} {h : H} {r : CRes} (e : t34_0 (CL T) (J34 T) a0 h = r) (hr : r ≠ .fail) : J34 T 0 [a0] h = r := fj_step (fn := Tryd.f34) (js := js34) (by kernel_rfl) e hr
theorem c34 {T : Tab} (hT : OvStep T) (ho : T.ov 34 = none) (hp : T.pol 34 = true) {a0 : IV} {h : H} {r : CRes} (hg : Gd h) (e : t34_0 (CL T) (J34 T) a0 h = r) (hr : r ≠ .fail) : CL T 34 [a0] h = r := call_good ho Tryd.func34 rfl rfl rfl hp hg hT (e34_0 e hr) hr

-- strings.HasPrefix
def js36 : List Jn := [⟨[], [0, 1]⟩]
noncomputable def J36 (T : Tab) : Rec := fj Tryd.prog (CL T) Tryd.f36 js36
noncomputable def t36_0 (cf : CallF) (R : Rec) (a0 a1 : IV) (h : H) : CRes :=
 callP (cf 59 [a0, a1] h) .pan fun x1 h2 =>
 .ok x1 h2
theorem e36_0 {T : Tab} {a0 a1 : IV} {h : H} {r : CRes} (e : t36_0 (CL T) (J36 T) a0 a1 h = r) (hr : r ≠ .fail) : J36 T 0 [a0, a1] h = r := fj_step (fn := Tryd.f36) (js := js36) (by kernel_rfl) e hr
theorem c36 {T : Tab} (hT : OvStep T) (ho : T.ov 36 = none) (hp : T.pol 36 = true) {a0 a1 : IV} {h : H} {r : CRes} (hg : Gd h) (e : t36_0 (CL T) (J36 T) a0 a1 h = r) (hr : r ≠ .fail) : CL T 36 [a0, a1] h = r := call_good ho Tryd.func36 rfl rfl rfl hp hg hT (e36_0 e hr) hr

-- silkworm/silkwormref02.digit
-- silkworm/silkwormref02.four
-- strings.IndexByte
def js41 : List Jn := [⟨[], [0, 1]⟩]
noncomputable def J41 (T : Tab) : Rec := fj Tryd.prog (CL T) Tryd.f41 js41
noncomputable def t41_0 (cf : CallF) (R : Rec) (a0 a1 : IV) (h : H) : CRes :=
 callP (cf 61 [a0, a1] h) .pan fun x1 h2 =>
 .ok x1 h2
theorem e41_0 {T : Tab} {a0 a1 : IV} {h : H} {r : CRes} (e : t41_0 (CL T) (J41 T) a0 a1 h = r) (hr : r ≠ .fail) : J41 T 0 [a0, a1] h = r := fj_step (fn := Tryd.f41) (js := js41) (by kernel_rfl) e hr
theorem c41 {T : Tab} (hT : OvStep T) (ho : T.ov 41 = none) (hp : T.pol 41 = true) {a0 a1 : IV} {h : H} {r : CRes} (hg : Gd h) (e : t41_0 (CL T) (J41 T) a0 a1 h = r) (hr : r ≠ .fail) : CL T 41 [a0, a1] h = r := call_good ho Tryd.func41 rfl rfl rfl hp hg hT (e41_0 e hr) hr

-- strings.Index
def js42 : List Jn := [⟨[], [0, 1]⟩]
noncomputable def J42 (T : Tab) : Rec := fj Tryd.prog (CL T) Tryd.f42 js42
noncomputable def t42_0 (cf : CallF) (R : Rec) (a0 a1 : IV) (h : H) : CRes :=
 callP (cf 46 [a0, a1] h) .pan fun x1 h2 =>
 .ok x1 h2
theorem e42_0 {T : Tab} {a0 a1 : IV} {h : H} {r : CRes} (e : t42_0 (CL T) (J42 T) a0 a1 h = r) (hr : r ≠ .fail) : J42 T 0 [a0, a1] h = r := fj_step (fn := Tryd.f42) (js := js42) (by kernel_rfl) e hr
theorem c42 {T : Tab} (hT : OvStep T) (ho : T.ov 42 = none) (hp : T.pol 42 = true) {a0 a1 : IV} {h : H} {r : CRes} (hg : Gd h) (e : t42_0 (CL T) (J42 T) a0 a1 h = r) (hr : r ≠ .fail) : CL T 42 [a0, a1] h = r := call_good ho Tryd.func42 rfl rfl rfl hp hg hT (e42_0 e hr) hr

-- silkworm/lexer.token$1
def js43 : List Jn := [⟨[], [0, 1, 2, 3]⟩]
noncomputable def J43 (T : Tab) : Rec := fj Tryd.prog (CL T) Tryd.f43 js43
noncomputable def t43_0 (cf : CallF) (R : Rec) (a0 a1 a2 a3 : IV) (h : H) : CRes :=
 obind2 (newI h z0) fun x1 h2 =>
 obind (ld0 h2 a2) fun x3 =>
 obind2 (bslK true 1 [(.int .i64 0)] 2 [(0, (.int .i64 2)), (1, (.int .i64 3))] h2) fun x4 h5 =>
 callP (cf 44 [x3, a1, x4] h5) .pan fun x6 h7 =>
 obind (binN .sub x6 a1) fun x8 =>
 obind (binN .gtr x8 (.int .i64 64)) fun x9 =>
 condK x9
 (obind (bldK z0 p1 []) fun x10 =>
 obindH (stA 3 h7 x1 x10) fun h11 =>
 obind (ldA 3 h11 x1) fun x12 =>
 .ok (.tup [x12, (.int .i64 0), (.int .i64 4)]) h11)
 (obind (ld0 h7 a2) fun x13 =>
 obind (slcStr x13 (some a1) (some x6)) fun x14 =>
 obind (ld0 h7 a3) fun x15 =>
 obind (bldK z0 p1 [(0, a0), (1, x14), (2, x15)]) fun x16 =>
 obindH (stA 3 h7 x1 x16) fun h17 =>
 obind (ldA 3 h17 x1) fun x18 =>
 .ok (.tup [x18, x6, (.int .i64 0)]) h17)
theorem e43_0 {T : Tab} {a0 a1 a2 a3 : IV} {h : H} {r : CRes} (e : t43_0 (CL T) (J43 T) a0 a1 a2 a3 h = r) (hr : r ≠ .fail) : J43 T 0 [a0, a1, a2, a3] h = r := fj_step (fn := Tryd.f43) (js := js43) (by kernel_rfl) e hr
theorem c43 {T : Tab} (hT : OvStep T) (ho : T.ov 43 = none) (hp : T.pol 43 = true) {a0 a1 a2 a3 : IV} {h : H} {r : CRes} (hg : Gd h) (e : t43_0 (CL T) (J43 T) a0 a1 a2 a3 h = r) (hr : r ≠ .fail) : CL T 43 [a0, a1, a2, a3] h = r := call_good ho Tryd.func43 rfl rfl rfl hp hg hT (e43_0 e hr) hr

-- silkworm/lexer.run
def js44 : List Jn := [⟨[], [0, 1, 2]⟩, ⟨[1, 1], [1]⟩, ⟨[0, 0, 1], [0, 1, 2]⟩, ⟨[0, 1, 0, 1, 0, 1, 0, 0, 0, 1], [0, 1, 2, 7, 14, 15, 16]⟩]
noncomputable def J44 (T : Tab) : Rec := fj Tryd.prog (CL T) Tryd.f44 js44
noncomputable def t44_0 (cf : CallF) (R : Rec) (a0 a1 a2 : IV) (h : H) : CRes :=
 R 2 [a0, a1, a2] h
theorem e44_0 {T : Tab} {a0 a1 a2 : IV} {h : H} {r : CRes} (e : t44_0 (CL T) (J44 T) a0 a1 a2 h = r) (hr : r ≠ .fail) : J44 T 0 [a0, a1, a2] h = r := fj_step (fn := Tryd.f44) (js := js44) (by kernel_rfl) e hr
noncomputable def t44_2 (cf : CallF) (R : Rec) (a0 a1 a2 : IV) (h : H) : CRes :=
 obind (lenStr a0) fun x1 =>
 obind (binN .lss a1 x1) fun x2 =>
 condK x2
 (obind (lenS a2) fun x3 =>
 R 3 [a0, a1, a2, (.bool false), a2, x3, (.int .i64 0)] h)
 (R 1 [a1] h)
theorem e44_2 {T : Tab} {a0 a1 a2 : IV} {h : H} {r : CRes} (e : t44_2 (CL T) (J44 T) a0 a1 a2 h = r) (hr : r ≠ .fail) : J44 T 2 [a0, a1, a2] h = r := fj_step (fn := Tryd.f44) (js := js44) (by kernel_rfl) e hr
noncomputable def t44_1 (cf : CallF) (R : Rec) (a1 : IV) (h : H) : CRes :=
 .ok a1 h
theorem e44_1 {T : Tab} {a1 : IV} {h : H} {r : CRes} (e : t44_1 (CL T) (J44 T) a1 h = r) (hr : r ≠ .fail) : J44 T 1 [a1] h = r := fj_step (fn := Tryd.f44) (js := js44) (by kernel_rfl) e hr
noncomputable def t44_3 (cf : CallF) (R : Rec) (a0 a1 a2 a7 a14 a15 a16 : IV) (h : H) : CRes :=
 obind (binN .lss a16 a15) fun x4 =>
 condK x4
 (obind (ixS 1 a14 a16) fun x5 =>
 obind (ld0 h x5) fun x6 =>
 spanK a7 false h (fun k7 =>
 obind (ixStr a0 a1) fun x10 =>
 callP (cf 26 [x10] h) .pan fun x11 h12 =>
 obind (binN .eql x11 x6) fun x13 =>
 k7 x13 h12) fun x8 h9 =>
 obind (pickI a7 (some (.bool true)) (some x8)) fun x14 =>
 spanK x14 false h9 (fun k15 =>
 obind (binN .eql x6 (.int .i64 3)) fun x18 =>
 k15 x18 h9) fun x16 h17 =>
 spanK x16 true h17 (fun k19 =>
 obind (ixStr a0 a1) fun x22 =>
 obind (binN .eql x22 (.int .u8 39)) fun x23 =>
 k19 x23 h17) fun x20 h21 =>
 spanK x14 false h21 (fun k24 =>
 obind (pickI x16 (some x20) (some (.bool false))) fun x27 =>
 k24 x27 h21) fun x25 h26 =>
 spanK x25 true h26 (fun k28 =>
 obind (lenS a2) fun x31 =>
 obind (binN .gtr x31 (.int .i64 2)) fun x32 =>
 k28 x32 h26) fun x29 h30 =>
 spanK x14 false h30 (fun k33 =>
 obind (pickI x25 (some x29) (some (.bool false))) fun x36 =>
 k33 x36 h30) fun x34 h35 =>
 obind (pickI x14 (some (.bool true)) (some x34)) fun x37 =>
 obind (binN .add a16 (.int .i64 1)) fun x38 =>
 R 3 [a0, a1, a2, x37, a14, a15, x38] h35)
 (obind (unI .not a7) fun x39 =>
 condK x39
 (R 1 [a1] h)
 (obind (binN .add a1 (.int .i64 1)) fun x40 =>
 R 2 [a0, x40, a2] h))
theorem e44_3 {T : Tab} {a0 a1 a2 a7 a14 a15 a16 : IV} {h : H} {r : CRes} (e : t44_3 (CL T) (J44 T) a0 a1 a2 a7 a14 a15 a16 h = r) (hr : r ≠ .fail) : J44 T 3 [a0, a1, a2, a7, a14, a15, a16] h = r := fj_step (fn := Tryd.f44) (js := js44) (by kernel_rfl) e hr
theorem c44 {T : Tab} (hT : OvStep T) (ho : T.ov 44 = none) (hp : T.pol 44 = true) {a0 a1 a2 : IV} {h : H} {r : CRes} (hg : Gd h) (e : t44_0 (CL T) (J44 T) a0 a1 a2 h = r) (hr : r ≠ .fail) : CL T 44 [a0, a1, a2] h = r := call_good ho Tryd.func44 rfl rfl rfl hp hg hT (e44_0 e hr) hr

-- strings.Contains
def js45 : List Jn := [⟨[], [0, 1]⟩]
noncomputable def J45 (T : Tab) : Rec := fj Tryd.prog (CL T) Tryd.f45 js45
noncomputable def t45_0 (cf : CallF) (R : Rec) (a0 a1 : IV) (h : H) : CRes :=
 callP (cf 42 [a0, a1] h) .pan fun x1 h2 =>
 obind (binN .geq x1 (.int .i64 0)) fun x3 =>
 .ok x3 h2
theorem e45_0 {T : Tab} {a0 a1 : IV} {h : H} {r : CRes} (e : t45_0 (CL T) (J45 T) a0 a1 h = r) (hr : r ≠ .fail) : J45 T 0 [a0, a1] h = r := fj_step (fn := Tryd.f45) (js := js45) (by kernel_rfl) e hr
theorem c45 {T : Tab} (hT : OvStep T) (ho : T.ov 45 = none) (hp : T.pol 45 = true) {a0 a1 : IV} {h : H} {r : CRes} (hg : Gd h) (e : t45_0 (CL T) (J45 T) a0 a1 h = r) (hr : r ≠ .fail) : CL T 45 [a0, a1] h = r := call_good ho Tryd.func45 rfl rfl rfl hp hg hT (e45_0 e hr) hr

-- internal/strconv.ParseUint
def js47 : List Jn := [⟨[], [0, 1, 2]⟩, ⟨[1, 1, 1, 1, 1], [0, 1, 2, 8, 9]⟩, ⟨[1, 1, 1, 1, 1, 1], [0, 1, 2, 8, 9]⟩, ⟨[1, 1, 1, 1, 1, 1, 1, 1], [0, 1, 2, 8, 9, 10]⟩, ⟨[0, 1, 0, 1, 1, 1, 1, 1, 1, 1, 1, 1, 1, 1], [1, 8, 9, 10, 11, 12, 13, 99, 100, 101]⟩, ⟨[1, 1, 1, 0, 0, 1, 0, 1, 1, 1, 1, 1, 1, 1, 1, 1, 1, 1], [1, 8, 9, 10, 11, 12, 13, 99, 100, 101]⟩, ⟨[1, 1, 1, 0, 0, 1, 1, 0, 0, 1, 0, 1, 1, 1, 1, 1, 1, 1, 1, 1, 1, 1], [1, 8, 9, 10, 11, 12, 13, 16, 99, 100, 101]⟩]
noncomputable def J47 (T : Tab) : Rec := fj Tryd.prog (CL T) Tryd.f47 js47
noncomputable def t47_0 (cf : CallF) (R : Rec) (a0 a1 a2 : IV) (h : H) : CRes :=
 obind (binS .eql a0 (.str ⟨0, 0⟩)) fun x1 =>
 condK x1
 (.ok (.tup [(.int .u64 0), (.iface 95 (.int .i64 2))]) h)
 (obind (binN .eql a1 (.int .i64 0)) fun x2 =>
 obind (binN .leq (.int .i64 2) a1) fun x3 =>
 spanK x3 true h (fun k4 =>
 obind (binN .leq a1 (.int .i64 36)) fun x7 =>
 k4 x7 h) fun x5 h6 =>
 obind (pickI x3 (some x5) (some (.bool false))) fun x8 =>
 condK x8
 (R 1 [a0, a1, a2, x2, a0] h6)
 (obind (binN .eql a1 (.int .i64 0)) fun x9 =>
 condK x9
 (obind (ixStr a0 (.int .i64 0)) fun x10 =>
 obind (binN .eql x10 (.int .u8 48)) fun x11 =>
 condK x11
 (obind (lenStr a0) fun x12 =>
 obind (binN .geq x12 (.int .i64 3)) fun x13 =>
 spanK x13 true h6 (fun k14 =>
 obind (ixStr a0 (.int .i64 1)) fun x17 =>
 callP (cf 65 [x17] h6) .pan fun x18 h19 =>
 obind (binN .eql x18 (.int .u8 98)) fun x20 =>
 k14 x20 h19) fun x15 h16 =>
 obind (pickI x13 (some x15) (some (.bool false))) fun x21 =>
 condK x21
 (obind (slcStr a0 (some (.int .i64 2)) none) fun x22 =>
 R 1 [x22, (.int .i64 2), a2, x2, a0] h16)
 (obind (lenStr a0) fun x23 =>
 obind (binN .geq x23 (.int .i64 3)) fun x24 =>
 spanK x24 true h16 (fun k25 =>
 obind (ixStr a0 (.int .i64 1)) fun x28 =>
 callP (cf 65 [x28] h16) .pan fun x29 h30 =>
 obind (binN .eql x29 (.int .u8 111)) fun x31 =>
 k25 x31 h30) fun x26 h27 =>
 obind (pickI x24 (some x26) (some (.bool false))) fun x32 =>
 condK x32
 (obind (slcStr a0 (some (.int .i64 2)) none) fun x33 =>
 R 1 [x33, (.int .i64 8), a2, x2, a0] h27)
 (obind (lenStr a0) fun x34 =>
 obind (binN .geq x34 (.int .i64 3)) fun x35 =>
 spanK x35 true h27 (fun k36 =>
 obind (ixStr a0 (.int .i64 1)) fun x39 =>
 callP (cf 65 [x39] h27) .pan fun x40 h41 =>
 obind (binN .eql x40 (.int .u8 120)) fun x42 =>
 k36 x42 h41) fun x37 h38 =>
 obind (pickI x35 (some x37) (some (.bool false))) fun x43 =>
 condK x43
 (obind (slcStr a0 (some (.int .i64 2)) none) fun x44 =>
 R 1 [x44, (.int .i64 16), a2, x2, a0] h38)
 (obind (slcStr a0 (some (.int .i64 1)) none) fun x45 =>
 R 1 [x45, (.int .i64 8), a2, x2, a0] h38))))
 (R 1 [a0, (.int .i64 10), a2, x2, a0] h6))
 (.ok (.tup [(.int .u64 0), (.iface 95 (.int .i64 3))]) h6)))
theorem e47_0 {T : Tab} {a0 a1 a2 : IV} {h : H} {r : CRes} (e : t47_0 (CL T) (J47 T) a0 a1 a2 h = r) (hr : r ≠ .fail) : J47 T 0 [a0, a1, a2] h = r := fj_step (fn := Tryd.f47) (js := js47) (by kernel_rfl) e hr
noncomputable def t47_1 (cf : CallF) (R : Rec) (a0 a1 a2 a8 a9 : IV) (h : H) : CRes :=
 obind (binN .eql a2 (.int .i64 0)) fun x46 =>
 condK x46
 (R 2 [a0, a1, (.int .i64 64), a8, a9] h)
 (obind (binN .lss a2 (.int .i64 0)) fun x47 =>
 spanK x47 false h (fun k48 =>
 obind (binN .gtr a2 (.int .i64 64)) fun x51 =>
 k48 x51 h) fun x49 h50 =>
 obind (pickI x47 (some (.bool true)) (some x49)) fun x52 =>
 condK x52
 (.ok (.tup [(.int .u64 0), (.iface 95 (.int .i64 4))]) h50)
 (R 2 [a0, a1, a2, a8, a9] h50))
theorem e47_1 {T : Tab} {a0 a1 a2 a8 a9 : IV} {h : H} {r : CRes} (e : t47_1 (CL T) (J47 T) a0 a1 a2 a8 a9 h = r) (hr : r ≠ .fail) : J47 T 1 [a0, a1, a2, a8, a9] h = r := fj_step (fn := Tryd.f47) (js := js47) (by kernel_rfl) e hr
noncomputable def t47_2 (cf : CallF) (R : Rec) (a0 a1 a2 a8 a9 : IV) (h : H) : CRes :=
 obind (binN .eql a1 (.int .i64 10)) fun x53 =>
 condK x53
 (R 3 [a0, a1, a2, a8, a9, (.int .u64 1844674407370955162)] h)
 (obind (binN .eql a1 (.int .i64 16)) fun x54 =>
 condK x54
 (R 3 [a0, a1, a2, a8, a9, (.int .u64 1152921504606846976)] h)
 (obind (cvN .u64 a1) fun x55 =>
 obind (binN .quo (.int .u64 18446744073709551615) x55) fun x56 =>
 obind (binN .add x56 (.int .u64 1)) fun x57 =>
 R 3 [a0, a1, a2, a8, a9, x57] h))
theorem e47_2 {T : Tab} {a0 a1 a2 a8 a9 : IV} {h : H} {r : CRes} (e : t47_2 (CL T) (J47 T) a0 a1 a2 a8 a9 h = r) (hr : r ≠ .fail) : J47 T 2 [a0, a1, a2, a8, a9] h = r := fj_step (fn := Tryd.f47) (js := js47) (by kernel_rfl) e hr
noncomputable def t47_3 (cf : CallF) (R : Rec) (a0 a1 a2 a8 a9 a10 : IV) (h : H) : CRes :=
 obind (cvN .u64 a2) fun x58 =>
 obind (binN .shl (.int .u64 1) x58) fun x59 =>
 obind (binN .sub x59 (.int .u64 1)) fun x60 =>
 obind2 (cvB h a0) fun x61 h62 =>
 obind (lenS x61) fun x63 =>
 R 4 [a1, a8, a9, a10, x60, (.bool false), (.int .u64 0), x61, x63, (.int .i64 0)] h62
theorem e47_3 {T : Tab} {a0 a1 a2 a8 a9 a10 : IV} {h : H} {r : CRes} (e : t47_3 (CL T) (J47 T) a0 a1 a2 a8 a9 a10 h = r) (hr : r ≠ .fail) : J47 T 3 [a0, a1, a2, a8, a9, a10] h = r := fj_step (fn := Tryd.f47) (js := js47) (by kernel_rfl) e hr
noncomputable def t47_4 (cf : CallF) (R : Rec) (a1 a8 a9 a10 a11 a12 a13 a99 a100 a101 : IV) (h : H) : CRes :=
 obind (binN .lss a101 a100) fun x64 =>
 condK x64
 (obind (ixS 1 a99 a101) fun x65 =>
 obind (ld0 h x65) fun x66 =>
 obind (binN .eql x66 (.int .u8 95)) fun x67 =>
 spanK x67 true h (fun k68 =>
 k68 a8 h) fun x69 h70 =>
 obind (pickI x67 (some x69) (some (.bool false))) fun x71 =>
 condK x71
 (R 5 [a1, a8, a9, a10, a11, (.bool true), a13, a99, a100, a101] h70)
 (obind (binN .leq (.int .u8 48) x66) fun x72 =>
 spanK x72 true h70 (fun k73 =>
 obind (binN .leq x66 (.int .u8 57)) fun x76 =>
 k73 x76 h70) fun x74 h75 =>
 obind (pickI x72 (some x74) (some (.bool false))) fun x77 =>
 condK x77
 (obind (binN .sub x66 (.int .u8 48)) fun x78 =>
 R 6 [a1, a8, a9, a10, a11, a12, a13, x78, a99, a100, a101] h75)
 (callP (cf 65 [x66] h75) .pan fun x79 h80 =>
 obind (binN .leq (.int .u8 97) x79) fun x81 =>
 spanK x81 true h80 (fun k82 =>
 callP (cf 65 [x66] h80) .pan fun x85 h86 =>
 obind (binN .leq x85 (.int .u8 122)) fun x87 =>
 k82 x87 h86) fun x83 h84 =>
 obind (pickI x81 (some x83) (some (.bool false))) fun x88 =>
 condK x88
 (callP (cf 65 [x66] h84) .pan fun x89 h90 =>
 obind (binN .sub x89 (.int .u8 97)) fun x91 =>
 obind (binN .add x91 (.int .u8 10)) fun x92 =>
 R 6 [a1, a8, a9, a10, a11, a12, a13, x92, a99, a100, a101] h90)
 (.ok (.tup [(.int .u64 0), (.iface 95 (.int .i64 2))]) h84))))
 (spanK a12 true h (fun k93 =>
 callP (cf 66 [a9] h) .pan fun x96 h97 =>
 obind (unI .not x96) fun x98 =>
 k93 x98 h97) fun x94 h95 =>
 obind (pickI a12 (some x94) (some (.bool false))) fun x99 =>
 condK x99
 (.ok (.tup [(.int .u64 0), (.iface 95 (.int .i64 2))]) h95)
 (.ok (.tup [a13, .nilIface]) h95))
theorem e47_4 {T : Tab} {a1 a8 a9 a10 a11 a12 a13 a99 a100 a101 : IV} {h : H} {r : CRes} (e : t47_4 (CL T) (J47 T) a1 a8 a9 a10 a11 a12 a13 a99 a100 a101 h = r) (hr : r ≠ .fail) : J47 T 4 [a1, a8, a9, a10, a11, a12, a13, a99, a100, a101] h = r := fj_step (fn := Tryd.f47) (js := js47) (by kernel_rfl) e hr
noncomputable def t47_5 (cf : CallF) (R : Rec) (a1 a8 a9 a10 a11 a12 a13 a99 a100 a101 : IV) (h : H) : CRes :=
 obind (binN .add a101 (.int .i64 1)) fun x100 =>
 R 4 [a1, a8, a9, a10, a11, a12, a13, a99, a100, x100] h
theorem e47_5 {T : Tab} {a1 a8 a9 a10 a11 a12 a13 a99 a100 a101 : IV} {h : H} {r : CRes} (e : t47_5 (CL T) (J47 T) a1 a8 a9 a10 a11 a12 a13 a99 a100 a101 h = r) (hr : r ≠ .fail) : J47 T 5 [a1, a8, a9, a10, a11, a12, a13, a99, a100, a101] h = r := fj_step (fn := Tryd.f47) (js := js47) (by kernel_rfl) e hr
noncomputable def t47_6 (cf : CallF) (R : Rec) (a1 a8 a9 a10 a11 a12 a13 a16 a99 a100 a101 : IV) (h : H) : CRes :=
 obind (cvN .u8 a1) fun x101 =>
 obind (binN .geq a16 x101) fun x102 =>
 condK x102
 (.ok (.tup [(.int .u64 0), (.iface 95 (.int .i64 2))]) h)
 (obind (binN .geq a13 a10) fun x103 =>
 condK x103
 (.ok (.tup [a11, (.iface 95 (.int .i64 1))]) h)
 (obind (cvN .u64 a1) fun x104 =>
 obind (binN .mul a13 x104) fun x105 =>
 obind (cvN .u64 a16) fun x106 =>
 obind (binN .add x105 x106) fun x107 =>
 obind (binN .lss x107 x105) fun x108 =>
 spanK x108 false h (fun k109 =>
 obind (binN .gtr x107 a11) fun x112 =>
 k109 x112 h) fun x110 h111 =>
 obind (pickI x108 (some (.bool true)) (some x110)) fun x113 =>
 condK x113
 (.ok (.tup [a11, (.iface 95 (.int .i64 1))]) h111)
 (R 5 [a1, a8, a9, a10, a11, a12, x107, a99, a100, a101] h111)))
theorem e47_6 {T : Tab} {a1 a8 a9 a10 a11 a12 a13 a16 a99 a100 a101 : IV} {h : H} {r : CRes} (e : t47_6 (CL T) (J47 T) a1 a8 a9 a10 a11 a12 a13 a16 a99 a100 a101 h = r) (hr : r ≠ .fail) : J47 T 6 [a1, a8, a9, a10, a11, a12, a13, a16, a99, a100, a101] h = r := fj_step (fn := Tryd.f47) (js := js47) (by kernel_rfl) e hr
theorem c47 {T : Tab} (hT : OvStep T) (ho : T.ov 47 = none) (hp : T.pol 47 = true) {a0 a1 a2 : IV} {h : H} {r : CRes} (hg : Gd h) (e : t47_0 (CL T) (J47 T) a0 a1 a2 h = r) (hr : r ≠ .fail) : CL T 47 [a0, a1, a2] h = r := call_good ho Tryd.func47 rfl rfl rfl hp hg hT (e47_0 e hr) hr

-- strings.trimLeftByte
def js49 : List Jn := [⟨[], [0, 1]⟩, ⟨[0, 0, 1], [0, 1]⟩]
noncomputable def J49 (T : Tab) : Rec := fj Tryd.prog (CL T) Tryd.f49 js49
noncomputable def t49_0 (cf : CallF) (R : Rec) (a0 a1 : IV) (h : H) : CRes :=
 R 1 [a0, a1] h
theorem e49_0 {T : Tab} {a0 a1 : IV} {h : H} {r : CRes} (e : t49_0 (CL T) (J49 T) a0 a1 h = r) (hr : r ≠ .fail) : J49 T 0 [a0, a1] h = r := fj_step (fn := Tryd.f49) (js := js49) (by kernel_rfl) e hr
noncomputable def t49_1 (cf : CallF) (R : Rec) (a0 a1 : IV) (h : H) : CRes :=
 obind (lenStr a0) fun x1 =>
 obind (binN .gtr x1 (.int .i64 0)) fun x2 =>
 spanK x2 true h (fun k3 =>
 obind (ixStr a0 (.int .i64 0)) fun x6 =>
 obind (binN .eql x6 a1) fun x7 =>
 k3 x7 h) fun x4 h5 =>
 obind (pickI x2 (some x4) (some (.bool false))) fun x8 =>
 condK x8
 (obind (slcStr a0 (some (.int .i64 1)) none) fun x9 =>
 R 1 [x9, a1] h5)
 (.ok a0 h5)
theorem e49_1 {T : Tab} {a0 a1 : IV} {h : H} {r : CRes} (e : t49_1 (CL T) (J49 T) a0 a1 h = r) (hr : r ≠ .fail) : J49 T 1 [a0, a1] h = r := fj_step (fn := Tryd.f49) (js := js49) (by kernel_rfl) e hr
theorem c49 {T : Tab} (hT : OvStep T) (ho : T.ov 49 = none) (hp : T.pol 49 = true) {a0 a1 : IV} {h : H} {r : CRes} (hg : Gd h) (e : t49_0 (CL T) (J49 T) a0 a1 h = r) (hr : r ≠ .fail) : CL T 49 [a0, a1] h = r := call_good ho Tryd.func49 rfl rfl rfl hp hg hT (e49_0 e hr) hr

-- strings.makeASCIISet
-- strings.trimLeftASCII
def js51 : List Jn := [⟨[], [0, 1]⟩, ⟨[1, 1], [0]⟩, ⟨[0, 0, 1], [0, 1]⟩]
noncomputable def J51 (T : Tab) : Rec := fj Tryd.prog (CL T) Tryd.f51 js51
noncomputable def t51_0 (cf : CallF) (R : Rec) (a0 a1 : IV) (h : H) : CRes :=
 R 2 [a0, a1] h
theorem e51_0 {T : Tab} {a0 a1 : IV} {h : H} {r : CRes} (e : t51_0 (CL T) (J51 T) a0 a1 h = r) (hr : r ≠ .fail) : J51 T 0 [a0, a1] h = r := fj_step (fn := Tryd.f51) (js := js51) (by kernel_rfl) e hr
noncomputable def t51_2 (cf : CallF) (R : Rec) (a0 a1 : IV) (h : H) : CRes :=
 obind (lenStr a0) fun x1 =>
 obind (binN .gtr x1 (.int .i64 0)) fun x2 =>
 condK x2
 (obind (ixStr a0 (.int .i64 0)) fun x3 =>
 callP (cf 71 [a1, x3] h) .pan fun x4 h5 =>
 obind (unI .not x4) fun x6 =>
 condK x6
 (R 1 [a0] h5)
 (obind (slcStr a0 (some (.int .i64 1)) none) fun x7 =>
 R 2 [x7, a1] h5))
 (R 1 [a0] h)
theorem e51_2 {T : Tab} {a0 a1 : IV} {h : H} {r : CRes} (e : t51_2 (CL T) (J51 T) a0 a1 h = r) (hr : r ≠ .fail) : J51 T 2 [a0, a1] h = r := fj_step (fn := Tryd.f51) (js := js51) (by kernel_rfl) e hr
noncomputable def t51_1 (cf : CallF) (R : Rec) (a0 : IV) (h : H) : CRes :=
 .ok a0 h
theorem e51_1 {T : Tab} {a0 : IV} {h : H} {r : CRes} (e : t51_1 (CL T) (J51 T) a0 h = r) (hr : r ≠ .fail) : J51 T 1 [a0] h = r := fj_step (fn := Tryd.f51) (js := js51) (by kernel_rfl) e hr
theorem c51 {T : Tab} (hT : OvStep T) (ho : T.ov 51 = none) (hp : T.pol 51 = true) {a0 a1 : IV} {h : H} {r : CRes} (hg : Gd h) (e : t51_0 (CL T) (J51 T) a0 a1 h = r) (hr : r ≠ .fail) : CL T 51 [a0, a1] h = r := call_good ho Tryd.func51 rfl rfl rfl hp hg hT (e51_0 e hr) hr

-- strings.trimRightByte
def js53 : List Jn := [⟨[], [0, 1]⟩, ⟨[0, 0, 1], [0, 1]⟩]
noncomputable def J53 (T : Tab) : Rec := fj Tryd.prog (CL T) Tryd.f53 js53
noncomputable def t53_0 (cf : CallF) (R : Rec) (a0 a1 : IV) (h : H) : CRes :=
 R 1 [a0, a1] h
theorem e53_0 {T : Tab} {a0 a1 : IV} {h : H} {r : CRes} (e : t53_0 (CL T) (J53 T) a0 a1 h = r) (hr : r ≠ .fail) : J53 T 0 [a0, a1] h = r := fj_step (fn := Tryd.f53) (js := js53) (by kernel_rfl) e hr
noncomputable def t53_1 (cf : CallF) (R : Rec) (a0 a1 : IV) (h : H) : CRes :=
 obind (lenStr a0) fun x1 =>
 obind (binN .gtr x1 (.int .i64 0)) fun x2 =>
 spanK x2 true h (fun k3 =>
 obind (lenStr a0) fun x6 =>
 obind (binN .sub x6 (.int .i64 1)) fun x7 =>
 obind (ixStr a0 x7) fun x8 =>
 obind (binN .eql x8 a1) fun x9 =>
 k3 x9 h) fun x4 h5 =>
 obind (pickI x2 (some x4) (some (.bool false))) fun x10 =>
 condK x10
 (obind (lenStr a0) fun x11 =>
 obind (binN .sub x11 (.int .i64 1)) fun x12 =>
 obind (slcStr a0 none (some x12)) fun x13 =>
 R 1 [x13, a1] h5)
 (.ok a0 h5)
theorem e53_1 {T : Tab} {a0 a1 : IV} {h : H} {r : CRes} (e : t53_1 (CL T) (J53 T) a0 a1 h = r) (hr : r ≠ .fail) : J53 T 1 [a0, a1] h = r := fj_step (fn := Tryd.f53) (js := js53) (by kernel_rfl) e hr
theorem c53 {T : Tab} (hT : OvStep T) (ho : T.ov 53 = none) (hp : T.pol 53 = true) {a0 a1 : IV} {h : H} {r : CRes} (hg : Gd h) (e : t53_0 (CL T) (J53 T) a0 a1 h = r) (hr : r ≠ .fail) : CL T 53 [a0, a1] h = r := call_good ho Tryd.func53 rfl rfl rfl hp hg hT (e53_0 e hr) hr

-- strings.trimRightASCII
def js54 : List Jn := [⟨[], [0, 1]⟩, ⟨[1, 1], [0]⟩, ⟨[0, 0, 1], [0, 1]⟩]
noncomputable def J54 (T : Tab) : Rec := fj Tryd.prog (CL T) Tryd.f54 js54
noncomputable def t54_0 (cf : CallF) (R : Rec) (a0 a1 : IV) (h : H) : CRes :=
 R 2 [a0, a1] h
theorem e54_0 {T : Tab} {a0 a1 : IV} {h : H} {r : CRes} (e : t54_0 (CL T) (J54 T) a0 a1 h = r) (hr : r ≠ .fail) : J54 T 0 [a0, a1] h = r := fj_step (fn := Tryd.f54) (js := js54) (by kernel_rfl) e hr
noncomputable def t54_2 (cf : CallF) (R : Rec) (a0 a1 : IV) (h : H) : CRes :=
 obind (lenStr a0) fun x1 =>
 obind (binN .gtr x1 (.int .i64 0)) fun x2 =>
 condK x2
 (obind (lenStr a0) fun x3 =>
 obind (binN .sub x3 (.int .i64 1)) fun x4 =>
 obind (ixStr a0 x4) fun x5 =>
 callP (cf 71 [a1, x5] h) .pan fun x6 h7 =>
 obind (unI .not x6) fun x8 =>
 condK x8
 (R 1 [a0] h7)
 (obind (lenStr a0) fun x9 =>
 obind (binN .sub x9 (.int .i64 1)) fun x10 =>
 obind (slcStr a0 none (some x10)) fun x11 =>
 R 2 [x11, a1] h7))
 (R 1 [a0] h)
theorem e54_2 {T : Tab} {a0 a1 : IV} {h : H} {r : CRes} (e : t54_2 (CL T) (J54 T) a0 a1 h = r) (hr : r ≠ .fail) : J54 T 2 [a0, a1] h = r := fj_step (fn := Tryd.f54) (js := js54) (by kernel_rfl) e hr
noncomputable def t54_1 (cf : CallF) (R : Rec) (a0 : IV) (h : H) : CRes :=
 .ok a0 h
theorem e54_1 {T : Tab} {a0 : IV} {h : H} {r : CRes} (e : t54_1 (CL T) (J54 T) a0 h = r) (hr : r ≠ .fail) : J54 T 1 [a0] h = r := fj_step (fn := Tryd.f54) (js := js54) (by kernel_rfl) e hr
theorem c54 {T : Tab} (hT : OvStep T) (ho : T.ov 54 = none) (hp : T.pol 54 = true) {a0 a1 : IV} {h : H} {r : CRes} (hg : Gd h) (e : t54_0 (CL T) (J54 T) a0 a1 h = r) (hr : r ≠ .fail) : CL T 54 [a0, a1] h = r := call_good ho Tryd.func54 rfl rfl rfl hp hg hT (e54_0 e hr) hr

-- (*strings.Builder).copyCheck
def js56 : List Jn := [⟨[], [0]⟩]
noncomputable def J56 (T : Tab) : Rec := fj Tryd.prog (CL T) Tryd.f56 js56
noncomputable def t56_0 (cf : CallF) (R : Rec) (a0 : IV) (h : H) : CRes :=
 obind (nilI a0) fun x1 =>
 obind (fadK 0 x1) fun x2 =>
 obind (ld0 h x2) fun x3 =>
 obind (eqP .eql h x3 .nilPtr) fun x4 =>
 condK x4
 (obind2 (convI Tryd.prog h 62 103 a0) fun x5 h6 =>
 callP (cf 75 [x5] h6) .pan fun x7 h8 =>
 obind2 (convI Tryd.prog h8 103 62 x7) fun x9 h10 =>
 obind (nilI a0) fun x11 =>
 obind (fadK 0 x11) fun x12 =>
 obindH (stA 1 h10 x12 x9) fun h13 =>
 .ok (.tup []) h13)
 (obind (nilI a0) fun x14 =>
 obind (fadK 0 x14) fun x15 =>
 obind (ld0 h x15) fun x16 =>
 obind (eqP .neq h x16 a0) fun x17 =>
 condK x17
 (CRes.fail)
 (.ok (.tup []) h))
theorem e56_0 {T : Tab} {a0 : IV} {h : H} {r : CRes} (e : t56_0 (CL T) (J56 T) a0 h = r) (hr : r ≠ .fail) : J56 T 0 [a0] h = r := fj_step (fn := Tryd.f56) (js := js56) (by kernel_rfl) e hr
theorem c56 {T : Tab} (hT : OvStep T) (ho : T.ov 56 = none) (hp : T.pol 56 = true) {a0 : IV} {h : H} {r : CRes} (hg : Gd h) (e : t56_0 (CL T) (J56 T) a0 h = r) (hr : r ≠ .fail) : CL T 56 [a0] h = r := call_good ho Tryd.func56 rfl rfl rfl hp hg hT (e56_0 e hr) hr

-- internal/stringslite.HasPrefix
def js59 : List Jn := [⟨[], [0, 1]⟩]
noncomputable def J59 (T : Tab) : Rec := fj Tryd.prog (CL T) Tryd.f59 js59
noncomputable def t59_0 (cf : CallF) (R : Rec) (a0 a1 : IV) (h : H) : CRes :=
 obind (lenStr a0) fun x1 =>
 obind (lenStr a1) fun x2 =>
 obind (binN .geq x1 x2) fun x3 =>
 spanK x3 true h (fun k4 =>
 obind (lenStr a1) fun x7 =>
 obind (slcStr a0 none (some x7)) fun x8 =>
 obind (binS .eql x8 a1) fun x9 =>
 k4 x9 h) fun x5 h6 =>
 obind (pickI x3 (some x5) (some (.bool false))) fun x10 =>
 .ok x10 h6
theorem e59_0 {T : Tab} {a0 a1 : IV} {h : H} {r : CRes} (e : t59_0 (CL T) (J59 T) a0 a1 h = r) (hr : r ≠ .fail) : J59 T 0 [a0, a1] h = r := fj_step (fn := Tryd.f59) (js := js59) (by kernel_rfl) e hr
theorem c59 {T : Tab} (hT : OvStep T) (ho : T.ov 59 = none) (hp : T.pol 59 = true) {a0 a1 : IV} {h : H} {r : CRes} (hg : Gd h) (e : t59_0 (CL T) (J59 T) a0 a1 h = r) (hr : r ≠ .fail) : CL T 59 [a0, a1] h = r := call_good ho Tryd.func59 rfl rfl rfl hp hg hT (e59_0 e hr) hr

-- internal/stringslite.IndexByte
def js61 : List Jn := [⟨[], [0, 1]⟩]
noncomputable def J61 (T : Tab) : Rec := fj Tryd.prog (CL T) Tryd.f61 js61
noncomputable def t61_0 (cf : CallF) (R : Rec) (a0 a1 : IV) (h : H) : CRes :=
 callP (cf 77 [a0, a1] h) .pan fun x1 h2 =>
 .ok x1 h2
theorem e61_0 {T : Tab} {a0 a1 : IV} {h : H} {r : CRes} (e : t61_0 (CL T) (J61 T) a0 a1 h = r) (hr : r ≠ .fail) : J61 T 0 [a0, a1] h = r := fj_step (fn := Tryd.f61) (js := js61) (by kernel_rfl) e hr
theorem c61 {T : Tab} (hT : OvStep T) (ho : T.ov 61 = none) (hp : T.pol 61 = true) {a0 a1 : IV} {h : H} {r : CRes} (hg : Gd h) (e : t61_0 (CL T) (J61 T) a0 a1 h = r) (hr : r ≠ .fail) : CL T 61 [a0, a1] h = r := call_good ho Tryd.func61 rfl rfl rfl hp hg hT (e61_0 e hr) hr

-- internal/strconv.lower
def js65 : List Jn := [⟨[], [0]⟩]
noncomputable def J65 (T : Tab) : Rec := fj Tryd.prog (CL T) Tryd.f65 js65
noncomputable def t65_0 (cf : CallF) (R : Rec) (a0 : IV) (h : H) : CRes :=
 obind (binN .or a0 (.int .u8 32)) fun x1 =>
 .ok x1 h
theorem e65_0 {T : Tab} {a0 : IV} {h : H} {r : CRes} (e : t65_0 (CL T) (J65 T) a0 h = r) (hr : r ≠ .fail) : J65 T 0 [a0] h = r := fj_step (fn := Tryd.f65) (js := js65) (by kernel_rfl) e hr
theorem c65 {T : Tab} (hT : OvStep T) (ho : T.ov 65 = none) (hp : T.pol 65 = true) {a0 : IV} {h : H} {r : CRes} (hg : Gd h) (e : t65_0 (CL T) (J65 T) a0 h = r) (hr : r ≠ .fail) : CL T 65 [a0] h = r := call_good ho Tryd.func65 rfl rfl rfl hp hg hT (e65_0 e hr) hr

-- (*strings.asciiSet).contains
def js71 : List Jn := [⟨[], [0, 1]⟩]
noncomputable def J71 (T : Tab) : Rec := fj Tryd.prog (CL T) Tryd.f71 js71
noncomputable def t71_0 (cf : CallF) (R : Rec) (a0 a1 : IV) (h : H) : CRes :=
 obind (nilI a0) fun x1 =>
 obind (ixA 256 1 x1 a1) fun x2 =>
 obind (ld0 h x2) fun x3 =>
 .ok x3 h
theorem e71_0 {T : Tab} {a0 a1 : IV} {h : H} {r : CRes} (e : t71_0 (CL T) (J71 T) a0 a1 h = r) (hr : r ≠ .fail) : J71 T 0 [a0, a1] h = r := fj_step (fn := Tryd.f71) (js := js71) (by kernel_rfl) e hr
theorem c71 {T : Tab} (hT : OvStep T) (ho : T.ov 71 = none) (hp : T.pol 71 = true) {a0 a1 : IV} {h : H} {r : CRes} (hg : Gd h) (e : t71_0 (CL T) (J71 T) a0 a1 h = r) (hr : r ≠ .fail) : CL T 71 [a0, a1] h = r := call_good ho Tryd.func71 rfl rfl rfl hp hg hT (e71_0 e hr) hr

end Go.Proofs.YtfegkjmghbdogaaDoor

namespace Go.Proofs.YtfegkjmghbdogaaDoor
open Go Go.Shelf
set_option maxRecDepth 100000

def lay105_ren : Go.Shelf.Ren := ⟨fun | 105 => 19 | 212 => 35 | 99 => 36 | 165 => 37 | 166 => 33 | 170 => 38 | 169 => 34 | 263 => 57 | 264 => 58 | 206 => 59 | 240 => 56 | 241 => 60 | 276 => 75 | 277 => 76 | n => n, fun | 9 => 9 | 3 => 3 | 4 => 4 | 20 => 20 | 0 => 0 | 46 => 61 | 109 => 70 | 5 => 5 | 72 => 64 | 76 => 67 | 51 => 89 | 146 => 90 | 53 => 56 | 148 => 92 | 70 => 62 | 37 => 37 | 75 => 58 | 127 => 88 | 164 => 103 | 80 => 69 | n => n, fun | n => n⟩
theorem lay105 : Go.Proofs.Lays.n105 Tryd.prog lay105_ren where
  mixed := by kernel_rfl
  f99 := Tryd.func36.trans (congrArg some (by kernel_rfl))
  f105 := Tryd.func19.trans (congrArg some (by kernel_rfl))
  f165 := Tryd.func37.trans (congrArg some (by kernel_rfl))
  f166 := Tryd.func33.trans (congrArg some (by kernel_rfl))
  f169 := Tryd.func34.trans (congrArg some (by kernel_rfl))
  f170 := Tryd.func38.trans (congrArg some (by kernel_rfl))
  f206 := Tryd.func59.trans (congrArg some (by kernel_rfl))
  f212 := Tryd.func35.trans (congrArg some (by kernel_rfl))
  f240 := Tryd.func56.trans (congrArg some (by kernel_rfl))
  f241 := Tryd.func60.trans (congrArg some (by kernel_rfl))
  f263 := Tryd.func57.trans (congrArg some (by kernel_rfl))
  f264 := Tryd.func58.trans (congrArg some (by kernel_rfl))
  f276 := Tryd.func75.trans (congrArg some (by kernel_rfl))
  f277 := Tryd.func76.trans (congrArg some (by kernel_rfl))
  t0 := Tryd.underlying0
  a0 := Tryd.isAgg0
  z0 := Tryd.sizeOf0
  v0 := Tryd.zeroValue0
  t3 := Tryd.underlying3
  a3 := Tryd.isAgg3
  z3 := Tryd.sizeOf3
  v3 := Tryd.zeroValue3
  t4 := Tryd.underlying4
  a4 := Tryd.isAgg4
  z4 := Tryd.sizeOf4
  v4 := Tryd.zeroValue4
  t5 := Tryd.underlying5
  a5 := Tryd.isAgg5
  z5 := Tryd.sizeOf5
  v5 := Tryd.zeroValue5
  t9 := Tryd.underlying9
  a9 := Tryd.isAgg9
  z9 := Tryd.sizeOf9
  v9 := Tryd.zeroValue9
  t20 := Tryd.underlying20
  a20 := Tryd.isAgg20
  z20 := Tryd.sizeOf20
  v20 := Tryd.zeroValue20
  t37 := Tryd.underlying37
  a37 := Tryd.isAgg37
  z37 := Tryd.sizeOf37
  v37 := Tryd.zeroValue37
  t46 := Tryd.underlying61
  a46 := Tryd.isAgg61
  z46 := Tryd.sizeOf61
  v46 := Tryd.zeroValue61
  t51 := Tryd.underlying89
  a51 := Tryd.isAgg89
  z51 := Tryd.sizeOf89
  v51 := Tryd.zeroValue89
  t53 := Tryd.underlying56
  a53 := Tryd.isAgg56
  z53 := Tryd.sizeOf56
  v53 := Tryd.zeroValue56
  t70 := Tryd.underlying62
  a70 := Tryd.isAgg62
  z70 := Tryd.sizeOf62
  v70 := Tryd.zeroValue62
  t72 := Tryd.underlying64
  a72 := Tryd.isAgg64
  z72 := Tryd.sizeOf64
  v72 := Tryd.zeroValue64
  t75 := Tryd.underlying58
  a75 := Tryd.isAgg58
  z75 := Tryd.sizeOf58
  v75 := Tryd.zeroValue58
  t76 := Tryd.underlying67
  a76 := Tryd.isAgg67
  z76 := Tryd.sizeOf67
  v76 := Tryd.zeroValue67
  t109 := Tryd.underlying70
  a109 := Tryd.isAgg70
  z109 := Tryd.sizeOf70
  v109 := Tryd.zeroValue70
  t127 := Tryd.underlying88
  a127 := Tryd.isAgg88
  z127 := Tryd.sizeOf88
  v127 := Tryd.zeroValue88
  t146 := Tryd.underlying90
  a146 := Tryd.isAgg90
  z146 := Tryd.sizeOf90
  v146 := Tryd.zeroValue90
  t148 := Tryd.underlying92
  a148 := Tryd.isAgg92
  z148 := Tryd.sizeOf92
  v148 := Tryd.zeroValue92
  t164 := Tryd.underlying103
  a164 := Tryd.isAgg103
  z164 := Tryd.sizeOf103
  v164 := Tryd.zeroValue103
def lay219_ren : Go.Shelf.Ren := ⟨fun | 219 => 46 | 217 => 61 | 225 => 62 | 224 => 63 | 267 => 64 | 266 => 77 | 314 => 78 | n => n, fun | 9 => 9 | 3 => 3 | 4 => 4 | 5 => 5 | 46 => 61 | 146 => 90 | 51 => 89 | n => n, fun | 1 => 0 | n => n⟩
theorem lay219 : Go.Proofs.LaysM.n219 Tryd.prog lay219_ren where
  mixed := by kernel_rfl
  f217 := Tryd.func61.trans (congrArg some (by kernel_rfl))
  f219 := Tryd.func46.trans (congrArg some (by kernel_rfl))
  f224 := Tryd.func63.trans (congrArg some (by kernel_rfl))
  f225 := Tryd.func62.trans (congrArg some (by kernel_rfl))
  f266 := Tryd.func77.trans (congrArg some (by kernel_rfl))
  f267 := Tryd.func64.trans (congrArg some (by kernel_rfl))
  f314 := Tryd.func78.trans (congrArg some (by kernel_rfl))
  t3 := Tryd.underlying3
  a3 := Tryd.isAgg3
  z3 := Tryd.sizeOf3
  v3 := Tryd.zeroValue3
  t4 := Tryd.underlying4
  a4 := Tryd.isAgg4
  z4 := Tryd.sizeOf4
  v4 := Tryd.zeroValue4
  t5 := Tryd.underlying5
  a5 := Tryd.isAgg5
  z5 := Tryd.sizeOf5
  v5 := Tryd.zeroValue5
  t9 := Tryd.underlying9
  a9 := Tryd.isAgg9
  z9 := Tryd.sizeOf9
  v9 := Tryd.zeroValue9
  t46 := Tryd.underlying61
  a46 := Tryd.isAgg61
  z46 := Tryd.sizeOf61
  v46 := Tryd.zeroValue61
  t51 := Tryd.underlying89
  a51 := Tryd.isAgg89
  z51 := Tryd.sizeOf89
  v51 := Tryd.zeroValue89
  t146 := Tryd.underlying90
  a146 := Tryd.isAgg90
  z146 := Tryd.sizeOf90
  v146 := Tryd.zeroValue90
  g1 := by kernel_rfl
  i3 := by kernel_rfl
  i4 := by kernel_rfl
  i5 := by kernel_rfl
  i9 := by kernel_rfl
  i46 := by kernel_rfl
  i51 := by kernel_rfl
  i146 := by kernel_rfl
  m1 := by kernel_rfl
  s1_3 := fun w h => Go.Proofs.cell_of_shapedOpen_int (zero := #[.int .i64 0]) (t := 3) h (of_decide_eq_true (by kernel_rfl)) (by kernel_rfl) rfl (by kernel_rfl) (by kernel_rfl) Tryd.underlying3

def lay17_ren : Go.Shelf.Ren := ⟨fun | 17 => 48 | 21 => 67 | 22 => 68 | 23 => 69 | 24 => 70 | 25 => 79 | 27 => 81 | 26 => 80 | 28 => 85 | 29 => 87 | 30 => 88 | 31 => 89 | 32 => 90 | 33 => 91 | 35 => 93 | 34 => 92 | 36 => 94 | 37 => 95 | 38 => 96 | 39 => 97 | 40 => 98 | n => n, fun | 9 => 9 | 3 => 3 | 24 => 58 | 34 => 95 | 4 => 4 | 39 => 97 | 44 => 109 | 37 => 37 | 0 => 0 | 47 => 88 | 50 => 115 | 48 => 113 | 2 => 2 | 52 => 122 | 22 => 56 | 5 => 5 | 55 => 125 | 59 => 128 | 60 => 89 | 20 => 20 | 61 => 129 | 36 => 61 | 65 => 133 | 66 => 134 | 67 => 69 | n => n, fun | 0 => 1 | 1 => 2 | 2 => 5 | 3 => 6 | 4 => 7 | n => n⟩
theorem lay17 : Go.Proofs.LaysPu.n17 Tryd.prog lay17_ren where
  mixed := by kernel_rfl
  f17 := Tryd.func48.trans (congrArg some (by kernel_rfl))
  f21 := Tryd.func67.trans (congrArg some (by kernel_rfl))
  f22 := Tryd.func68.trans (congrArg some (by kernel_rfl))
  f23 := Tryd.func69.trans (congrArg some (by kernel_rfl))
  f24 := Tryd.func70.trans (congrArg some (by kernel_rfl))
  f25 := Tryd.func79.trans (congrArg some (by kernel_rfl))
  f26 := Tryd.func80.trans (congrArg some (by kernel_rfl))
  f27 := Tryd.func81.trans (congrArg some (by kernel_rfl))
  f28 := Tryd.func85.trans (congrArg some (by kernel_rfl))
  f29 := Tryd.func87.trans (congrArg some (by kernel_rfl))
  f30 := Tryd.func88.trans (congrArg some (by kernel_rfl))
  f31 := Tryd.func89.trans (congrArg some (by kernel_rfl))
  f32 := Tryd.func90.trans (congrArg some (by kernel_rfl))
  f33 := Tryd.func91.trans (congrArg some (by kernel_rfl))
  f34 := Tryd.func92.trans (congrArg some (by kernel_rfl))
  f35 := Tryd.func93.trans (congrArg some (by kernel_rfl))
  f36 := Tryd.func94.trans (congrArg some (by kernel_rfl))
  f37 := Tryd.func95.trans (congrArg some (by kernel_rfl))
  f38 := Tryd.func96.trans (congrArg some (by kernel_rfl))
  f39 := Tryd.func97.trans (congrArg some (by kernel_rfl))
  f40 := Tryd.func98.trans (congrArg some (by kernel_rfl))
  t0 := Tryd.underlying0
  a0 := Tryd.isAgg0
  z0 := Tryd.sizeOf0
  v0 := Tryd.zeroValue0
  i0 := by kernel_rfl
  t2 := Tryd.underlying2
  a2 := Tryd.isAgg2
  z2 := Tryd.sizeOf2
  v2 := Tryd.zeroValue2
  i2 := by kernel_rfl
  t3 := Tryd.underlying3
  a3 := Tryd.isAgg3
  z3 := Tryd.sizeOf3
  v3 := Tryd.zeroValue3
  i3 := by kernel_rfl
  t4 := Tryd.underlying4
  a4 := Tryd.isAgg4
  z4 := Tryd.sizeOf4
  v4 := Tryd.zeroValue4
  i4 := by kernel_rfl
  t5 := Tryd.underlying5
  a5 := Tryd.isAgg5
  z5 := Tryd.sizeOf5
  v5 := Tryd.zeroValue5
  i5 := by kernel_rfl
  t9 := Tryd.underlying9
  a9 := Tryd.isAgg9
  z9 := Tryd.sizeOf9
  v9 := Tryd.zeroValue9
  i9 := by kernel_rfl
  t20 := Tryd.underlying20
  a20 := Tryd.isAgg20
  z20 := Tryd.sizeOf20
  v20 := Tryd.zeroValue20
  i20 := by kernel_rfl
  t22 := Tryd.underlying56
  a22 := Tryd.isAgg56
  z22 := Tryd.sizeOf56
  v22 := Tryd.zeroValue56
  i22 := by kernel_rfl
  t24 := Tryd.underlying58
  a24 := Tryd.isAgg58
  z24 := Tryd.sizeOf58
  v24 := Tryd.zeroValue58
  i24 := by kernel_rfl
  t34 := Tryd.underlying95
  a34 := Tryd.isAgg95
  z34 := Tryd.sizeOf95
  v34 := Tryd.zeroValue95
  i34 := by kernel_rfl
  c34 := by kernel_rfl
  t36 := Tryd.underlying61
  a36 := Tryd.isAgg61
  z36 := Tryd.sizeOf61
  v36 := Tryd.zeroValue61
  i36 := by kernel_rfl
  t37 := Tryd.underlying37
  a37 := Tryd.isAgg37
  z37 := Tryd.sizeOf37
  v37 := Tryd.zeroValue37
  i37 := by kernel_rfl
  t39 := Tryd.underlying97
  a39 := Tryd.isAgg97
  z39 := Tryd.sizeOf97
  v39 := Tryd.zeroValue97
  i39 := by kernel_rfl
  t44 := Tryd.underlying109
  a44 := Tryd.isAgg109
  z44 := Tryd.sizeOf109
  v44 := Tryd.zeroValue109
  i44 := by kernel_rfl
  t47 := Tryd.underlying88
  a47 := Tryd.isAgg88
  z47 := Tryd.sizeOf88
  v47 := Tryd.zeroValue88
  i47 := by kernel_rfl
  t48 := Tryd.underlying113
  a48 := Tryd.isAgg113
  z48 := Tryd.sizeOf113
  v48 := Tryd.zeroValue113
  i48 := by kernel_rfl
  t50 := Tryd.underlying115
  a50 := Tryd.isAgg115
  z50 := Tryd.sizeOf115
  v50 := Tryd.zeroValue115
  i50 := by kernel_rfl
  t52 := Tryd.underlying122
  a52 := Tryd.isAgg122
  z52 := Tryd.sizeOf122
  v52 := Tryd.zeroValue122
  i52 := by kernel_rfl
  t55 := Tryd.underlying125
  a55 := Tryd.isAgg125
  z55 := Tryd.sizeOf125
  v55 := Tryd.zeroValue125
  i55 := by kernel_rfl
  t59 := Tryd.underlying128
  a59 := Tryd.isAgg128
  z59 := Tryd.sizeOf128
  v59 := Tryd.zeroValue128
  i59 := by kernel_rfl
  t60 := Tryd.underlying89
  a60 := Tryd.isAgg89
  z60 := Tryd.sizeOf89
  v60 := Tryd.zeroValue89
  i60 := by kernel_rfl
  t61 := Tryd.underlying129
  a61 := Tryd.isAgg129
  z61 := Tryd.sizeOf129
  t65 := Tryd.underlying133
  a65 := Tryd.isAgg133
  z65 := Tryd.sizeOf133
  v65 := Tryd.zeroValue133
  i65 := by kernel_rfl
  t66 := Tryd.underlying134
  a66 := Tryd.isAgg134
  z66 := Tryd.sizeOf134
  v66 := Tryd.zeroValue134
  i66 := by kernel_rfl
  t67 := Tryd.underlying69
  a67 := Tryd.isAgg69
  z67 := Tryd.sizeOf69
  v67 := Tryd.zeroValue69
  i67 := by kernel_rfl
  g0 := by kernel_rfl
  m0 := by kernel_rfl
  g1 := by kernel_rfl
  m1 := by kernel_rfl
  g2 := by kernel_rfl
  m2 := by kernel_rfl
  g3 := by kernel_rfl
  m3 := by kernel_rfl
  g4 := by kernel_rfl
  m4 := by kernel_rfl


theorem layB : Go.Proofs.Builder.Extra Tryd.prog lay105_ren where
  sizeBuilder := by kernel_rfl
  liesBuilder := by kernel_rfl
  t5 := Tryd.underlying5
  a5 := Tryd.isAgg5
  z5 := Tryd.sizeOf5
  v5 := Tryd.zeroValue5
  infoByte := by kernel_rfl
  cellsByte := by kernel_rfl
  sizeByte := by kernel_rfl
  neB5 := by decide

end Go.Proofs.YtfegkjmghbdogaaDoor
