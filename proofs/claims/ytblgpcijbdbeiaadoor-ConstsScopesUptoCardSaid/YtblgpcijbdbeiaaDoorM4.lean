/- M4: Law06: calls, by a table of functions that are told by hand. Printed by gen.py (own tool): each function in words of its own, from join to join. Law06: the first tables; the library's functions on texts: which bytes are bits. Law06: which texts are vectors, which of them are known, and which number they are. Law06: logic.known, logic.number, logic.Number. Law06: scopes; an expression's number. -/
import Derived.Test.YtblgpcijbdbeiaaDoorChecked
import Derived.Test.YtblgpcijbdbeiaaDoorM3
namespace Go.Proofs.YtblgpcijbdbeiaaDoor
open Go I
set_option maxRecDepth 100000

noncomputable abbrev CL (T : Tab) : CallF := call Tryd.prog T
theorem noNum : NoNum Tryd.prog := by
  intro f fn hf
  have h : (Tryd.prog.funcs.all fun fn => !(fn.name == "runtime.NumGoroutine")) = true := by kernel_rfl
  simpa using Array.all_eq_true_iff_forall_mem.1 h fn (Array.mem_of_getElem? hf)

end Go.Proofs.YtblgpcijbdbeiaaDoor

namespace Go.Proofs.YtblgpcijbdbeiaaDoor
open Go I
set_option linter.unusedVariables false
set_option maxRecDepth 100000

def z0 : List IV := [(.int .i64 0), (.str ⟨0, 0⟩), (.str ⟨0, 0⟩), (.bool false), .nilSlice, (.int .i64 0)]
def p1 : List (Nat × Nat) := [(0, 1), (1, 1), (2, 1), (3, 1), (4, 1), (5, 1)]
def z2 : List IV := [(.bool false), (.bool false), (.bool false), (.bool false), (.bool false), (.bool false), (.bool false), (.bool false), (.bool false), (.bool false), (.bool false), (.bool false), (.bool false), (.bool false), (.bool false), (.bool false), (.bool false), (.bool false), (.bool false), (.bool false), (.bool false), (.bool false), (.bool false), (.bool false), (.bool false), (.bool false), (.bool false), (.bool false), (.bool false), (.bool false), (.bool false), (.bool false), (.bool false), (.bool false), (.bool false), (.bool false), (.bool false), (.bool false), (.bool false), (.bool false), (.bool false), (.bool false), (.bool false), (.bool false), (.bool false), (.bool false), (.bool false), (.bool false), (.bool false), (.bool false), (.bool false), (.bool false), (.bool false), (.bool false), (.bool false), (.bool false), (.bool false), (.bool false), (.bool false), (.bool false), (.bool false), (.bool false), (.bool false), (.bool false), (.bool false), (.bool false), (.bool false), (.bool false), (.bool false), (.bool false), (.bool false), (.bool false), (.bool false), (.bool false), (.bool false), (.bool false), (.bool false), (.bool false), (.bool false), (.bool false), (.bool false), (.bool false), (.bool false), (.bool false), (.bool false), (.bool false), (.bool false), (.bool false), (.bool false), (.bool false), (.bool false), (.bool false), (.bool false), (.bool false), (.bool false), (.bool false), (.bool false), (.bool false), (.bool false), (.bool false), (.bool false), (.bool false), (.bool false), (.bool false), (.bool false), (.bool false), (.bool false), (.bool false), (.bool false), (.bool false), (.bool false), (.bool false), (.bool false), (.bool false), (.bool false), (.bool false), (.bool false), (.bool false), (.bool false), (.bool false), (.bool false), (.bool false), (.bool false), (.bool false), (.bool false), (.bool false), (.bool false), (.bool false), (.bool false), (.bool false), (.bool false), (.bool false), (.bool false), (.bool false), (.bool false), (.bool false), (.bool false), (.bool false), (.bool false), (.bool false), (.bool false), (.bool false), (.bool false), (.bool false), (.bool false), (.bool false), (.bool false), (.bool false), (.bool false), (.bool false), (.bool false), (.bool false), (.bool false), (.bool false), (.bool false), (.bool false), (.bool false), (.bool false), (.bool false), (.bool false), (.bool false), (.bool false), (.bool false), (.bool false), (.bool false), (.bool false), (.bool false), (.bool false), (.bool false), (.bool false), (.bool false), (.bool false), (.bool false), (.bool false), (.bool false), (.bool false), (.bool false), (.bool false), (.bool false), (.bool false), (.bool false), (.bool false), (.bool false), (.bool false), (.bool false), (.bool false), (.bool false), (.bool false), (.bool false), (.bool false), (.bool false), (.bool false), (.bool false), (.bool false), (.bool false), (.bool false), (.bool false), (.bool false), (.bool false), (.bool false), (.bool false), (.bool false), (.bool false), (.bool false), (.bool false), (.bool false), (.bool false), (.bool false), (.bool false), (.bool false), (.bool false), (.bool false), (.bool false), (.bool false), (.bool false), (.bool false), (.bool false), (.bool false), (.bool false), (.bool false), (.bool false), (.bool false), (.bool false), (.bool false), (.bool false), (.bool false), (.bool false), (.bool false), (.bool false), (.bool false), (.bool false), (.bool false), (.bool false), (.bool false), (.bool false), (.bool false), (.bool false), (.bool false), (.bool false), (.bool false), (.bool false), (.bool false), (.bool false), (.bool false), (.bool false), (.bool false), (.bool false), (.bool false), (.bool false), (.bool false), (.bool false), (.bool false), (.bool false), (.bool false), (.bool false), (.bool false)]
-- silkworm/silkwormlaw06.ConstsNames
def js3 : List Jn := [⟨[], [0, 1, 2]⟩, ⟨[0, 1, 0, 1, 1, 1, 1, 1], [0, 1, 5, 7, 8, 9]⟩]
noncomputable def J3 (T : Tab) : Rec := fj Tryd.prog (CL T) Tryd.f3 js3
noncomputable def t3_0 (cf : CallF) (R : Rec) (a0 a1 a2 : IV) (h : H) : CRes :=
 obind2 (newI h (IV.cells a2)) fun x1 h2 =>
 obind (binN .lss a1 (.int .i64 0)) fun x3 =>
 spanK x3 false h2 (fun k4 =>
 obind (binN .gtr a1 (.int .i64 2147483647)) fun x7 =>
 k4 x7 h2) fun x5 h6 =>
 obind (pickI x3 (some (.bool true)) (some x5)) fun x8 =>
 spanK x8 false h6 (fun k9 =>
 obind (ldA 6 h6 x1) fun x12 =>
 callP (cf 8 [x12, (.int .i64 500)] h6) .pan fun x13 h14 =>
 obind (unI .not x13) fun x15 =>
 k9 x15 h14) fun x10 h11 =>
 obind (pickI x8 (some (.bool true)) (some x10)) fun x16 =>
 condK x16
 (callP (cf 9 [] h11) .pan fun x17 h18 =>
 .ok x17 h18)
 (callP (cf 10 [] h11) .pan fun x19 h20 =>
 obind (eqP .eql h20 x19 .nilPtr) fun x21 =>
 spanK x21 false h20 (fun k22 =>
 callP (cf 11 [x19, a0, a1] h20) .pan fun x25 h26 =>
 obind (binN .neq x25 (.int .i64 0)) fun x27 =>
 k22 x27 h26) fun x23 h24 =>
 obind (pickI x21 (some (.bool true)) (some x23)) fun x28 =>
 condK x28
 (.ok (.bool false) h24)
 (obind2 (mksK 1 1 [(.int .u8 0)] h24 (.int .i64 31) (.int .i64 31)) fun x29 h30 =>
 R 1 [a0, a1, x1, x19, x29, (.int .i64 0)] h30))
theorem e3_0 {T : Tab} {a0 a1 a2 : IV} {h : H} {r : CRes} (e : t3_0 (CL T) (J3 T) a0 a1 a2 h = r) (hr : r ≠ .fail) : J3 T 0 [a0, a1, a2] h = r := fj_step (fn := Tryd.f3) (js := js3) (by kernel_rfl) e hr
noncomputable def t3_1 (cf : CallF) (R : Rec) (a0 a1 a5 a7 a8 a9 : IV) (h : H) : CRes :=
 obind (binN .lss a9 (.int .i64 31)) fun x31 =>
 condK x31
 (obind (binN .sub (.int .i64 30) a9) fun x32 =>
 obind (binN .shr a1 x32) fun x33 =>
 obind (binN .and x33 (.int .i64 1)) fun x34 =>
 obind (binN .add (.int .i64 48) x34) fun x35 =>
 obind (cvN .u8 x35) fun x36 =>
 obind (ixS 1 a8 a9) fun x37 =>
 obindH (stA 1 h x37 x36) fun h38 =>
 obind (binN .add a9 (.int .i64 1)) fun x39 =>
 R 1 [a0, a1, a5, a7, a8, x39] h38)
 (obind (ldA 6 h a5) fun x40 =>
 callP (cf 12 [a7, x40] h) .pan fun x41 h42 =>
 obind (extractI x41 0) fun x43 =>
 obind (extractI x41 1) fun x44 =>
 obind2 (newI h42 [(.int .i64 0), (.int .i64 0)]) fun x45 h46 =>
 obindH (stA 2 h46 x45 x44) fun h47 =>
 callP (cf 10 [] h47) (fun v48 h49 =>
 obind (ldA 6 h47 a5) fun x50 =>
 obind (cvS h47 a8) fun x51 =>
 .pan v48 h49) fun x52 h53 =>
 obind (ldA 6 h53 a5) fun x54 =>
 obind (ldA 6 h47 a5) fun x55 =>
 bif IV.beq x55 x54 then
 obind (cvS h53 a8) fun x56 =>
 obind (cvS h47 a8) fun x57 =>
 bif IV.beq x57 x56 then
 callP (cf 13 [x54, a0, x56] h53) (fun v58 h59 =>
 .pan v58 h59) fun x60 h61 =>
 callP (cf 12 [x52, x60] h61) (fun v62 h63 =>
 .pan v62 h63) fun x64 h65 =>
 obind (extractI x64 0) fun x66 =>
 obind (extractI x64 1) fun x67 =>
 obind2 (newI h65 [(.int .i64 0), (.int .i64 0)]) fun x68 h69 =>
 obindH (stA 2 h69 x68 x67) fun h70 =>
 obind (binN .eql x43 x66) fun x71 =>
 spanK x71 true h70 (fun k72 =>
 obind (ldA 2 h70 x45) fun x75 =>
 obind (ldA 2 h70 x68) fun x76 =>
 obind (binK Tryd.prog h70 .eql 33 false false x75 x76) fun x77 =>
 k72 x77 h70) fun x73 h74 =>
 obind (pickI x71 (some x73) (some (.bool false))) fun x78 =>
 spanK x78 true h74 (fun k79 =>
 callP (cf 9 [] h74) .pan fun x82 h83 =>
 k79 x82 h83) fun x80 h81 =>
 obind (pickI x78 (some x80) (some (.bool false))) fun x84 =>
 .ok x84 h81
 else .fail
 else .fail)
theorem e3_1 {T : Tab} {a0 a1 a5 a7 a8 a9 : IV} {h : H} {r : CRes} (e : t3_1 (CL T) (J3 T) a0 a1 a5 a7 a8 a9 h = r) (hr : r ≠ .fail) : J3 T 1 [a0, a1, a5, a7, a8, a9] h = r := fj_step (fn := Tryd.f3) (js := js3) (by kernel_rfl) e hr
theorem c3 {T : Tab} (hT : OvStep T) (ho : T.ov 3 = none) (hp : T.pol 3 = true) {a0 a1 a2 : IV} {h : H} {r : CRes} (hg : Gd h) (e : t3_0 (CL T) (J3 T) a0 a1 a2 h = r) (hr : r ≠ .fail) : CL T 3 [a0, a1, a2] h = r := call_good ho Tryd.func3 rfl rfl rfl hp hg hT (e3_0 e hr) hr

-- silkworm/silkwormlaw06.ConstsSums
def js4 : List Jn := [⟨[], [0, 1]⟩, ⟨[1, 1, 1, 1, 1, 1, 1], [5, 6, 7, 8, 9]⟩, ⟨[1, 1, 1, 1, 1, 1, 1, 1], [6, 7, 8, 9]⟩, ⟨[0, 1, 0, 1, 1, 1, 1, 1, 1, 1, 1], [6, 7, 8, 9, 10]⟩, ⟨[1, 1, 0, 0, 1, 0, 1, 1, 1, 1, 1, 1, 1, 1], [6, 7, 8, 9, 10]⟩, ⟨[1, 1, 0, 0, 1, 0, 0, 1, 0, 1, 1, 1, 1, 1, 1, 1, 1], [6, 7, 8, 9, 10, 11]⟩]
noncomputable def J4 (T : Tab) : Rec := fj Tryd.prog (CL T) Tryd.f4 js4
noncomputable def t4_0 (cf : CallF) (R : Rec) (a0 a1 : IV) (h : H) : CRes :=
 obind (binN .rem a0 (.int .i64 2147483647)) fun x1 =>
 obind (binN .rem a1 (.int .i64 2147483647)) fun x2 =>
 callP (cf 10 [] h) .pan fun x3 h4 =>
 obind (eqP .eql h4 x3 .nilPtr) fun x5 =>
 spanK x5 false h4 (fun k6 =>
 callP (cf 11 [x3, (.str ⟨1, 65⟩), x1] h4) .pan fun x9 h10 =>
 obind (binN .neq x9 (.int .i64 0)) fun x11 =>
 k6 x11 h10) fun x7 h8 =>
 obind (pickI x5 (some (.bool true)) (some x7)) fun x12 =>
 spanK x12 false h8 (fun k13 =>
 callP (cf 11 [x3, (.str ⟨1, 66⟩), x2] h8) .pan fun x16 h17 =>
 obind (binN .neq x16 (.int .i64 0)) fun x18 =>
 k13 x18 h17) fun x14 h15 =>
 obind (pickI x12 (some (.bool true)) (some x14)) fun x19 =>
 condK x19
 (.ok (.bool false) h15)
 (obind2 (bslK true 1 [(.int .i64 0)] 5 [(0, (.int .i64 13)), (1, (.int .i64 14)), (2, (.int .i64 15)), (3, (.int .i64 17)), (4, (.int .i64 21))] h15) fun x20 h21 =>
 obind (binN .add x1 x2) fun x22 =>
 obind (binN .sub x1 x2) fun x23 =>
 obind (binN .and x2 (.int .i64 7)) fun x24 =>
 obind (binN .shl (.int .i64 1) x24) fun x25 =>
 obind (binN .mul x1 x25) fun x26 =>
 obind2 (bslK true 1 [(.int .i64 0)] 5 [(0, x22), (1, x23), (2, x26), (3, (.int .i64 0)), (4, (.int .i64 0))] h21) fun x27 h28 =>
 obind (binN .lss x1 x2) fun x29 =>
 condK x29
 (obind (ixS 1 x27 (.int .i64 3)) fun x30 =>
 obindH (stA 1 h28 x30 (.int .i64 1)) fun h31 =>
 R 1 [x1, x2, x3, x20, x27] h31)
 (R 1 [x1, x2, x3, x20, x27] h28))
theorem e4_0 {T : Tab} {a0 a1 : IV} {h : H} {r : CRes} (e : t4_0 (CL T) (J4 T) a0 a1 h = r) (hr : r ≠ .fail) : J4 T 0 [a0, a1] h = r := fj_step (fn := Tryd.f4) (js := js4) (by kernel_rfl) e hr
noncomputable def t4_1 (cf : CallF) (R : Rec) (a5 a6 a7 a8 a9 : IV) (h : H) : CRes :=
 obind (binN .eql a5 a6) fun x32 =>
 condK x32
 (obind (ixS 1 a9 (.int .i64 4)) fun x33 =>
 obindH (stA 1 h x33 (.int .i64 1)) fun h34 =>
 R 2 [a6, a7, a8, a9] h34)
 (R 2 [a6, a7, a8, a9] h)
theorem e4_1 {T : Tab} {a5 a6 a7 a8 a9 : IV} {h : H} {r : CRes} (e : t4_1 (CL T) (J4 T) a5 a6 a7 a8 a9 h = r) (hr : r ≠ .fail) : J4 T 1 [a5, a6, a7, a8, a9] h = r := fj_step (fn := Tryd.f4) (js := js4) (by kernel_rfl) e hr
noncomputable def t4_2 (cf : CallF) (R : Rec) (a6 a7 a8 a9 : IV) (h : H) : CRes :=
 R 3 [a6, a7, a8, a9, (.int .i64 0)] h
theorem e4_2 {T : Tab} {a6 a7 a8 a9 : IV} {h : H} {r : CRes} (e : t4_2 (CL T) (J4 T) a6 a7 a8 a9 h = r) (hr : r ≠ .fail) : J4 T 2 [a6, a7, a8, a9] h = r := fj_step (fn := Tryd.f4) (js := js4) (by kernel_rfl) e hr
noncomputable def t4_3 (cf : CallF) (R : Rec) (a6 a7 a8 a9 a10 : IV) (h : H) : CRes :=
 obind (lenS a8) fun x35 =>
 obind (binN .lss a10 x35) fun x36 =>
 condK x36
 (obind (bldK z0 p1 [(0, (.int .i64 2)), (1, (.str ⟨1, 66⟩))]) fun x37 =>
 obind2 (newI h z0) fun x38 h39 =>
 obindH (stA 6 h39 x38 x37) fun h40 =>
 obind (ixS 1 a8 a10) fun x41 =>
 obind (ld0 h40 x41) fun x42 =>
 obind (binN .eql x42 (.int .i64 15)) fun x43 =>
 condK x43
 (obind (binN .shr a6 (.int .u64 2)) fun x44 =>
 obind (binN .and x44 (.int .i64 1)) fun x45 =>
 obind (binN .add (.int .i64 48) x45) fun x46 =>
 obind (cvN .u8 x46) fun x47 =>
 obind (binN .shr a6 (.int .u64 1)) fun x48 =>
 obind (binN .and x48 (.int .i64 1)) fun x49 =>
 obind (binN .add (.int .i64 48) x49) fun x50 =>
 obind (cvN .u8 x50) fun x51 =>
 obind (binN .and a6 (.int .i64 1)) fun x52 =>
 obind (binN .add (.int .i64 48) x52) fun x53 =>
 obind (cvN .u8 x53) fun x54 =>
 obind2 (bslK true 1 [(.int .u8 0)] 3 [(0, x47), (1, x51), (2, x54)] h40) fun x55 h56 =>
 obind (cvS h56 x55) fun x57 =>
 callP (cf 14 [x57] h56) .pan fun x58 h59 =>
 obindH (stA 6 h59 x38 x58) fun h60 =>
 R 5 [a6, a7, a8, a9, a10, x38] h60)
 (R 5 [a6, a7, a8, a9, a10, x38] h40))
 (callP (cf 9 [] h) .pan fun x61 h62 =>
 .ok x61 h62)
theorem e4_3 {T : Tab} {a6 a7 a8 a9 a10 : IV} {h : H} {r : CRes} (e : t4_3 (CL T) (J4 T) a6 a7 a8 a9 a10 h = r) (hr : r ≠ .fail) : J4 T 3 [a6, a7, a8, a9, a10] h = r := fj_step (fn := Tryd.f4) (js := js4) (by kernel_rfl) e hr
noncomputable def t4_5 (cf : CallF) (R : Rec) (a6 a7 a8 a9 a10 a11 : IV) (h : H) : CRes :=
 obind (ixS 1 a8 a10) fun x63 =>
 obind (ld0 h x63) fun x64 =>
 obind (bldK z0 p1 [(0, (.int .i64 2)), (1, (.str ⟨1, 65⟩))]) fun x65 =>
 obind (ldA 6 h a11) fun x66 =>
 obind2 (bslK false 6 z0 2 [(0, x65), (1, x66)] h) fun x67 h68 =>
 obind (ld0 h68 x63) fun x69 =>
 bif IV.beq x69 x64 then
 obind (bldK z0 p1 [(0, x64), (5, (.int .i64 9)), (4, x67)]) fun x70 =>
 callP (cf 12 [a7, x70] h68) (fun v71 h72 =>
 .pan v71 h72) fun x73 h74 =>
 obind (extractI x73 0) fun x75 =>
 obind (extractI x73 1) fun x76 =>
 obind2 (newI h74 [(.int .i64 0), (.int .i64 0)]) fun x77 h78 =>
 obindH (stA 2 h78 x77 x76) fun h79 =>
 obind (ixS 1 a9 a10) fun x80 =>
 obind (ld0 h79 x80) fun x81 =>
 obind (binN .gtr x81 (.int .i64 2147483647)) fun x82 =>
 spanK x82 false h79 (fun k83 =>
 obind (ixS 1 a9 a10) fun x86 =>
 obind (ld0 h79 x86) fun x87 =>
 obind (binN .lss x87 (.int .i64 (-2147483647))) fun x88 =>
 k83 x88 h79) fun x84 h85 =>
 obind (pickI x82 (some (.bool true)) (some x84)) fun x89 =>
 condK x89
 (obind (binN .neq x75 (.int .i64 0)) fun x90 =>
 spanK x90 false h85 (fun k91 =>
 obind (ldA 2 h85 x77) fun x94 =>
 obind (bldK [(.int .i64 0), (.int .i64 0)] [(0, 1), (1, 1)] [(0, (.int .i64 9)), (1, (.int .i64 61))]) fun x95 =>
 obind (binK Tryd.prog h85 .neq 33 false false x94 x95) fun x96 =>
 k91 x96 h85) fun x92 h93 =>
 obind (pickI x90 (some (.bool true)) (some x92)) fun x97 =>
 condK x97
 (.ok (.bool false) h93)
 (R 4 [a6, a7, a8, a9, a10] h93))
 (obind (ixS 1 a9 a10) fun x98 =>
 obind (ld0 h85 x98) fun x99 =>
 obind (binN .neq x75 x99) fun x100 =>
 spanK x100 false h85 (fun k101 =>
 obind (fadK 1 x77) fun x104 =>
 obind (ld0 h85 x104) fun x105 =>
 obind (binN .neq x105 (.int .i64 0)) fun x106 =>
 k101 x106 h85) fun x102 h103 =>
 obind (pickI x100 (some (.bool true)) (some x102)) fun x107 =>
 condK x107
 (.ok (.bool false) h103)
 (R 4 [a6, a7, a8, a9, a10] h103))
 else .fail
theorem e4_5 {T : Tab} {a6 a7 a8 a9 a10 a11 : IV} {h : H} {r : CRes} (e : t4_5 (CL T) (J4 T) a6 a7 a8 a9 a10 a11 h = r) (hr : r ≠ .fail) : J4 T 5 [a6, a7, a8, a9, a10, a11] h = r := fj_step (fn := Tryd.f4) (js := js4) (by kernel_rfl) e hr
noncomputable def t4_4 (cf : CallF) (R : Rec) (a6 a7 a8 a9 a10 : IV) (h : H) : CRes :=
 obind (binN .add a10 (.int .i64 1)) fun x108 =>
 R 3 [a6, a7, a8, a9, x108] h
theorem e4_4 {T : Tab} {a6 a7 a8 a9 a10 : IV} {h : H} {r : CRes} (e : t4_4 (CL T) (J4 T) a6 a7 a8 a9 a10 h = r) (hr : r ≠ .fail) : J4 T 4 [a6, a7, a8, a9, a10] h = r := fj_step (fn := Tryd.f4) (js := js4) (by kernel_rfl) e hr
theorem c4 {T : Tab} (hT : OvStep T) (ho : T.ov 4 = none) (hp : T.pol 4 = true) {a0 a1 : IV} {h : H} {r : CRes} (hg : Gd h) (e : t4_0 (CL T) (J4 T) a0 a1 h = r) (hr : r ≠ .fail) : CL T 4 [a0, a1] h = r := call_good ho Tryd.func4 rfl rfl rfl hp hg hT (e4_0 e hr) hr

-- silkworm/silkwormlaw06.ConstsWays
def js5 : List Jn := [⟨[], [0, 1]⟩]
noncomputable def J5 (T : Tab) : Rec := fj Tryd.prog (CL T) Tryd.f5 js5
noncomputable def t5_0 (cf : CallF) (R : Rec) (a0 a1 : IV) (h : H) : CRes :=
 obind2 (newI h (IV.cells a1)) fun x1 h2 =>
 callP (cf 10 [] h2) .pan fun x3 h4 =>
 obind (binN .rem a0 (.int .i64 2147483648)) fun x5 =>
 obind (eqP .eql h4 x3 .nilPtr) fun x6 =>
 spanK x6 false h4 (fun k7 =>
 obind (ldA 6 h4 x1) fun x10 =>
 callP (cf 8 [x10, (.int .i64 500)] h4) .pan fun x11 h12 =>
 obind (unI .not x11) fun x13 =>
 k7 x13 h12) fun x8 h9 =>
 obind (pickI x6 (some (.bool true)) (some x8)) fun x14 =>
 spanK x14 false h9 (fun k15 =>
 callP (cf 11 [x3, (.str ⟨1, 78⟩), x5] h9) .pan fun x18 h19 =>
 obind (binN .neq x18 (.int .i64 0)) fun x20 =>
 k15 x20 h19) fun x16 h17 =>
 obind (pickI x14 (some (.bool true)) (some x16)) fun x21 =>
 condK x21
 (obind (eqP .neq h17 x3 .nilPtr) fun x22 =>
 spanK x22 true h17 (fun k23 =>
 callP (cf 9 [] h17) .pan fun x26 h27 =>
 k23 x26 h27) fun x24 h25 =>
 obind (pickI x22 (some x24) (some (.bool false))) fun x28 =>
 .ok x28 h25)
 (obind (bldK z0 p1 [(0, (.int .i64 2)), (1, (.str ⟨1, 78⟩))]) fun x29 =>
 obind2 (newI h17 z0) fun x30 h31 =>
 obindH (stA 6 h31 x30 x29) fun h32 =>
 callP (cf 14 [(.str ⟨1, 49⟩)] h32) .pan fun x33 h34 =>
 obind2 (newI h34 z0) fun x35 h36 =>
 obindH (stA 6 h36 x35 x33) fun h37 =>
 obind (ldA 6 h37 x1) fun x38 =>
 callP (cf 12 [x3, x38] h37) .pan fun x39 h40 =>
 obind (extractI x39 0) fun x41 =>
 obind (extractI x39 1) fun x42 =>
 obind2 (newI h40 [(.int .i64 0), (.int .i64 0)]) fun x43 h44 =>
 obindH (stA 2 h44 x43 x42) fun h45 =>
 obind (ldA 6 h45 x30) fun x46 =>
 obind (ldA 6 h45 x35) fun x47 =>
 obind (ldA 6 h45 x1) fun x48 =>
 obind2 (bslK false 6 z0 3 [(0, x46), (1, x47), (2, x48)] h45) fun x49 h50 =>
 obind (bldK z0 p1 [(0, (.int .i64 6)), (4, x49)]) fun x51 =>
 callP (cf 12 [x3, x51] h50) .pan fun x52 h53 =>
 obind (extractI x52 0) fun x54 =>
 obind (extractI x52 1) fun x55 =>
 obind2 (newI h53 [(.int .i64 0), (.int .i64 0)]) fun x56 h57 =>
 obindH (stA 2 h57 x56 x55) fun h58 =>
 obind (ldA 6 h58 x30) fun x59 =>
 obind (ldA 6 h58 x1) fun x60 =>
 obind (ldA 6 h58 x35) fun x61 =>
 obind2 (bslK false 6 z0 3 [(0, x59), (1, x60), (2, x61)] h58) fun x62 h63 =>
 obind (bldK z0 p1 [(0, (.int .i64 6)), (4, x62)]) fun x64 =>
 callP (cf 12 [x3, x64] h63) .pan fun x65 h66 =>
 obind (extractI x65 0) fun x67 =>
 obind (extractI x65 1) fun x68 =>
 obind2 (newI h66 [(.int .i64 0), (.int .i64 0)]) fun x69 h70 =>
 obindH (stA 2 h70 x69 x68) fun h71 =>
 obind (ldA 6 h71 x35) fun x72 =>
 obind (ldA 6 h71 x1) fun x73 =>
 obind2 (bslK false 6 z0 2 [(0, x72), (1, x73)] h71) fun x74 h75 =>
 obind (bldK z0 p1 [(0, (.int .i64 27)), (4, x74)]) fun x76 =>
 callP (cf 12 [x3, x76] h75) .pan fun x77 h78 =>
 obind (extractI x77 0) fun x79 =>
 obind (extractI x77 1) fun x80 =>
 obind2 (newI h78 [(.int .i64 0), (.int .i64 0)]) fun x81 h82 =>
 obindH (stA 2 h82 x81 x80) fun h83 =>
 obind (ldA 2 h83 x81) fun x84 =>
 obind (ldA 2 h83 x43) fun x85 =>
 obind (binK Tryd.prog h83 .neq 33 false false x84 x85) fun x86 =>
 spanK x86 true h83 (fun k87 =>
 obind (fadK 1 x43) fun x90 =>
 obind (ld0 h83 x90) fun x91 =>
 obind (binN .neq x91 (.int .i64 0)) fun x92 =>
 k87 x92 h83) fun x88 h89 =>
 obind (pickI x86 (some x88) (some (.bool false))) fun x93 =>
 spanK x93 false h89 (fun k94 =>
 obind (fadK 1 x43) fun x97 =>
 obind (ld0 h89 x97) fun x98 =>
 obind (binN .eql x98 (.int .i64 0)) fun x99 =>
 k94 x99 h89) fun x95 h96 =>
 spanK x95 true h96 (fun k100 =>
 obind (fadK 1 x81) fun x103 =>
 obind (ld0 h96 x103) fun x104 =>
 obind (binN .neq x104 (.int .i64 0)) fun x105 =>
 k100 x105 h96) fun x101 h102 =>
 spanK x93 false h102 (fun k106 =>
 obind (pickI x95 (some x101) (some (.bool false))) fun x109 =>
 k106 x109 h102) fun x107 h108 =>
 obind (pickI x93 (some (.bool true)) (some x107)) fun x110 =>
 condK x110
 (.ok (.bool false) h108)
 (obind (binN .neq x5 (.int .i64 0)) fun x111 =>
 condK x111
 (obind (binN .eql x54 (.int .i64 1)) fun x112 =>
 spanK x112 true h108 (fun k113 =>
 obind (fadK 1 x56) fun x116 =>
 obind (ld0 h108 x116) fun x117 =>
 obind (binN .eql x117 (.int .i64 0)) fun x118 =>
 k113 x118 h108) fun x114 h115 =>
 obind (pickI x112 (some x114) (some (.bool false))) fun x119 =>
 spanK x119 true h115 (fun k120 =>
 obind (binN .eql x67 x41) fun x123 =>
 k120 x123 h115) fun x121 h122 =>
 obind (pickI x119 (some x121) (some (.bool false))) fun x124 =>
 spanK x124 true h122 (fun k125 =>
 obind (ldA 2 h122 x69) fun x128 =>
 obind (ldA 2 h122 x43) fun x129 =>
 obind (binK Tryd.prog h122 .eql 33 false false x128 x129) fun x130 =>
 k125 x130 h122) fun x126 h127 =>
 obind (pickI x124 (some x126) (some (.bool false))) fun x131 =>
 spanK x131 true h127 (fun k132 =>
 callP (cf 9 [] h127) .pan fun x135 h136 =>
 k132 x135 h136) fun x133 h134 =>
 obind (pickI x131 (some x133) (some (.bool false))) fun x137 =>
 .ok x137 h134)
 (obind (binN .eql x67 (.int .i64 1)) fun x138 =>
 spanK x138 true h108 (fun k139 =>
 obind (fadK 1 x69) fun x142 =>
 obind (ld0 h108 x142) fun x143 =>
 obind (binN .eql x143 (.int .i64 0)) fun x144 =>
 k139 x144 h108) fun x140 h141 =>
 obind (pickI x138 (some x140) (some (.bool false))) fun x145 =>
 spanK x145 true h141 (fun k146 =>
 obind (binN .eql x54 x41) fun x149 =>
 k146 x149 h141) fun x147 h148 =>
 obind (pickI x145 (some x147) (some (.bool false))) fun x150 =>
 spanK x150 true h148 (fun k151 =>
 obind (ldA 2 h148 x56) fun x154 =>
 obind (ldA 2 h148 x43) fun x155 =>
 obind (binK Tryd.prog h148 .eql 33 false false x154 x155) fun x156 =>
 k151 x156 h148) fun x152 h153 =>
 obind (pickI x150 (some x152) (some (.bool false))) fun x157 =>
 spanK x157 true h153 (fun k158 =>
 callP (cf 9 [] h153) .pan fun x161 h162 =>
 k158 x161 h162) fun x159 h160 =>
 obind (pickI x157 (some x159) (some (.bool false))) fun x163 =>
 .ok x163 h160)))
theorem e5_0 {T : Tab} {a0 a1 : IV} {h : H} {r : CRes} (e : t5_0 (CL T) (J5 T) a0 a1 h = r) (hr : r ≠ .fail) : J5 T 0 [a0, a1] h = r := fj_step (fn := Tryd.f5) (js := js5) (by kernel_rfl) e hr
theorem c5 {T : Tab} (hT : OvStep T) (ho : T.ov 5 = none) (hp : T.pol 5 = true) {a0 a1 : IV} {h : H} {r : CRes} (hg : Gd h) (e : t5_0 (CL T) (J5 T) a0 a1 h = r) (hr : r ≠ .fail) : CL T 5 [a0, a1] h = r := call_good ho Tryd.func5 rfl rfl rfl hp hg hT (e5_0 e hr) hr

-- silkworm/silkwormlaw06.ConstsScopes
def js6 : List Jn := [⟨[], [0, 1, 2]⟩, ⟨[0, 1, 0, 1, 1, 1, 1, 1, 1], [0, 1, 2, 7, 8, 10, 11, 12]⟩, ⟨[0, 1, 0, 1, 1, 1, 1, 1, 1, 1], [0, 1, 2, 7, 8, 10, 11, 13]⟩, ⟨[0, 1, 0, 1, 1, 1, 1, 1, 1, 1, 1, 1, 1, 1, 1, 1], [7, 8, 10, 11, 14, 15]⟩]
noncomputable def J6 (T : Tab) : Rec := fj Tryd.prog (CL T) Tryd.f6 js6
noncomputable def t6_0 (cf : CallF) (R : Rec) (a0 a1 a2 : IV) (h : H) : CRes :=
 callP (cf 15 [a0] h) .pan fun x1 h2 =>
 obind (extractI x1 0) fun x3 =>
 obind (extractI x1 1) fun x4 =>
 obind (extractI x1 2) fun x5 =>
 obind2 (newI h2 [.nilSlice, .nilSlice]) fun x6 h7 =>
 obindH (stA 2 h7 x6 x4) fun h8 =>
 obind (unI .not x5) fun x9 =>
 condK x9
 (.ok (.bool false) h8)
 (callP (cf 16 [x3] h8) .pan fun x10 h11 =>
 obind (ldA 2 h11 x6) fun x12 =>
 obind2 (newI h11 [.nilSlice, .nilSlice]) fun x13 h14 =>
 obindH (stA 2 h14 x13 x12) fun h15 =>
 obind (eqP .eql h15 x10 .nilPtr) fun x16 =>
 condK x16
 (.ok (.bool false) h15)
 (R 1 [a0, a1, a2, x3, x6, x10, x13, (.int .i64 0)] h15))
theorem e6_0 {T : Tab} {a0 a1 a2 : IV} {h : H} {r : CRes} (e : t6_0 (CL T) (J6 T) a0 a1 a2 h = r) (hr : r ≠ .fail) : J6 T 0 [a0, a1, a2] h = r := fj_step (fn := Tryd.f6) (js := js6) (by kernel_rfl) e hr
noncomputable def t6_1 (cf : CallF) (R : Rec) (a0 a1 a2 a7 a8 a10 a11 a12 : IV) (h : H) : CRes :=
 obind (lenS a1) fun x17 =>
 obind (binN .lss a12 x17) fun x18 =>
 condK x18
 (obind (ldA 2 h a8) fun x19 =>
 obind (ixS 2 a1 a12) fun x20 =>
 obind (fadK 0 x20) fun x21 =>
 obind (ld0 h x21) fun x22 =>
 obind (ixS 2 a1 a12) fun x23 =>
 obind (fadK 1 x23) fun x24 =>
 obind (ld0 h x24) fun x25 =>
 callP (cf 17 [x19, x22, x25] h) (fun v26 h27 =>
 .pan v26 h27) fun x28 h29 =>
 obind (extractI x28 0) fun x30 =>
 obind (extractI x28 1) fun x31 =>
 obindH (stA 2 h29 a8 x30) fun h32 =>
 obind (ixS 2 a1 a12) fun x33 =>
 obind (fadK 0 x33) fun x34 =>
 obind (ld0 h32 x34) fun x35 =>
 obind (ixS 2 a1 a12) fun x36 =>
 obind (fadK 1 x36) fun x37 =>
 obind (ld0 h32 x37) fun x38 =>
 callP (cf 11 [a7, x35, x38] h32) (fun v39 h40 =>
 .pan v39 h40) fun x41 h42 =>
 obind (binN .add a12 (.int .i64 1)) fun x43 =>
 R 1 [a0, a1, a2, a7, a8, a10, a11, x43] h42)
 (R 2 [a0, a1, a2, a7, a8, a10, a11, (.int .i64 0)] h)
theorem e6_1 {T : Tab} {a0 a1 a2 a7 a8 a10 a11 a12 : IV} {h : H} {r : CRes} (e : t6_1 (CL T) (J6 T) a0 a1 a2 a7 a8 a10 a11 a12 h = r) (hr : r ≠ .fail) : J6 T 1 [a0, a1, a2, a7, a8, a10, a11, a12] h = r := fj_step (fn := Tryd.f6) (js := js6) (by kernel_rfl) e hr
noncomputable def t6_2 (cf : CallF) (R : Rec) (a0 a1 a2 a7 a8 a10 a11 a13 : IV) (h : H) : CRes :=
 obind (lenS a2) fun x44 =>
 obind (binN .lss a13 x44) fun x45 =>
 condK x45
 (obind (ldA 2 h a11) fun x46 =>
 obind (ixS 2 a2 a13) fun x47 =>
 obind (fadK 0 x47) fun x48 =>
 obind (ld0 h x48) fun x49 =>
 obind (ixS 2 a2 a13) fun x50 =>
 obind (fadK 1 x50) fun x51 =>
 obind (ld0 h x51) fun x52 =>
 callP (cf 17 [x46, x49, x52] h) (fun v53 h54 =>
 .pan v53 h54) fun x55 h56 =>
 obind (extractI x55 0) fun x57 =>
 obind (extractI x55 1) fun x58 =>
 obindH (stA 2 h56 a11 x57) fun h59 =>
 obind (ixS 2 a2 a13) fun x60 =>
 obind (fadK 0 x60) fun x61 =>
 obind (ld0 h59 x61) fun x62 =>
 obind (ixS 2 a2 a13) fun x63 =>
 obind (fadK 1 x63) fun x64 =>
 obind (ld0 h59 x64) fun x65 =>
 callP (cf 11 [a10, x62, x65] h59) (fun v66 h67 =>
 .pan v66 h67) fun x68 h69 =>
 obind (binN .add a13 (.int .i64 1)) fun x70 =>
 R 2 [a0, a1, a2, a7, a8, a10, a11, x70] h69)
 (obind2 (appK 2 24 h .nilSlice a0) fun x71 h72 =>
 obind2 (appK 2 24 h72 x71 a1) fun x73 h74 =>
 obind2 (appK 2 24 h74 x73 a2) fun x75 h76 =>
 obind (bldK [(.str ⟨0, 0⟩), (.int .i64 0)] [(0, 1), (1, 1)] [(0, (.str ⟨13, 8037757784846205064033113894766⟩))]) fun x77 =>
 obind2 (bslK false 2 [(.str ⟨0, 0⟩), (.int .i64 0)] 1 [(0, x77)] h76) fun x78 h79 =>
 obind2 (appK 2 24 h79 x75 x78) fun x80 h81 =>
 R 3 [a7, a8, a10, a11, x80, (.int .i64 0)] h81)
theorem e6_2 {T : Tab} {a0 a1 a2 a7 a8 a10 a11 a13 : IV} {h : H} {r : CRes} (e : t6_2 (CL T) (J6 T) a0 a1 a2 a7 a8 a10 a11 a13 h = r) (hr : r ≠ .fail) : J6 T 2 [a0, a1, a2, a7, a8, a10, a11, a13] h = r := fj_step (fn := Tryd.f6) (js := js6) (by kernel_rfl) e hr
noncomputable def t6_3 (cf : CallF) (R : Rec) (a7 a8 a10 a11 a14 a15 : IV) (h : H) : CRes :=
 obind (lenS a14) fun x82 =>
 obind (binN .lss a15 x82) fun x83 =>
 condK x83
 (obind (ixS 2 a14 a15) fun x84 =>
 obind (fadK 0 x84) fun x85 =>
 obind (ld0 h x85) fun x86 =>
 callP (cf 18 [a7, x86] h) .pan fun x87 h88 =>
 obind (extractI x87 0) fun x89 =>
 obind (extractI x87 1) fun x90 =>
 obind (ldA 2 h88 a8) fun x91 =>
 obind (ixS 2 a14 a15) fun x92 =>
 obind (fadK 0 x92) fun x93 =>
 obind (ld0 h88 x93) fun x94 =>
 callP (cf 19 [x91, x94] h88) (fun v95 h96 =>
 .pan v95 h96) fun x97 h98 =>
 obind (extractI x97 0) fun x99 =>
 obind (extractI x97 1) fun x100 =>
 obind (ixS 2 a14 a15) fun x101 =>
 obind (fadK 0 x101) fun x102 =>
 obind (ld0 h98 x102) fun x103 =>
 callP (cf 18 [a10, x103] h98) .pan fun x104 h105 =>
 obind (extractI x104 0) fun x106 =>
 obind (extractI x104 1) fun x107 =>
 obind (ldA 2 h105 a11) fun x108 =>
 obind (ixS 2 a14 a15) fun x109 =>
 obind (fadK 0 x109) fun x110 =>
 obind (ld0 h105 x110) fun x111 =>
 callP (cf 19 [x108, x111] h105) (fun v112 h113 =>
 .pan v112 h113) fun x114 h115 =>
 obind (extractI x114 0) fun x116 =>
 obind (extractI x114 1) fun x117 =>
 obind (binN .neq x89 x99) fun x118 =>
 spanK x118 false h115 (fun k119 =>
 obind (eqB .neq x90 x100) fun x122 =>
 k119 x122 h115) fun x120 h121 =>
 obind (pickI x118 (some (.bool true)) (some x120)) fun x123 =>
 spanK x123 false h121 (fun k124 =>
 obind (binN .neq x106 x116) fun x127 =>
 k124 x127 h121) fun x125 h126 =>
 obind (pickI x123 (some (.bool true)) (some x125)) fun x128 =>
 spanK x128 false h126 (fun k129 =>
 obind (eqB .neq x107 x117) fun x132 =>
 k129 x132 h126) fun x130 h131 =>
 obind (pickI x128 (some (.bool true)) (some x130)) fun x133 =>
 condK x133
 (.ok (.bool false) h131)
 (obind (binN .add a15 (.int .i64 1)) fun x134 =>
 R 3 [a7, a8, a10, a11, a14, x134] h131))
 (callP (cf 9 [] h) .pan fun x135 h136 =>
 .ok x135 h136)
theorem e6_3 {T : Tab} {a7 a8 a10 a11 a14 a15 : IV} {h : H} {r : CRes} (e : t6_3 (CL T) (J6 T) a7 a8 a10 a11 a14 a15 h = r) (hr : r ≠ .fail) : J6 T 3 [a7, a8, a10, a11, a14, a15] h = r := fj_step (fn := Tryd.f6) (js := js6) (by kernel_rfl) e hr
theorem c6 {T : Tab} (hT : OvStep T) (ho : T.ov 6 = none) (hp : T.pol 6 = true) {a0 a1 a2 : IV} {h : H} {r : CRes} (hg : Gd h) (e : t6_0 (CL T) (J6 T) a0 a1 a2 h = r) (hr : r ≠ .fail) : CL T 6 [a0, a1, a2] h = r := call_good ho Tryd.func6 rfl rfl rfl hp hg hT (e6_0 e hr) hr

-- silkworm/silkwormlaw06.small
def js8 : List Jn := [⟨[], [0, 1]⟩, ⟨[0, 0, 1, 1, 1], [1, 5, 6]⟩]
noncomputable def J8 (T : Tab) : Rec := fj Tryd.prog (CL T) Tryd.f8 js8
noncomputable def t8_0 (cf : CallF) (R : Rec) (a0 a1 : IV) (h : H) : CRes :=
 obind2 (newI h (IV.cells a0)) fun x1 h2 =>
 obind (ldA 6 h2 x1) fun x3 =>
 obind2 (bslK false 6 z0 1 [(0, x3)] h2) fun x4 h5 =>
 R 1 [a1, x4, (.int .i64 0)] h5
theorem e8_0 {T : Tab} {a0 a1 : IV} {h : H} {r : CRes} (e : t8_0 (CL T) (J8 T) a0 a1 h = r) (hr : r ≠ .fail) : J8 T 0 [a0, a1] h = r := fj_step (fn := Tryd.f8) (js := js8) (by kernel_rfl) e hr
noncomputable def t8_1 (cf : CallF) (R : Rec) (a1 a5 a6 : IV) (h : H) : CRes :=
 obind (lenS a5) fun x6 =>
 obind (binN .gtr x6 (.int .i64 0)) fun x7 =>
 spanK x7 true h (fun k8 =>
 obind (binN .leq a6 a1) fun x11 =>
 k8 x11 h) fun x9 h10 =>
 obind (pickI x7 (some x9) (some (.bool false))) fun x12 =>
 condK x12
 (obind (lenS a5) fun x13 =>
 obind (binN .sub x13 (.int .i64 1)) fun x14 =>
 obind (ixS 6 a5 x14) fun x15 =>
 obind (ldA 6 h10 x15) fun x16 =>
 obind2 (newI h10 z0) fun x17 h18 =>
 obindH (stA 6 h18 x17 x16) fun h19 =>
 obind (slcS 6 a5 none (some x14) none) fun x20 =>
 obind (fadK 4 x17) fun x21 =>
 obind (ld0 h19 x21) fun x22 =>
 obind2 (appK 6 80 h19 x20 x22) fun x23 h24 =>
 obind (binN .add a6 (.int .i64 1)) fun x25 =>
 R 1 [a1, x23, x25] h24)
 (obind (binN .leq a6 a1) fun x26 =>
 .ok x26 h10)
theorem e8_1 {T : Tab} {a1 a5 a6 : IV} {h : H} {r : CRes} (e : t8_1 (CL T) (J8 T) a1 a5 a6 h = r) (hr : r ≠ .fail) : J8 T 1 [a1, a5, a6] h = r := fj_step (fn := Tryd.f8) (js := js8) (by kernel_rfl) e hr
theorem c8 {T : Tab} (hT : OvStep T) (ho : T.ov 8 = none) (hp : T.pol 8 = false) {a0 a1 : IV} {h : H} {r : CRes} (hg : Gd h) (e : t8_0 (CL T) (J8 T) a0 a1 (h.setPol false) = r) (hr : r ≠ .fail) : CL T 8 [a0, a1] h = r.setPol true := call_drop ho Tryd.func8 rfl rfl rfl hp hg (e8_0 e hr) hr

-- silkworm/silkwormlaw06.awake
def js9 : List Jn := [⟨[], []⟩]
noncomputable def J9 (T : Tab) : Rec := fj Tryd.prog (CL T) Tryd.f9 js9
noncomputable def t9_0 (cf : CallF) (R : Rec) (h : H) : CRes :=
 callP (cf 10 [] h) .pan fun x1 h2 =>
 obind (eqP .eql h2 x1 .nilPtr) fun x3 =>
 spanK x3 false h2 (fun k4 =>
 callP (cf 11 [x1, (.str ⟨1, 78⟩), (.int .i64 3)] h2) .pan fun x7 h8 =>
 obind (binN .neq x7 (.int .i64 0)) fun x9 =>
 k4 x9 h8) fun x5 h6 =>
 obind (pickI x3 (some (.bool true)) (some x5)) fun x10 =>
 condK x10
 (.ok (.bool false) h6)
 (obind (bldK z0 p1 [(0, (.int .i64 2)), (1, (.str ⟨1, 78⟩))]) fun x11 =>
 callP (cf 14 [(.str ⟨2, 12592⟩)] h6) .pan fun x12 h13 =>
 obind2 (bslK false 6 z0 2 [(0, x11), (1, x12)] h13) fun x14 h15 =>
 obind (bldK z0 p1 [(0, (.int .i64 13)), (4, x14)]) fun x16 =>
 callP (cf 12 [x1, x16] h15) .pan fun x17 h18 =>
 obind (extractI x17 0) fun x19 =>
 obind (extractI x17 1) fun x20 =>
 obind2 (newI h18 [(.int .i64 0), (.int .i64 0)]) fun x21 h22 =>
 obindH (stA 2 h22 x21 x20) fun h23 =>
 obind (bldK z0 p1 [(0, (.int .i64 2)), (1, (.str ⟨1, 77⟩)), (5, (.int .i64 7))]) fun x24 =>
 callP (cf 12 [x1, x24] h23) .pan fun x25 h26 =>
 obind (extractI x25 0) fun x27 =>
 obind (extractI x25 1) fun x28 =>
 obind2 (newI h26 [(.int .i64 0), (.int .i64 0)]) fun x29 h30 =>
 obindH (stA 2 h30 x29 x28) fun h31 =>
 obind (binN .eql x19 (.int .i64 4)) fun x32 =>
 spanK x32 true h31 (fun k33 =>
 obind (ldA 2 h31 x21) fun x36 =>
 obind (bldK [(.int .i64 0), (.int .i64 0)] [(0, 1), (1, 1)] []) fun x37 =>
 obind (binK Tryd.prog h31 .eql 33 false false x36 x37) fun x38 =>
 k33 x38 h31) fun x34 h35 =>
 obind (pickI x32 (some x34) (some (.bool false))) fun x39 =>
 spanK x39 true h35 (fun k40 =>
 obind (ldA 2 h35 x29) fun x43 =>
 obind (bldK [(.int .i64 0), (.int .i64 0)] [(0, 1), (1, 1)] [(0, (.int .i64 7)), (1, (.int .i64 71))]) fun x44 =>
 obind (binK Tryd.prog h35 .eql 33 false false x43 x44) fun x45 =>
 k40 x45 h35) fun x41 h42 =>
 obind (pickI x39 (some x41) (some (.bool false))) fun x46 =>
 .ok x46 h42)
theorem e9_0 {T : Tab} {h : H} {r : CRes} (e : t9_0 (CL T) (J9 T) h = r) (hr : r ≠ .fail) : J9 T 0 [] h = r := fj_step (fn := Tryd.f9) (js := js9) (by kernel_rfl) e hr
theorem c9 {T : Tab} (hT : OvStep T) (ho : T.ov 9 = none) (hp : T.pol 9 = true) {h : H} {r : CRes} (hg : Gd h) (e : t9_0 (CL T) (J9 T) h = r) (hr : r ≠ .fail) : CL T 9 [] h = r := call_good ho Tryd.func9 rfl rfl rfl hp hg hT (e9_0 e hr) hr

-- silkworm/consts.New
def js10 : List Jn := [⟨[], []⟩]
noncomputable def J10 (T : Tab) : Rec := fj Tryd.prog (CL T) Tryd.f10 js10
noncomputable def t10_0 (cf : CallF) (R : Rec) (h : H) : CRes :=
 mapK h fun x2 h1 =>
 obind (bldK [.nilMap] [(0, 1)] [(0, x2)]) fun x3 =>
 obind2 (newI h1 (IV.cells x3)) fun x4 h5 =>
 .ok x4 h5
theorem e10_0 {T : Tab} {h : H} {r : CRes} (e : t10_0 (CL T) (J10 T) h = r) (hr : r ≠ .fail) : J10 T 0 [] h = r := fj_step (fn := Tryd.f10) (js := js10) (by kernel_rfl) e hr
theorem c10 {T : Tab} (hT : OvStep T) (ho : T.ov 10 = none) (hp : T.pol 10 = true) {h : H} {r : CRes} (hg : Gd h) (e : t10_0 (CL T) (J10 T) h = r) (hr : r ≠ .fail) : CL T 10 [] h = r := call_good ho Tryd.func10 rfl rfl rfl hp hg hT (e10_0 e hr) hr

-- (*silkworm/consts.Scope).Set
def js11 : List Jn := [⟨[], [0, 1, 2]⟩]
noncomputable def J11 (T : Tab) : Rec := fj Tryd.prog (CL T) Tryd.f11 js11
noncomputable def t11_0 (cf : CallF) (R : Rec) (a0 a1 a2 : IV) (h : H) : CRes :=
 callP (cf 20 [a0] h) .pan fun x1 h2 =>
 obind (unI .not x1) fun x3 =>
 spanK x3 false h2 (fun k4 =>
 callP (cf 21 [a2] h2) .pan fun x7 h8 =>
 obind (unI .not x7) fun x9 =>
 k4 x9 h8) fun x5 h6 =>
 obind (pickI x3 (some (.bool true)) (some x5)) fun x10 =>
 condK x10
 (.ok (.int .i64 1) h6)
 (obind (nilI a0) fun x11 =>
 obind (fadK 0 x11) fun x12 =>
 obind (ld0 h6 x12) fun x13 =>
 obindH (mupK true h6 x13 a1 a2) fun h14 =>
 .ok (.int .i64 0) h14)
theorem e11_0 {T : Tab} {a0 a1 a2 : IV} {h : H} {r : CRes} (e : t11_0 (CL T) (J11 T) a0 a1 a2 h = r) (hr : r ≠ .fail) : J11 T 0 [a0, a1, a2] h = r := fj_step (fn := Tryd.f11) (js := js11) (by kernel_rfl) e hr
theorem c11 {T : Tab} (hT : OvStep T) (ho : T.ov 11 = none) (hp : T.pol 11 = true) {a0 a1 a2 : IV} {h : H} {r : CRes} (hg : Gd h) (e : t11_0 (CL T) (J11 T) a0 a1 a2 h = r) (hr : r ≠ .fail) : CL T 11 [a0, a1, a2] h = r := call_good ho Tryd.func11 rfl rfl rfl hp hg hT (e11_0 e hr) hr

-- (*silkworm/consts.Scope).Eval
def js12 : List Jn := [⟨[], [0, 1]⟩]
noncomputable def J12 (T : Tab) : Rec := fj Tryd.prog (CL T) Tryd.f12 js12
noncomputable def t12_0 (cf : CallF) (R : Rec) (a0 a1 : IV) (h : H) : CRes :=
 obind2 (newI h (IV.cells a1)) fun x1 h2 =>
 obind2 (newI h2 [(.int .i64 0)]) fun x3 h4 =>
 obind2 (newI h4 [(.int .i64 0), (.int .i64 0)]) fun x5 h6 =>
 callP (cf 20 [a0] h6) .pan fun x7 h8 =>
 obind (unI .not x7) fun x9 =>
 condK x9
 (obind (bldK [(.int .i64 0), (.int .i64 0)] [(0, 1), (1, 1)] [(1, (.int .i64 1))]) fun x10 =>
 obindH (stA 1 h8 x3 (.int .i64 0)) fun h11 =>
 obindH (stA 2 h11 x5 x10) fun h12 =>
 obind (ld0 h12 x3) fun x13 =>
 obind (ldA 2 h12 x5) fun x14 =>
 .ok (.tup [x13, x14]) h12)
 (obind (ldA 6 h8 x1) fun x15 =>
 callP (cf 23 [a0, x15] h8) (dfP (LV Tryd.prog cf 22 [x3, x5]) fun h16 =>
 obind (ld0 h16 x3) fun x17 =>
 obind (ldA 2 h16 x5) fun x18 =>
 .ok (.tup [x17, x18]) h16) fun x19 h20 =>
 obind (bldK [(.int .i64 0), (.int .i64 0)] [(0, 1), (1, 1)] []) fun x21 =>
 obindH (stA 1 h20 x3 x19) fun h22 =>
 obindH (stA 2 h22 x5 x21) fun h23 =>
 dfK (LV Tryd.prog cf 22 [x3, x5] .ret h23) fun h24 =>
 obind (ld0 h24 x3) fun x25 =>
 obind (ldA 2 h24 x5) fun x26 =>
 .ok (.tup [x25, x26]) h24)
theorem e12_0 {T : Tab} {a0 a1 : IV} {h : H} {r : CRes} (e : t12_0 (CL T) (J12 T) a0 a1 h = r) (hr : r ≠ .fail) : J12 T 0 [a0, a1] h = r := fj_step (fn := Tryd.f12) (js := js12) (by kernel_rfl) e hr
theorem c12 {T : Tab} (hT : OvStep T) (ho : T.ov 12 = none) (hp : T.pol 12 = true) {a0 a1 : IV} {h : H} {r : CRes} (hg : Gd h) (e : t12_0 (CL T) (J12 T) a0 a1 h = r) (hr : r ≠ .fail) : CL T 12 [a0, a1] h = r := call_good ho Tryd.func12 rfl rfl rfl hp hg hT (e12_0 e hr) hr

-- silkworm/silkwormlaw06.placed
def js13 : List Jn := [⟨[], [0, 1, 2]⟩, ⟨[0, 1, 0, 1, 1, 1], [1, 2, 3, 6, 7, 8]⟩]
noncomputable def J13 (T : Tab) : Rec := fj Tryd.prog (CL T) Tryd.f13 js13
noncomputable def t13_0 (cf : CallF) (R : Rec) (a0 a1 a2 : IV) (h : H) : CRes :=
 obind2 (newI h (IV.cells a0)) fun x1 h2 =>
 obind2 (newI h2 z0) fun x3 h4 =>
 obind (fadK 0 x1) fun x5 =>
 obind (ld0 h4 x5) fun x6 =>
 obind (binN .eql x6 (.int .i64 2)) fun x7 =>
 spanK x7 true h4 (fun k8 =>
 obind (fadK 1 x1) fun x11 =>
 obind (ld0 h4 x11) fun x12 =>
 obind (binS .eql x12 a1) fun x13 =>
 k8 x13 h4) fun x9 h10 =>
 obind (pickI x7 (some x9) (some (.bool false))) fun x14 =>
 condK x14
 (obind (fadK 5 x1) fun x15 =>
 obind (ld0 h10 x15) fun x16 =>
 obind (bldK z0 p1 [(0, (.int .i64 1)), (2, a2), (5, x16)]) fun x17 =>
 obindH (stA 6 h10 x3 x17) fun h18 =>
 obind (ldA 6 h18 x3) fun x19 =>
 .ok x19 h18)
 (R 1 [a1, a2, x1, x3, .nilSlice, (.int .i64 0)] h10)
theorem e13_0 {T : Tab} {a0 a1 a2 : IV} {h : H} {r : CRes} (e : t13_0 (CL T) (J13 T) a0 a1 a2 h = r) (hr : r ≠ .fail) : J13 T 0 [a0, a1, a2] h = r := fj_step (fn := Tryd.f13) (js := js13) (by kernel_rfl) e hr
noncomputable def t13_1 (cf : CallF) (R : Rec) (a1 a2 a3 a6 a7 a8 : IV) (h : H) : CRes :=
 obind (fadK 4 a3) fun x20 =>
 obind (ld0 h x20) fun x21 =>
 obind (lenS x21) fun x22 =>
 obind (binN .lss a8 x22) fun x23 =>
 condK x23
 (obind (fadK 4 a3) fun x24 =>
 obind (ld0 h x24) fun x25 =>
 obind (ixS 6 x25 a8) fun x26 =>
 obind (ldA 6 h x26) fun x27 =>
 callP (cf 13 [x27, a1, a2] h) .pan fun x28 h29 =>
 obind2 (bslK false 6 z0 1 [(0, x28)] h29) fun x30 h31 =>
 obind2 (appK 6 80 h31 a7 x30) fun x32 h33 =>
 obind (binN .add a8 (.int .i64 1)) fun x34 =>
 R 1 [a1, a2, a3, a6, x32, x34] h33)
 (obind (fadK 4 a3) fun x35 =>
 obindH (stA 1 h x35 a7) fun h36 =>
 obind (ldA 6 h36 a3) fun x37 =>
 obindH (stA 6 h36 a6 x37) fun h38 =>
 obind (ldA 6 h38 a6) fun x39 =>
 .ok x39 h38)
theorem e13_1 {T : Tab} {a1 a2 a3 a6 a7 a8 : IV} {h : H} {r : CRes} (e : t13_1 (CL T) (J13 T) a1 a2 a3 a6 a7 a8 h = r) (hr : r ≠ .fail) : J13 T 1 [a1, a2, a3, a6, a7, a8] h = r := fj_step (fn := Tryd.f13) (js := js13) (by kernel_rfl) e hr
theorem c13 {T : Tab} (hT : OvStep T) (ho : T.ov 13 = none) (hp : T.pol 13 = true) {a0 a1 a2 : IV} {h : H} {r : CRes} (hg : Gd h) (e : t13_0 (CL T) (J13 T) a0 a1 a2 h = r) (hr : r ≠ .fail) : CL T 13 [a0, a1, a2] h = r := call_good ho Tryd.func13 rfl rfl rfl hp hg hT (e13_0 e hr) hr

-- silkworm/silkwormlaw06.num
def js14 : List Jn := [⟨[], [0]⟩]
noncomputable def J14 (T : Tab) : Rec := fj Tryd.prog (CL T) Tryd.f14 js14
noncomputable def t14_0 (cf : CallF) (R : Rec) (a0 : IV) (h : H) : CRes :=
 obind2 (newI h z0) fun x1 h2 =>
 obind (bldK z0 p1 [(0, (.int .i64 1)), (2, a0)]) fun x3 =>
 obindH (stA 6 h2 x1 x3) fun h4 =>
 obind (ldA 6 h4 x1) fun x5 =>
 .ok x5 h4
theorem e14_0 {T : Tab} {a0 : IV} {h : H} {r : CRes} (e : t14_0 (CL T) (J14 T) a0 h = r) (hr : r ≠ .fail) : J14 T 0 [a0] h = r := fj_step (fn := Tryd.f14) (js := js14) (by kernel_rfl) e hr
theorem c14 {T : Tab} (hT : OvStep T) (ho : T.ov 14 = none) (hp : T.pol 14 = true) {a0 : IV} {h : H} {r : CRes} (hg : Gd h) (e : t14_0 (CL T) (J14 T) a0 h = r) (hr : r ≠ .fail) : CL T 14 [a0] h = r := call_good ho Tryd.func14 rfl rfl rfl hp hg hT (e14_0 e hr) hr

-- silkworm/silkwormlaw06.made
def js15 : List Jn := [⟨[], [0]⟩, ⟨[0, 1, 0, 1, 1, 1, 1], [0, 3, 5, 6, 7]⟩]
noncomputable def J15 (T : Tab) : Rec := fj Tryd.prog (CL T) Tryd.f15 js15
noncomputable def t15_0 (cf : CallF) (R : Rec) (a0 : IV) (h : H) : CRes :=
 obind2 (newI h [.nilSlice, .nilSlice]) fun x1 h2 =>
 callP (cf 10 [] h2) .pan fun x3 h4 =>
 obind (bldK [.nilSlice, .nilSlice] [(0, 1), (1, 1)] []) fun x5 =>
 obind2 (newI h4 [.nilSlice, .nilSlice]) fun x6 h7 =>
 obindH (stA 2 h7 x6 x5) fun h8 =>
 obind (eqP .eql h8 x3 .nilPtr) fun x9 =>
 condK x9
 (obind (ldA 2 h8 x6) fun x10 =>
 obindH (stA 2 h8 x1 x10) fun h11 =>
 obind (ldA 2 h11 x1) fun x12 =>
 .ok (.tup [.nilPtr, x12, (.bool false)]) h11)
 (R 1 [a0, x1, x3, x6, (.int .i64 0)] h8)
theorem e15_0 {T : Tab} {a0 : IV} {h : H} {r : CRes} (e : t15_0 (CL T) (J15 T) a0 h = r) (hr : r ≠ .fail) : J15 T 0 [a0] h = r := fj_step (fn := Tryd.f15) (js := js15) (by kernel_rfl) e hr
noncomputable def t15_1 (cf : CallF) (R : Rec) (a0 a3 a5 a6 a7 : IV) (h : H) : CRes :=
 obind (lenS a0) fun x13 =>
 obind (binN .lss a7 x13) fun x14 =>
 condK x14
 (obind (ldA 2 h a6) fun x15 =>
 obind (ixS 2 a0 a7) fun x16 =>
 obind (fadK 0 x16) fun x17 =>
 obind (ld0 h x17) fun x18 =>
 obind (ixS 2 a0 a7) fun x19 =>
 obind (fadK 1 x19) fun x20 =>
 obind (ld0 h x20) fun x21 =>
 callP (cf 17 [x15, x18, x21] h) (fun v22 h23 =>
 .pan v22 h23) fun x24 h25 =>
 obind (extractI x24 0) fun x26 =>
 obind (extractI x24 1) fun x27 =>
 obind2 (newI h25 [.nilSlice, .nilSlice]) fun x28 h29 =>
 obindH (stA 2 h29 x28 x26) fun h30 =>
 obind (ixS 2 a0 a7) fun x31 =>
 obind (fadK 0 x31) fun x32 =>
 obind (ld0 h30 x32) fun x33 =>
 obind (ixS 2 a0 a7) fun x34 =>
 obind (fadK 1 x34) fun x35 =>
 obind (ld0 h30 x35) fun x36 =>
 callP (cf 11 [a5, x33, x36] h30) (fun v37 h38 =>
 .pan v37 h38) fun x39 h40 =>
 obind (binN .neq x39 x27) fun x41 =>
 condK x41
 (obind (ldA 2 h40 a6) fun x42 =>
 obindH (stA 2 h40 a3 x42) fun h43 =>
 obind (ldA 2 h43 a3) fun x44 =>
 .ok (.tup [.nilPtr, x44, (.bool false)]) h43)
 (obind (ldA 2 h40 x28) fun x45 =>
 obindH (stA 2 h40 a6 x45) fun h46 =>
 obind (binN .add a7 (.int .i64 1)) fun x47 =>
 R 1 [a0, a3, a5, a6, x47] h46))
 (obind (ldA 2 h a6) fun x48 =>
 obindH (stA 2 h a3 x48) fun h49 =>
 obind (ldA 2 h49 a3) fun x50 =>
 .ok (.tup [a5, x50, (.bool true)]) h49)
theorem e15_1 {T : Tab} {a0 a3 a5 a6 a7 : IV} {h : H} {r : CRes} (e : t15_1 (CL T) (J15 T) a0 a3 a5 a6 a7 h = r) (hr : r ≠ .fail) : J15 T 1 [a0, a3, a5, a6, a7] h = r := fj_step (fn := Tryd.f15) (js := js15) (by kernel_rfl) e hr
theorem c15 {T : Tab} (hT : OvStep T) (ho : T.ov 15 = none) (hp : T.pol 15 = true) {a0 : IV} {h : H} {r : CRes} (hg : Gd h) (e : t15_0 (CL T) (J15 T) a0 h = r) (hr : r ≠ .fail) : CL T 15 [a0] h = r := call_good ho Tryd.func15 rfl rfl rfl hp hg hT (e15_0 e hr) hr

-- (*silkworm/consts.Scope).Within
def js16 : List Jn := [⟨[], [0]⟩]
noncomputable def J16 (T : Tab) : Rec := fj Tryd.prog (CL T) Tryd.f16 js16
noncomputable def t16_0 (cf : CallF) (R : Rec) (a0 : IV) (h : H) : CRes :=
 callP (cf 20 [a0] h) .pan fun x1 h2 =>
 obind (unI .not x1) fun x3 =>
 condK x3
 (.ok .nilPtr h2)
 (obind (nilI a0) fun x4 =>
 obind (fadK 0 x4) fun x5 =>
 obind (ld0 h2 x5) fun x6 =>
 callP (cf 24 [x6] h2) .pan fun x7 h8 =>
 obind (bldK [.nilMap] [(0, 1)] [(0, x7)]) fun x9 =>
 obind2 (newI h8 (IV.cells x9)) fun x10 h11 =>
 .ok x10 h11)
theorem e16_0 {T : Tab} {a0 : IV} {h : H} {r : CRes} (e : t16_0 (CL T) (J16 T) a0 h = r) (hr : r ≠ .fail) : J16 T 0 [a0] h = r := fj_step (fn := Tryd.f16) (js := js16) (by kernel_rfl) e hr
theorem c16 {T : Tab} (hT : OvStep T) (ho : T.ov 16 = none) (hp : T.pol 16 = true) {a0 : IV} {h : H} {r : CRes} (hg : Gd h) (e : t16_0 (CL T) (J16 T) a0 h = r) (hr : r ≠ .fail) : CL T 16 [a0] h = r := call_good ho Tryd.func16 rfl rfl rfl hp hg hT (e16_0 e hr) hr

-- silkworm/silkwormref06.Set
def js17 : List Jn := [⟨[], [0, 1, 2]⟩]
noncomputable def J17 (T : Tab) : Rec := fj Tryd.prog (CL T) Tryd.f17 js17
noncomputable def t17_0 (cf : CallF) (R : Rec) (a0 a1 a2 : IV) (h : H) : CRes :=
 obind2 (newI h (IV.cells a0)) fun x1 h2 =>
 obind2 (newI h2 [.nilSlice, .nilSlice]) fun x3 h4 =>
 obind (binN .gtr a2 (.int .i64 2147483647)) fun x5 =>
 spanK x5 false h4 (fun k6 =>
 obind (binN .lss a2 (.int .i64 (-2147483647))) fun x9 =>
 k6 x9 h4) fun x7 h8 =>
 obind (pickI x5 (some (.bool true)) (some x7)) fun x10 =>
 condK x10
 (obind (ldA 2 h8 x1) fun x11 =>
 obindH (stA 2 h8 x3 x11) fun h12 =>
 obind (ldA 2 h12 x3) fun x13 =>
 .ok (.tup [x13, (.int .i64 1)]) h12)
 (obind (fadK 0 x1) fun x14 =>
 obind (ld0 h8 x14) fun x15 =>
 obind2 (appK 1 16 h8 .nilSlice x15) fun x16 h17 =>
 obind (fadK 1 x1) fun x18 =>
 obind (ld0 h17 x18) fun x19 =>
 obind2 (appK 1 8 h17 .nilSlice x19) fun x20 h21 =>
 obind2 (bslK false 1 [(.str ⟨0, 0⟩)] 1 [(0, a1)] h21) fun x22 h23 =>
 obind2 (appK 1 16 h23 x16 x22) fun x24 h25 =>
 obind2 (bslK true 1 [(.int .i64 0)] 1 [(0, a2)] h25) fun x26 h27 =>
 obind2 (appK 1 8 h27 x20 x26) fun x28 h29 =>
 obind (bldK [.nilSlice, .nilSlice] [(0, 1), (1, 1)] [(0, x24), (1, x28)]) fun x30 =>
 obindH (stA 2 h29 x3 x30) fun h31 =>
 obind (ldA 2 h31 x3) fun x32 =>
 .ok (.tup [x32, (.int .i64 0)]) h31)
theorem e17_0 {T : Tab} {a0 a1 a2 : IV} {h : H} {r : CRes} (e : t17_0 (CL T) (J17 T) a0 a1 a2 h = r) (hr : r ≠ .fail) : J17 T 0 [a0, a1, a2] h = r := fj_step (fn := Tryd.f17) (js := js17) (by kernel_rfl) e hr
theorem c17 {T : Tab} (hT : OvStep T) (ho : T.ov 17 = none) (hp : T.pol 17 = true) {a0 a1 a2 : IV} {h : H} {r : CRes} (hg : Gd h) (e : t17_0 (CL T) (J17 T) a0 a1 a2 h = r) (hr : r ≠ .fail) : CL T 17 [a0, a1, a2] h = r := call_good ho Tryd.func17 rfl rfl rfl hp hg hT (e17_0 e hr) hr

-- (*silkworm/consts.Scope).Get
def js18 : List Jn := [⟨[], [0, 1]⟩]
noncomputable def J18 (T : Tab) : Rec := fj Tryd.prog (CL T) Tryd.f18 js18
noncomputable def t18_0 (cf : CallF) (R : Rec) (a0 a1 : IV) (h : H) : CRes :=
 callP (cf 20 [a0] h) .pan fun x1 h2 =>
 obind (unI .not x1) fun x3 =>
 condK x3
 (.ok (.tup [(.int .i64 0), (.bool false)]) h2)
 (obind (nilI a0) fun x4 =>
 obind (fadK 0 x4) fun x5 =>
 obind (ld0 h2 x5) fun x6 =>
 obind (lkK true (.int .i64 0) h2 x6 a1 true) fun x7 =>
 obind (extractI x7 0) fun x8 =>
 obind (extractI x7 1) fun x9 =>
 .ok (.tup [x8, x9]) h2)
theorem e18_0 {T : Tab} {a0 a1 : IV} {h : H} {r : CRes} (e : t18_0 (CL T) (J18 T) a0 a1 h = r) (hr : r ≠ .fail) : J18 T 0 [a0, a1] h = r := fj_step (fn := Tryd.f18) (js := js18) (by kernel_rfl) e hr
theorem c18 {T : Tab} (hT : OvStep T) (ho : T.ov 18 = none) (hp : T.pol 18 = true) {a0 a1 : IV} {h : H} {r : CRes} (hg : Gd h) (e : t18_0 (CL T) (J18 T) a0 a1 h = r) (hr : r ≠ .fail) : CL T 18 [a0, a1] h = r := call_good ho Tryd.func18 rfl rfl rfl hp hg hT (e18_0 e hr) hr

-- silkworm/silkwormref06.Get
def js19 : List Jn := [⟨[], [0, 1]⟩, ⟨[0, 1, 0, 1], [1, 2, 6]⟩]
noncomputable def J19 (T : Tab) : Rec := fj Tryd.prog (CL T) Tryd.f19 js19
noncomputable def t19_0 (cf : CallF) (R : Rec) (a0 a1 : IV) (h : H) : CRes :=
 obind2 (newI h (IV.cells a0)) fun x1 h2 =>
 obind (fadK 0 x1) fun x3 =>
 obind (ld0 h2 x3) fun x4 =>
 obind (lenS x4) fun x5 =>
 obind (binN .sub x5 (.int .i64 1)) fun x6 =>
 R 1 [a1, x1, x6] h2
theorem e19_0 {T : Tab} {a0 a1 : IV} {h : H} {r : CRes} (e : t19_0 (CL T) (J19 T) a0 a1 h = r) (hr : r ≠ .fail) : J19 T 0 [a0, a1] h = r := fj_step (fn := Tryd.f19) (js := js19) (by kernel_rfl) e hr
noncomputable def t19_1 (cf : CallF) (R : Rec) (a1 a2 a6 : IV) (h : H) : CRes :=
 obind (binN .geq a6 (.int .i64 0)) fun x7 =>
 condK x7
 (obind (fadK 0 a2) fun x8 =>
 obind (ld0 h x8) fun x9 =>
 obind (ixS 1 x9 a6) fun x10 =>
 obind (ld0 h x10) fun x11 =>
 obind (binS .eql x11 a1) fun x12 =>
 condK x12
 (obind (fadK 1 a2) fun x13 =>
 obind (ld0 h x13) fun x14 =>
 obind (ixS 1 x14 a6) fun x15 =>
 obind (ld0 h x15) fun x16 =>
 .ok (.tup [x16, (.bool true)]) h)
 (obind (binN .sub a6 (.int .i64 1)) fun x17 =>
 R 1 [a1, a2, x17] h))
 (.ok (.tup [(.int .i64 0), (.bool false)]) h)
theorem e19_1 {T : Tab} {a1 a2 a6 : IV} {h : H} {r : CRes} (e : t19_1 (CL T) (J19 T) a1 a2 a6 h = r) (hr : r ≠ .fail) : J19 T 1 [a1, a2, a6] h = r := fj_step (fn := Tryd.f19) (js := js19) (by kernel_rfl) e hr
theorem c19 {T : Tab} (hT : OvStep T) (ho : T.ov 19 = none) (hp : T.pol 19 = true) {a0 a1 : IV} {h : H} {r : CRes} (hg : Gd h) (e : t19_0 (CL T) (J19 T) a0 a1 h = r) (hr : r ≠ .fail) : CL T 19 [a0, a1] h = r := call_good ho Tryd.func19 rfl rfl rfl hp hg hT (e19_0 e hr) hr

-- (*silkworm/consts.Scope).given
def js20 : List Jn := [⟨[], [0]⟩]
noncomputable def J20 (T : Tab) : Rec := fj Tryd.prog (CL T) Tryd.f20 js20
noncomputable def t20_0 (cf : CallF) (R : Rec) (a0 : IV) (h : H) : CRes :=
 obind (eqP .neq h a0 .nilPtr) fun x1 =>
 spanK x1 true h (fun k2 =>
 obind (nilI a0) fun x5 =>
 obind (fadK 0 x5) fun x6 =>
 obind (ld0 h x6) fun x7 =>
 obind (eqMp .neq x7 .nilMap) fun x8 =>
 k2 x8 h) fun x3 h4 =>
 obind (pickI x1 (some x3) (some (.bool false))) fun x9 =>
 .ok x9 h4
theorem e20_0 {T : Tab} {a0 : IV} {h : H} {r : CRes} (e : t20_0 (CL T) (J20 T) a0 h = r) (hr : r ≠ .fail) : J20 T 0 [a0] h = r := fj_step (fn := Tryd.f20) (js := js20) (by kernel_rfl) e hr
theorem c20 {T : Tab} (hT : OvStep T) (ho : T.ov 20 = none) (hp : T.pol 20 = true) {a0 : IV} {h : H} {r : CRes} (hg : Gd h) (e : t20_0 (CL T) (J20 T) a0 h = r) (hr : r ≠ .fail) : CL T 20 [a0] h = r := call_good ho Tryd.func20 rfl rfl rfl hp hg hT (e20_0 e hr) hr

-- silkworm/consts.may
def js21 : List Jn := [⟨[], [0]⟩]
noncomputable def J21 (T : Tab) : Rec := fj Tryd.prog (CL T) Tryd.f21 js21
noncomputable def t21_0 (cf : CallF) (R : Rec) (a0 : IV) (h : H) : CRes :=
 obind (binN .geq a0 (.int .i64 (-2147483647))) fun x1 =>
 spanK x1 true h (fun k2 =>
 obind (binN .leq a0 (.int .i64 2147483647)) fun x5 =>
 k2 x5 h) fun x3 h4 =>
 obind (pickI x1 (some x3) (some (.bool false))) fun x6 =>
 .ok x6 h4
theorem e21_0 {T : Tab} {a0 : IV} {h : H} {r : CRes} (e : t21_0 (CL T) (J21 T) a0 h = r) (hr : r ≠ .fail) : J21 T 0 [a0] h = r := fj_step (fn := Tryd.f21) (js := js21) (by kernel_rfl) e hr
theorem c21 {T : Tab} (hT : OvStep T) (ho : T.ov 21 = none) (hp : T.pol 21 = true) {a0 : IV} {h : H} {r : CRes} (hg : Gd h) (e : t21_0 (CL T) (J21 T) a0 h = r) (hr : r ≠ .fail) : CL T 21 [a0] h = r := call_good ho Tryd.func21 rfl rfl rfl hp hg hT (e21_0 e hr) hr

-- (*silkworm/consts.Scope).Eval$1
def js22 : List Jn := [⟨[1], [0, 1, 5]⟩]
noncomputable def J22 (T : Tab) : Rec := cj Tryd.prog (CL T) Tryd.f22 js22
noncomputable def t22_0 (cf : CallF) (R : Rec) (a0 a1 a5 : IV) (h : H) : CRes :=
 obind (eqIf .eql true a5 .nilIface) fun x1 =>
 condK x1
 (.ok (.tup []) h)
 (obind (assertI 64 true (some (.agg [(.int .i64 0), (.int .i64 0)])) a5) fun x2 =>
 obind (extractI x2 1) fun x3 =>
 obind (extractI x2 0) fun x4 =>
 condK x3
 (obind2 (newI h [(.int .i64 0), (.int .i64 0)]) fun x5 h6 =>
 obindH (stA 2 h6 x5 x4) fun h7 =>
 obind (fadK 0 x5) fun x8 =>
 obind (ldA 2 h7 x8) fun x9 =>
 obindH (stA 1 h7 a0 (.int .i64 0)) fun h10 =>
 obind (ldA 2 h10 x8) fun x11 =>
 bif IV.beq x11 x9 then
 obindH (stA 2 h10 a1 x9) fun h12 =>
 .ok (.tup []) h12
 else .fail)
 (panK a5 h nop))
theorem e22_0 {T : Tab} {a0 a1 a5 : IV} {h : H} {r : CRes} (e : t22_0 (CL T) (J22 T) a0 a1 a5 h = r) (hr : r ≠ .fail) : J22 T 0 [a0, a1, a5] h = r := cj_step (fn := Tryd.f22) (js := js22) (by kernel_rfl) e hr
theorem l22 {T : Tab} {a0 a1 : IV} {st : I.Mode} {h h' : H} {v : IV} (hst : st ≠ .done) (e : t22_0 (CL T) (J22 T) a0 a1 (recV st) h = .ok v h') : LV Tryd.prog (CL T) 22 [a0, a1] st h = some (.ret, h') := LV_of Tryd.func22 rfl rfl rfl (of_decide_eq_true (by kernel_rfl)) hst rfl rfl (of_decide_eq_true (by kernel_rfl)) (e22_0 e (by simp))

-- (*silkworm/consts.Scope).eval
def js23 : List Jn := [⟨[], [0, 1]⟩, ⟨[1, 1, 0, 1, 0, 1, 0, 1], [5]⟩, ⟨[1, 1, 0, 1, 1, 1, 0, 1, 0, 1], [7]⟩, ⟨[1, 1, 1], [0, 3]⟩, ⟨[1, 1, 1, 1, 1, 1, 1], [10]⟩]
noncomputable def J23 (T : Tab) : Rec := fj Tryd.prog (CL T) Tryd.f23 js23
noncomputable def t23_0 (cf : CallF) (R : Rec) (a0 a1 : IV) (h : H) : CRes :=
 obind2 (newI h (IV.cells a1)) fun x1 h2 =>
 obind (fadK 0 x1) fun x3 =>
 obind (ld0 h2 x3) fun x4 =>
 obind (binN .eql x4 (.int .i64 1)) fun x5 =>
 condK x5
 (obind (fadK 2 x1) fun x6 =>
 obind (ld0 h2 x6) fun x7 =>
 callP (cf 25 [x7] h2) .pan fun x8 h9 =>
 obind (extractI x8 0) fun x10 =>
 obind (extractI x8 1) fun x11 =>
 obind (binN .neq x11 (.int .i64 0)) fun x12 =>
 condK x12
 (obind (ldA 6 h9 x1) fun x13 =>
 callP (cf 26 [x13, (.int .i64 60)] h9) .pan fun x14 h15 =>
 R 1 [x10] h15)
 (R 1 [x10] h9))
 (obind (binN .eql x4 (.int .i64 2)) fun x16 =>
 condK x16
 (obind (nilI a0) fun x17 =>
 obind (fadK 0 x17) fun x18 =>
 obind (ld0 h2 x18) fun x19 =>
 obind (fadK 1 x1) fun x20 =>
 obind (ld0 h2 x20) fun x21 =>
 obind (lkK true (.int .i64 0) h2 x19 x21 true) fun x22 =>
 obind (extractI x22 0) fun x23 =>
 obind (extractI x22 1) fun x24 =>
 obind (unI .not x24) fun x25 =>
 condK x25
 (obind (ldA 6 h2 x1) fun x26 =>
 callP (cf 26 [x26, (.int .i64 71)] h2) .pan fun x27 h28 =>
 R 2 [x23] h28)
 (R 2 [x23] h2))
 (obind (binN .eql x4 (.int .i64 9)) fun x29 =>
 condK x29
 (obind (ldA 6 h2 x1) fun x30 =>
 callP (cf 27 [x30, (.int .i64 1)] h2) .pan fun x31 h32 =>
 obind (fadK 4 x1) fun x33 =>
 obind (ld0 h32 x33) fun x34 =>
 obind (ixS 6 x34 (.int .i64 0)) fun x35 =>
 obind (ldA 6 h32 x35) fun x36 =>
 callP (cf 23 [a0, x36] h32) .pan fun x37 h38 =>
 obind (unI .neg x37) fun x39 =>
 .ok x39 h38)
 (obind (binN .eql x4 (.int .i64 8)) fun x40 =>
 condK x40
 (obind (ldA 6 h2 x1) fun x41 =>
 callP (cf 27 [x41, (.int .i64 1)] h2) .pan fun x42 h43 =>
 obind (fadK 4 x1) fun x44 =>
 obind (ld0 h43 x44) fun x45 =>
 obind (ixS 6 x45 (.int .i64 0)) fun x46 =>
 obind (ldA 6 h43 x46) fun x47 =>
 callP (cf 23 [a0, x47] h43) .pan fun x48 h49 =>
 obind (binN .eql x48 (.int .i64 0)) fun x50 =>
 callP (cf 28 [x50] h49) .pan fun x51 h52 =>
 .ok x51 h52)
 (obind (binN .eql x4 (.int .i64 6)) fun x53 =>
 condK x53
 (obind (ldA 6 h2 x1) fun x54 =>
 callP (cf 27 [x54, (.int .i64 3)] h2) .pan fun x55 h56 =>
 obind (fadK 4 x1) fun x57 =>
 obind (ld0 h56 x57) fun x58 =>
 obind (ixS 6 x58 (.int .i64 0)) fun x59 =>
 obind (ldA 6 h56 x59) fun x60 =>
 callP (cf 23 [a0, x60] h56) .pan fun x61 h62 =>
 obind (binN .neq x61 (.int .i64 0)) fun x63 =>
 condK x63
 (obind (fadK 4 x1) fun x64 =>
 obind (ld0 h62 x64) fun x65 =>
 obind (ixS 6 x65 (.int .i64 1)) fun x66 =>
 obind (ldA 6 h62 x66) fun x67 =>
 callP (cf 23 [a0, x67] h62) .pan fun x68 h69 =>
 .ok x68 h69)
 (obind (fadK 4 x1) fun x70 =>
 obind (ld0 h62 x70) fun x71 =>
 obind (ixS 6 x71 (.int .i64 2)) fun x72 =>
 obind (ldA 6 h62 x72) fun x73 =>
 callP (cf 23 [a0, x73] h62) .pan fun x74 h75 =>
 .ok x74 h75))
 (obind (fadK 0 x1) fun x76 =>
 obind (ld0 h2 x76) fun x77 =>
 obind (binN .lss x77 (.int .i64 13)) fun x78 =>
 spanK x78 false h2 (fun k79 =>
 obind (fadK 0 x1) fun x82 =>
 obind (ld0 h2 x82) fun x83 =>
 obind (binN .gtr x83 (.int .i64 27)) fun x84 =>
 k79 x84 h2) fun x80 h81 =>
 obind (pickI x78 (some (.bool true)) (some x80)) fun x85 =>
 condK x85
 (obind (ldA 6 h81 x1) fun x86 =>
 callP (cf 26 [x86, (.int .i64 60)] h81) .pan fun x87 h88 =>
 R 3 [a0, x1] h88)
 (R 3 [a0, x1] h81))))))
theorem e23_0 {T : Tab} {a0 a1 : IV} {h : H} {r : CRes} (e : t23_0 (CL T) (J23 T) a0 a1 h = r) (hr : r ≠ .fail) : J23 T 0 [a0, a1] h = r := fj_step (fn := Tryd.f23) (js := js23) (by kernel_rfl) e hr
noncomputable def t23_1 (cf : CallF) (R : Rec) (a5 : IV) (h : H) : CRes :=
 .ok a5 h
theorem e23_1 {T : Tab} {a5 : IV} {h : H} {r : CRes} (e : t23_1 (CL T) (J23 T) a5 h = r) (hr : r ≠ .fail) : J23 T 1 [a5] h = r := fj_step (fn := Tryd.f23) (js := js23) (by kernel_rfl) e hr
noncomputable def t23_2 (cf : CallF) (R : Rec) (a7 : IV) (h : H) : CRes :=
 .ok a7 h
theorem e23_2 {T : Tab} {a7 : IV} {h : H} {r : CRes} (e : t23_2 (CL T) (J23 T) a7 h = r) (hr : r ≠ .fail) : J23 T 2 [a7] h = r := fj_step (fn := Tryd.f23) (js := js23) (by kernel_rfl) e hr
noncomputable def t23_3 (cf : CallF) (R : Rec) (a0 a3 : IV) (h : H) : CRes :=
 obind (ldA 6 h a3) fun x89 =>
 callP (cf 27 [x89, (.int .i64 2)] h) .pan fun x90 h91 =>
 obind (fadK 4 a3) fun x92 =>
 obind (ld0 h91 x92) fun x93 =>
 obind (ixS 6 x93 (.int .i64 0)) fun x94 =>
 obind (ldA 6 h91 x94) fun x95 =>
 callP (cf 23 [a0, x95] h91) .pan fun x96 h97 =>
 obind (ldA 6 h97 a3) fun x98 =>
 obind (fadK 4 a3) fun x99 =>
 obind (ld0 h97 x99) fun x100 =>
 obind (ixS 6 x100 (.int .i64 1)) fun x101 =>
 obind (ldA 6 h97 x101) fun x102 =>
 callP (cf 23 [a0, x102] h97) (fun v103 h104 =>
 .pan v103 h104) fun x105 h106 =>
 obind (ldA 6 h106 a3) fun x107 =>
 bif IV.beq x107 x98 then
 callP (cf 29 [x98, x96, x105] h106) (fun v108 h109 =>
 .pan v108 h109) fun x110 h111 =>
 callP (cf 21 [x110] h111) .pan fun x112 h113 =>
 obind (unI .not x112) fun x114 =>
 condK x114
 (obind (ldA 6 h113 a3) fun x115 =>
 callP (cf 26 [x115, (.int .i64 61)] h113) .pan fun x116 h117 =>
 R 4 [x110] h117)
 (R 4 [x110] h113)
 else .fail
theorem e23_3 {T : Tab} {a0 a3 : IV} {h : H} {r : CRes} (e : t23_3 (CL T) (J23 T) a0 a3 h = r) (hr : r ≠ .fail) : J23 T 3 [a0, a3] h = r := fj_step (fn := Tryd.f23) (js := js23) (by kernel_rfl) e hr
noncomputable def t23_4 (cf : CallF) (R : Rec) (a10 : IV) (h : H) : CRes :=
 .ok a10 h
theorem e23_4 {T : Tab} {a10 : IV} {h : H} {r : CRes} (e : t23_4 (CL T) (J23 T) a10 h = r) (hr : r ≠ .fail) : J23 T 4 [a10] h = r := fj_step (fn := Tryd.f23) (js := js23) (by kernel_rfl) e hr
theorem c23 {T : Tab} (hT : OvStep T) (ho : T.ov 23 = none) (hp : T.pol 23 = true) {a0 a1 : IV} {h : H} {r : CRes} (hg : Gd h) (e : t23_0 (CL T) (J23 T) a0 a1 h = r) (hr : r ≠ .fail) : CL T 23 [a0, a1] h = r := call_good ho Tryd.func23 rfl rfl rfl hp hg hT (e23_0 e hr) hr

-- maps.Clone[map[string]int,string,int]
def js24 : List Jn := [⟨[], [0]⟩]
noncomputable def J24 (T : Tab) : Rec := fj Tryd.prog (CL T) Tryd.f24 js24
noncomputable def t24_0 (cf : CallF) (R : Rec) (a0 : IV) (h : H) : CRes :=
 obind (eqMp .eql a0 .nilMap) fun x1 =>
 condK x1
 (.ok .nilMap h)
 (callP (cf 30 [(.iface 57 a0)] h) .pan fun x2 h3 =>
 obind (assertI 57 false (some .nilMap) x2) fun x4 =>
 .ok x4 h3)
theorem e24_0 {T : Tab} {a0 : IV} {h : H} {r : CRes} (e : t24_0 (CL T) (J24 T) a0 h = r) (hr : r ≠ .fail) : J24 T 0 [a0] h = r := fj_step (fn := Tryd.f24) (js := js24) (by kernel_rfl) e hr
theorem c24 {T : Tab} (hT : OvStep T) (ho : T.ov 24 = none) (hp : T.pol 24 = true) {a0 : IV} {h : H} {r : CRes} (hg : Gd h) (e : t24_0 (CL T) (J24 T) a0 h = r) (hr : r ≠ .fail) : CL T 24 [a0] h = r := call_good ho Tryd.func24 rfl rfl rfl hp hg hT (e24_0 e hr) hr

-- silkworm/logic.Number
def js25 : List Jn := [⟨[], [0]⟩]
noncomputable def J25 (T : Tab) : Rec := fj Tryd.prog (CL T) Tryd.f25 js25
noncomputable def t25_0 (cf : CallF) (R : Rec) (a0 : IV) (h : H) : CRes :=
 callP (cf 31 [a0] h) .pan fun x1 h2 =>
 obind (binN .neq x1 (.int .i64 0)) fun x3 =>
 condK x3
 (.ok (.tup [(.int .i64 0), x1]) h2)
 (callP (cf 32 [a0] h2) .pan fun x4 h5 =>
 obind (unI .not x4) fun x6 =>
 condK x6
 (.ok (.tup [(.int .i64 0), (.int .i64 60)]) h5)
 (callP (cf 33 [a0, (.int .i64 2147483648)] h5) .pan fun x7 h8 =>
 obind (binN .gtr x7 (.int .i64 2147483647)) fun x9 =>
 condK x9
 (.ok (.tup [(.int .i64 0), (.int .i64 61)]) h8)
 (.ok (.tup [x7, (.int .i64 0)]) h8)))
theorem e25_0 {T : Tab} {a0 : IV} {h : H} {r : CRes} (e : t25_0 (CL T) (J25 T) a0 h = r) (hr : r ≠ .fail) : J25 T 0 [a0] h = r := fj_step (fn := Tryd.f25) (js := js25) (by kernel_rfl) e hr
theorem c25 {T : Tab} (hT : OvStep T) (ho : T.ov 25 = none) (hp : T.pol 25 = true) {a0 : IV} {h : H} {r : CRes} (hg : Gd h) (e : t25_0 (CL T) (J25 T) a0 h = r) (hr : r ≠ .fail) : CL T 25 [a0] h = r := call_good ho Tryd.func25 rfl rfl rfl hp hg hT (e25_0 e hr) hr

-- silkworm/consts.no
def js26 : List Jn := [⟨[], [0, 1]⟩]
noncomputable def J26 (T : Tab) : Rec := fj Tryd.prog (CL T) Tryd.f26 js26
noncomputable def t26_0 (cf : CallF) (R : Rec) (a0 a1 : IV) (h : H) : CRes :=
 obind2 (newI h (IV.cells a0)) fun x1 h2 =>
 obind (fadK 5 x1) fun x3 =>
 obind (ld0 h2 x3) fun x4 =>
 obind (bldK [(.int .i64 0), (.int .i64 0)] [(0, 1), (1, 1)] [(0, x4), (1, a1)]) fun x5 =>
 obind (bldK [(.int .i64 0), (.int .i64 0)] [(0, 2)] [(0, x5)]) fun x6 =>
 panK (.iface 64 x6) h2 .pan
theorem e26_0 {T : Tab} {a0 a1 : IV} {h : H} {r : CRes} (e : t26_0 (CL T) (J26 T) a0 a1 h = r) (hr : r ≠ .fail) : J26 T 0 [a0, a1] h = r := fj_step (fn := Tryd.f26) (js := js26) (by kernel_rfl) e hr
theorem c26 {T : Tab} (hT : OvStep T) (ho : T.ov 26 = none) (hp : T.pol 26 = true) {a0 a1 : IV} {h : H} {r : CRes} (hg : Gd h) (e : t26_0 (CL T) (J26 T) a0 a1 h = r) (hr : r ≠ .fail) : CL T 26 [a0, a1] h = r := call_good ho Tryd.func26 rfl rfl rfl hp hg hT (e26_0 e hr) hr

-- silkworm/consts.kids
def js27 : List Jn := [⟨[], [0, 1]⟩]
noncomputable def J27 (T : Tab) : Rec := fj Tryd.prog (CL T) Tryd.f27 js27
noncomputable def t27_0 (cf : CallF) (R : Rec) (a0 a1 : IV) (h : H) : CRes :=
 obind2 (newI h (IV.cells a0)) fun x1 h2 =>
 obind (fadK 4 x1) fun x3 =>
 obind (ld0 h2 x3) fun x4 =>
 obind (lenS x4) fun x5 =>
 obind (binN .neq x5 a1) fun x6 =>
 condK x6
 (obind (ldA 6 h2 x1) fun x7 =>
 callP (cf 26 [x7, (.int .i64 60)] h2) .pan fun x8 h9 =>
 .ok (.tup []) h9)
 (.ok (.tup []) h2)
theorem e27_0 {T : Tab} {a0 a1 : IV} {h : H} {r : CRes} (e : t27_0 (CL T) (J27 T) a0 a1 h = r) (hr : r ≠ .fail) : J27 T 0 [a0, a1] h = r := fj_step (fn := Tryd.f27) (js := js27) (by kernel_rfl) e hr
theorem c27 {T : Tab} (hT : OvStep T) (ho : T.ov 27 = none) (hp : T.pol 27 = true) {a0 a1 : IV} {h : H} {r : CRes} (hg : Gd h) (e : t27_0 (CL T) (J27 T) a0 a1 h = r) (hr : r ≠ .fail) : CL T 27 [a0, a1] h = r := call_good ho Tryd.func27 rfl rfl rfl hp hg hT (e27_0 e hr) hr

-- silkworm/consts.is
def js28 : List Jn := [⟨[], [0]⟩]
noncomputable def J28 (T : Tab) : Rec := fj Tryd.prog (CL T) Tryd.f28 js28
noncomputable def t28_0 (cf : CallF) (R : Rec) (a0 : IV) (h : H) : CRes :=
 condK a0
 (.ok (.int .i64 1) h)
 (.ok (.int .i64 0) h)
theorem e28_0 {T : Tab} {a0 : IV} {h : H} {r : CRes} (e : t28_0 (CL T) (J28 T) a0 h = r) (hr : r ≠ .fail) : J28 T 0 [a0] h = r := fj_step (fn := Tryd.f28) (js := js28) (by kernel_rfl) e hr
theorem c28 {T : Tab} (hT : OvStep T) (ho : T.ov 28 = none) (hp : T.pol 28 = true) {a0 : IV} {h : H} {r : CRes} (hg : Gd h) (e : t28_0 (CL T) (J28 T) a0 h = r) (hr : r ≠ .fail) : CL T 28 [a0] h = r := call_good ho Tryd.func28 rfl rfl rfl hp hg hT (e28_0 e hr) hr

-- silkworm/consts.binary
def js29 : List Jn := [⟨[], [0, 1, 2]⟩, ⟨[1, 1, 1, 1, 1, 1, 1, 1, 1, 1, 1, 1, 1, 1, 1, 1, 1, 1, 1, 1, 1, 0, 1, 0, 1], [1, 2, 3, 73]⟩, ⟨[1, 0, 1, 1, 1, 1, 1, 1, 1, 1, 1, 1, 1, 1, 1, 1, 1, 1, 1, 1, 1, 1, 1, 0, 1, 0, 1], [1, 2, 3]⟩, ⟨[1, 1, 1], [1, 2, 3]⟩]
noncomputable def J29 (T : Tab) : Rec := fj Tryd.prog (CL T) Tryd.f29 js29
noncomputable def t29_0 (cf : CallF) (R : Rec) (a0 a1 a2 : IV) (h : H) : CRes :=
 obind2 (newI h (IV.cells a0)) fun x1 h2 =>
 obind (fadK 0 x1) fun x3 =>
 obind (ld0 h2 x3) fun x4 =>
 obind (binN .eql x4 (.int .i64 13)) fun x5 =>
 condK x5
 (obind (binN .add a1 a2) fun x6 =>
 .ok x6 h2)
 (obind (binN .eql x4 (.int .i64 14)) fun x7 =>
 condK x7
 (obind (binN .sub a1 a2) fun x8 =>
 .ok x8 h2)
 (obind (binN .eql x4 (.int .i64 17)) fun x9 =>
 condK x9
 (obind (binN .lss a1 a2) fun x10 =>
 callP (cf 28 [x10] h2) .pan fun x11 h12 =>
 .ok x11 h12)
 (obind (binN .eql x4 (.int .i64 18)) fun x13 =>
 condK x13
 (obind (binN .leq a1 a2) fun x14 =>
 callP (cf 28 [x14] h2) .pan fun x15 h16 =>
 .ok x15 h16)
 (obind (binN .eql x4 (.int .i64 19)) fun x17 =>
 condK x17
 (obind (binN .gtr a1 a2) fun x18 =>
 callP (cf 28 [x18] h2) .pan fun x19 h20 =>
 .ok x19 h20)
 (obind (binN .eql x4 (.int .i64 20)) fun x21 =>
 condK x21
 (obind (binN .geq a1 a2) fun x22 =>
 callP (cf 28 [x22] h2) .pan fun x23 h24 =>
 .ok x23 h24)
 (obind (binN .eql x4 (.int .i64 21)) fun x25 =>
 condK x25
 (obind (binN .eql a1 a2) fun x26 =>
 callP (cf 28 [x26] h2) .pan fun x27 h28 =>
 .ok x27 h28)
 (obind (binN .eql x4 (.int .i64 22)) fun x29 =>
 condK x29
 (obind (binN .neq a1 a2) fun x30 =>
 callP (cf 28 [x30] h2) .pan fun x31 h32 =>
 .ok x31 h32)
 (obind (binN .eql x4 (.int .i64 26)) fun x33 =>
 condK x33
 (obind (binN .neq a1 (.int .i64 0)) fun x34 =>
 spanK x34 true h2 (fun k35 =>
 obind (binN .neq a2 (.int .i64 0)) fun x38 =>
 k35 x38 h2) fun x36 h37 =>
 obind (pickI x34 (some x36) (some (.bool false))) fun x39 =>
 callP (cf 28 [x39] h37) .pan fun x40 h41 =>
 .ok x40 h41)
 (obind (binN .eql x4 (.int .i64 27)) fun x42 =>
 condK x42
 (obind (binN .neq a1 (.int .i64 0)) fun x43 =>
 spanK x43 false h2 (fun k44 =>
 obind (binN .neq a2 (.int .i64 0)) fun x47 =>
 k44 x47 h2) fun x45 h46 =>
 obind (pickI x43 (some (.bool true)) (some x45)) fun x48 =>
 callP (cf 28 [x48] h46) .pan fun x49 h50 =>
 .ok x49 h50)
 (obind (binN .eql x4 (.int .i64 15)) fun x51 =>
 condK x51
 (R 1 [a1, a2, x1, x51] h2)
 (obind (binN .eql x4 (.int .i64 16)) fun x52 =>
 R 1 [a1, a2, x1, x52] h2)))))))))))
theorem e29_0 {T : Tab} {a0 a1 a2 : IV} {h : H} {r : CRes} (e : t29_0 (CL T) (J29 T) a0 a1 a2 h = r) (hr : r ≠ .fail) : J29 T 0 [a0, a1, a2] h = r := fj_step (fn := Tryd.f29) (js := js29) (by kernel_rfl) e hr
noncomputable def t29_1 (cf : CallF) (R : Rec) (a1 a2 a3 a73 : IV) (h : H) : CRes :=
 condK a73
 (obind (binN .lss a2 (.int .i64 0)) fun x53 =>
 spanK x53 false h (fun k54 =>
 obind (binN .gtr a2 (.int .i64 31)) fun x57 =>
 k54 x57 h) fun x55 h56 =>
 obind (pickI x53 (some (.bool true)) (some x55)) fun x58 =>
 condK x58
 (obind (ldA 6 h56 a3) fun x59 =>
 callP (cf 26 [x59, (.int .i64 61)] h56) .pan fun x60 h61 =>
 R 2 [a1, a2, a3] h61)
 (R 2 [a1, a2, a3] h56))
 (obind (binN .lss a1 (.int .i64 0)) fun x62 =>
 spanK x62 false h (fun k63 =>
 obind (binN .lss a2 (.int .i64 0)) fun x66 =>
 k63 x66 h) fun x64 h65 =>
 obind (pickI x62 (some (.bool true)) (some x64)) fun x67 =>
 condK x67
 (obind (ldA 6 h65 a3) fun x68 =>
 callP (cf 26 [x68, (.int .i64 61)] h65) .pan fun x69 h70 =>
 R 3 [a1, a2, a3] h70)
 (R 3 [a1, a2, a3] h65))
theorem e29_1 {T : Tab} {a1 a2 a3 a73 : IV} {h : H} {r : CRes} (e : t29_1 (CL T) (J29 T) a1 a2 a3 a73 h = r) (hr : r ≠ .fail) : J29 T 1 [a1, a2, a3, a73] h = r := fj_step (fn := Tryd.f29) (js := js29) (by kernel_rfl) e hr
noncomputable def t29_2 (cf : CallF) (R : Rec) (a1 a2 a3 : IV) (h : H) : CRes :=
 obind (fadK 0 a3) fun x71 =>
 obind (ld0 h x71) fun x72 =>
 obind (binN .eql x72 (.int .i64 15)) fun x73 =>
 condK x73
 (obind (binN .shl a1 a2) fun x74 =>
 .ok x74 h)
 (obind (binN .shr a1 a2) fun x75 =>
 .ok x75 h)
theorem e29_2 {T : Tab} {a1 a2 a3 : IV} {h : H} {r : CRes} (e : t29_2 (CL T) (J29 T) a1 a2 a3 h = r) (hr : r ≠ .fail) : J29 T 2 [a1, a2, a3] h = r := fj_step (fn := Tryd.f29) (js := js29) (by kernel_rfl) e hr
noncomputable def t29_3 (cf : CallF) (R : Rec) (a1 a2 a3 : IV) (h : H) : CRes :=
 obind (fadK 0 a3) fun x76 =>
 obind (ld0 h x76) fun x77 =>
 obind (binN .eql x77 (.int .i64 23)) fun x78 =>
 condK x78
 (obind (binN .and a1 a2) fun x79 =>
 .ok x79 h)
 (obind (binN .eql x77 (.int .i64 25)) fun x80 =>
 condK x80
 (obind (binN .or a1 a2) fun x81 =>
 .ok x81 h)
 (obind (binN .xor a1 a2) fun x82 =>
 .ok x82 h))
theorem e29_3 {T : Tab} {a1 a2 a3 : IV} {h : H} {r : CRes} (e : t29_3 (CL T) (J29 T) a1 a2 a3 h = r) (hr : r ≠ .fail) : J29 T 3 [a1, a2, a3] h = r := fj_step (fn := Tryd.f29) (js := js29) (by kernel_rfl) e hr
theorem c29 {T : Tab} (hT : OvStep T) (ho : T.ov 29 = none) (hp : T.pol 29 = true) {a0 a1 a2 : IV} {h : H} {r : CRes} (hg : Gd h) (e : t29_0 (CL T) (J29 T) a0 a1 a2 h = r) (hr : r ≠ .fail) : CL T 29 [a0, a1, a2] h = r := call_good ho Tryd.func29 rfl rfl rfl hp hg hT (e29_0 e hr) hr

-- silkworm/logic.Check
def js31 : List Jn := [⟨[], [0]⟩]
noncomputable def J31 (T : Tab) : Rec := fj Tryd.prog (CL T) Tryd.f31 js31
noncomputable def t31_0 (cf : CallF) (R : Rec) (a0 : IV) (h : H) : CRes :=
 obind (lenStr a0) fun x1 =>
 obind (binN .lss x1 (.int .i64 1)) fun x2 =>
 spanK x2 false h (fun k3 =>
 obind (lenStr a0) fun x6 =>
 obind (binN .gtr x6 (.int .i64 256)) fun x7 =>
 k3 x7 h) fun x4 h5 =>
 obind (pickI x2 (some (.bool true)) (some x4)) fun x8 =>
 spanK x8 false h5 (fun k9 =>
 callP (cf 34 [a0, (.str ⟨4, 2054697264⟩)] h5) .pan fun x12 h13 =>
 obind (binS .neq x12 (.str ⟨0, 0⟩)) fun x14 =>
 k9 x14 h13) fun x10 h11 =>
 obind (pickI x8 (some (.bool true)) (some x10)) fun x15 =>
 condK x15
 (.ok (.int .i64 10) h11)
 (.ok (.int .i64 0) h11)
theorem e31_0 {T : Tab} {a0 : IV} {h : H} {r : CRes} (e : t31_0 (CL T) (J31 T) a0 h = r) (hr : r ≠ .fail) : J31 T 0 [a0] h = r := fj_step (fn := Tryd.f31) (js := js31) (by kernel_rfl) e hr
theorem c31 {T : Tab} (hT : OvStep T) (ho : T.ov 31 = none) (hp : T.pol 31 = true) {a0 : IV} {h : H} {r : CRes} (hg : Gd h) (e : t31_0 (CL T) (J31 T) a0 h = r) (hr : r ≠ .fail) : CL T 31 [a0] h = r := call_good ho Tryd.func31 rfl rfl rfl hp hg hT (e31_0 e hr) hr

-- silkworm/logic.known
def js32 : List Jn := [⟨[], [0]⟩]
noncomputable def J32 (T : Tab) : Rec := fj Tryd.prog (CL T) Tryd.f32 js32
noncomputable def t32_0 (cf : CallF) (R : Rec) (a0 : IV) (h : H) : CRes :=
 callP (cf 35 [a0, (.str ⟨2, 31352⟩)] h) .pan fun x1 h2 =>
 obind (unI .not x1) fun x3 =>
 .ok x3 h2
theorem e32_0 {T : Tab} {a0 : IV} {h : H} {r : CRes} (e : t32_0 (CL T) (J32 T) a0 h = r) (hr : r ≠ .fail) : J32 T 0 [a0] h = r := fj_step (fn := Tryd.f32) (js := js32) (by kernel_rfl) e hr
theorem c32 {T : Tab} (hT : OvStep T) (ho : T.ov 32 = none) (hp : T.pol 32 = true) {a0 : IV} {h : H} {r : CRes} (hg : Gd h) (e : t32_0 (CL T) (J32 T) a0 h = r) (hr : r ≠ .fail) : CL T 32 [a0] h = r := call_good ho Tryd.func32 rfl rfl rfl hp hg hT (e32_0 e hr) hr

-- silkworm/logic.number
def js33 : List Jn := [⟨[], [0, 1]⟩, ⟨[0, 1, 0, 1, 1], [0, 1, 5, 8, 9]⟩]
noncomputable def J33 (T : Tab) : Rec := fj Tryd.prog (CL T) Tryd.f33 js33
noncomputable def t33_0 (cf : CallF) (R : Rec) (a0 a1 : IV) (h : H) : CRes :=
 obind (lenStr a0) fun x1 =>
 R 1 [a0, a1, (.int .i64 0), x1, (.int .i64 0)] h
theorem e33_0 {T : Tab} {a0 a1 : IV} {h : H} {r : CRes} (e : t33_0 (CL T) (J33 T) a0 a1 h = r) (hr : r ≠ .fail) : J33 T 0 [a0, a1] h = r := fj_step (fn := Tryd.f33) (js := js33) (by kernel_rfl) e hr
noncomputable def t33_1 (cf : CallF) (R : Rec) (a0 a1 a5 a8 a9 : IV) (h : H) : CRes :=
 obind (binN .lss a9 a8) fun x2 =>
 condK x2
 (obind (binN .mul (.int .i64 2) a5) fun x3 =>
 obind (ixStr a0 a9) fun x4 =>
 obind (binN .sub x4 (.int .u8 48)) fun x5 =>
 obind (cvN .i64 x5) fun x6 =>
 obind (binN .add x3 x6) fun x7 =>
 obind (minI x7 a1) fun x8 =>
 obind (binN .add a9 (.int .i64 1)) fun x9 =>
 R 1 [a0, a1, x8, a8, x9] h)
 (.ok a5 h)
theorem e33_1 {T : Tab} {a0 a1 a5 a8 a9 : IV} {h : H} {r : CRes} (e : t33_1 (CL T) (J33 T) a0 a1 a5 a8 a9 h = r) (hr : r ≠ .fail) : J33 T 1 [a0, a1, a5, a8, a9] h = r := fj_step (fn := Tryd.f33) (js := js33) (by kernel_rfl) e hr
theorem c33 {T : Tab} (hT : OvStep T) (ho : T.ov 33 = none) (hp : T.pol 33 = true) {a0 a1 : IV} {h : H} {r : CRes} (hg : Gd h) (e : t33_0 (CL T) (J33 T) a0 a1 h = r) (hr : r ≠ .fail) : CL T 33 [a0, a1] h = r := call_good ho Tryd.func33 rfl rfl rfl hp hg hT (e33_0 e hr) hr

-- strings.Trim
def js34 : List Jn := [⟨[], [0, 1]⟩]
noncomputable def J34 (T : Tab) : Rec := fj Tryd.prog (CL T) Tryd.f34 js34
noncomputable def t34_0 (cf : CallF) (R : Rec) (a0 a1 : IV) (h : H) : CRes :=
 obind (binS .eql a0 (.str ⟨0, 0⟩)) fun x1 =>
 spanK x1 false h (fun k2 =>
 obind (binS .eql a1 (.str ⟨0, 0⟩)) fun x5 =>
 k2 x5 h) fun x3 h4 =>
 obind (pickI x1 (some (.bool true)) (some x3)) fun x6 =>
 condK x6
 (.ok a0 h4)
 (obind (lenStr a1) fun x7 =>
 obind (binN .eql x7 (.int .i64 1)) fun x8 =>
 spanK x8 true h4 (fun k9 =>
 obind (ixStr a1 (.int .i64 0)) fun x12 =>
 obind (binN .lss x12 (.int .u8 128)) fun x13 =>
 k9 x13 h4) fun x10 h11 =>
 obind (pickI x8 (some x10) (some (.bool false))) fun x14 =>
 condK x14
 (obind (ixStr a1 (.int .i64 0)) fun x15 =>
 callP (cf 37 [a0, x15] h11) (fun v16 h17 =>
 obind (ixStr a1 (.int .i64 0)) fun x18 =>
 .pan v16 h17) fun x19 h20 =>
 obind (ixStr a1 (.int .i64 0)) fun x21 =>
 callP (cf 36 [x19, x21] h20) (fun v22 h23 =>
 .pan v22 h23) fun x24 h25 =>
 .ok x24 h25)
 (callP (cf 38 [a1] h11) .pan fun x26 h27 =>
 obind (extractI x26 0) fun x28 =>
 obind (extractI x26 1) fun x29 =>
 obind2 (newI h27 z2) fun x30 h31 =>
 obindH (stA 256 h31 x30 x28) fun h32 =>
 condK x29
 (callP (cf 40 [a0, x30] h32) .pan fun x33 h34 =>
 callP (cf 39 [x33, x30] h34) .pan fun x35 h36 =>
 .ok x35 h36)
 (callP (cf 42 [a0, a1] h32) .pan fun x37 h38 =>
 callP (cf 41 [x37, a1] h38) .pan fun x39 h40 =>
 .ok x39 h40)))
theorem e34_0 {T : Tab} {a0 a1 : IV} {h : H} {r : CRes} (e : t34_0 (CL T) (J34 T) a0 a1 h = r) (hr : r ≠ .fail) : J34 T 0 [a0, a1] h = r := fj_step (fn := Tryd.f34) (js := js34) (by kernel_rfl) e hr
theorem c34 {T : Tab} (hT : OvStep T) (ho : T.ov 34 = none) (hp : T.pol 34 = true) {a0 a1 : IV} {h : H} {r : CRes} (hg : Gd h) (e : t34_0 (CL T) (J34 T) a0 a1 h = r) (hr : r ≠ .fail) : CL T 34 [a0, a1] h = r := call_good ho Tryd.func34 rfl rfl rfl hp hg hT (e34_0 e hr) hr

-- strings.ContainsAny
def js35 : List Jn := [⟨[], [0, 1]⟩]
noncomputable def J35 (T : Tab) : Rec := fj Tryd.prog (CL T) Tryd.f35 js35
noncomputable def t35_0 (cf : CallF) (R : Rec) (a0 a1 : IV) (h : H) : CRes :=
 callP (cf 43 [a0, a1] h) .pan fun x1 h2 =>
 obind (binN .geq x1 (.int .i64 0)) fun x3 =>
 .ok x3 h2
theorem e35_0 {T : Tab} {a0 a1 : IV} {h : H} {r : CRes} (e : t35_0 (CL T) (J35 T) a0 a1 h = r) (hr : r ≠ .fail) : J35 T 0 [a0, a1] h = r := fj_step (fn := Tryd.f35) (js := js35) (by kernel_rfl) e hr
theorem c35 {T : Tab} (hT : OvStep T) (ho : T.ov 35 = none) (hp : T.pol 35 = true) {a0 a1 : IV} {h : H} {r : CRes} (hg : Gd h) (e : t35_0 (CL T) (J35 T) a0 a1 h = r) (hr : r ≠ .fail) : CL T 35 [a0, a1] h = r := call_good ho Tryd.func35 rfl rfl rfl hp hg hT (e35_0 e hr) hr

-- strings.trimLeftByte
def js36 : List Jn := [⟨[], [0, 1]⟩, ⟨[0, 0, 1], [0, 1]⟩]
noncomputable def J36 (T : Tab) : Rec := fj Tryd.prog (CL T) Tryd.f36 js36
noncomputable def t36_0 (cf : CallF) (R : Rec) (a0 a1 : IV) (h : H) : CRes :=
 R 1 [a0, a1] h
theorem e36_0 {T : Tab} {a0 a1 : IV} {h : H} {r : CRes} (e : t36_0 (CL T) (J36 T) a0 a1 h = r) (hr : r ≠ .fail) : J36 T 0 [a0, a1] h = r := fj_step (fn := Tryd.f36) (js := js36) (by kernel_rfl) e hr
noncomputable def t36_1 (cf : CallF) (R : Rec) (a0 a1 : IV) (h : H) : CRes :=
 obind (lenStr a0) fun x1 =>
 obind (binN .gtr x1 (.int .i64 0)) fun x2 =>
 spanK x2 true h (fun k3 =>
 obind (ixStr a0 (.int .i64 0)) fun x6 =>
 obind (binN .eql x6 a1) fun x7 =>
 k3 x7 h) fun x4 h5 =>
 obind (pickI x2 (some x4) (some (.bool false))) fun x8 =>
 condK x8
 (obind (slcStr a0 (some (.int .i64 1)) none) fun x9 =>
 R 1 [x9, a1] h5)
 (.ok a0 h5)
theorem e36_1 {T : Tab} {a0 a1 : IV} {h : H} {r : CRes} (e : t36_1 (CL T) (J36 T) a0 a1 h = r) (hr : r ≠ .fail) : J36 T 1 [a0, a1] h = r := fj_step (fn := Tryd.f36) (js := js36) (by kernel_rfl) e hr
theorem c36 {T : Tab} (hT : OvStep T) (ho : T.ov 36 = none) (hp : T.pol 36 = true) {a0 a1 : IV} {h : H} {r : CRes} (hg : Gd h) (e : t36_0 (CL T) (J36 T) a0 a1 h = r) (hr : r ≠ .fail) : CL T 36 [a0, a1] h = r := call_good ho Tryd.func36 rfl rfl rfl hp hg hT (e36_0 e hr) hr

-- strings.trimRightByte
def js37 : List Jn := [⟨[], [0, 1]⟩, ⟨[0, 0, 1], [0, 1]⟩]
noncomputable def J37 (T : Tab) : Rec := fj Tryd.prog (CL T) Tryd.f37 js37
noncomputable def t37_0 (cf : CallF) (R : Rec) (a0 a1 : IV) (h : H) : CRes :=
 R 1 [a0, a1] h
theorem e37_0 {T : Tab} {a0 a1 : IV} {h : H} {r : CRes} (e : t37_0 (CL T) (J37 T) a0 a1 h = r) (hr : r ≠ .fail) : J37 T 0 [a0, a1] h = r := fj_step (fn := Tryd.f37) (js := js37) (by kernel_rfl) e hr
noncomputable def t37_1 (cf : CallF) (R : Rec) (a0 a1 : IV) (h : H) : CRes :=
 obind (lenStr a0) fun x1 =>
 obind (binN .gtr x1 (.int .i64 0)) fun x2 =>
 spanK x2 true h (fun k3 =>
 obind (lenStr a0) fun x6 =>
 obind (binN .sub x6 (.int .i64 1)) fun x7 =>
 obind (ixStr a0 x7) fun x8 =>
 obind (binN .eql x8 a1) fun x9 =>
 k3 x9 h) fun x4 h5 =>
 obind (pickI x2 (some x4) (some (.bool false))) fun x10 =>
 condK x10
 (obind (lenStr a0) fun x11 =>
 obind (binN .sub x11 (.int .i64 1)) fun x12 =>
 obind (slcStr a0 none (some x12)) fun x13 =>
 R 1 [x13, a1] h5)
 (.ok a0 h5)
theorem e37_1 {T : Tab} {a0 a1 : IV} {h : H} {r : CRes} (e : t37_1 (CL T) (J37 T) a0 a1 h = r) (hr : r ≠ .fail) : J37 T 1 [a0, a1] h = r := fj_step (fn := Tryd.f37) (js := js37) (by kernel_rfl) e hr
theorem c37 {T : Tab} (hT : OvStep T) (ho : T.ov 37 = none) (hp : T.pol 37 = true) {a0 a1 : IV} {h : H} {r : CRes} (hg : Gd h) (e : t37_0 (CL T) (J37 T) a0 a1 h = r) (hr : r ≠ .fail) : CL T 37 [a0, a1] h = r := call_good ho Tryd.func37 rfl rfl rfl hp hg hT (e37_0 e hr) hr

-- strings.makeASCIISet
def js38 : List Jn := [⟨[], [0]⟩, ⟨[0, 1, 0, 1], [0, 2, 4]⟩]
noncomputable def J38 (T : Tab) : Rec := fj Tryd.prog (CL T) Tryd.f38 js38
noncomputable def t38_0 (cf : CallF) (R : Rec) (a0 : IV) (h : H) : CRes :=
 obind2 (newI h z2) fun x1 h2 =>
 R 1 [a0, x1, (.int .i64 0)] h2
theorem e38_0 {T : Tab} {a0 : IV} {h : H} {r : CRes} (e : t38_0 (CL T) (J38 T) a0 h = r) (hr : r ≠ .fail) : J38 T 0 [a0] h = r := fj_step (fn := Tryd.f38) (js := js38) (by kernel_rfl) e hr
noncomputable def t38_1 (cf : CallF) (R : Rec) (a0 a2 a4 : IV) (h : H) : CRes :=
 obind (lenStr a0) fun x3 =>
 obind (binN .lss a4 x3) fun x4 =>
 condK x4
 (obind (ixStr a0 a4) fun x5 =>
 obind (binN .geq x5 (.int .u8 128)) fun x6 =>
 condK x6
 (obind (ldA 256 h a2) fun x7 =>
 obindH (stA 256 h a2 x7) fun h8 =>
 obind (ldA 256 h8 a2) fun x9 =>
 .ok (.tup [x9, (.bool false)]) h8)
 (obind (ixA 256 1 a2 x5) fun x10 =>
 obindH (stA 1 h x10 (.bool true)) fun h11 =>
 obind (binN .add a4 (.int .i64 1)) fun x12 =>
 R 1 [a0, a2, x12] h11))
 (obind (ldA 256 h a2) fun x13 =>
 obindH (stA 256 h a2 x13) fun h14 =>
 obind (ldA 256 h14 a2) fun x15 =>
 .ok (.tup [x15, (.bool true)]) h14)
theorem e38_1 {T : Tab} {a0 a2 a4 : IV} {h : H} {r : CRes} (e : t38_1 (CL T) (J38 T) a0 a2 a4 h = r) (hr : r ≠ .fail) : J38 T 1 [a0, a2, a4] h = r := fj_step (fn := Tryd.f38) (js := js38) (by kernel_rfl) e hr
theorem c38 {T : Tab} (hT : OvStep T) (ho : T.ov 38 = none) (hp : T.pol 38 = true) {a0 : IV} {h : H} {r : CRes} (hg : Gd h) (e : t38_0 (CL T) (J38 T) a0 h = r) (hr : r ≠ .fail) : CL T 38 [a0] h = r := call_good ho Tryd.func38 rfl rfl rfl hp hg hT (e38_0 e hr) hr

-- strings.trimLeftASCII
def js39 : List Jn := [⟨[], [0, 1]⟩, ⟨[1, 1], [0]⟩, ⟨[0, 0, 1], [0, 1]⟩]
noncomputable def J39 (T : Tab) : Rec := fj Tryd.prog (CL T) Tryd.f39 js39
noncomputable def t39_0 (cf : CallF) (R : Rec) (a0 a1 : IV) (h : H) : CRes :=
 R 2 [a0, a1] h
theorem e39_0 {T : Tab} {a0 a1 : IV} {h : H} {r : CRes} (e : t39_0 (CL T) (J39 T) a0 a1 h = r) (hr : r ≠ .fail) : J39 T 0 [a0, a1] h = r := fj_step (fn := Tryd.f39) (js := js39) (by kernel_rfl) e hr
noncomputable def t39_2 (cf : CallF) (R : Rec) (a0 a1 : IV) (h : H) : CRes :=
 obind (lenStr a0) fun x1 =>
 obind (binN .gtr x1 (.int .i64 0)) fun x2 =>
 condK x2
 (obind (ixStr a0 (.int .i64 0)) fun x3 =>
 callP (cf 44 [a1, x3] h) .pan fun x4 h5 =>
 obind (unI .not x4) fun x6 =>
 condK x6
 (R 1 [a0] h5)
 (obind (slcStr a0 (some (.int .i64 1)) none) fun x7 =>
 R 2 [x7, a1] h5))
 (R 1 [a0] h)
theorem e39_2 {T : Tab} {a0 a1 : IV} {h : H} {r : CRes} (e : t39_2 (CL T) (J39 T) a0 a1 h = r) (hr : r ≠ .fail) : J39 T 2 [a0, a1] h = r := fj_step (fn := Tryd.f39) (js := js39) (by kernel_rfl) e hr
noncomputable def t39_1 (cf : CallF) (R : Rec) (a0 : IV) (h : H) : CRes :=
 .ok a0 h
theorem e39_1 {T : Tab} {a0 : IV} {h : H} {r : CRes} (e : t39_1 (CL T) (J39 T) a0 h = r) (hr : r ≠ .fail) : J39 T 1 [a0] h = r := fj_step (fn := Tryd.f39) (js := js39) (by kernel_rfl) e hr
theorem c39 {T : Tab} (hT : OvStep T) (ho : T.ov 39 = none) (hp : T.pol 39 = true) {a0 a1 : IV} {h : H} {r : CRes} (hg : Gd h) (e : t39_0 (CL T) (J39 T) a0 a1 h = r) (hr : r ≠ .fail) : CL T 39 [a0, a1] h = r := call_good ho Tryd.func39 rfl rfl rfl hp hg hT (e39_0 e hr) hr

-- strings.trimRightASCII
def js40 : List Jn := [⟨[], [0, 1]⟩, ⟨[1, 1], [0]⟩, ⟨[0, 0, 1], [0, 1]⟩]
noncomputable def J40 (T : Tab) : Rec := fj Tryd.prog (CL T) Tryd.f40 js40
noncomputable def t40_0 (cf : CallF) (R : Rec) (a0 a1 : IV) (h : H) : CRes :=
 R 2 [a0, a1] h
theorem e40_0 {T : Tab} {a0 a1 : IV} {h : H} {r : CRes} (e : t40_0 (CL T) (J40 T) a0 a1 h = r) (hr : r ≠ .fail) : J40 T 0 [a0, a1] h = r := fj_step (fn := Tryd.f40) (js := js40) (by kernel_rfl) e hr
noncomputable def t40_2 (cf : CallF) (R : Rec) (a0 a1 : IV) (h : H) : CRes :=
 obind (lenStr a0) fun x1 =>
 obind (binN .gtr x1 (.int .i64 0)) fun x2 =>
 condK x2
 (obind (lenStr a0) fun x3 =>
 obind (binN .sub x3 (.int .i64 1)) fun x4 =>
 obind (ixStr a0 x4) fun x5 =>
 callP (cf 44 [a1, x5] h) .pan fun x6 h7 =>
 obind (unI .not x6) fun x8 =>
 condK x8
 (R 1 [a0] h7)
 (obind (lenStr a0) fun x9 =>
 obind (binN .sub x9 (.int .i64 1)) fun x10 =>
 obind (slcStr a0 none (some x10)) fun x11 =>
 R 2 [x11, a1] h7))
 (R 1 [a0] h)
theorem e40_2 {T : Tab} {a0 a1 : IV} {h : H} {r : CRes} (e : t40_2 (CL T) (J40 T) a0 a1 h = r) (hr : r ≠ .fail) : J40 T 2 [a0, a1] h = r := fj_step (fn := Tryd.f40) (js := js40) (by kernel_rfl) e hr
noncomputable def t40_1 (cf : CallF) (R : Rec) (a0 : IV) (h : H) : CRes :=
 .ok a0 h
theorem e40_1 {T : Tab} {a0 : IV} {h : H} {r : CRes} (e : t40_1 (CL T) (J40 T) a0 h = r) (hr : r ≠ .fail) : J40 T 1 [a0] h = r := fj_step (fn := Tryd.f40) (js := js40) (by kernel_rfl) e hr
theorem c40 {T : Tab} (hT : OvStep T) (ho : T.ov 40 = none) (hp : T.pol 40 = true) {a0 a1 : IV} {h : H} {r : CRes} (hg : Gd h) (e : t40_0 (CL T) (J40 T) a0 a1 h = r) (hr : r ≠ .fail) : CL T 40 [a0, a1] h = r := call_good ho Tryd.func40 rfl rfl rfl hp hg hT (e40_0 e hr) hr

-- strings.trimLeftUnicode
def js41 : List Jn := [⟨[], [0, 1]⟩, ⟨[1, 1], [0]⟩, ⟨[0, 0, 1], [0, 1]⟩]
noncomputable def J41 (T : Tab) : Rec := fj Tryd.prog (CL T) Tryd.f41 js41
noncomputable def t41_0 (cf : CallF) (R : Rec) (a0 a1 : IV) (h : H) : CRes :=
 R 2 [a0, a1] h
theorem e41_0 {T : Tab} {a0 a1 : IV} {h : H} {r : CRes} (e : t41_0 (CL T) (J41 T) a0 a1 h = r) (hr : r ≠ .fail) : J41 T 0 [a0, a1] h = r := fj_step (fn := Tryd.f41) (js := js41) (by kernel_rfl) e hr
noncomputable def t41_2 (cf : CallF) (R : Rec) (a0 a1 : IV) (h : H) : CRes :=
 obind (lenStr a0) fun x1 =>
 obind (binN .gtr x1 (.int .i64 0)) fun x2 =>
 condK x2
 (callP (cf 45 [a0] h) .pan fun x3 h4 =>
 obind (extractI x3 0) fun x5 =>
 obind (extractI x3 1) fun x6 =>
 callP (cf 46 [a1, x5] h4) .pan fun x7 h8 =>
 obind (unI .not x7) fun x9 =>
 condK x9
 (R 1 [a0] h8)
 (obind (slcStr a0 (some x6) none) fun x10 =>
 R 2 [x10, a1] h8))
 (R 1 [a0] h)
theorem e41_2 {T : Tab} {a0 a1 : IV} {h : H} {r : CRes} (e : t41_2 (CL T) (J41 T) a0 a1 h = r) (hr : r ≠ .fail) : J41 T 2 [a0, a1] h = r := fj_step (fn := Tryd.f41) (js := js41) (by kernel_rfl) e hr
noncomputable def t41_1 (cf : CallF) (R : Rec) (a0 : IV) (h : H) : CRes :=
 .ok a0 h
theorem e41_1 {T : Tab} {a0 : IV} {h : H} {r : CRes} (e : t41_1 (CL T) (J41 T) a0 h = r) (hr : r ≠ .fail) : J41 T 1 [a0] h = r := fj_step (fn := Tryd.f41) (js := js41) (by kernel_rfl) e hr
theorem c41 {T : Tab} (hT : OvStep T) (ho : T.ov 41 = none) (hp : T.pol 41 = true) {a0 a1 : IV} {h : H} {r : CRes} (hg : Gd h) (e : t41_0 (CL T) (J41 T) a0 a1 h = r) (hr : r ≠ .fail) : CL T 41 [a0, a1] h = r := call_good ho Tryd.func41 rfl rfl rfl hp hg hT (e41_0 e hr) hr

-- strings.trimRightUnicode
def js42 : List Jn := [⟨[], [0, 1]⟩, ⟨[1, 1], [0]⟩, ⟨[0, 0, 1], [0, 1]⟩, ⟨[1, 1, 0, 1, 0, 0, 0, 1], [0, 1, 5, 6]⟩]
noncomputable def J42 (T : Tab) : Rec := fj Tryd.prog (CL T) Tryd.f42 js42
noncomputable def t42_0 (cf : CallF) (R : Rec) (a0 a1 : IV) (h : H) : CRes :=
 R 2 [a0, a1] h
theorem e42_0 {T : Tab} {a0 a1 : IV} {h : H} {r : CRes} (e : t42_0 (CL T) (J42 T) a0 a1 h = r) (hr : r ≠ .fail) : J42 T 0 [a0, a1] h = r := fj_step (fn := Tryd.f42) (js := js42) (by kernel_rfl) e hr
noncomputable def t42_2 (cf : CallF) (R : Rec) (a0 a1 : IV) (h : H) : CRes :=
 obind (lenStr a0) fun x1 =>
 obind (binN .gtr x1 (.int .i64 0)) fun x2 =>
 condK x2
 (obind (lenStr a0) fun x3 =>
 obind (binN .sub x3 (.int .i64 1)) fun x4 =>
 obind (ixStr a0 x4) fun x5 =>
 obind (cvN .i32 x5) fun x6 =>
 obind (binN .geq x6 (.int .i32 128)) fun x7 =>
 condK x7
 (callP (cf 47 [a0] h) .pan fun x8 h9 =>
 obind (extractI x8 0) fun x10 =>
 obind (extractI x8 1) fun x11 =>
 R 3 [a0, a1, x10, x11] h9)
 (R 3 [a0, a1, x6, (.int .i64 1)] h))
 (R 1 [a0] h)
theorem e42_2 {T : Tab} {a0 a1 : IV} {h : H} {r : CRes} (e : t42_2 (CL T) (J42 T) a0 a1 h = r) (hr : r ≠ .fail) : J42 T 2 [a0, a1] h = r := fj_step (fn := Tryd.f42) (js := js42) (by kernel_rfl) e hr
noncomputable def t42_1 (cf : CallF) (R : Rec) (a0 : IV) (h : H) : CRes :=
 .ok a0 h
theorem e42_1 {T : Tab} {a0 : IV} {h : H} {r : CRes} (e : t42_1 (CL T) (J42 T) a0 h = r) (hr : r ≠ .fail) : J42 T 1 [a0] h = r := fj_step (fn := Tryd.f42) (js := js42) (by kernel_rfl) e hr
noncomputable def t42_3 (cf : CallF) (R : Rec) (a0 a1 a5 a6 : IV) (h : H) : CRes :=
 callP (cf 46 [a1, a5] h) .pan fun x12 h13 =>
 obind (unI .not x12) fun x14 =>
 condK x14
 (R 1 [a0] h13)
 (obind (lenStr a0) fun x15 =>
 obind (binN .sub x15 a6) fun x16 =>
 obind (slcStr a0 none (some x16)) fun x17 =>
 R 2 [x17, a1] h13)
theorem e42_3 {T : Tab} {a0 a1 a5 a6 : IV} {h : H} {r : CRes} (e : t42_3 (CL T) (J42 T) a0 a1 a5 a6 h = r) (hr : r ≠ .fail) : J42 T 3 [a0, a1, a5, a6] h = r := fj_step (fn := Tryd.f42) (js := js42) (by kernel_rfl) e hr
theorem c42 {T : Tab} (hT : OvStep T) (ho : T.ov 42 = none) (hp : T.pol 42 = true) {a0 a1 : IV} {h : H} {r : CRes} (hg : Gd h) (e : t42_0 (CL T) (J42 T) a0 a1 h = r) (hr : r ≠ .fail) : CL T 42 [a0, a1] h = r := call_good ho Tryd.func42 rfl rfl rfl hp hg hT (e42_0 e hr) hr

-- strings.IndexAny
def js43 : List Jn := [⟨[], [0, 1]⟩, ⟨[1, 1, 0, 1, 0, 1, 1], [0, 5]⟩, ⟨[1, 1, 1, 1], [0, 1]⟩, ⟨[0, 1, 0, 0, 1, 1, 0, 1, 0, 1, 1, 1], [0, 6, 8]⟩, ⟨[0, 1, 0, 1, 1, 1, 1], [1, 45]⟩]
noncomputable def J43 (T : Tab) : Rec := fj Tryd.prog (CL T) Tryd.f43 js43
noncomputable def t43_0 (cf : CallF) (R : Rec) (a0 a1 : IV) (h : H) : CRes :=
 obind (binS .eql a1 (.str ⟨0, 0⟩)) fun x1 =>
 condK x1
 (.ok (.int .i64 (-1)) h)
 (obind (lenStr a1) fun x2 =>
 obind (binN .eql x2 (.int .i64 1)) fun x3 =>
 condK x3
 (obind (ixStr a1 (.int .i64 0)) fun x4 =>
 obind (cvN .i32 x4) fun x5 =>
 obind (binN .geq x5 (.int .i32 128)) fun x6 =>
 condK x6
 (R 1 [a0, (.int .i32 65533)] h)
 (R 1 [a0, x5] h))
 (obind (lenStr a0) fun x7 =>
 callP (cf 49 [x7] h) .pan fun x8 h9 =>
 condK x8
 (callP (cf 38 [a1] h9) .pan fun x10 h11 =>
 obind (extractI x10 0) fun x12 =>
 obind (extractI x10 1) fun x13 =>
 obind2 (newI h11 z2) fun x14 h15 =>
 obindH (stA 256 h15 x14 x12) fun h16 =>
 condK x13
 (R 3 [a0, x14, (.int .i64 0)] h16)
 (R 2 [a0, a1] h16))
 (R 2 [a0, a1] h9)))
theorem e43_0 {T : Tab} {a0 a1 : IV} {h : H} {r : CRes} (e : t43_0 (CL T) (J43 T) a0 a1 h = r) (hr : r ≠ .fail) : J43 T 0 [a0, a1] h = r := fj_step (fn := Tryd.f43) (js := js43) (by kernel_rfl) e hr
noncomputable def t43_1 (cf : CallF) (R : Rec) (a0 a5 : IV) (h : H) : CRes :=
 callP (cf 48 [a0, a5] h) .pan fun x17 h18 =>
 .ok x17 h18
theorem e43_1 {T : Tab} {a0 a5 : IV} {h : H} {r : CRes} (e : t43_1 (CL T) (J43 T) a0 a5 h = r) (hr : r ≠ .fail) : J43 T 1 [a0, a5] h = r := fj_step (fn := Tryd.f43) (js := js43) (by kernel_rfl) e hr
noncomputable def t43_2 (cf : CallF) (R : Rec) (a0 a1 : IV) (h : H) : CRes :=
 obind2 (rngS h a0) fun x19 h20 =>
 R 4 [a1, x19] h20
theorem e43_2 {T : Tab} {a0 a1 : IV} {h : H} {r : CRes} (e : t43_2 (CL T) (J43 T) a0 a1 h = r) (hr : r ≠ .fail) : J43 T 2 [a0, a1] h = r := fj_step (fn := Tryd.f43) (js := js43) (by kernel_rfl) e hr
noncomputable def t43_3 (cf : CallF) (R : Rec) (a0 a6 a8 : IV) (h : H) : CRes :=
 obind (lenStr a0) fun x21 =>
 obind (binN .lss a8 x21) fun x22 =>
 condK x22
 (obind (ixStr a0 a8) fun x23 =>
 callP (cf 44 [a6, x23] h) .pan fun x24 h25 =>
 condK x24
 (.ok a8 h25)
 (obind (binN .add a8 (.int .i64 1)) fun x26 =>
 R 3 [a0, a6, x26] h25))
 (.ok (.int .i64 (-1)) h)
theorem e43_3 {T : Tab} {a0 a6 a8 : IV} {h : H} {r : CRes} (e : t43_3 (CL T) (J43 T) a0 a6 a8 h = r) (hr : r ≠ .fail) : J43 T 3 [a0, a6, a8] h = r := fj_step (fn := Tryd.f43) (js := js43) (by kernel_rfl) e hr
noncomputable def t43_4 (cf : CallF) (R : Rec) (a1 a45 : IV) (h : H) : CRes :=
 obind2 (nextI h a45 true) fun x27 h28 =>
 obind (extractI x27 0) fun x29 =>
 condK x29
 (obind (extractI x27 1) fun x30 =>
 obind (extractI x27 2) fun x31 =>
 callP (cf 48 [a1, x31] h28) .pan fun x32 h33 =>
 obind (binN .geq x32 (.int .i64 0)) fun x34 =>
 condK x34
 (.ok x30 h33)
 (R 4 [a1, a45] h33))
 (.ok (.int .i64 (-1)) h28)
theorem e43_4 {T : Tab} {a1 a45 : IV} {h : H} {r : CRes} (e : t43_4 (CL T) (J43 T) a1 a45 h = r) (hr : r ≠ .fail) : J43 T 4 [a1, a45] h = r := fj_step (fn := Tryd.f43) (js := js43) (by kernel_rfl) e hr
theorem c43 {T : Tab} (hT : OvStep T) (ho : T.ov 43 = none) (hp : T.pol 43 = true) {a0 a1 : IV} {h : H} {r : CRes} (hg : Gd h) (e : t43_0 (CL T) (J43 T) a0 a1 h = r) (hr : r ≠ .fail) : CL T 43 [a0, a1] h = r := call_good ho Tryd.func43 rfl rfl rfl hp hg hT (e43_0 e hr) hr

-- (*strings.asciiSet).contains
def js44 : List Jn := [⟨[], [0, 1]⟩]
noncomputable def J44 (T : Tab) : Rec := fj Tryd.prog (CL T) Tryd.f44 js44
noncomputable def t44_0 (cf : CallF) (R : Rec) (a0 a1 : IV) (h : H) : CRes :=
 obind (nilI a0) fun x1 =>
 obind (ixA 256 1 x1 a1) fun x2 =>
 obind (ld0 h x2) fun x3 =>
 .ok x3 h
theorem e44_0 {T : Tab} {a0 a1 : IV} {h : H} {r : CRes} (e : t44_0 (CL T) (J44 T) a0 a1 h = r) (hr : r ≠ .fail) : J44 T 0 [a0, a1] h = r := fj_step (fn := Tryd.f44) (js := js44) (by kernel_rfl) e hr
theorem c44 {T : Tab} (hT : OvStep T) (ho : T.ov 44 = none) (hp : T.pol 44 = true) {a0 a1 : IV} {h : H} {r : CRes} (hg : Gd h) (e : t44_0 (CL T) (J44 T) a0 a1 h = r) (hr : r ≠ .fail) : CL T 44 [a0, a1] h = r := call_good ho Tryd.func44 rfl rfl rfl hp hg hT (e44_0 e hr) hr

-- unicode/utf8.DecodeRuneInString
def js45 : List Jn := [⟨[], [0]⟩]
noncomputable def J45 (T : Tab) : Rec := fj Tryd.prog (CL T) Tryd.f45 js45
noncomputable def t45_0 (cf : CallF) (R : Rec) (a0 : IV) (h : H) : CRes :=
 obind (binS .neq a0 (.str ⟨0, 0⟩)) fun x1 =>
 spanK x1 true h (fun k2 =>
 obind (ixStr a0 (.int .i64 0)) fun x5 =>
 obind (binN .lss x5 (.int .u8 128)) fun x6 =>
 k2 x6 h) fun x3 h4 =>
 obind (pickI x1 (some x3) (some (.bool false))) fun x7 =>
 condK x7
 (obind (ixStr a0 (.int .i64 0)) fun x8 =>
 obind (cvN .i32 x8) fun x9 =>
 .ok (.tup [x9, (.int .i64 1)]) h4)
 (callP (cf 50 [a0] h4) .pan fun x10 h11 =>
 obind (extractI x10 0) fun x12 =>
 obind (extractI x10 1) fun x13 =>
 .ok (.tup [x12, x13]) h11)
theorem e45_0 {T : Tab} {a0 : IV} {h : H} {r : CRes} (e : t45_0 (CL T) (J45 T) a0 h = r) (hr : r ≠ .fail) : J45 T 0 [a0] h = r := fj_step (fn := Tryd.f45) (js := js45) (by kernel_rfl) e hr
theorem c45 {T : Tab} (hT : OvStep T) (ho : T.ov 45 = none) (hp : T.pol 45 = true) {a0 : IV} {h : H} {r : CRes} (hg : Gd h) (e : t45_0 (CL T) (J45 T) a0 h = r) (hr : r ≠ .fail) : CL T 45 [a0] h = r := call_good ho Tryd.func45 rfl rfl rfl hp hg hT (e45_0 e hr) hr

-- strings.ContainsRune
def js46 : List Jn := [⟨[], [0, 1]⟩]
noncomputable def J46 (T : Tab) : Rec := fj Tryd.prog (CL T) Tryd.f46 js46
noncomputable def t46_0 (cf : CallF) (R : Rec) (a0 a1 : IV) (h : H) : CRes :=
 callP (cf 48 [a0, a1] h) .pan fun x1 h2 =>
 obind (binN .geq x1 (.int .i64 0)) fun x3 =>
 .ok x3 h2
theorem e46_0 {T : Tab} {a0 a1 : IV} {h : H} {r : CRes} (e : t46_0 (CL T) (J46 T) a0 a1 h = r) (hr : r ≠ .fail) : J46 T 0 [a0, a1] h = r := fj_step (fn := Tryd.f46) (js := js46) (by kernel_rfl) e hr
theorem c46 {T : Tab} (hT : OvStep T) (ho : T.ov 46 = none) (hp : T.pol 46 = true) {a0 a1 : IV} {h : H} {r : CRes} (hg : Gd h) (e : t46_0 (CL T) (J46 T) a0 a1 h = r) (hr : r ≠ .fail) : CL T 46 [a0, a1] h = r := call_good ho Tryd.func46 rfl rfl rfl hp hg hT (e46_0 e hr) hr

-- unicode/utf8.DecodeLastRuneInString
def js47 : List Jn := [⟨[], [0]⟩, ⟨[1, 1, 1, 1, 1, 1, 1, 1], [0, 4, 5]⟩, ⟨[0, 1, 0, 1, 1, 1, 1, 1, 1, 1], [0, 4, 5, 6]⟩, ⟨[1, 1, 1, 1, 1, 1, 1, 1, 1], [0, 4, 5]⟩]
noncomputable def J47 (T : Tab) : Rec := fj Tryd.prog (CL T) Tryd.f47 js47
noncomputable def t47_0 (cf : CallF) (R : Rec) (a0 : IV) (h : H) : CRes :=
 obind (lenStr a0) fun x1 =>
 obind (binN .eql x1 (.int .i64 0)) fun x2 =>
 condK x2
 (.ok (.tup [(.int .i32 65533), (.int .i64 0)]) h)
 (obind (binN .sub x1 (.int .i64 1)) fun x3 =>
 obind (ixStr a0 x3) fun x4 =>
 obind (cvN .i32 x4) fun x5 =>
 obind (binN .lss x5 (.int .i32 128)) fun x6 =>
 condK x6
 (.ok (.tup [x5, (.int .i64 1)]) h)
 (obind (binN .sub x1 (.int .i64 4)) fun x7 =>
 obind (maxI x7 (.int .i64 0)) fun x8 =>
 obind (binN .sub x3 (.int .i64 1)) fun x9 =>
 R 2 [a0, x1, x9, x8] h))
theorem e47_0 {T : Tab} {a0 : IV} {h : H} {r : CRes} (e : t47_0 (CL T) (J47 T) a0 h = r) (hr : r ≠ .fail) : J47 T 0 [a0] h = r := fj_step (fn := Tryd.f47) (js := js47) (by kernel_rfl) e hr
noncomputable def t47_2 (cf : CallF) (R : Rec) (a0 a4 a5 a6 : IV) (h : H) : CRes :=
 obind (binN .geq a5 a6) fun x10 =>
 condK x10
 (obind (ixStr a0 a5) fun x11 =>
 callP (cf 51 [x11] h) .pan fun x12 h13 =>
 condK x12
 (R 1 [a0, a4, a5] h13)
 (obind (binN .sub a5 (.int .i64 1)) fun x14 =>
 R 2 [a0, a4, x14, a6] h13))
 (R 1 [a0, a4, a5] h)
theorem e47_2 {T : Tab} {a0 a4 a5 a6 : IV} {h : H} {r : CRes} (e : t47_2 (CL T) (J47 T) a0 a4 a5 a6 h = r) (hr : r ≠ .fail) : J47 T 2 [a0, a4, a5, a6] h = r := fj_step (fn := Tryd.f47) (js := js47) (by kernel_rfl) e hr
noncomputable def t47_1 (cf : CallF) (R : Rec) (a0 a4 a5 : IV) (h : H) : CRes :=
 obind (binN .lss a5 (.int .i64 0)) fun x15 =>
 condK x15
 (R 3 [a0, a4, (.int .i64 0)] h)
 (R 3 [a0, a4, a5] h)
theorem e47_1 {T : Tab} {a0 a4 a5 : IV} {h : H} {r : CRes} (e : t47_1 (CL T) (J47 T) a0 a4 a5 h = r) (hr : r ≠ .fail) : J47 T 1 [a0, a4, a5] h = r := fj_step (fn := Tryd.f47) (js := js47) (by kernel_rfl) e hr
noncomputable def t47_3 (cf : CallF) (R : Rec) (a0 a4 a5 : IV) (h : H) : CRes :=
 obind (slcStr a0 (some a5) (some a4)) fun x16 =>
 callP (cf 45 [x16] h) .pan fun x17 h18 =>
 obind (extractI x17 0) fun x19 =>
 obind (extractI x17 1) fun x20 =>
 obind (binN .add a5 x20) fun x21 =>
 obind (binN .neq x21 a4) fun x22 =>
 condK x22
 (.ok (.tup [(.int .i32 65533), (.int .i64 1)]) h18)
 (.ok (.tup [x19, x20]) h18)
theorem e47_3 {T : Tab} {a0 a4 a5 : IV} {h : H} {r : CRes} (e : t47_3 (CL T) (J47 T) a0 a4 a5 h = r) (hr : r ≠ .fail) : J47 T 3 [a0, a4, a5] h = r := fj_step (fn := Tryd.f47) (js := js47) (by kernel_rfl) e hr
theorem c47 {T : Tab} (hT : OvStep T) (ho : T.ov 47 = none) (hp : T.pol 47 = true) {a0 : IV} {h : H} {r : CRes} (hg : Gd h) (e : t47_0 (CL T) (J47 T) a0 h = r) (hr : r ≠ .fail) : CL T 47 [a0] h = r := call_good ho Tryd.func47 rfl rfl rfl hp hg hT (e47_0 e hr) hr

-- strings.shouldUseASCIISet
def js49 : List Jn := [⟨[], [0]⟩]
noncomputable def J49 (T : Tab) : Rec := fj Tryd.prog (CL T) Tryd.f49 js49
noncomputable def t49_0 (cf : CallF) (R : Rec) (a0 : IV) (h : H) : CRes :=
 obind (binN .gtr a0 (.int .i64 8)) fun x1 =>
 .ok x1 h
theorem e49_0 {T : Tab} {a0 : IV} {h : H} {r : CRes} (e : t49_0 (CL T) (J49 T) a0 h = r) (hr : r ≠ .fail) : J49 T 0 [a0] h = r := fj_step (fn := Tryd.f49) (js := js49) (by kernel_rfl) e hr
theorem c49 {T : Tab} (hT : OvStep T) (ho : T.ov 49 = none) (hp : T.pol 49 = true) {a0 : IV} {h : H} {r : CRes} (hg : Gd h) (e : t49_0 (CL T) (J49 T) a0 h = r) (hr : r ≠ .fail) : CL T 49 [a0] h = r := call_good ho Tryd.func49 rfl rfl rfl hp hg hT (e49_0 e hr) hr

-- unicode/utf8.RuneStart
def js51 : List Jn := [⟨[], [0]⟩]
noncomputable def J51 (T : Tab) : Rec := fj Tryd.prog (CL T) Tryd.f51 js51
noncomputable def t51_0 (cf : CallF) (R : Rec) (a0 : IV) (h : H) : CRes :=
 obind (binN .and a0 (.int .u8 192)) fun x1 =>
 obind (binN .neq x1 (.int .u8 128)) fun x2 =>
 .ok x2 h
theorem e51_0 {T : Tab} {a0 : IV} {h : H} {r : CRes} (e : t51_0 (CL T) (J51 T) a0 h = r) (hr : r ≠ .fail) : J51 T 0 [a0] h = r := fj_step (fn := Tryd.f51) (js := js51) (by kernel_rfl) e hr
theorem c51 {T : Tab} (hT : OvStep T) (ho : T.ov 51 = none) (hp : T.pol 51 = true) {a0 : IV} {h : H} {r : CRes} (hg : Gd h) (e : t51_0 (CL T) (J51 T) a0 h = r) (hr : r ≠ .fail) : CL T 51 [a0] h = r := call_good ho Tryd.func51 rfl rfl rfl hp hg hT (e51_0 e hr) hr

-- strings.IndexByte
def js52 : List Jn := [⟨[], [0, 1]⟩]
noncomputable def J52 (T : Tab) : Rec := fj Tryd.prog (CL T) Tryd.f52 js52
noncomputable def t52_0 (cf : CallF) (R : Rec) (a0 a1 : IV) (h : H) : CRes :=
 callP (cf 56 [a0, a1] h) .pan fun x1 h2 =>
 .ok x1 h2
theorem e52_0 {T : Tab} {a0 a1 : IV} {h : H} {r : CRes} (e : t52_0 (CL T) (J52 T) a0 a1 h = r) (hr : r ≠ .fail) : J52 T 0 [a0, a1] h = r := fj_step (fn := Tryd.f52) (js := js52) (by kernel_rfl) e hr
theorem c52 {T : Tab} (hT : OvStep T) (ho : T.ov 52 = none) (hp : T.pol 52 = true) {a0 a1 : IV} {h : H} {r : CRes} (hg : Gd h) (e : t52_0 (CL T) (J52 T) a0 a1 h = r) (hr : r ≠ .fail) : CL T 52 [a0, a1] h = r := call_good ho Tryd.func52 rfl rfl rfl hp hg hT (e52_0 e hr) hr

-- unicode/utf8.ValidRune
def js53 : List Jn := [⟨[], [0]⟩]
noncomputable def J53 (T : Tab) : Rec := fj Tryd.prog (CL T) Tryd.f53 js53
noncomputable def t53_0 (cf : CallF) (R : Rec) (a0 : IV) (h : H) : CRes :=
 obind (binN .leq (.int .i32 0) a0) fun x1 =>
 spanK x1 true h (fun k2 =>
 obind (binN .lss a0 (.int .i32 55296)) fun x5 =>
 k2 x5 h) fun x3 h4 =>
 obind (pickI x1 (some x3) (some (.bool false))) fun x6 =>
 condK x6
 (.ok (.bool true) h4)
 (obind (binN .lss (.int .i32 57343) a0) fun x7 =>
 spanK x7 true h4 (fun k8 =>
 obind (binN .leq a0 (.int .i32 1114111)) fun x11 =>
 k8 x11 h4) fun x9 h10 =>
 obind (pickI x7 (some x9) (some (.bool false))) fun x12 =>
 condK x12
 (.ok (.bool true) h10)
 (.ok (.bool false) h10))
theorem e53_0 {T : Tab} {a0 : IV} {h : H} {r : CRes} (e : t53_0 (CL T) (J53 T) a0 h = r) (hr : r ≠ .fail) : J53 T 0 [a0] h = r := fj_step (fn := Tryd.f53) (js := js53) (by kernel_rfl) e hr
theorem c53 {T : Tab} (hT : OvStep T) (ho : T.ov 53 = none) (hp : T.pol 53 = true) {a0 : IV} {h : H} {r : CRes} (hg : Gd h) (e : t53_0 (CL T) (J53 T) a0 h = r) (hr : r ≠ .fail) : CL T 53 [a0] h = r := call_good ho Tryd.func53 rfl rfl rfl hp hg hT (e53_0 e hr) hr

-- internal/stringslite.IndexByte
def js56 : List Jn := [⟨[], [0, 1]⟩]
noncomputable def J56 (T : Tab) : Rec := fj Tryd.prog (CL T) Tryd.f56 js56
noncomputable def t56_0 (cf : CallF) (R : Rec) (a0 a1 : IV) (h : H) : CRes :=
 callP (cf 57 [a0, a1] h) .pan fun x1 h2 =>
 .ok x1 h2
theorem e56_0 {T : Tab} {a0 a1 : IV} {h : H} {r : CRes} (e : t56_0 (CL T) (J56 T) a0 a1 h = r) (hr : r ≠ .fail) : J56 T 0 [a0, a1] h = r := fj_step (fn := Tryd.f56) (js := js56) (by kernel_rfl) e hr
theorem c56 {T : Tab} (hT : OvStep T) (ho : T.ov 56 = none) (hp : T.pol 56 = true) {a0 a1 : IV} {h : H} {r : CRes} (hg : Gd h) (e : t56_0 (CL T) (J56 T) a0 a1 h = r) (hr : r ≠ .fail) : CL T 56 [a0, a1] h = r := call_good ho Tryd.func56 rfl rfl rfl hp hg hT (e56_0 e hr) hr

end Go.Proofs.YtblgpcijbdbeiaaDoor

namespace Go.Proofs.YtblgpcijbdbeiaaDoor
open Go I
set_option maxRecDepth 100000
set_option linter.unusedVariables false
set_option linter.unusedSimpArgs false

/-- small makes a slice shorter, and appends to it again -/
def pol (f : FuncId) : Bool := !Nat.beq f 8
def tab0 : Tab := ⟨ovOf [(57, indexByteI)], pol⟩
theorem step0 : OvStep tab0 := ovStep_of fun x hx args g => by
  rcases List.mem_singleton.1 hx with rfl
  exact indexByteI_step args g
theorem ibS (w₀ : World) (S : Sc) (args : List IV) (g : H) (μ : Mu) (w : World) (cargs : Array Value) (r : Rel w₀ S μ g w) (hv : VRs μ args cargs.toList) : CallR Tryd.prog w₀ S μ 57 cargs w (indexByteI args g) :=
  indexByte_S Tryd.func57 (by kernel_rfl) (by kernel_rfl) (by kernel_rfl) (by kernel_rfl) args g μ w cargs r hv
theorem sound0 : ∀ w₀ S, CallS Tryd.prog w₀ S (CL tab0) := call_sound (fun w₀ S => ovS_of fun x hx => by
  rcases List.mem_singleton.1 hx with rfl
  exact ibS w₀ S) Tryd.checked.mixed noNum

/-! ### what is told by closed runs: awake, and IndexRune of "xz" -/
def g9 (args : List IV) : Option IV :=
  match args with
  | [] => some (.bool true)
  | _ => none
theorem t9 : PureT Tryd.prog (CL tab0) 9 g9 := ⟨⟨_, _, Tryd.func9, rfl⟩, fun args v h => by
  unfold g9 at h
  split at h
  · injection h with h; subst h
    obtain ⟨h', e⟩ := closed_val (P := Tryd.prog) (T := tab0) (m := 100) (n := 40) (f := 9) (args := []) (h := H0) (v := .bool true) (by kernel_rfl)
    exact ⟨rfl, rfl, true, h', e⟩
  · cases h⟩
def xz : IV := .str ⟨2, 31352⟩
def g48 (args : List IV) : Option IV :=
  match args with
  | [.str ⟨2, 31352⟩, .int .i32 48] => some (.int .i64 (-1))
  | [.str ⟨2, 31352⟩, .int .i32 49] => some (.int .i64 (-1))
  | [.str ⟨2, 31352⟩, .int .i32 120] => some (.int .i64 0)
  | [.str ⟨2, 31352⟩, .int .i32 122] => some (.int .i64 1)
  | _ => none
theorem t48 : PureT Tryd.prog (CL tab0) 48 g48 := ⟨⟨_, _, Tryd.func48, rfl⟩, fun args v h => by
  unfold g48 at h
  split at h
  · injection h with h; subst h
    obtain ⟨h', e⟩ := closed_val (P := Tryd.prog) (T := tab0) (m := 100) (n := 40) (f := 48) (args := [xz, .int .i32 48]) (h := H0) (v := .int .i64 (-1)) (by kernel_rfl)
    exact ⟨rfl, rfl, true, h', e⟩
  · injection h with h; subst h
    obtain ⟨h', e⟩ := closed_val (P := Tryd.prog) (T := tab0) (m := 100) (n := 40) (f := 48) (args := [xz, .int .i32 49]) (h := H0) (v := .int .i64 (-1)) (by kernel_rfl)
    exact ⟨rfl, rfl, true, h', e⟩
  · injection h with h; subst h
    obtain ⟨h', e⟩ := closed_val (P := Tryd.prog) (T := tab0) (m := 100) (n := 40) (f := 48) (args := [xz, .int .i32 120]) (h := H0) (v := .int .i64 0) (by kernel_rfl)
    exact ⟨rfl, rfl, true, h', e⟩
  · injection h with h; subst h
    obtain ⟨h', e⟩ := closed_val (P := Tryd.prog) (T := tab0) (m := 100) (n := 40) (f := 48) (args := [xz, .int .i32 122]) (h := H0) (v := .int .i64 1) (by kernel_rfl)
    exact ⟨rfl, rfl, true, h', e⟩
  · cases h⟩

def tab1 : Tab := ⟨ovOf [(57, indexByteI), (48, pureF g48)], pol⟩
theorem step1 : OvStep tab1 := ovStep_of fun x hx args g => by
  simp only [List.mem_cons, List.not_mem_nil, or_false] at hx
  rcases hx with rfl | rfl
  · exact indexByteI_step args g
  · exact pureF_step _ args g
theorem sound1 : ∀ w₀ S, CallS Tryd.prog w₀ S (CL tab1) := call_sound (fun w₀ S => ovS_of fun x hx => by
  simp only [List.mem_cons, List.not_mem_nil, or_false] at hx
  rcases hx with rfl | rfl
  · exact ibS w₀ S
  · exact pureF_S sound0 noNum t48 w₀ S) Tryd.checked.mixed noNum

/-! ### sets of bytes -/
def setL (p : UInt8 → Bool) : List IV := (List.range 256).map fun i => .bool (p (UInt8.ofNat i))
theorem setL_len (p : UInt8 → Bool) : (setL p).length = 256 := by simp [setL]
theorem setL_get (p : UInt8 → Bool) (c : UInt8) : (setL p)[c.toNat]? = some (.bool (p c)) := by
  have hc := c.toNat_lt
  simp only [setL, List.getElem?_map, List.getElem?_range hc, Option.map_some, UInt8.ofNat_toNat]
theorem setL_scalar (p : UInt8 → Bool) : allScalar (setL p) = true := by
  unfold setL
  generalize List.range 256 = l
  induction l with
  | nil => rfl
  | cons x l ih => simp only [List.map_cons, allScalar, ih, IV.scalar, Bool.and_self]
theorem z2_set : z2 = setL fun _ => false := by kernel_rfl
theorem contains {p : UInt8 → Bool} {h : H} {b : Nat} (c : Cs h b true false (setL p)) (g : Gd h) (x : UInt8) : CL tab1 44 [.ptr b 0, .int .u8 (x.toNat : Nat)] h = .ok (.bool (p x)) h := by
  have hx := x.toNat_lt
  refine c44 step1 rfl rfl g ?_ (by simp)
  simp only [t44_0, nilI_ptr, obind_some, ixA]
  rw [if_pos (by omega)]
  simp only [obind_some, c.ld0]
  simp only [Int.toNat_natCast, Nat.mul_one, Nat.zero_add, setL_get, obind_some]
def isV (c : UInt8) : Bool := c == 48 || c == 49 || c == 120 || c == 122
def isX (c : UInt8) : Bool := c == 120 || c == 122
def cut : IV := .str ⟨4, 2054697264⟩
theorem makeV : ∃ h', CL tab1 38 [cut] H0 = .ok (.tup [.agg (setL isV), .bool true]) h' := closed_val (m := 300) (n := 20) (by kernel_rfl)
theorem makeX : ∃ h', CL tab1 38 [xz] H0 = .ok (.tup [.agg (setL isX), .bool true]) h' := closed_val (m := 300) (n := 20) (by kernel_rfl)

end Go.Proofs.YtblgpcijbdbeiaaDoor

namespace Go.Proofs.YtblgpcijbdbeiaaDoor
open Go I
set_option maxRecDepth 100000
set_option linter.unusedVariables false
set_option linter.unusedSimpArgs false

variable {p : UInt8 → Bool}
def trimR (p : UInt8 → Bool) (l : Bs) : Bs := (l.reverse.dropWhile p).reverse
theorem trimR_snoc (l : Bs) (c : UInt8) : trimR p (l ++ [c]) = if p c = true then trimR p l else l ++ [c] := by
  unfold trimR
  rw [List.reverse_append]
  simp only [List.reverse_cons, List.reverse_nil, List.nil_append, List.singleton_append, List.dropWhile_cons]
  split <;> simp
theorem trimR_len (l : Bs) : (trimR p l).length ≤ l.length := by
  unfold trimR
  rw [List.length_reverse]
  have := (List.dropWhile_sublist (p := p) (l := l.reverse)).length_le
  simpa using this
theorem dropWhile_nil : ∀ l : Bs, l.dropWhile p = [] ↔ ∀ x ∈ l, p x = true
  | [] => by simp
  | x :: l => by
    rw [List.dropWhile_cons]
    by_cases h : p x = true
    · rw [if_pos h, dropWhile_nil l]; simp [h]
    · rw [if_neg h]; simp [h]
theorem trim_nil (l : Bs) : (trimR p l).dropWhile p = [] ↔ l.all p = true := by
  unfold trimR
  rw [dropWhile_nil]
  simp only [List.mem_reverse, List.all_eq_true]
  constructor
  · intro h x hx
    have : l.reverse.takeWhile p ++ l.reverse.dropWhile p = l.reverse := List.takeWhile_append_dropWhile
    have hx' : x ∈ l.reverse := by simpa using hx
    rw [← this] at hx'
    rcases List.mem_append.1 hx' with h1 | h1
    · exact List.all_eq_true.1 (List.all_takeWhile (p := p)) x h1
    · exact h x h1
  · intro h x hx
    exact h x (by simpa using (List.dropWhile_sublist (p := p) (l := l.reverse)).subset hx)

theorem trimRight {h : H} {b : Nat} (c : Cs h b true false (setL p)) (g : Gd h) : ∀ (n : Nat) (l : Bs), l.length = n → l.length < 2 ^ 62 → J40 tab1 2 [sv l, .ptr b 0] h = .ok (sv (trimR p l)) h := by
  intro n
  induction n with
  | zero =>
    intro l hl _
    have : l = [] := by simpa using hl
    subst this
    refine e40_2 ?_ (by simp)
    simp only [t40_2, W, decide_eq_true_eq, Bool.not_eq_true', decide_eq_false_iff_not, Bool.false_eq_true, Bool.not_true, Bool.not_false, decide_true, decide_false, not_true_eq_false, not_false_eq_true, and_true, true_and, and_false, false_and, ne_eq, Nat.zero_add, Nat.add_zero, cond_true, cond_false, ↓reduceIte, reduceCtorEq, Nat.reduceAdd, Int.reduceEq, Int.reduceNe, Int.reduceLT, Int.reduceLE, Int.reduceAdd, Int.reduceSub, Int.reduceMul, Int.reduceNeg, Nat.reduceMul, List.getElem?_cons_zero, List.getElem?_cons_succ, List.length_nil, Int.ofNat_zero, Int.lt_irrefl]
    refine e40_1 ?_ (by simp)
    rfl
  | succ n ih =>
    intro l hl hb
    rcases List.eq_nil_or_concat l with rfl | ⟨l', x, rfl⟩
    · simp at hl
    · simp only [List.concat_eq_append, List.length_append, List.length_singleton] at hl hb ⊢
      refine e40_2 ?_ (by simp)
      have e1 : ((l'.length + 1 : Nat) : Int) - 1 = (l'.length : Nat) := by omega
      simp (disch := omega) only [t40_2, W, decide_eq_true_eq, Bool.not_eq_true', decide_eq_false_iff_not, Bool.false_eq_true, Bool.not_true, Bool.not_false, decide_true, decide_false, not_true_eq_false, not_false_eq_true, and_true, true_and, and_false, false_and, ne_eq, Nat.zero_add, Nat.add_zero, cond_true, cond_false, ↓reduceIte, reduceCtorEq, Nat.reduceAdd, Int.reduceEq, Int.reduceNe, Int.reduceLT, Int.reduceLE, Int.reduceAdd, Int.reduceSub, Int.reduceMul, Int.reduceNeg, Nat.reduceMul, List.getElem?_cons_zero, List.getElem?_cons_succ, List.length_append, List.length_singleton, wr_i64, e1]
      rw [if_pos (by omega), ixStr_nat _ _ (by simp)]
      simp only [W, decide_eq_true_eq, Bool.not_eq_true', decide_eq_false_iff_not, Bool.false_eq_true, Bool.not_true, Bool.not_false, decide_true, decide_false, not_true_eq_false, not_false_eq_true, and_true, true_and, and_false, false_and, ne_eq, Nat.zero_add, Nat.add_zero, cond_true, cond_false, ↓reduceIte, reduceCtorEq, Nat.reduceAdd, Int.reduceEq, Int.reduceNe, Int.reduceLT, Int.reduceLE, Int.reduceAdd, Int.reduceSub, Int.reduceMul, Int.reduceNeg, Nat.reduceMul, List.getElem?_cons_zero, List.getElem?_cons_succ, List.getElem_append_right (Nat.le_refl _), Nat.sub_self, List.getElem_cons_zero]
      rw [contains c g x]
      simp only [W, decide_eq_true_eq, Bool.not_eq_true', decide_eq_false_iff_not, Bool.false_eq_true, Bool.not_true, Bool.not_false, decide_true, decide_false, not_true_eq_false, not_false_eq_true, and_true, true_and, and_false, false_and, ne_eq, Nat.zero_add, Nat.add_zero, cond_true, cond_false, ↓reduceIte, reduceCtorEq, Nat.reduceAdd, Int.reduceEq, Int.reduceNe, Int.reduceLT, Int.reduceLE, Int.reduceAdd, Int.reduceSub, Int.reduceMul, Int.reduceNeg, Nat.reduceMul, List.getElem?_cons_zero, List.getElem?_cons_succ]
      rw [trimR_snoc]
      cases hx : p x with
      | false =>
        simp only [W, decide_eq_true_eq, Bool.not_eq_true', decide_eq_false_iff_not, Bool.false_eq_true, Bool.not_true, Bool.not_false, decide_true, decide_false, not_true_eq_false, not_false_eq_true, and_true, true_and, and_false, false_and, ne_eq, Nat.zero_add, Nat.add_zero, cond_true, cond_false, ↓reduceIte, reduceCtorEq, Nat.reduceAdd, Int.reduceEq, Int.reduceNe, Int.reduceLT, Int.reduceLE, Int.reduceAdd, Int.reduceSub, Int.reduceMul, Int.reduceNeg, Nat.reduceMul, List.getElem?_cons_zero, List.getElem?_cons_succ]
        exact e40_1 rfl (by simp)
      | true =>
        simp only [W, decide_eq_true_eq, Bool.not_eq_true', decide_eq_false_iff_not, Bool.false_eq_true, Bool.not_true, Bool.not_false, decide_true, decide_false, not_true_eq_false, not_false_eq_true, and_true, true_and, and_false, false_and, ne_eq, Nat.zero_add, Nat.add_zero, cond_true, cond_false, ↓reduceIte, reduceCtorEq, Nat.reduceAdd, Int.reduceEq, Int.reduceNe, Int.reduceLT, Int.reduceLE, Int.reduceAdd, Int.reduceSub, Int.reduceMul, Int.reduceNeg, Nat.reduceMul, List.getElem?_cons_zero, List.getElem?_cons_succ]
        rw [slcStr_to _ _ (by omega) (by simp; omega)]
        simp only [W, decide_eq_true_eq, Bool.not_eq_true', decide_eq_false_iff_not, Bool.false_eq_true, Bool.not_true, Bool.not_false, decide_true, decide_false, not_true_eq_false, not_false_eq_true, and_true, true_and, and_false, false_and, ne_eq, Nat.zero_add, Nat.add_zero, cond_true, cond_false, ↓reduceIte, reduceCtorEq, Nat.reduceAdd, Int.reduceEq, Int.reduceNe, Int.reduceLT, Int.reduceLE, Int.reduceAdd, Int.reduceSub, Int.reduceMul, Int.reduceNeg, Nat.reduceMul, List.getElem?_cons_zero, List.getElem?_cons_succ, Int.toNat_natCast, List.take_left']
        exact ih l' (by omega) (by omega)
theorem trimLeft {h : H} {b : Nat} (c : Cs h b true false (setL p)) (g : Gd h) : ∀ (l : Bs), l.length < 2 ^ 62 → J39 tab1 2 [sv l, .ptr b 0] h = .ok (sv (l.dropWhile p)) h := by
  intro l
  induction l with
  | nil =>
    intro _
    refine e39_2 ?_ (by simp)
    simp only [t39_2, W, decide_eq_true_eq, Bool.not_eq_true', decide_eq_false_iff_not, Bool.false_eq_true, Bool.not_true, Bool.not_false, decide_true, decide_false, not_true_eq_false, not_false_eq_true, and_true, true_and, and_false, false_and, ne_eq, Nat.zero_add, Nat.add_zero, cond_true, cond_false, ↓reduceIte, reduceCtorEq, Nat.reduceAdd, Int.reduceEq, Int.reduceNe, Int.reduceLT, Int.reduceLE, Int.reduceAdd, Int.reduceSub, Int.reduceMul, Int.reduceNeg, Nat.reduceMul, List.getElem?_cons_zero, List.getElem?_cons_succ, List.length_nil, Int.ofNat_zero, Int.lt_irrefl]
    exact e39_1 rfl (by simp)
  | cons x l ih =>
    intro hb
    simp only [List.length_cons] at hb
    refine e39_2 ?_ (by simp)
    simp only [t39_2, W, decide_eq_true_eq, Bool.not_eq_true', decide_eq_false_iff_not, Bool.false_eq_true, Bool.not_true, Bool.not_false, decide_true, decide_false, not_true_eq_false, not_false_eq_true, and_true, true_and, and_false, false_and, ne_eq, Nat.zero_add, Nat.add_zero, cond_true, cond_false, ↓reduceIte, reduceCtorEq, Nat.reduceAdd, Int.reduceEq, Int.reduceNe, Int.reduceLT, Int.reduceLE, Int.reduceAdd, Int.reduceSub, Int.reduceMul, Int.reduceNeg, Nat.reduceMul, List.getElem?_cons_zero, List.getElem?_cons_succ, List.length_cons]
    rw [if_pos (by omega), ixStr_sv _ _ (by omega) (by simp)]
    simp only [W, decide_eq_true_eq, Bool.not_eq_true', decide_eq_false_iff_not, Bool.false_eq_true, Bool.not_true, Bool.not_false, decide_true, decide_false, not_true_eq_false, not_false_eq_true, and_true, true_and, and_false, false_and, ne_eq, Nat.zero_add, Nat.add_zero, cond_true, cond_false, ↓reduceIte, reduceCtorEq, Nat.reduceAdd, Int.reduceEq, Int.reduceNe, Int.reduceLT, Int.reduceLE, Int.reduceAdd, Int.reduceSub, Int.reduceMul, Int.reduceNeg, Nat.reduceMul, List.getElem?_cons_zero, List.getElem?_cons_succ, Int.toNat_zero, List.getElem_cons_zero]
    rw [contains c g x]
    simp only [W, decide_eq_true_eq, Bool.not_eq_true', decide_eq_false_iff_not, Bool.false_eq_true, Bool.not_true, Bool.not_false, decide_true, decide_false, not_true_eq_false, not_false_eq_true, and_true, true_and, and_false, false_and, ne_eq, Nat.zero_add, Nat.add_zero, cond_true, cond_false, ↓reduceIte, reduceCtorEq, Nat.reduceAdd, Int.reduceEq, Int.reduceNe, Int.reduceLT, Int.reduceLE, Int.reduceAdd, Int.reduceSub, Int.reduceMul, Int.reduceNeg, Nat.reduceMul, List.getElem?_cons_zero, List.getElem?_cons_succ, List.dropWhile_cons]
    cases hx : p x with
    | false => simp only [W, decide_eq_true_eq, Bool.not_eq_true', decide_eq_false_iff_not, Bool.false_eq_true, Bool.not_true, Bool.not_false, decide_true, decide_false, not_true_eq_false, not_false_eq_true, and_true, true_and, and_false, false_and, ne_eq, Nat.zero_add, Nat.add_zero, cond_true, cond_false, ↓reduceIte, reduceCtorEq, Nat.reduceAdd, Int.reduceEq, Int.reduceNe, Int.reduceLT, Int.reduceLE, Int.reduceAdd, Int.reduceSub, Int.reduceMul, Int.reduceNeg, Nat.reduceMul, List.getElem?_cons_zero, List.getElem?_cons_succ]; exact e39_1 rfl (by simp)
    | true =>
      simp only [W, decide_eq_true_eq, Bool.not_eq_true', decide_eq_false_iff_not, Bool.false_eq_true, Bool.not_true, Bool.not_false, decide_true, decide_false, not_true_eq_false, not_false_eq_true, and_true, true_and, and_false, false_and, ne_eq, Nat.zero_add, Nat.add_zero, cond_true, cond_false, ↓reduceIte, reduceCtorEq, Nat.reduceAdd, Int.reduceEq, Int.reduceNe, Int.reduceLT, Int.reduceLE, Int.reduceAdd, Int.reduceSub, Int.reduceMul, Int.reduceNeg, Nat.reduceMul, List.getElem?_cons_zero, List.getElem?_cons_succ]
      rw [slcStr_from _ _ (by omega) (by simp; omega)]
      simp only [W, decide_eq_true_eq, Bool.not_eq_true', decide_eq_false_iff_not, Bool.false_eq_true, Bool.not_true, Bool.not_false, decide_true, decide_false, not_true_eq_false, not_false_eq_true, and_true, true_and, and_false, false_and, ne_eq, Nat.zero_add, Nat.add_zero, cond_true, cond_false, ↓reduceIte, reduceCtorEq, Nat.reduceAdd, Int.reduceEq, Int.reduceNe, Int.reduceLT, Int.reduceLE, Int.reduceAdd, Int.reduceSub, Int.reduceMul, Int.reduceNeg, Nat.reduceMul, List.getElem?_cons_zero, List.getElem?_cons_succ]
      exact ih (by omega)

theorem cut_sv : cut = sv [48, 49, 120, 122] := rfl
theorem xz_sv : xz = sv [120, 122] := rfl
theorem nil_sv : IV.str ⟨0, 0⟩ = sv [] := rfl
theorem cutL : IV.str ⟨4, 2054697264⟩ = sv [48, 49, 120, 122] := rfl
theorem xzL : IV.str ⟨2, 31352⟩ = sv [120, 122] := rfl

/-- strings.Trim(s, "01xz") -/
theorem trim (l : Bs) (hl : l.length < 2 ^ 62) : ∃ h', CL tab1 34 [sv l, cut] H0 = .ok (sv ((trimR isV l).dropWhile isV)) h' := by
  by_cases h0 : l = []
  · subst h0
    refine ⟨H0, c34 step1 rfl rfl gd0 ?_ (by simp)⟩
    simp only [t34_0, nil_sv, W, decide_eq_true_eq, Bool.not_eq_true', decide_eq_false_iff_not, Bool.false_eq_true, Bool.not_true, Bool.not_false, decide_true, decide_false, not_true_eq_false, not_false_eq_true, and_true, true_and, and_false, false_and, ne_eq, Nat.zero_add, Nat.add_zero, cond_true, cond_false, ↓reduceIte, reduceCtorEq, Nat.reduceAdd, Int.reduceEq, Int.reduceNe, Int.reduceLT, Int.reduceLE, Int.reduceAdd, Int.reduceSub, Int.reduceMul, Int.reduceNeg, Nat.reduceMul, List.getElem?_cons_zero, List.getElem?_cons_succ]
    rfl
  · obtain ⟨h1, e1⟩ := makeV
    obtain ⟨g1, x1⟩ := call_ok step1 e1 gd0
    obtain ⟨h2, e2, x2, c2⟩ := newI_ex g1 (cs := z2) (by rw [z2_set]; exact setL_scalar _)
    rw [z2_set] at c2
    obtain ⟨o, e3, c3, ho⟩ := c2.st (n := 256) (off := 0) (v := .agg (setL isV)) (setL_len _) (setL_scalar _) (by simp [setL_len])
    have g3 : Gd (h2.put h1.next o) := by
      obtain ⟨t, q, _⟩ := c2
      have := Step.put (o := o) q (fun fz size cs hh => by cases hh) x2.gd.wf
      exact ⟨this.1, this.2.pol.trans x2.gd.pol⟩
    have c4 : Cs (h2.put h1.next o) h1.next true false (setL isV) := by
      have : placeL (setL fun _ => false) 0 (IV.agg (setL isV)).cells = setL isV := by
        apply List.ext_getElem?
        intro i
        rw [placeL_get _ _ _ _ (by simp [IV.cells, setL_len])]
        simp only [IV.cells, Nat.zero_le, true_and, Nat.zero_add, Nat.sub_zero, setL_len]
        split
        · rfl
        · rw [List.getElem?_eq_none (by rw [setL_len]; omega), List.getElem?_eq_none (by rw [setL_len]; omega)]
      rw [this] at c3; exact c3
    have r1 : CL tab1 40 [sv l, .ptr h1.next 0] (h2.put h1.next o) = .ok (sv (trimR isV l)) (h2.put h1.next o) :=
      c40 step1 rfl rfl g3 (by simp only [t40_0]; exact trimRight c4 g3 _ l rfl hl) (by simp)
    have r2 : CL tab1 39 [sv (trimR isV l), .ptr h1.next 0] (h2.put h1.next o) = .ok (sv ((trimR isV l).dropWhile isV)) (h2.put h1.next o) :=
      c39 step1 rfl rfl g3 (by simp only [t39_0]; exact trimLeft c4 g3 _ (Nat.lt_of_le_of_lt (trimR_len l) hl)) (by simp)
    refine ⟨h2.put h1.next o, c34 step1 rfl rfl gd0 ?_ (by simp)⟩
    simp only [t34_0, nil_sv, cut_sv, W, decide_eq_true_eq, Bool.not_eq_true', decide_eq_false_iff_not, Bool.false_eq_true, Bool.not_true, Bool.not_false, decide_true, decide_false, not_true_eq_false, not_false_eq_true, and_true, true_and, and_false, false_and, ne_eq, Nat.zero_add, Nat.add_zero, cond_true, cond_false, ↓reduceIte, reduceCtorEq, Nat.reduceAdd, Int.reduceEq, Int.reduceNe, Int.reduceLT, Int.reduceLE, Int.reduceAdd, Int.reduceSub, Int.reduceMul, Int.reduceNeg, Nat.reduceMul, List.getElem?_cons_zero, List.getElem?_cons_succ, h0, List.length_cons, List.length_nil, reduceCtorEq]
    rw [← cut_sv, e1]
    simp only [W, decide_eq_true_eq, Bool.not_eq_true', decide_eq_false_iff_not, Bool.false_eq_true, Bool.not_true, Bool.not_false, decide_true, decide_false, not_true_eq_false, not_false_eq_true, and_true, true_and, and_false, false_and, ne_eq, Nat.zero_add, Nat.add_zero, cond_true, cond_false, ↓reduceIte, reduceCtorEq, Nat.reduceAdd, Int.reduceEq, Int.reduceNe, Int.reduceLT, Int.reduceLE, Int.reduceAdd, Int.reduceSub, Int.reduceMul, Int.reduceNeg, Nat.reduceMul, List.getElem?_cons_zero, List.getElem?_cons_succ, e2, e3, r1, r2, Int.ofNat_eq_natCast]
    rfl

/-! ### logic.Check -/
def checkM (l : Bs) : Bool := decide (1 ≤ l.length) && decide (l.length ≤ 256) && l.all isV
def g31 (l : Bs) : Option IV := some (.int .i64 (if checkM l = true then 0 else 10))
theorem t31 : PureT Tryd.prog (CL tab1) 31 (str1 g31) := pure_str1 Tryd.func31 rfl fun l v hv => by
  injection hv with hv; subst hv
  refine ⟨rfl, true, ?_⟩
  show ∃ h', CL tab1 31 [sv l] H0 = _
  by_cases h1 : (l.length : Int) < 1
  · refine ⟨H0, c31 step1 rfl rfl gd0 ?_ (by simp)⟩
    have : checkM l = false := by simp [checkM]; omega
    simp only [t31_0, W, decide_eq_true_eq, Bool.not_eq_true', decide_eq_false_iff_not, Bool.false_eq_true, Bool.not_true, Bool.not_false, decide_true, decide_false, not_true_eq_false, not_false_eq_true, and_true, true_and, and_false, false_and, ne_eq, Nat.zero_add, Nat.add_zero, cond_true, cond_false, ↓reduceIte, reduceCtorEq, Nat.reduceAdd, Int.reduceEq, Int.reduceNe, Int.reduceLT, Int.reduceLE, Int.reduceAdd, Int.reduceSub, Int.reduceMul, Int.reduceNeg, Nat.reduceMul, List.getElem?_cons_zero, List.getElem?_cons_succ, this, h1]
  · by_cases h2 : 256 < (l.length : Int)
    · refine ⟨H0, c31 step1 rfl rfl gd0 ?_ (by simp)⟩
      have : checkM l = false := by simp [checkM]; omega
      simp only [t31_0, W, decide_eq_true_eq, Bool.not_eq_true', decide_eq_false_iff_not, Bool.false_eq_true, Bool.not_true, Bool.not_false, decide_true, decide_false, not_true_eq_false, not_false_eq_true, and_true, true_and, and_false, false_and, ne_eq, Nat.zero_add, Nat.add_zero, cond_true, cond_false, ↓reduceIte, reduceCtorEq, Nat.reduceAdd, Int.reduceEq, Int.reduceNe, Int.reduceLT, Int.reduceLE, Int.reduceAdd, Int.reduceSub, Int.reduceMul, Int.reduceNeg, Nat.reduceMul, List.getElem?_cons_zero, List.getElem?_cons_succ, this, h1, h2]
    · obtain ⟨h', e⟩ := trim l (by omega)
      refine ⟨h', c31 step1 rfl rfl gd0 ?_ (by simp)⟩
      have h3 : checkM l = l.all isV := by simp [checkM]; omega
      simp only [t31_0, W, decide_eq_true_eq, Bool.not_eq_true', decide_eq_false_iff_not, Bool.false_eq_true, Bool.not_true, Bool.not_false, decide_true, decide_false, not_true_eq_false, not_false_eq_true, and_true, true_and, and_false, false_and, ne_eq, Nat.zero_add, Nat.add_zero, cond_true, cond_false, ↓reduceIte, reduceCtorEq, Nat.reduceAdd, Int.reduceEq, Int.reduceNe, Int.reduceLT, Int.reduceLE, Int.reduceAdd, Int.reduceSub, Int.reduceMul, Int.reduceNeg, Nat.reduceMul, List.getElem?_cons_zero, List.getElem?_cons_succ, h1, h2]
      rw [show IV.str ⟨4, 2054697264⟩ = cut from rfl, e]
      simp only [W, decide_eq_true_eq, Bool.not_eq_true', decide_eq_false_iff_not, Bool.false_eq_true, Bool.not_true, Bool.not_false, decide_true, decide_false, not_true_eq_false, not_false_eq_true, and_true, true_and, and_false, false_and, ne_eq, Nat.zero_add, Nat.add_zero, cond_true, cond_false, ↓reduceIte, reduceCtorEq, Nat.reduceAdd, Int.reduceEq, Int.reduceNe, Int.reduceLT, Int.reduceLE, Int.reduceAdd, Int.reduceSub, Int.reduceMul, Int.reduceNeg, Nat.reduceMul, List.getElem?_cons_zero, List.getElem?_cons_succ, nil_sv, trim_nil, h3]
      cases l.all isV <;> simp only [W, decide_eq_true_eq, Bool.not_eq_true', decide_eq_false_iff_not, Bool.false_eq_true, Bool.not_true, Bool.not_false, decide_true, decide_false, not_true_eq_false, not_false_eq_true, and_true, true_and, and_false, false_and, ne_eq, Nat.zero_add, Nat.add_zero, cond_true, cond_false, ↓reduceIte, reduceCtorEq, Nat.reduceAdd, Int.reduceEq, Int.reduceNe, Int.reduceLT, Int.reduceLE, Int.reduceAdd, Int.reduceSub, Int.reduceMul, Int.reduceNeg, Nat.reduceMul, List.getElem?_cons_zero, List.getElem?_cons_succ]

end Go.Proofs.YtblgpcijbdbeiaaDoor

namespace Go.Proofs.YtblgpcijbdbeiaaDoor
open Go I
set_option maxRecDepth 100000
set_option linter.unusedVariables false
set_option linter.unusedSimpArgs false

/-- where the first byte of a kind stands; -1: nowhere -/
def ixF (p : UInt8 → Bool) : Bs → Int → Int
  | [], _ => -1
  | x :: l, i => if p x = true then i else ixF p l (i + 1)
theorem ixF_neg (p : UInt8 → Bool) : ∀ (l : Bs) (i : Int), 0 ≤ i → (0 ≤ ixF p l i ↔ l.any p = true)
  | [], i, h => by simp [ixF]
  | x :: l, i, h => by
    simp only [ixF, List.any_cons, Bool.or_eq_true]
    by_cases hx : p x = true
    · rw [if_pos hx]; simp [hx, h]
    · rw [if_neg hx, ixF_neg p l (i + 1) (by omega)]; simp [hx]

theorem loop3 {p : UInt8 → Bool} {h : H} {b : Nat} (c : Cs h b true false (setL p)) (g : Gd h) (l : Bs) (hl : l.length < 2 ^ 62) : ∀ (k i : Nat), i + k = l.length → J43 tab1 3 [sv l, .ptr b 0, .int .i64 i] h = .ok (.int .i64 (ixF p (l.drop i) i)) h := by
  intro k
  induction k with
  | zero =>
    intro i hi
    refine e43_3 ?_ (by simp)
    have : ¬ (i : Int) < (l.length : Nat) := by omega
    simp only [t43_3, W, decide_eq_true_eq, Bool.not_eq_true', decide_eq_false_iff_not, Bool.false_eq_true, Bool.not_true, Bool.not_false, decide_true, decide_false, not_true_eq_false, not_false_eq_true, and_true, true_and, and_false, false_and, ne_eq, Nat.zero_add, Nat.add_zero, cond_true, cond_false, ↓reduceIte, reduceCtorEq, Nat.reduceAdd, Int.reduceEq, Int.reduceNe, Int.reduceLT, Int.reduceLE, Int.reduceAdd, Int.reduceSub, Int.reduceMul, Int.reduceNeg, Nat.reduceMul, List.getElem?_cons_zero, List.getElem?_cons_succ, this]
    rw [List.drop_eq_nil_of_le (by omega)]; rfl
  | succ k ih =>
    intro i hi
    have hlt : i < l.length := by omega
    have h1 : (i : Int) < (l.length : Nat) := by omega
    refine e43_3 ?_ (by simp)
    simp only [t43_3, W, decide_eq_true_eq, Bool.not_eq_true', decide_eq_false_iff_not, Bool.false_eq_true, Bool.not_true, Bool.not_false, decide_true, decide_false, not_true_eq_false, not_false_eq_true, and_true, true_and, and_false, false_and, ne_eq, Nat.zero_add, Nat.add_zero, cond_true, cond_false, ↓reduceIte, reduceCtorEq, Nat.reduceAdd, Int.reduceEq, Int.reduceNe, Int.reduceLT, Int.reduceLE, Int.reduceAdd, Int.reduceSub, Int.reduceMul, Int.reduceNeg, Nat.reduceMul, List.getElem?_cons_zero, List.getElem?_cons_succ, h1]
    rw [ixStr_nat l i hlt]
    simp only [W, decide_eq_true_eq, Bool.not_eq_true', decide_eq_false_iff_not, Bool.false_eq_true, Bool.not_true, Bool.not_false, decide_true, decide_false, not_true_eq_false, not_false_eq_true, and_true, true_and, and_false, false_and, ne_eq, Nat.zero_add, Nat.add_zero, cond_true, cond_false, ↓reduceIte, reduceCtorEq, Nat.reduceAdd, Int.reduceEq, Int.reduceNe, Int.reduceLT, Int.reduceLE, Int.reduceAdd, Int.reduceSub, Int.reduceMul, Int.reduceNeg, Nat.reduceMul, List.getElem?_cons_zero, List.getElem?_cons_succ]
    rw [contains c g, List.drop_eq_getElem_cons hlt]
    simp only [W, decide_eq_true_eq, Bool.not_eq_true', decide_eq_false_iff_not, Bool.false_eq_true, Bool.not_true, Bool.not_false, decide_true, decide_false, not_true_eq_false, not_false_eq_true, and_true, true_and, and_false, false_and, ne_eq, Nat.zero_add, Nat.add_zero, cond_true, cond_false, ↓reduceIte, reduceCtorEq, Nat.reduceAdd, Int.reduceEq, Int.reduceNe, Int.reduceLT, Int.reduceLE, Int.reduceAdd, Int.reduceSub, Int.reduceMul, Int.reduceNeg, Nat.reduceMul, List.getElem?_cons_zero, List.getElem?_cons_succ, ixF]
    by_cases hx : p l[i] = true
    · simp only [hx, W, decide_eq_true_eq, Bool.not_eq_true', decide_eq_false_iff_not, Bool.false_eq_true, Bool.not_true, Bool.not_false, decide_true, decide_false, not_true_eq_false, not_false_eq_true, and_true, true_and, and_false, false_and, ne_eq, Nat.zero_add, Nat.add_zero, cond_true, cond_false, ↓reduceIte, reduceCtorEq, Nat.reduceAdd, Int.reduceEq, Int.reduceNe, Int.reduceLT, Int.reduceLE, Int.reduceAdd, Int.reduceSub, Int.reduceMul, Int.reduceNeg, Nat.reduceMul, List.getElem?_cons_zero, List.getElem?_cons_succ]
    · simp only [hx, W, decide_eq_true_eq, Bool.not_eq_true', decide_eq_false_iff_not, Bool.false_eq_true, Bool.not_true, Bool.not_false, decide_true, decide_false, not_true_eq_false, not_false_eq_true, and_true, true_and, and_false, false_and, ne_eq, Nat.zero_add, Nat.add_zero, cond_true, cond_false, ↓reduceIte, reduceCtorEq, Nat.reduceAdd, Int.reduceEq, Int.reduceNe, Int.reduceLT, Int.reduceLE, Int.reduceAdd, Int.reduceSub, Int.reduceMul, Int.reduceNeg, Nat.reduceMul, List.getElem?_cons_zero, List.getElem?_cons_succ]
      rw [wr_i64 (by omega) (by omega)]
      have := ih (i + 1) (by omega)
      rw [Int.natCast_add, Int.natCast_one] at this
      exact this

theorem nextS {h : H} {r pos : Nat} {s : Bs} (hr : h.get r = some (.siter ⟨s.length, packL s⟩ pos)) (hp : pos < s.length) (ha : s[pos].toNat < 128) : nextI h (.ptr r 0) true = some (.tup [.bool true, .int .i64 pos, .int .i32 (s[pos].toNat : Nat)], h.put r (.siter ⟨s.length, packL s⟩ (pos + 1))) := by
  simp only [nextI, hr]
  rw [if_pos hp, str_at s pos hp, if_pos ha]
theorem nextE {h : H} {r pos : Nat} {s : Bs} (hr : h.get r = some (.siter ⟨s.length, packL s⟩ pos)) (hp : ¬ pos < s.length) : nextI h (.ptr r 0) true = some (.tup [.bool false], h) := by
  simp only [nextI, hr]
  rw [if_neg hp]
theorem isV_lt {c : UInt8} (h : isV c = true) : c = 48 ∨ c = 49 ∨ c = 120 ∨ c = 122 := by
  simp only [isV, Bool.or_eq_true, beq_iff_eq] at h
  rcases h with ((h | h) | h) | h <;> simp [h]
theorem call48 {c : UInt8} (hc : isV c = true) (h : H) : ∃ n : Int, CL tab1 48 [xz, .int .i32 (c.toNat : Nat)] h = .ok (.int .i64 n) h ∧ (0 ≤ n ↔ isX c = true) := by
  rcases isV_lt hc with rfl | rfl | rfl | rfl
  · exact ⟨-1, call_pure rfl rfl h, by decide⟩
  · exact ⟨-1, call_pure rfl rfl h, by decide⟩
  · exact ⟨0, call_pure rfl rfl h, by decide⟩
  · exact ⟨1, call_pure rfl rfl h, by decide⟩
theorem loop4 (l : Bs) (hl : l.length < 2 ^ 62) (hv : l.all isV = true) : ∀ (k i r : Nat) (h : H), Gd h → h.get r = some (.siter ⟨l.length, packL l⟩ i) → i + k = l.length → ∃ h', J43 tab1 4 [xz, .ptr r 0] h = .ok (.int .i64 (ixF isX (l.drop i) i)) h' := by
  intro k
  induction k with
  | zero =>
    intro i r h g hr hi
    refine ⟨h, e43_4 ?_ (by simp)⟩
    simp only [t43_4, nextE hr (by omega : ¬ i < l.length), W, decide_eq_true_eq, Bool.not_eq_true', decide_eq_false_iff_not, Bool.false_eq_true, Bool.not_true, Bool.not_false, decide_true, decide_false, not_true_eq_false, not_false_eq_true, and_true, true_and, and_false, false_and, ne_eq, Nat.zero_add, Nat.add_zero, cond_true, cond_false, ↓reduceIte, reduceCtorEq, Nat.reduceAdd, Int.reduceEq, Int.reduceNe, Int.reduceLT, Int.reduceLE, Int.reduceAdd, Int.reduceSub, Int.reduceMul, Int.reduceNeg, Nat.reduceMul, List.getElem?_cons_zero, List.getElem?_cons_succ]
    rw [List.drop_eq_nil_of_le (by omega)]; rfl
  | succ k ih =>
    intro i r h g hr hi
    have hlt : i < l.length := by omega
    have hvi : isV l[i] = true := List.all_eq_true.1 hv _ (List.getElem_mem hlt)
    have ha : l[i].toNat < 128 := by
      rcases isV_lt hvi with e | e | e | e <;> rw [e] <;> decide
    have g2 : Gd (h.put r (.siter ⟨l.length, packL l⟩ (i + 1))) := by
      have := Step.put (o := .siter ⟨l.length, packL l⟩ (i + 1)) hr (fun fz size cs hh => by cases hh) g.wf
      exact ⟨this.1, this.2.pol.trans g.pol⟩
    obtain ⟨n, e, hn⟩ := call48 hvi (h.put r (.siter ⟨l.length, packL l⟩ (i + 1)))
    by_cases hx : isX l[i] = true
    · refine ⟨_, e43_4 (r := .ok (.int .i64 (ixF isX (l.drop i) i)) (h.put r (.siter ⟨l.length, packL l⟩ (i + 1)))) ?_ (by simp)⟩
      simp only [t43_4, nextS hr hlt ha, W, decide_eq_true_eq, Bool.not_eq_true', decide_eq_false_iff_not, Bool.false_eq_true, Bool.not_true, Bool.not_false, decide_true, decide_false, not_true_eq_false, not_false_eq_true, and_true, true_and, and_false, false_and, ne_eq, Nat.zero_add, Nat.add_zero, cond_true, cond_false, ↓reduceIte, reduceCtorEq, Nat.reduceAdd, Int.reduceEq, Int.reduceNe, Int.reduceLT, Int.reduceLE, Int.reduceAdd, Int.reduceSub, Int.reduceMul, Int.reduceNeg, Nat.reduceMul, List.getElem?_cons_zero, List.getElem?_cons_succ, e, hn.2 hx]
      rw [List.drop_eq_getElem_cons hlt, ixF, if_pos hx]
    · obtain ⟨h', e'⟩ := ih (i + 1) r _ g2 (by rw [H.get_put, if_pos rfl]) (by omega)
      refine ⟨h', e43_4 ?_ (by simp)⟩
      have : ¬ 0 ≤ n := fun h => hx (hn.1 h)
      simp only [t43_4, nextS hr hlt ha, W, decide_eq_true_eq, Bool.not_eq_true', decide_eq_false_iff_not, Bool.false_eq_true, Bool.not_true, Bool.not_false, decide_true, decide_false, not_true_eq_false, not_false_eq_true, and_true, true_and, and_false, false_and, ne_eq, Nat.zero_add, Nat.add_zero, cond_true, cond_false, ↓reduceIte, reduceCtorEq, Nat.reduceAdd, Int.reduceEq, Int.reduceNe, Int.reduceLT, Int.reduceLE, Int.reduceAdd, Int.reduceSub, Int.reduceMul, Int.reduceNeg, Nat.reduceMul, List.getElem?_cons_zero, List.getElem?_cons_succ, e, this]
      rw [List.drop_eq_getElem_cons hlt, ixF, if_neg hx]
      rw [Int.natCast_add, Int.natCast_one] at e'
      exact e'

/-! ### logic.known -/
def g32 (l : Bs) : Option IV := if l.length < 2 ^ 62 ∧ l.all isV = true then some (.bool (!l.any isX)) else none
theorem indexAny (l : Bs) (hl : l.length < 2 ^ 62) (hv : l.all isV = true) : ∃ h', CL tab1 43 [sv l, xz] H0 = .ok (.int .i64 (ixF isX l 0)) h' := by
  by_cases h8 : 8 < (l.length : Int)
  · obtain ⟨h1, e1⟩ := makeX
    obtain ⟨g1, x1⟩ := call_ok step1 e1 gd0
    obtain ⟨h2, e2, x2, c2⟩ := newI_ex g1 (cs := z2) (by rw [z2_set]; exact setL_scalar _)
    rw [z2_set] at c2
    obtain ⟨o, e3, c3, ho⟩ := c2.st (n := 256) (off := 0) (v := .agg (setL isX)) (setL_len _) (setL_scalar _) (by simp [setL_len])
    have g3 : Gd (h2.put h1.next o) := by
      obtain ⟨t, q, _⟩ := c2
      have := Step.put (o := o) q (fun fz size cs hh => by cases hh) x2.gd.wf
      exact ⟨this.1, this.2.pol.trans x2.gd.pol⟩
    have c4 : Cs (h2.put h1.next o) h1.next true false (setL isX) := by
      have : placeL (setL fun _ => false) 0 (IV.agg (setL isX)).cells = setL isX := by
        apply List.ext_getElem?
        intro i
        rw [placeL_get _ _ _ _ (by simp [IV.cells, setL_len])]
        simp only [IV.cells, Nat.zero_le, true_and, Nat.zero_add, Nat.sub_zero, setL_len]
        split
        · rfl
        · rw [List.getElem?_eq_none (by rw [setL_len]; omega), List.getElem?_eq_none (by rw [setL_len]; omega)]
      rw [this] at c3; exact c3
    have r1 := loop3 c4 g3 l hl l.length 0 (by omega)
    refine ⟨h2.put h1.next o, c43 step1 rfl rfl gd0 ?_ (by simp)⟩
    have r49 : CL tab1 49 [.int .i64 (l.length : Nat)] H0 = .ok (.bool true) H0 := c49 step1 rfl rfl gd0 (by simp only [t49_0, W, decide_eq_true_eq, Bool.not_eq_true', decide_eq_false_iff_not, Bool.false_eq_true, Bool.not_true, Bool.not_false, decide_true, decide_false, not_true_eq_false, not_false_eq_true, and_true, true_and, and_false, false_and, ne_eq, Nat.zero_add, Nat.add_zero, cond_true, cond_false, ↓reduceIte, reduceCtorEq, Nat.reduceAdd, Int.reduceEq, Int.reduceNe, Int.reduceLT, Int.reduceLE, Int.reduceAdd, Int.reduceSub, Int.reduceMul, Int.reduceNeg, Nat.reduceMul, List.getElem?_cons_zero, List.getElem?_cons_succ, h8]) (by simp)
    simp only [t43_0, nil_sv, xz_sv, W, decide_eq_true_eq, Bool.not_eq_true', decide_eq_false_iff_not, Bool.false_eq_true, Bool.not_true, Bool.not_false, decide_true, decide_false, not_true_eq_false, not_false_eq_true, and_true, true_and, and_false, false_and, ne_eq, Nat.zero_add, Nat.add_zero, cond_true, cond_false, ↓reduceIte, reduceCtorEq, Nat.reduceAdd, Int.reduceEq, Int.reduceNe, Int.reduceLT, Int.reduceLE, Int.reduceAdd, Int.reduceSub, Int.reduceMul, Int.reduceNeg, Nat.reduceMul, List.getElem?_cons_zero, List.getElem?_cons_succ, List.length_cons, List.length_nil, r49]
    rw [← xz_sv, e1]
    simp only [W, decide_eq_true_eq, Bool.not_eq_true', decide_eq_false_iff_not, Bool.false_eq_true, Bool.not_true, Bool.not_false, decide_true, decide_false, not_true_eq_false, not_false_eq_true, and_true, true_and, and_false, false_and, ne_eq, Nat.zero_add, Nat.add_zero, cond_true, cond_false, ↓reduceIte, reduceCtorEq, Nat.reduceAdd, Int.reduceEq, Int.reduceNe, Int.reduceLT, Int.reduceLE, Int.reduceAdd, Int.reduceSub, Int.reduceMul, Int.reduceNeg, Nat.reduceMul, List.getElem?_cons_zero, List.getElem?_cons_succ, e2, e3, Int.ofNat_eq_natCast]
    exact r1
  · have r49 : CL tab1 49 [.int .i64 (l.length : Nat)] H0 = .ok (.bool false) H0 := c49 step1 rfl rfl gd0 (by simp only [t49_0, W, decide_eq_true_eq, Bool.not_eq_true', decide_eq_false_iff_not, Bool.false_eq_true, Bool.not_true, Bool.not_false, decide_true, decide_false, not_true_eq_false, not_false_eq_true, and_true, true_and, and_false, false_and, ne_eq, Nat.zero_add, Nat.add_zero, cond_true, cond_false, ↓reduceIte, reduceCtorEq, Nat.reduceAdd, Int.reduceEq, Int.reduceNe, Int.reduceLT, Int.reduceLE, Int.reduceAdd, Int.reduceSub, Int.reduceMul, Int.reduceNeg, Nat.reduceMul, List.getElem?_cons_zero, List.getElem?_cons_succ, h8]) (by simp)
    have x1 := Ex.push gd0 (.siter ⟨l.length, packL l⟩ 0)
    obtain ⟨h', e'⟩ := loop4 l hl hv l.length 0 H0.next _ x1.gd (by rw [H.get_push, if_pos rfl]) (by omega)
    refine ⟨h', c43 step1 rfl rfl gd0 ?_ (by simp)⟩
    simp only [t43_0, nil_sv, xz_sv, W, decide_eq_true_eq, Bool.not_eq_true', decide_eq_false_iff_not, Bool.false_eq_true, Bool.not_true, Bool.not_false, decide_true, decide_false, not_true_eq_false, not_false_eq_true, and_true, true_and, and_false, false_and, ne_eq, Nat.zero_add, Nat.add_zero, cond_true, cond_false, ↓reduceIte, reduceCtorEq, Nat.reduceAdd, Int.reduceEq, Int.reduceNe, Int.reduceLT, Int.reduceLE, Int.reduceAdd, Int.reduceSub, Int.reduceMul, Int.reduceNeg, Nat.reduceMul, List.getElem?_cons_zero, List.getElem?_cons_succ, List.length_cons, List.length_nil, r49]
    refine e43_2 ?_ (by simp)
    simp only [t43_2, rngS, sv, W, decide_eq_true_eq, Bool.not_eq_true', decide_eq_false_iff_not, Bool.false_eq_true, Bool.not_true, Bool.not_false, decide_true, decide_false, not_true_eq_false, not_false_eq_true, and_true, true_and, and_false, false_and, ne_eq, Nat.zero_add, Nat.add_zero, cond_true, cond_false, ↓reduceIte, reduceCtorEq, Nat.reduceAdd, Int.reduceEq, Int.reduceNe, Int.reduceLT, Int.reduceLE, Int.reduceAdd, Int.reduceSub, Int.reduceMul, Int.reduceNeg, Nat.reduceMul, List.getElem?_cons_zero, List.getElem?_cons_succ]
    exact e'
theorem t32 : PureT Tryd.prog (CL tab1) 32 (str1 g32) := pure_str1 Tryd.func32 rfl fun l v hv => by
  unfold g32 at hv
  split at hv
  · rename_i hc
    injection hv with hv; subst hv
    refine ⟨rfl, true, ?_⟩
    show ∃ h', CL tab1 32 [sv l] H0 = _
    obtain ⟨h', e⟩ := indexAny l hc.1 hc.2
    obtain ⟨g', _⟩ := call_ok step1 e gd0
    refine ⟨h', c32 step1 rfl rfl gd0 ?_ (by simp)⟩
    have e2 : CL tab1 35 [sv l, xz] H0 = .ok (.bool (l.any isX)) h' := by
      refine c35 step1 rfl rfl gd0 ?_ (by simp)
      simp only [t35_0, e, W, decide_eq_true_eq, Bool.not_eq_true', decide_eq_false_iff_not, Bool.false_eq_true, Bool.not_true, Bool.not_false, decide_true, decide_false, not_true_eq_false, not_false_eq_true, and_true, true_and, and_false, false_and, ne_eq, Nat.zero_add, Nat.add_zero, cond_true, cond_false, ↓reduceIte, reduceCtorEq, Nat.reduceAdd, Int.reduceEq, Int.reduceNe, Int.reduceLT, Int.reduceLE, Int.reduceAdd, Int.reduceSub, Int.reduceMul, Int.reduceNeg, Nat.reduceMul, List.getElem?_cons_zero, List.getElem?_cons_succ, ixF_neg isX l 0 (by omega)]
      cases l.any isX <;> rfl
    simp only [t32_0, show IV.str ⟨2, 31352⟩ = xz from rfl, e2, W, decide_eq_true_eq, Bool.not_eq_true', decide_eq_false_iff_not, Bool.false_eq_true, Bool.not_true, Bool.not_false, decide_true, decide_false, not_true_eq_false, not_false_eq_true, and_true, true_and, and_false, false_and, ne_eq, Nat.zero_add, Nat.add_zero, cond_true, cond_false, ↓reduceIte, reduceCtorEq, Nat.reduceAdd, Int.reduceEq, Int.reduceNe, Int.reduceLT, Int.reduceLE, Int.reduceAdd, Int.reduceSub, Int.reduceMul, Int.reduceNeg, Nat.reduceMul, List.getElem?_cons_zero, List.getElem?_cons_succ]
  · cases hv

/-! ### the second table; logic.Number -/
theorem clS (w₀ : World) (S : Sc) (args : List IV) (g : H) (μ : Mu) (w : World) (cargs : Array Value) (r : Rel w₀ S μ g w) (hv : VRs μ args cargs.toList) : CallR Tryd.prog w₀ S μ 30 cargs w (cloneI args g) :=
  clone_S Tryd.func30 (by kernel_rfl) (by kernel_rfl) (by kernel_rfl) (by kernel_rfl) args g μ w cargs r hv
def tab2 : Tab := ⟨ovOf [(57, indexByteI), (30, cloneI), (9, pureF g9), (31, pureF (str1 g31)), (32, pureF (str1 g32))], pol⟩
theorem step2 : OvStep tab2 := ovStep_of fun x hx args g => by
  simp only [List.mem_cons, List.not_mem_nil, or_false] at hx
  rcases hx with rfl | rfl | rfl | rfl | rfl
  · exact indexByteI_step args g
  · exact cloneI_step args g
  all_goals exact pureF_step _ args g
theorem sound2 : ∀ w₀ S, CallS Tryd.prog w₀ S (CL tab2) := call_sound (fun w₀ S => ovS_of fun x hx => by
  simp only [List.mem_cons, List.not_mem_nil, or_false] at hx
  rcases hx with rfl | rfl | rfl | rfl | rfl
  · exact ibS w₀ S
  · exact clS w₀ S
  · exact pureF_S sound0 noNum t9 w₀ S
  · exact pureF_S sound1 noNum t31 w₀ S
  · exact pureF_S sound1 noNum t32 w₀ S) Tryd.checked.mixed noNum
theorem call31 (l : Bs) (h : H) : CL tab2 31 [sv l] h = .ok (.int .i64 (if checkM l = true then 0 else 10)) h := call_pure rfl (str1_sv _ _) h
theorem call32 {l : Bs} (hl : checkM l = true) (h : H) : CL tab2 32 [sv l] h = .ok (.bool (!l.any isX)) h := call_pure rfl (by
  rw [str1_sv, g32, if_pos]
  simp only [checkM, Bool.and_eq_true, decide_eq_true_eq] at hl
  exact ⟨by omega, hl.2⟩) h
theorem call9 (h : H) : CL tab2 9 [] h = .ok (.bool true) h := call_pure rfl rfl h

def numF (most : Int) : Bs → Int → Int
  | [], n => n
  | c :: l, n => numF most l (if most < 2 * n + ((c.toNat : Int) - 48) then most else 2 * n + ((c.toNat : Int) - 48))
theorem loop33 {h : H} (g : Gd h) (most : Int) (hm : 0 ≤ most ∧ most ≤ 2 ^ 40) (l : Bs) (hl : l.length < 2 ^ 62) (hv : l.all (fun c => c == 48 || c == 49) = true) : ∀ (k i : Nat) (n : Int), 0 ≤ n → n ≤ most → i + k = l.length →
    J33 tab2 1 [sv l, .int .i64 most, .int .i64 n, .int .i64 l.length, .int .i64 i] h = .ok (.int .i64 (numF most (l.drop i) n)) h := by
  intro k
  induction k with
  | zero =>
    intro i n h0 h1 hi
    refine e33_1 ?_ (by simp)
    have : ¬ (i : Int) < (l.length : Nat) := by omega
    simp only [t33_1, W, decide_eq_true_eq, Bool.not_eq_true', decide_eq_false_iff_not, Bool.false_eq_true, Bool.not_true, Bool.not_false, decide_true, decide_false, not_true_eq_false, not_false_eq_true, and_true, true_and, and_false, false_and, ne_eq, Nat.zero_add, Nat.add_zero, cond_true, cond_false, ↓reduceIte, reduceCtorEq, Nat.reduceAdd, Int.reduceEq, Int.reduceNe, Int.reduceLT, Int.reduceLE, Int.reduceAdd, Int.reduceSub, Int.reduceMul, Int.reduceNeg, Nat.reduceMul, List.getElem?_cons_zero, List.getElem?_cons_succ, this]
    rw [List.drop_eq_nil_of_le (by omega)]; rfl
  | succ k ih =>
    intro i n h0 h1 hi
    have hlt : i < l.length := by omega
    have h2 : (i : Int) < (l.length : Nat) := by omega
    have hc : l[i].toNat = 48 ∨ l[i].toNat = 49 := by
      have := List.all_eq_true.1 hv _ (List.getElem_mem hlt)
      simp only [Bool.or_eq_true, beq_iff_eq] at this
      rcases this with h | h <;> rw [h] <;> simp
    refine e33_1 ?_ (by simp)
    simp only [t33_1, W, decide_eq_true_eq, Bool.not_eq_true', decide_eq_false_iff_not, Bool.false_eq_true, Bool.not_true, Bool.not_false, decide_true, decide_false, not_true_eq_false, not_false_eq_true, and_true, true_and, and_false, false_and, ne_eq, Nat.zero_add, Nat.add_zero, cond_true, cond_false, ↓reduceIte, reduceCtorEq, Nat.reduceAdd, Int.reduceEq, Int.reduceNe, Int.reduceLT, Int.reduceLE, Int.reduceAdd, Int.reduceSub, Int.reduceMul, Int.reduceNeg, Nat.reduceMul, List.getElem?_cons_zero, List.getElem?_cons_succ, h2]
    rw [ixStr_nat l i hlt]
    simp only [W, decide_eq_true_eq, Bool.not_eq_true', decide_eq_false_iff_not, Bool.false_eq_true, Bool.not_true, Bool.not_false, decide_true, decide_false, not_true_eq_false, not_false_eq_true, and_true, true_and, and_false, false_and, ne_eq, Nat.zero_add, Nat.add_zero, cond_true, cond_false, ↓reduceIte, reduceCtorEq, Nat.reduceAdd, Int.reduceEq, Int.reduceNe, Int.reduceLT, Int.reduceLE, Int.reduceAdd, Int.reduceSub, Int.reduceMul, Int.reduceNeg, Nat.reduceMul, List.getElem?_cons_zero, List.getElem?_cons_succ]
    rw [wr_u8 (by omega) (by omega), wr_i64 (n := (l[i].toNat : Int) - 48) (by omega) (by omega), wr_i64 (n := 2 * n) (by omega) (by omega), wr_i64 (n := 2 * n + _) (by omega) (by omega), wr_i64 (n := (i : Int) + 1) (by omega) (by omega)]
    rw [List.drop_eq_getElem_cons hlt, numF]
    have := ih (i + 1) (if most < 2 * n + ((l[i].toNat : Int) - 48) then most else 2 * n + ((l[i].toNat : Int) - 48)) (by split <;> omega) (by split <;> omega) (by omega)
    rw [Int.natCast_add, Int.natCast_one] at this
    exact this
/-- a vector's number, or why it has none -/
def numberM (l : Bs) : Int × Int :=
  if checkM l = true then
    if l.any isX = true then (0, 60)
    else if 2147483647 < numF 2147483648 l 0 then (0, 61) else (numF 2147483648 l 0, 0)
  else (0, 10)
theorem number (l : Bs) {h : H} (g : Gd h) : CL tab2 25 [sv l] h = .ok (.tup [.int .i64 (numberM l).1, .int .i64 (numberM l).2]) h := by
  refine c25 step2 rfl rfl g ?_ (by simp)
  simp only [t25_0, call31, W, decide_eq_true_eq, Bool.not_eq_true', decide_eq_false_iff_not, Bool.false_eq_true, Bool.not_true, Bool.not_false, decide_true, decide_false, not_true_eq_false, not_false_eq_true, and_true, true_and, and_false, false_and, ne_eq, Nat.zero_add, Nat.add_zero, cond_true, cond_false, ↓reduceIte, reduceCtorEq, Nat.reduceAdd, Int.reduceEq, Int.reduceNe, Int.reduceLT, Int.reduceLE, Int.reduceAdd, Int.reduceSub, Int.reduceMul, Int.reduceNeg, Nat.reduceMul, List.getElem?_cons_zero, List.getElem?_cons_succ]
  unfold numberM
  by_cases hc : checkM l = true
  · have hc' := hc
    simp only [checkM, Bool.and_eq_true, decide_eq_true_eq] at hc'
    obtain ⟨⟨h1, h2⟩, h3⟩ := hc'
    simp only [hc, W, decide_eq_true_eq, Bool.not_eq_true', decide_eq_false_iff_not, Bool.false_eq_true, Bool.not_true, Bool.not_false, decide_true, decide_false, not_true_eq_false, not_false_eq_true, and_true, true_and, and_false, false_and, ne_eq, Nat.zero_add, Nat.add_zero, cond_true, cond_false, ↓reduceIte, reduceCtorEq, Nat.reduceAdd, Int.reduceEq, Int.reduceNe, Int.reduceLT, Int.reduceLE, Int.reduceAdd, Int.reduceSub, Int.reduceMul, Int.reduceNeg, Nat.reduceMul, List.getElem?_cons_zero, List.getElem?_cons_succ, call32 hc]
    by_cases hx : l.any isX = true
    · simp only [hx, W, decide_eq_true_eq, Bool.not_eq_true', decide_eq_false_iff_not, Bool.false_eq_true, Bool.not_true, Bool.not_false, decide_true, decide_false, not_true_eq_false, not_false_eq_true, and_true, true_and, and_false, false_and, ne_eq, Nat.zero_add, Nat.add_zero, cond_true, cond_false, ↓reduceIte, reduceCtorEq, Nat.reduceAdd, Int.reduceEq, Int.reduceNe, Int.reduceLT, Int.reduceLE, Int.reduceAdd, Int.reduceSub, Int.reduceMul, Int.reduceNeg, Nat.reduceMul, List.getElem?_cons_zero, List.getElem?_cons_succ]
    · have hv : l.all (fun c => c == 48 || c == 49) = true := by
        simp only [Bool.not_eq_true, List.any_eq_false] at hx
        rw [List.all_eq_true]
        intro c hcm
        have ha := List.all_eq_true.1 h3 c hcm
        have hb := hx c hcm
        simp only [isV, isX, Bool.or_eq_true, beq_iff_eq, not_or, Bool.or_eq_false_iff, beq_eq_false_iff_ne, ne_eq] at ha hb ⊢
        rcases ha with ((ha | ha) | ha) | ha
        · exact .inl ha
        · exact .inr ha
        · exact absurd ha hb.1
        · exact absurd ha hb.2
      have e33 : CL tab2 33 [sv l, .int .i64 2147483648] h = .ok (.int .i64 (numF 2147483648 l 0)) h := by
        refine c33 step2 rfl rfl g ?_ (by simp)
        simp only [t33_0, W, decide_eq_true_eq, Bool.not_eq_true', decide_eq_false_iff_not, Bool.false_eq_true, Bool.not_true, Bool.not_false, decide_true, decide_false, not_true_eq_false, not_false_eq_true, and_true, true_and, and_false, false_and, ne_eq, Nat.zero_add, Nat.add_zero, cond_true, cond_false, ↓reduceIte, reduceCtorEq, Nat.reduceAdd, Int.reduceEq, Int.reduceNe, Int.reduceLT, Int.reduceLE, Int.reduceAdd, Int.reduceSub, Int.reduceMul, Int.reduceNeg, Nat.reduceMul, List.getElem?_cons_zero, List.getElem?_cons_succ]
        exact loop33 g 2147483648 (by omega) l (by omega) hv l.length 0 0 (by omega) (by omega) (by omega)
      simp only [Bool.not_eq_true] at hx
      simp only [hx, W, decide_eq_true_eq, Bool.not_eq_true', decide_eq_false_iff_not, Bool.false_eq_true, Bool.not_true, Bool.not_false, decide_true, decide_false, not_true_eq_false, not_false_eq_true, and_true, true_and, and_false, false_and, ne_eq, Nat.zero_add, Nat.add_zero, cond_true, cond_false, ↓reduceIte, reduceCtorEq, Nat.reduceAdd, Int.reduceEq, Int.reduceNe, Int.reduceLT, Int.reduceLE, Int.reduceAdd, Int.reduceSub, Int.reduceMul, Int.reduceNeg, Nat.reduceMul, List.getElem?_cons_zero, List.getElem?_cons_succ, e33]
      by_cases hb : 2147483647 < numF 2147483648 l 0
      · simp only [hb, W, decide_eq_true_eq, Bool.not_eq_true', decide_eq_false_iff_not, Bool.false_eq_true, Bool.not_true, Bool.not_false, decide_true, decide_false, not_true_eq_false, not_false_eq_true, and_true, true_and, and_false, false_and, ne_eq, Nat.zero_add, Nat.add_zero, cond_true, cond_false, ↓reduceIte, reduceCtorEq, Nat.reduceAdd, Int.reduceEq, Int.reduceNe, Int.reduceLT, Int.reduceLE, Int.reduceAdd, Int.reduceSub, Int.reduceMul, Int.reduceNeg, Nat.reduceMul, List.getElem?_cons_zero, List.getElem?_cons_succ]
      · simp only [hb, W, decide_eq_true_eq, Bool.not_eq_true', decide_eq_false_iff_not, Bool.false_eq_true, Bool.not_true, Bool.not_false, decide_true, decide_false, not_true_eq_false, not_false_eq_true, and_true, true_and, and_false, false_and, ne_eq, Nat.zero_add, Nat.add_zero, cond_true, cond_false, ↓reduceIte, reduceCtorEq, Nat.reduceAdd, Int.reduceEq, Int.reduceNe, Int.reduceLT, Int.reduceLE, Int.reduceAdd, Int.reduceSub, Int.reduceMul, Int.reduceNeg, Nat.reduceMul, List.getElem?_cons_zero, List.getElem?_cons_succ]
  · simp only [hc, W, decide_eq_true_eq, Bool.not_eq_true', decide_eq_false_iff_not, Bool.false_eq_true, Bool.not_true, Bool.not_false, decide_true, decide_false, not_true_eq_false, not_false_eq_true, and_true, true_and, and_false, false_and, ne_eq, Nat.zero_add, Nat.add_zero, cond_true, cond_false, ↓reduceIte, reduceCtorEq, Nat.reduceAdd, Int.reduceEq, Int.reduceNe, Int.reduceLT, Int.reduceLE, Int.reduceAdd, Int.reduceSub, Int.reduceMul, Int.reduceNeg, Nat.reduceMul, List.getElem?_cons_zero, List.getElem?_cons_succ]

end Go.Proofs.YtblgpcijbdbeiaaDoor

namespace Go.Proofs.YtblgpcijbdbeiaaDoor
open Go I
set_option maxRecDepth 100000
set_option linter.unusedVariables false
set_option linter.unusedSimpArgs false

/-! ### scopes -/
abbrev Sc := List (Bs × Int)
def getM (s : Sc) (name : Bs) : Option Int := (s.find? fun p => p.1 == name).map (·.2)
/-- a map's entries are names and numbers -/
def EsR : List (IV × IV × Nat) → Sc → Prop
  | [], s => s = []
  | (k, v, _) :: es, s => ∃ p q, s = p :: q ∧ k = sv p.1 ∧ v = .int .i64 p.2 ∧ EsR es q
/-- a scope in memory -/
structure ScR (h : H) (p : Nat) (s : Sc) : Prop where
  mk ::
  ex : ∃ m es clock, Cs h p true false [.map m] ∧ h.get m = some (.map es clock) ∧ EsR es s
  small : ∀ x ∈ s, -2147483647 ≤ x.2 ∧ x.2 ≤ 2147483647
theorem ScR.keep {h h' : H} {p : Nat} {s : Sc} (r : ScR h p s) (x : Ex h h') : ScR h' p s := by
  obtain ⟨⟨m, es, clock, h1, h2, h3⟩, h4⟩ := r
  exact ⟨⟨m, es, clock, h1.ex x, x.kp m _ h2 rfl, h3⟩, h4⟩
theorem keyEq_sv (a b : Bs) : keyEq (sv a) (sv b) = some (decide (a = b)) := by simp only [keyEq, sv, str_eq]
theorem findI_get {es : List (IV × IV × Nat)} : ∀ {s : Sc} (name : Bs) (i : Nat), EsR es s → findI (sv name) es i = some (match getM s name with | none => none | some n => some (i + s.findIdx (fun p => p.1 == name), .int .i64 n)) := by
  induction es with
  | nil => intro s name i h; simp only [EsR] at h; subst h; rfl
  | cons e es ih =>
    obtain ⟨k, v, st⟩ := e
    intro s name i h
    obtain ⟨p, q, rfl, rfl, rfl, h4⟩ := h
    simp only [findI, keyEq_sv]
    by_cases hn : name = p.1
    · subst hn
      simp [getM, List.findIdx_cons]
    · have hb : (p.1 == name) = false := by simp; exact fun e => hn e.symm
      simp only [hn, decide_false]
      rw [ih name (i + 1) h4]
      simp only [getM, List.find?_cons, hb, List.findIdx_cons]
      cases q.find? (fun p => p.1 == name) with
      | none => rfl
      | some x => simp only [Option.map_some, cond_false]; congr 3; omega
theorem look_get {h : H} {m clock : Nat} {es : List (IV × IV × Nat)} {s : Sc} (hm : h.get m = some (.map es clock)) (he : EsR es s) (name : Bs) : lkK true (.int .i64 0) h (.map m) (sv name) true = some (match getM s name with | some n => .tup [.int .i64 n, .bool true] | none => .tup [.int .i64 0, .bool false]) := by
  have hk : keyK true (sv name) = true := rfl
  simp only [lkK, hk, cond_true, entsOf, hm, findI_get name 0 he]
  cases getM s name <;> rfl

/-! ### small functions -/
def isF (b : Bool) : Int := if b = true then 1 else 0
theorem is28 (b : Bool) {h : H} (g : Gd h) : CL tab2 28 [.bool b] h = .ok (.int .i64 (isF b)) h := by
  refine c28 step2 rfl rfl g ?_ (by simp)
  simp only [t28_0, W, decide_eq_true_eq, Bool.not_eq_true', decide_eq_false_iff_not, Bool.false_eq_true, Bool.not_true, Bool.not_false, decide_true, decide_false, not_true_eq_false, not_false_eq_true, and_true, true_and, and_false, false_and, ne_eq, Nat.zero_add, Nat.add_zero, cond_true, cond_false, ↓reduceIte, reduceCtorEq, Nat.reduceAdd, Int.reduceEq, Int.reduceNe, Int.reduceLT, Int.reduceLE, Int.reduceAdd, Int.reduceSub, Int.reduceMul, Int.reduceNeg, Nat.reduceMul, List.getElem?_cons_zero, List.getElem?_cons_succ]
  cases b <;> rfl
theorem may21 (n : Int) {h : H} (g : Gd h) : CL tab2 21 [.int .i64 n] h = .ok (.bool (decide (-2147483647 ≤ n ∧ n ≤ 2147483647))) h := by
  refine c21 step2 rfl rfl g ?_ (by simp)
  by_cases h1 : -2147483647 ≤ n
  · by_cases h2 : n ≤ 2147483647 <;> simp only [t21_0, W, decide_eq_true_eq, Bool.not_eq_true', decide_eq_false_iff_not, Bool.false_eq_true, Bool.not_true, Bool.not_false, decide_true, decide_false, not_true_eq_false, not_false_eq_true, and_true, true_and, and_false, false_and, ne_eq, Nat.zero_add, Nat.add_zero, cond_true, cond_false, ↓reduceIte, reduceCtorEq, Nat.reduceAdd, Int.reduceEq, Int.reduceNe, Int.reduceLT, Int.reduceLE, Int.reduceAdd, Int.reduceSub, Int.reduceMul, Int.reduceNeg, Nat.reduceMul, List.getElem?_cons_zero, List.getElem?_cons_succ, h1, h2]
  · simp only [t21_0, W, decide_eq_true_eq, Bool.not_eq_true', decide_eq_false_iff_not, Bool.false_eq_true, Bool.not_true, Bool.not_false, decide_true, decide_false, not_true_eq_false, not_false_eq_true, and_true, true_and, and_false, false_and, ne_eq, Nat.zero_add, Nat.add_zero, cond_true, cond_false, ↓reduceIte, reduceCtorEq, Nat.reduceAdd, Int.reduceEq, Int.reduceNe, Int.reduceLT, Int.reduceLE, Int.reduceAdd, Int.reduceSub, Int.reduceMul, Int.reduceNeg, Nat.reduceMul, List.getElem?_cons_zero, List.getElem?_cons_succ, h1]
/-- why an expression is none: its place, the number of the reason -/
def refv (at_ e : Int) : IV := .iface 64 (.agg [.int .i64 at_, .int .i64 e])
/-- giving an expression up -/
theorem no26 {op at_ : Int} {nm v : Bs} {pl : Bool} {K : IV} (hK : K.scalar = true) (e : Int) {h : H} (g : Gd h) : ∃ h', CL tab2 26 [.agg (ecells op nm v pl K at_), .int .i64 e] h = .pan (refv at_ e) h' ∧ Ex h h' := by
  obtain ⟨h', e1, x, c⟩ := newI_ex g (ecells_scalar (op := op) (nm := nm) (v := v) (p := pl) (a := at_) hK)
  refine ⟨h', c26 step2 rfl rfl g ?_ (by simp), x⟩
  simp only [t26_0, IV.cells, e1, W, decide_eq_true_eq, Bool.not_eq_true', decide_eq_false_iff_not, Bool.false_eq_true, Bool.not_true, Bool.not_false, decide_true, decide_false, not_true_eq_false, not_false_eq_true, and_true, true_and, and_false, false_and, ne_eq, Nat.zero_add, Nat.add_zero, cond_true, cond_false, ↓reduceIte, reduceCtorEq, Nat.reduceAdd, Int.reduceEq, Int.reduceNe, Int.reduceLT, Int.reduceLE, Int.reduceAdd, Int.reduceSub, Int.reduceMul, Int.reduceNeg, Nat.reduceMul, List.getElem?_cons_zero, List.getElem?_cons_succ, c.ld0, EC]
  rfl
theorem kids27 {op at_ : Int} {nm v : Bs} {pl : Bool} {K : IV} (hK : K.scalar = true) {len : Nat} (hl : lenS K = some (.int .i64 len)) (n : Int) {h : H} (g : Gd h) :
    (len = n → ∃ h', CL tab2 27 [.agg (ecells op nm v pl K at_), .int .i64 n] h = .ok (.tup []) h' ∧ Ex h h') ∧
    ((len : Int) ≠ n → ∃ h', CL tab2 27 [.agg (ecells op nm v pl K at_), .int .i64 n] h = .pan (refv at_ 60) h' ∧ Ex h h') := by
  obtain ⟨h', e1, x, c⟩ := newI_ex g (ecells_scalar (op := op) (nm := nm) (v := v) (p := pl) (a := at_) hK)
  constructor
  · intro hn
    refine ⟨h', c27 step2 rfl rfl g ?_ (by simp), x⟩
    simp only [t27_0, IV.cells, e1, W, decide_eq_true_eq, Bool.not_eq_true', decide_eq_false_iff_not, Bool.false_eq_true, Bool.not_true, Bool.not_false, decide_true, decide_false, not_true_eq_false, not_false_eq_true, and_true, true_and, and_false, false_and, ne_eq, Nat.zero_add, Nat.add_zero, cond_true, cond_false, ↓reduceIte, reduceCtorEq, Nat.reduceAdd, Int.reduceEq, Int.reduceNe, Int.reduceLT, Int.reduceLE, Int.reduceAdd, Int.reduceSub, Int.reduceMul, Int.reduceNeg, Nat.reduceMul, List.getElem?_cons_zero, List.getElem?_cons_succ, c.ld0, c.ldAll (show 6 = (ecells op nm v pl K at_).length from rfl), EC, hl, hn]
  · intro hn
    obtain ⟨h2, e2, x2⟩ := no26 (op := op) (at_ := at_) (nm := nm) (v := v) (pl := pl) hK 60 x.gd
    refine ⟨h2, c27 step2 rfl rfl g ?_ (by simp [refv]), x.trans x2⟩
    simp only [t27_0, IV.cells, e1, W, decide_eq_true_eq, Bool.not_eq_true', decide_eq_false_iff_not, Bool.false_eq_true, Bool.not_true, Bool.not_false, decide_true, decide_false, not_true_eq_false, not_false_eq_true, and_true, true_and, and_false, false_and, ne_eq, Nat.zero_add, Nat.add_zero, cond_true, cond_false, ↓reduceIte, reduceCtorEq, Nat.reduceAdd, Int.reduceEq, Int.reduceNe, Int.reduceLT, Int.reduceLE, Int.reduceAdd, Int.reduceSub, Int.reduceMul, Int.reduceNeg, Nat.reduceMul, List.getElem?_cons_zero, List.getElem?_cons_succ, c.ld0, c.ldAll (show 6 = (ecells op nm v pl K at_).length from rfl), EC, hl, hn, e2]

end Go.Proofs.YtblgpcijbdbeiaaDoor
