/- M4: Law04: calls, by a table of functions that are told by hand. Printed by gen.py (own tool): each function in words of its own, from join to join. -/
import Derived.Test.YtomgclpeimipoaaGreatDoorChecked
import Derived.Test.YtomgclpeimipoaaGreatDoorM3
namespace Go.Proofs.YtomgclpeimipoaaGreatDoor
open Go I
set_option maxRecDepth 100000

noncomputable abbrev CL (T : Tab) : CallF := call Tryz.prog T
theorem noNum : NoNum Tryz.prog := by
  intro f fn hf
  have h : (Tryz.prog.funcs.all fun fn => !(fn.name == "runtime.NumGoroutine")) = true := by kernel_rfl
  simpa using Array.all_eq_true_iff_forall_mem.1 h fn (Array.mem_of_getElem? hf)

end Go.Proofs.YtomgclpeimipoaaGreatDoor

namespace Go.Proofs.YtomgclpeimipoaaGreatDoor
open Go I
set_option linter.unusedVariables false
set_option maxRecDepth 100000

def z0 : List IV := [(.int .i64 0), (.str ⟨0, 0⟩), (.str ⟨0, 0⟩), (.bool false), .nilSlice, (.int .i64 0)]
def z1 : List IV := [(.str ⟨0, 0⟩), .nilSlice, .nilSlice, .nilSlice, (.int .i64 0)]
def z2 : List IV := [(.int .i64 0), (.str ⟨0, 0⟩), (.int .i64 0)]
def p3 : List (Nat × Nat) := [(0, 1), (1, 1), (2, 1)]
def z4 : List IV := [.nilSlice, (.int .i64 0), .nilSlice, .nilSlice, .nilSlice, (.int .i64 0), (.int .i64 0), (.int .i64 0)]
def p5 : List (Nat × Nat) := [(0, 1), (1, 1), (2, 1), (3, 1), (4, 1), (5, 1), (6, 2)]
def p6 : List (Nat × Nat) := [(0, 1), (1, 1), (2, 1), (3, 1), (4, 1)]
def z7 : List IV := [(.str ⟨0, 0⟩), (.int .i64 0), (.str ⟨0, 0⟩), (.str ⟨0, 0⟩), (.bool false), .nilSlice, (.int .i64 0), (.int .i64 0)]
def p8 : List (Nat × Nat) := [(0, 1), (1, 6), (7, 1)]
def z9 : List IV := [(.bool false), (.bool false), (.bool false), (.int .i64 0), (.str ⟨0, 0⟩), (.str ⟨0, 0⟩), (.bool false), .nilSlice, (.int .i64 0), (.int .i64 0), (.str ⟨0, 0⟩), (.str ⟨0, 0⟩), (.bool false), .nilSlice, (.int .i64 0), (.str ⟨0, 0⟩), (.int .i64 0)]
def z10 : List IV := [(.int .i64 0), (.bool false), (.bool false), (.bool false)]
def p11 : List (Nat × Nat) := [(0, 1), (1, 1), (2, 1), (3, 1)]
def p12 : List (Nat × Nat) := [(0, 1), (1, 1), (2, 1), (3, 1), (4, 1), (5, 1)]
def p13 : List (Nat × Nat) := [(0, 1), (1, 1), (2, 1), (3, 6), (9, 6), (15, 1), (16, 1)]
def z14 : List IV := [(.int .i64 0), (.str ⟨0, 0⟩), .nilSlice, (.bool false), (.int .i64 0), (.str ⟨0, 0⟩), (.str ⟨0, 0⟩), (.bool false), .nilSlice, (.int .i64 0), (.int .i64 0), (.str ⟨0, 0⟩), (.str ⟨0, 0⟩), (.bool false), .nilSlice, (.int .i64 0), (.bool false), (.int .i64 0), (.str ⟨0, 0⟩), (.str ⟨0, 0⟩), (.bool false), .nilSlice, (.int .i64 0), (.int .i64 0), (.str ⟨0, 0⟩), (.str ⟨0, 0⟩), (.bool false), .nilSlice, (.int .i64 0), (.int .i64 0), (.str ⟨0, 0⟩), (.str ⟨0, 0⟩), (.bool false), .nilSlice, (.int .i64 0), (.int .i64 0), (.str ⟨0, 0⟩), (.str ⟨0, 0⟩), (.bool false), .nilSlice, (.int .i64 0), (.str ⟨0, 0⟩), (.str ⟨0, 0⟩), .nilSlice, .nilSlice, .nilSlice, .nilSlice, (.int .i64 0)]
def p15 : List (Nat × Nat) := [(0, 1), (1, 1), (2, 1), (3, 1), (4, 6), (10, 6), (16, 1), (17, 6), (23, 6), (29, 6), (35, 6), (41, 1), (42, 1), (43, 1), (44, 1), (45, 1), (46, 1), (47, 1)]
def z16 : List IV := [(.int .i64 0), (.str ⟨0, 0⟩), (.int .i64 0), (.str ⟨0, 0⟩), (.str ⟨0, 0⟩), (.bool false), .nilSlice, (.int .i64 0), .nilSlice, .nilSlice, .nilSlice, (.int .i64 0)]
def p17 : List (Nat × Nat) := [(0, 1), (1, 1), (2, 6), (8, 1), (9, 1), (10, 1), (11, 1)]
def z18 : List IV := [(.bool false), (.int .i64 0), (.str ⟨0, 0⟩), (.str ⟨0, 0⟩), (.bool false), .nilSlice, (.int .i64 0), .nilSlice]
-- silkworm/silkwormlaw04.SyntaxLevels
def js5 : List Jn := [⟨[], [0, 1]⟩]
noncomputable def J5 (T : Tab) : Rec := fj Tryz.prog (CL T) Tryz.f5 js5
noncomputable def t5_0 (cf : CallF) (R : Rec) (a0 a1 : IV) (h : H) : CRes :=
 obind2 (bslK false 1 [(.str ⟨0, 0⟩)] 15 [(0, (.str ⟨2, 31868⟩)), (1, (.str ⟨2, 9766⟩)), (2, (.str ⟨1, 124⟩)), (3, (.str ⟨1, 94⟩)), (4, (.str ⟨1, 38⟩)), (5, (.str ⟨2, 15677⟩)), (6, (.str ⟨2, 15649⟩)), (7, (.str ⟨1, 60⟩)), (8, (.str ⟨2, 15676⟩)), (9, (.str ⟨1, 62⟩)), (10, (.str ⟨2, 15678⟩)), (11, (.str ⟨2, 15420⟩)), (12, (.str ⟨2, 15934⟩)), (13, (.str ⟨1, 43⟩)), (14, (.str ⟨1, 45⟩))] h) fun x1 h2 =>
 obind2 (bslK true 1 [(.int .i64 0)] 15 [(0, (.int .i64 1)), (1, (.int .i64 2)), (2, (.int .i64 3)), (3, (.int .i64 4)), (4, (.int .i64 5)), (5, (.int .i64 6)), (6, (.int .i64 6)), (7, (.int .i64 7)), (8, (.int .i64 7)), (9, (.int .i64 7)), (10, (.int .i64 7)), (11, (.int .i64 8)), (12, (.int .i64 8)), (13, (.int .i64 9)), (14, (.int .i64 9))] h2) fun x3 h4 =>
 obind (binN .and a0 (.int .i64 65535)) fun x5 =>
 obind (binN .rem x5 (.int .i64 15)) fun x6 =>
 obind (binN .and a1 (.int .i64 65535)) fun x7 =>
 obind (binN .rem x7 (.int .i64 15)) fun x8 =>
 obind (ixS 1 x1 x6) fun x9 =>
 obind (ld0 h4 x9) fun x10 =>
 obind (binS .add (.str ⟨25, 203248776473148507807259739116822059445528716143702439128941⟩) x10) fun x11 =>
 obind (binS .add x11 (.str ⟨3, 2122272⟩)) fun x12 =>
 obind (ixS 1 x1 x8) fun x13 =>
 obind (ld0 h4 x13) fun x14 =>
 obind (binS .add x12 x14) fun x15 =>
 obind (binS .add x15 (.str ⟨13, 8035610713614417701758354285344⟩)) fun x16 =>
 callP (cf 7 [x16] h4) (fun v17 h18 =>
 .pan v17 h18) fun x19 h20 =>
 callP (cf 9 [x19] h20) (fun v21 h22 =>
 .pan v21 h22) fun x23 h24 =>
 obind (extractI x23 0) fun x25 =>
 obind (extractI x23 1) fun x26 =>
 obind (lenS x26) fun x27 =>
 obind (binN .gtr x27 (.int .i64 0)) fun x28 =>
 spanK x28 false h24 (fun k29 =>
 obind (lenS x25) fun x32 =>
 obind (binN .neq x32 (.int .i64 1)) fun x33 =>
 k29 x33 h24) fun x30 h31 =>
 obind (pickI x28 (some (.bool true)) (some x30)) fun x34 =>
 spanK x34 false h31 (fun k35 =>
 obind (ixS 5 x25 (.int .i64 0)) fun x38 =>
 obind (fadK 3 x38) fun x39 =>
 obind (ld0 h31 x39) fun x40 =>
 obind (lenS x40) fun x41 =>
 obind (binN .neq x41 (.int .i64 1)) fun x42 =>
 k35 x42 h31) fun x36 h37 =>
 obind (pickI x34 (some (.bool true)) (some x36)) fun x43 =>
 condK x43
 (.ok (.bool false) h37)
 (obind (ixS 5 x25 (.int .i64 0)) fun x44 =>
 obind (fadK 3 x44) fun x45 =>
 obind (ld0 h37 x45) fun x46 =>
 obind (ixS 48 x46 (.int .i64 0)) fun x47 =>
 obind (fadK 23 x47) fun x48 =>
 obind (ldA 6 h37 x48) fun x49 =>
 obind2 (newI h37 z0) fun x50 h51 =>
 obindH (stA 6 h51 x50 x49) fun h52 =>
 obind (fadK 4 x50) fun x53 =>
 obind (ld0 h52 x53) fun x54 =>
 obind (lenS x54) fun x55 =>
 obind (binN .neq x55 (.int .i64 2)) fun x56 =>
 condK x56
 (.ok (.bool false) h52)
 (obind (ixS 1 x3 x8) fun x57 =>
 obind (ld0 h52 x57) fun x58 =>
 obind (ixS 1 x3 x6) fun x59 =>
 obind (ld0 h52 x59) fun x60 =>
 obind (binN .gtr x58 x60) fun x61 =>
 condK x61
 (obind (fadK 4 x50) fun x62 =>
 obind (ld0 h52 x62) fun x63 =>
 obind (ixS 6 x63 (.int .i64 0)) fun x64 =>
 obind (fadK 1 x64) fun x65 =>
 obind (ld0 h52 x65) fun x66 =>
 obind (binS .eql x66 (.str ⟨1, 97⟩)) fun x67 =>
 spanK x67 true h52 (fun k68 =>
 obind (fadK 4 x50) fun x71 =>
 obind (ld0 h52 x71) fun x72 =>
 obind (ixS 6 x72 (.int .i64 1)) fun x73 =>
 obind (fadK 4 x73) fun x74 =>
 obind (ld0 h52 x74) fun x75 =>
 obind (lenS x75) fun x76 =>
 obind (binN .eql x76 (.int .i64 2)) fun x77 =>
 k68 x77 h52) fun x69 h70 =>
 obind (pickI x67 (some x69) (some (.bool false))) fun x78 =>
 spanK x78 true h70 (fun k79 =>
 obind (fadK 4 x50) fun x82 =>
 obind (ld0 h70 x82) fun x83 =>
 obind (ixS 6 x83 (.int .i64 1)) fun x84 =>
 obind (fadK 4 x84) fun x85 =>
 obind (ld0 h70 x85) fun x86 =>
 obind (ixS 6 x86 (.int .i64 0)) fun x87 =>
 obind (fadK 1 x87) fun x88 =>
 obind (ld0 h70 x88) fun x89 =>
 obind (binS .eql x89 (.str ⟨1, 98⟩)) fun x90 =>
 k79 x90 h70) fun x80 h81 =>
 obind (pickI x78 (some x80) (some (.bool false))) fun x91 =>
 spanK x91 true h81 (fun k92 =>
 obind (fadK 4 x50) fun x95 =>
 obind (ld0 h81 x95) fun x96 =>
 obind (ixS 6 x96 (.int .i64 1)) fun x97 =>
 obind (fadK 4 x97) fun x98 =>
 obind (ld0 h81 x98) fun x99 =>
 obind (ixS 6 x99 (.int .i64 1)) fun x100 =>
 obind (fadK 1 x100) fun x101 =>
 obind (ld0 h81 x101) fun x102 =>
 obind (binS .eql x102 (.str ⟨1, 99⟩)) fun x103 =>
 k92 x103 h81) fun x93 h94 =>
 obind (pickI x91 (some x93) (some (.bool false))) fun x104 =>
 spanK x104 true h94 (fun k105 =>
 callP (cf 8 [] h94) .pan fun x108 h109 =>
 k105 x108 h109) fun x106 h107 =>
 obind (pickI x104 (some x106) (some (.bool false))) fun x110 =>
 .ok x110 h107)
 (obind (fadK 4 x50) fun x111 =>
 obind (ld0 h52 x111) fun x112 =>
 obind (ixS 6 x112 (.int .i64 1)) fun x113 =>
 obind (fadK 1 x113) fun x114 =>
 obind (ld0 h52 x114) fun x115 =>
 obind (binS .eql x115 (.str ⟨1, 99⟩)) fun x116 =>
 spanK x116 true h52 (fun k117 =>
 obind (fadK 4 x50) fun x120 =>
 obind (ld0 h52 x120) fun x121 =>
 obind (ixS 6 x121 (.int .i64 0)) fun x122 =>
 obind (fadK 4 x122) fun x123 =>
 obind (ld0 h52 x123) fun x124 =>
 obind (lenS x124) fun x125 =>
 obind (binN .eql x125 (.int .i64 2)) fun x126 =>
 k117 x126 h52) fun x118 h119 =>
 obind (pickI x116 (some x118) (some (.bool false))) fun x127 =>
 spanK x127 true h119 (fun k128 =>
 obind (fadK 4 x50) fun x131 =>
 obind (ld0 h119 x131) fun x132 =>
 obind (ixS 6 x132 (.int .i64 0)) fun x133 =>
 obind (fadK 4 x133) fun x134 =>
 obind (ld0 h119 x134) fun x135 =>
 obind (ixS 6 x135 (.int .i64 0)) fun x136 =>
 obind (fadK 1 x136) fun x137 =>
 obind (ld0 h119 x137) fun x138 =>
 obind (binS .eql x138 (.str ⟨1, 97⟩)) fun x139 =>
 k128 x139 h119) fun x129 h130 =>
 obind (pickI x127 (some x129) (some (.bool false))) fun x140 =>
 spanK x140 true h130 (fun k141 =>
 obind (fadK 4 x50) fun x144 =>
 obind (ld0 h130 x144) fun x145 =>
 obind (ixS 6 x145 (.int .i64 0)) fun x146 =>
 obind (fadK 4 x146) fun x147 =>
 obind (ld0 h130 x147) fun x148 =>
 obind (ixS 6 x148 (.int .i64 1)) fun x149 =>
 obind (fadK 1 x149) fun x150 =>
 obind (ld0 h130 x150) fun x151 =>
 obind (binS .eql x151 (.str ⟨1, 98⟩)) fun x152 =>
 k141 x152 h130) fun x142 h143 =>
 obind (pickI x140 (some x142) (some (.bool false))) fun x153 =>
 spanK x153 true h143 (fun k154 =>
 callP (cf 8 [] h143) .pan fun x157 h158 =>
 k154 x157 h158) fun x155 h156 =>
 obind (pickI x153 (some x155) (some (.bool false))) fun x159 =>
 .ok x159 h156)))
theorem e5_0 {T : Tab} {a0 a1 : IV} {h : H} {r : CRes} (e : t5_0 (CL T) (J5 T) a0 a1 h = r) (hr : r ≠ .fail) : J5 T 0 [a0, a1] h = r := fj_step (fn := Tryz.f5) (js := js5) (by kernel_rfl) e hr
theorem c5 {T : Tab} (hT : OvStep T) (ho : T.ov 5 = none) (hp : T.pol 5 = true) {a0 a1 : IV} {h : H} {r : CRes} (hg : Gd h) (e : t5_0 (CL T) (J5 T) a0 a1 h = r) (hr : r ≠ .fail) : CL T 5 [a0, a1] h = r := call_good ho Tryz.func5 rfl rfl rfl hp hg hT (e5_0 e hr) hr

-- silkworm/silkwormlaw04.tokens
def js7 : List Jn := [⟨[], [0]⟩]
noncomputable def J7 (T : Tab) : Rec := fj Tryz.prog (CL T) Tryz.f7 js7
noncomputable def t7_0 (cf : CallF) (R : Rec) (a0 : IV) (h : H) : CRes :=
 callP (cf 14 [a0] h) .pan fun x1 h2 =>
 obind (extractI x1 0) fun x3 =>
 obind (extractI x1 1) fun x4 =>
 obind (lenS x4) fun x5 =>
 obind (binN .gtr x5 (.int .i64 0)) fun x6 =>
 condK x6
 (.ok .nilSlice h2)
 (callP (cf 15 [x3] h2) .pan fun x7 h8 =>
 obind (extractI x7 0) fun x9 =>
 obind (extractI x7 1) fun x10 =>
 .ok x9 h8)
theorem e7_0 {T : Tab} {a0 : IV} {h : H} {r : CRes} (e : t7_0 (CL T) (J7 T) a0 h = r) (hr : r ≠ .fail) : J7 T 0 [a0] h = r := fj_step (fn := Tryz.f7) (js := js7) (by kernel_rfl) e hr
theorem c7 {T : Tab} (hT : OvStep T) (ho : T.ov 7 = none) (hp : T.pol 7 = true) {a0 : IV} {h : H} {r : CRes} (hg : Gd h) (e : t7_0 (CL T) (J7 T) a0 h = r) (hr : r ≠ .fail) : CL T 7 [a0] h = r := call_good ho Tryz.func7 rfl rfl rfl hp hg hT (e7_0 e hr) hr

-- silkworm/silkwormlaw04.awake
def js8 : List Jn := [⟨[], []⟩]
noncomputable def J8 (T : Tab) : Rec := fj Tryz.prog (CL T) Tryz.f8 js8
noncomputable def t8_0 (cf : CallF) (R : Rec) (h : H) : CRes :=
 callP (cf 7 [(.str ⟨53, 17163960309987569124399314031853738009149824436224791404141469678991163436868356090137537126711834568925267493767973721652621165⟩)] h) .pan fun x1 h2 =>
 callP (cf 9 [x1] h2) .pan fun x3 h4 =>
 obind (extractI x3 0) fun x5 =>
 obind (extractI x3 1) fun x6 =>
 callP (cf 7 [(.str ⟨34, 3006478903014711473306987865463408888448740812806205076923340402637275678128762733⟩)] h4) .pan fun x7 h8 =>
 callP (cf 9 [x7] h8) .pan fun x9 h10 =>
 obind (extractI x9 0) fun x11 =>
 obind (extractI x9 1) fun x12 =>
 obind (lenS x6) fun x13 =>
 obind (binN .eql x13 (.int .i64 0)) fun x14 =>
 spanK x14 true h10 (fun k15 =>
 obind (lenS x5) fun x18 =>
 obind (binN .eql x18 (.int .i64 1)) fun x19 =>
 k15 x19 h10) fun x16 h17 =>
 obind (pickI x14 (some x16) (some (.bool false))) fun x20 =>
 spanK x20 true h17 (fun k21 =>
 obind (ixS 5 x5 (.int .i64 0)) fun x24 =>
 obind (fadK 2 x24) fun x25 =>
 obind (ld0 h17 x25) fun x26 =>
 obind (lenS x26) fun x27 =>
 obind (binN .eql x27 (.int .i64 2)) fun x28 =>
 k21 x28 h17) fun x22 h23 =>
 obind (pickI x20 (some x22) (some (.bool false))) fun x29 =>
 spanK x29 true h23 (fun k30 =>
 obind (ixS 5 x5 (.int .i64 0)) fun x33 =>
 obind (fadK 3 x33) fun x34 =>
 obind (ld0 h23 x34) fun x35 =>
 obind (lenS x35) fun x36 =>
 obind (binN .eql x36 (.int .i64 1)) fun x37 =>
 k30 x37 h23) fun x31 h32 =>
 obind (pickI x29 (some x31) (some (.bool false))) fun x38 =>
 spanK x38 true h32 (fun k39 =>
 obind (ixS 5 x5 (.int .i64 0)) fun x42 =>
 obind (fadK 3 x42) fun x43 =>
 obind (ld0 h32 x43) fun x44 =>
 obind (ixS 48 x44 (.int .i64 0)) fun x45 =>
 obind (fadK 23 x45) fun x46 =>
 obind (fadK 0 x46) fun x47 =>
 obind (ld0 h32 x47) fun x48 =>
 obind (binN .eql x48 (.int .i64 7)) fun x49 =>
 k39 x49 h32) fun x40 h41 =>
 obind (pickI x38 (some x40) (some (.bool false))) fun x50 =>
 spanK x50 true h41 (fun k51 =>
 obind (lenS x12) fun x54 =>
 obind (binN .eql x54 (.int .i64 1)) fun x55 =>
 k51 x55 h41) fun x52 h53 =>
 obind (pickI x50 (some x52) (some (.bool false))) fun x56 =>
 spanK x56 true h53 (fun k57 =>
 obind (ixS 2 x12 (.int .i64 0)) fun x60 =>
 obind (ldA 2 h53 x60) fun x61 =>
 obind (bldK [(.int .i64 0), (.int .i64 0)] [(0, 1), (1, 1)] [(0, (.int .i64 25)), (1, (.int .i64 40))]) fun x62 =>
 obind (binK Tryz.prog h53 .eql 36 false false x61 x62) fun x63 =>
 k57 x63 h53) fun x58 h59 =>
 obind (pickI x56 (some x58) (some (.bool false))) fun x64 =>
 .ok x64 h59
theorem e8_0 {T : Tab} {h : H} {r : CRes} (e : t8_0 (CL T) (J8 T) h = r) (hr : r ≠ .fail) : J8 T 0 [] h = r := fj_step (fn := Tryz.f8) (js := js8) (by kernel_rfl) e hr
theorem c8 {T : Tab} (hT : OvStep T) (ho : T.ov 8 = none) (hp : T.pol 8 = true) {h : H} {r : CRes} (hg : Gd h) (e : t8_0 (CL T) (J8 T) h = r) (hr : r ≠ .fail) : CL T 8 [] h = r := call_good ho Tryz.func8 rfl rfl rfl hp hg hT (e8_0 e hr) hr

-- silkworm/syntax.Parse
def js9 : List Jn := [⟨[], [0]⟩, ⟨[0, 1, 0, 1, 1, 1, 1], [2, 3, 4, 5]⟩]
noncomputable def J9 (T : Tab) : Rec := fj Tryz.prog (CL T) Tryz.f9 js9
noncomputable def J9d (T : Tab) (d0 d1 : IV) : Rec := fj1 Tryz.prog (CL T) Tryz.f9 js9 16 [d0, d1]
noncomputable def t9_0 (cf : CallF) (R : Rec) (a0 : IV) (h : H) : CRes :=
 obind2 (newI h [.nilSlice]) fun x1 h2 =>
 obind2 (newI h2 [.nilSlice]) fun x3 h4 =>
 obind (lenS a0) fun x5 =>
 obind (binN .eql x5 (.int .i64 0)) fun x6 =>
 spanK x6 false h4 (fun k7 =>
 obind (lenS a0) fun x10 =>
 obind (binN .sub x10 (.int .i64 1)) fun x11 =>
 obind (ixS 3 a0 x11) fun x12 =>
 obind (fadK 0 x12) fun x13 =>
 obind (ld0 h4 x13) fun x14 =>
 obind (binN .neq x14 (.int .i64 6)) fun x15 =>
 k7 x15 h4) fun x8 h9 =>
 obind (pickI x6 (some (.bool true)) (some x8)) fun x16 =>
 condK x16
 (obind (bldK [(.int .i64 0), (.int .i64 0)] [(0, 1), (1, 1)] [(1, (.int .i64 1))]) fun x17 =>
 obind2 (bslK false 2 [(.int .i64 0), (.int .i64 0)] 1 [(0, x17)] h9) fun x18 h19 =>
 obindH (stA 1 h19 x1 .nilSlice) fun h20 =>
 obindH (stA 1 h20 x3 x18) fun h21 =>
 obind (ld0 h21 x1) fun x22 =>
 obind (ld0 h21 x3) fun x23 =>
 .ok (.tup [x22, x23]) h21)
 (obind (bldK [.nilSlice] [(0, 1)] [(0, a0)]) fun x24 =>
 obind2 (newI h9 (IV.cells x24)) fun x25 h26 =>
 fj1 Tryz.prog cf Tryz.f9 js9 16 [x1, x3] 1 [x1, x3, x25, (.bool true)] h26)
theorem e9_0 {T : Tab} {a0 : IV} {h : H} {r : CRes} (e : t9_0 (CL T) (J9 T) a0 h = r) (hr : r ≠ .fail) : J9 T 0 [a0] h = r := fj_step (fn := Tryz.f9) (js := js9) (by kernel_rfl) e hr
noncomputable def t9_1d (cf : CallF) (R : Rec) (d0 d1 a2 a3 a4 a5 : IV) (h : H) : CRes :=
 spanK a5 false h (fun k27 =>
 obind2 (bslK false 1 [(.str ⟨0, 0⟩)] 1 [(0, (.str ⟨0, 0⟩))] h) fun x30 h31 =>
 callP (cf 17 [a4, x30] h31) (dfP (LV Tryz.prog cf 16 [d0, d1]) fun h32 =>
 obind (ld0 h32 a2) fun x33 =>
 obind (ld0 h32 a3) fun x34 =>
 .ok (.tup [x33, x34]) h32) fun x35 h36 =>
 obind (unI .not x35) fun x37 =>
 k27 x37 h36) fun x28 h29 =>
 obind (pickI a5 (some (.bool true)) (some x28)) fun x38 =>
 condK x38
 (obind (ld0 h29 a2) fun x39 =>
 callP (cf 18 [a4] h29) (fun v40 h41 =>
 (dfP (LV Tryz.prog cf 16 [d0, d1]) fun h42 =>
 obind (ld0 h42 a2) fun x43 =>
 obind (ld0 h42 a3) fun x44 =>
 .ok (.tup [x43, x44]) h42) v40 h41) fun x45 h46 =>
 obind (ld0 h46 a2) fun x47 =>
 bif IV.beq x47 x39 then
 obind2 (bslK false 5 z1 1 [(0, x45)] h46) fun x48 h49 =>
 obind (ld0 h49 a2) fun x50 =>
 bif IV.beq x50 x39 then
 obind2 (appK 5 96 h49 x39 x48) fun x51 h52 =>
 obindH (stA 1 h52 a2 x51) fun h53 =>
 R 1 [a2, a3, a4, (.bool false)] h53
 else .fail
 else .fail)
 (obind (ld0 h29 a2) fun x54 =>
 obindH (stA 1 h29 a2 x54) fun h55 =>
 obindH (stA 1 h55 a3 .nilSlice) fun h56 =>
 dfK (LV Tryz.prog cf 16 [d0, d1] .ret h56) fun h57 =>
 obind (ld0 h57 a2) fun x58 =>
 obind (ld0 h57 a3) fun x59 =>
 .ok (.tup [x58, x59]) h57)
theorem e9_1d {T : Tab} {d0 d1 a2 a3 a4 a5 : IV} {h : H} {r : CRes} (e : t9_1d (CL T) (J9d T d0 d1) d0 d1 a2 a3 a4 a5 h = r) (hr : r ≠ .fail) : J9d T d0 d1 1 [a2, a3, a4, a5] h = r := fj1_step (fn := Tryz.f9) (js := js9) (by kernel_rfl) e hr
theorem c9 {T : Tab} (hT : OvStep T) (ho : T.ov 9 = none) (hp : T.pol 9 = true) {a0 : IV} {h : H} {r : CRes} (hg : Gd h) (e : t9_0 (CL T) (J9 T) a0 h = r) (hr : r ≠ .fail) : CL T 9 [a0] h = r := call_good ho Tryz.func9 rfl rfl rfl hp hg hT (e9_0 e hr) hr

-- silkworm/silkwormref02.SameDiags
def js12 : List Jn := [⟨[], [0, 1]⟩, ⟨[0, 1, 0, 1, 1], [0, 1, 5]⟩]
noncomputable def J12 (T : Tab) : Rec := fj Tryz.prog (CL T) Tryz.f12 js12
noncomputable def t12_0 (cf : CallF) (R : Rec) (a0 a1 : IV) (h : H) : CRes :=
 obind (lenS a0) fun x1 =>
 obind (lenS a1) fun x2 =>
 obind (binN .neq x1 x2) fun x3 =>
 condK x3
 (.ok (.bool false) h)
 (R 1 [a0, a1, (.int .i64 0)] h)
theorem e12_0 {T : Tab} {a0 a1 : IV} {h : H} {r : CRes} (e : t12_0 (CL T) (J12 T) a0 a1 h = r) (hr : r ≠ .fail) : J12 T 0 [a0, a1] h = r := fj_step (fn := Tryz.f12) (js := js12) (by kernel_rfl) e hr
noncomputable def t12_1 (cf : CallF) (R : Rec) (a0 a1 a5 : IV) (h : H) : CRes :=
 obind (lenS a0) fun x4 =>
 obind (binN .lss a5 x4) fun x5 =>
 condK x5
 (obind (ixS 2 a0 a5) fun x6 =>
 obind (ldA 2 h x6) fun x7 =>
 obind (ixS 2 a1 a5) fun x8 =>
 obind (ldA 2 h x8) fun x9 =>
 obind (binK Tryz.prog h .neq 36 false false x7 x9) fun x10 =>
 condK x10
 (.ok (.bool false) h)
 (obind (binN .add a5 (.int .i64 1)) fun x11 =>
 R 1 [a0, a1, x11] h))
 (.ok (.bool true) h)
theorem e12_1 {T : Tab} {a0 a1 a5 : IV} {h : H} {r : CRes} (e : t12_1 (CL T) (J12 T) a0 a1 a5 h = r) (hr : r ≠ .fail) : J12 T 1 [a0, a1, a5] h = r := fj_step (fn := Tryz.f12) (js := js12) (by kernel_rfl) e hr
theorem c12 {T : Tab} (hT : OvStep T) (ho : T.ov 12 = none) (hp : T.pol 12 = true) {a0 a1 : IV} {h : H} {r : CRes} (hg : Gd h) (e : t12_0 (CL T) (J12 T) a0 a1 h = r) (hr : r ≠ .fail) : CL T 12 [a0, a1] h = r := call_good ho Tryz.func12 rfl rfl rfl hp hg hT (e12_0 e hr) hr

-- silkworm/silkwormref02.Lex
def js14 : List Jn := [⟨[], [0]⟩, ⟨[0, 0, 1, 1, 1, 1, 1], [0, 4, 5, 6]⟩, ⟨[1, 1, 0, 1, 0, 0, 0, 1, 1, 1, 1, 1], [0, 4, 5, 6]⟩]
noncomputable def J14 (T : Tab) : Rec := fj Tryz.prog (CL T) Tryz.f14 js14
noncomputable def t14_0 (cf : CallF) (R : Rec) (a0 : IV) (h : H) : CRes :=
 obind (lenStr a0) fun x1 =>
 obind (binN .gtr x1 (.int .i64 65536)) fun x2 =>
 condK x2
 (callP (cf 24 [(.int .i64 0), (.int .i64 4)] h) .pan fun x3 h4 =>
 .ok (.tup [.nilSlice, x3]) h4)
 (R 1 [a0, .nilSlice, (.bool false), (.int .i64 0)] h)
theorem e14_0 {T : Tab} {a0 : IV} {h : H} {r : CRes} (e : t14_0 (CL T) (J14 T) a0 h = r) (hr : r ≠ .fail) : J14 T 0 [a0] h = r := fj_step (fn := Tryz.f14) (js := js14) (by kernel_rfl) e hr
noncomputable def t14_1 (cf : CallF) (R : Rec) (a0 a4 a5 a6 : IV) (h : H) : CRes :=
 obind (lenStr a0) fun x5 =>
 obind (binN .lss a6 x5) fun x6 =>
 condK x6
 (obind (ixStr a0 a6) fun x7 =>
 obind (binN .eql x7 (.int .u8 10)) fun x8 =>
 spanK x8 true h (fun k9 =>
 k9 a5 h) fun x10 h11 =>
 obind (pickI x8 (some x10) (some (.bool false))) fun x12 =>
 condK x12
 (obind (bldK z2 p3 [(0, (.int .i64 5)), (2, a6)]) fun x13 =>
 obind2 (bslK false 3 z2 1 [(0, x13)] h11) fun x14 h15 =>
 obind2 (appK 3 32 h15 a4 x14) fun x16 h17 =>
 obind (binN .add a6 (.int .i64 1)) fun x18 =>
 R 2 [a0, x16, (.bool false), x18] h17)
 (obind (binN .eql x7 (.int .u8 32)) fun x19 =>
 spanK x19 false h11 (fun k20 =>
 obind (binN .eql x7 (.int .u8 9)) fun x23 =>
 k20 x23 h11) fun x21 h22 =>
 obind (pickI x19 (some (.bool true)) (some x21)) fun x24 =>
 spanK x24 false h22 (fun k25 =>
 obind (binN .eql x7 (.int .u8 10)) fun x28 =>
 k25 x28 h22) fun x26 h27 =>
 obind (pickI x24 (some (.bool true)) (some x26)) fun x29 =>
 spanK x29 false h27 (fun k30 =>
 obind (binN .eql x7 (.int .u8 13)) fun x33 =>
 k30 x33 h27) fun x31 h32 =>
 obind (pickI x29 (some (.bool true)) (some x31)) fun x34 =>
 condK x34
 (obind (binN .add a6 (.int .i64 1)) fun x35 =>
 R 1 [a0, a4, a5, x35] h32)
 (callP (cf 25 [a0, a6, (.str ⟨2, 12079⟩)] h32) .pan fun x36 h37 =>
 spanK x36 false h37 (fun k38 =>
 callP (cf 25 [a0, a6, (.str ⟨2, 10799⟩)] h37) .pan fun x41 h42 =>
 k38 x41 h42) fun x39 h40 =>
 obind (pickI x36 (some (.bool true)) (some x39)) fun x43 =>
 condK x43
 (callP (cf 26 [a0, a6] h40) .pan fun x44 h45 =>
 obind (binN .lss x44 (.int .i64 0)) fun x46 =>
 condK x46
 (callP (cf 24 [a6, (.int .i64 20)] h45) .pan fun x47 h48 =>
 .ok (.tup [.nilSlice, x47]) h48)
 (R 1 [a0, a4, a5, x44] h45))
 (callP (cf 27 [a0, a6] h40) .pan fun x49 h50 =>
 obind (extractI x49 0) fun x51 =>
 obind (extractI x49 1) fun x52 =>
 obind (extractI x49 2) fun x53 =>
 obind2 (newI h50 z2) fun x54 h55 =>
 obindH (stA 3 h55 x54 x51) fun h56 =>
 obind (binN .neq x53 (.int .i64 0)) fun x57 =>
 condK x57
 (callP (cf 24 [a6, x53] h56) .pan fun x58 h59 =>
 .ok (.tup [.nilSlice, x58]) h59)
 (spanK a5 false h56 (fun k60 =>
 obind (fadK 0 x54) fun x63 =>
 obind (ld0 h56 x63) fun x64 =>
 obind (binN .eql x64 (.int .i64 4)) fun x65 =>
 k60 x65 h56) fun x61 h62 =>
 spanK x61 true h62 (fun k66 =>
 obind (fadK 1 x54) fun x69 =>
 obind (ld0 h62 x69) fun x70 =>
 obind (binS .eql x70 (.str ⟨6, 111524889126244⟩)) fun x71 =>
 k66 x71 h62) fun x67 h68 =>
 spanK a5 false h68 (fun k72 =>
 obind (pickI x61 (some x67) (some (.bool false))) fun x75 =>
 k72 x75 h68) fun x73 h74 =>
 obind (pickI a5 (some (.bool true)) (some x73)) fun x76 =>
 obind (ldA 3 h74 x54) fun x77 =>
 obind2 (bslK false 3 z2 1 [(0, x77)] h74) fun x78 h79 =>
 obind2 (appK 3 32 h79 a4 x78) fun x80 h81 =>
 R 2 [a0, x80, x76, x52] h81)))))
 (obind (lenStr a0) fun x82 =>
 obind (bldK z2 p3 [(0, (.int .i64 6)), (2, x82)]) fun x83 =>
 obind2 (bslK false 3 z2 1 [(0, x83)] h) fun x84 h85 =>
 obind2 (appK 3 32 h85 a4 x84) fun x86 h87 =>
 .ok (.tup [x86, .nilSlice]) h87)
theorem e14_1 {T : Tab} {a0 a4 a5 a6 : IV} {h : H} {r : CRes} (e : t14_1 (CL T) (J14 T) a0 a4 a5 a6 h = r) (hr : r ≠ .fail) : J14 T 1 [a0, a4, a5, a6] h = r := fj_step (fn := Tryz.f14) (js := js14) (by kernel_rfl) e hr
noncomputable def t14_2 (cf : CallF) (R : Rec) (a0 a4 a5 a6 : IV) (h : H) : CRes :=
 obind (lenS a4) fun x88 =>
 obind (binN .gtr x88 (.int .i64 16384)) fun x89 =>
 condK x89
 (obind (lenS a4) fun x90 =>
 obind (binN .sub x90 (.int .i64 1)) fun x91 =>
 obind (ixS 3 a4 x91) fun x92 =>
 obind (fadK 2 x92) fun x93 =>
 obind (ld0 h x93) fun x94 =>
 callP (cf 24 [x94, (.int .i64 2)] h) .pan fun x95 h96 =>
 .ok (.tup [.nilSlice, x95]) h96)
 (R 1 [a0, a4, a5, a6] h)
theorem e14_2 {T : Tab} {a0 a4 a5 a6 : IV} {h : H} {r : CRes} (e : t14_2 (CL T) (J14 T) a0 a4 a5 a6 h = r) (hr : r ≠ .fail) : J14 T 2 [a0, a4, a5, a6] h = r := fj_step (fn := Tryz.f14) (js := js14) (by kernel_rfl) e hr
theorem c14 {T : Tab} (hT : OvStep T) (ho : T.ov 14 = none) (hp : T.pol 14 = true) {a0 : IV} {h : H} {r : CRes} (hg : Gd h) (e : t14_0 (CL T) (J14 T) a0 h = r) (hr : r ≠ .fail) : CL T 14 [a0] h = r := call_good ho Tryz.func14 rfl rfl rfl hp hg hT (e14_0 e hr) hr

-- silkworm/silkwormref03.Run
def js15 : List Jn := [⟨[], [0]⟩, ⟨[0, 1, 0, 1, 1], [0, 4]⟩, ⟨[1, 1, 0, 0, 1, 0, 1, 1], [0, 4]⟩]
noncomputable def J15 (T : Tab) : Rec := fj Tryz.prog (CL T) Tryz.f15 js15
noncomputable def t15_0 (cf : CallF) (R : Rec) (a0 : IV) (h : H) : CRes :=
 obind (bldK z4 p5 [(0, a0)]) fun x1 =>
 obind2 (newI h (IV.cells x1)) fun x2 h3 =>
 obind (nilI x2) fun x4 =>
 obind (fadK 1 x4) fun x5 =>
 obindH (stA 1 h3 x5 (.int .i64 0)) fun h6 =>
 R 1 [a0, x2] h6
theorem e15_0 {T : Tab} {a0 : IV} {h : H} {r : CRes} (e : t15_0 (CL T) (J15 T) a0 h = r) (hr : r ≠ .fail) : J15 T 0 [a0] h = r := fj_step (fn := Tryz.f15) (js := js15) (by kernel_rfl) e hr
noncomputable def t15_1 (cf : CallF) (R : Rec) (a0 a4 : IV) (h : H) : CRes :=
 obind (nilI a4) fun x7 =>
 obind (fadK 1 x7) fun x8 =>
 obind (ld0 h x8) fun x9 =>
 obind (lenS a0) fun x10 =>
 obind (binN .lss x9 x10) fun x11 =>
 spanK x11 true h (fun k12 =>
 obind (nilI a4) fun x15 =>
 obind (fadK 6 x15) fun x16 =>
 obind (fadK 1 x16) fun x17 =>
 obind (ld0 h x17) fun x18 =>
 obind (binN .eql x18 (.int .i64 0)) fun x19 =>
 k12 x19 h) fun x13 h14 =>
 obind (pickI x11 (some x13) (some (.bool false))) fun x20 =>
 condK x20
 (obind (nilI a4) fun x21 =>
 obind (fadK 1 x21) fun x22 =>
 obind (ld0 h14 x22) fun x23 =>
 obind (ixS 3 a0 x23) fun x24 =>
 obind (ldA 3 h14 x24) fun x25 =>
 obind2 (newI h14 z2) fun x26 h27 =>
 obindH (stA 3 h27 x26 x25) fun h28 =>
 obind (fadK 0 x26) fun x29 =>
 obind (ld0 h28 x29) fun x30 =>
 obind (binN .eql x30 (.int .i64 5)) fun x31 =>
 condK x31
 (R 2 [a0, a4] h28)
 (obind (fadK 0 x26) fun x32 =>
 obind (ld0 h28 x32) fun x33 =>
 obind (binN .eql x33 (.int .i64 4)) fun x34 =>
 spanK x34 true h28 (fun k35 =>
 obind (fadK 1 x26) fun x38 =>
 obind (ld0 h28 x38) fun x39 =>
 callP (cf 28 [x39] h28) .pan fun x40 h41 =>
 k35 x40 h41) fun x36 h37 =>
 obind (pickI x34 (some x36) (some (.bool false))) fun x42 =>
 condK x42
 (obind (ldA 3 h37 x26) fun x43 =>
 callP (cf 29 [a4, x43] h37) .pan fun x44 h45 =>
 R 2 [a0, a4] h45)
 (obind (fadK 0 x26) fun x46 =>
 obind (ld0 h37 x46) fun x47 =>
 obind (binN .eql x47 (.int .i64 6)) fun x48 =>
 condK x48
 (obind (nilI a4) fun x49 =>
 obind (fadK 3 x49) fun x50 =>
 obind (ld0 h37 x50) fun x51 =>
 obind (lenS x51) fun x52 =>
 obind (binN .gtr x52 (.int .i64 0)) fun x53 =>
 condK x53
 (obind (nilI a4) fun x54 =>
 obind (fadK 3 x54) fun x55 =>
 obind (ld0 h37 x55) fun x56 =>
 obind (ixS 4 x56 (.int .i64 0)) fun x57 =>
 obind (fadK 0 x57) fun x58 =>
 obind (ld0 h37 x58) fun x59 =>
 callP (cf 30 [a4, x59, (.int .i64 30)] h37) .pan fun x60 h61 =>
 R 2 [a0, a4] h61)
 (R 2 [a0, a4] h37))
 (callP (cf 31 [a4] h37) .pan fun x62 h63 =>
 obind (unI .not x62) fun x64 =>
 condK x64
 (R 2 [a0, a4] h63)
 (obind (ldA 3 h63 x26) fun x65 =>
 callP (cf 32 [x65] h63) .pan fun x66 h67 =>
 condK x66
 (obind (ldA 3 h67 x26) fun x68 =>
 callP (cf 33 [a4, x68] h67) .pan fun x69 h70 =>
 R 2 [a0, a4] h70)
 (obind (fadK 0 x26) fun x71 =>
 obind (ld0 h67 x71) fun x72 =>
 obind (binN .eql x72 (.int .i64 4)) fun x73 =>
 condK x73
 (obind (nilI a4) fun x74 =>
 obind (fadK 5 x74) fun x75 =>
 obindH (stA 1 h67 x75 (.int .i64 0)) fun h76 =>
 obind (fadK 1 x26) fun x77 =>
 obind (ld0 h76 x77) fun x78 =>
 obind (fadK 2 x26) fun x79 =>
 obind (ld0 h76 x79) fun x80 =>
 callP (cf 34 [a4, x78, x80] h76) .pan fun x81 h82 =>
 R 2 [a0, a4] h82)
 (obind (ldA 3 h67 x26) fun x83 =>
 callP (cf 35 [a4, x83] h67) .pan fun x84 h85 =>
 R 2 [a0, a4] h85)))))))
 (obind (nilI a4) fun x86 =>
 obind (fadK 6 x86) fun x87 =>
 obind (fadK 1 x87) fun x88 =>
 obind (ld0 h14 x88) fun x89 =>
 obind (binN .neq x89 (.int .i64 0)) fun x90 =>
 condK x90
 (obind (nilI a4) fun x91 =>
 obind (fadK 6 x91) fun x92 =>
 obind (ldA 2 h14 x92) fun x93 =>
 obind2 (bslK false 2 [(.int .i64 0), (.int .i64 0)] 1 [(0, x93)] h14) fun x94 h95 =>
 .ok (.tup [.nilSlice, x94]) h95)
 (obind (nilI a4) fun x96 =>
 obind (fadK 4 x96) fun x97 =>
 obind (ld0 h14 x97) fun x98 =>
 obind (lenS a0) fun x99 =>
 obind (binN .sub x99 (.int .i64 1)) fun x100 =>
 obind (ixS 3 a0 x100) fun x101 =>
 obind (fadK 2 x101) fun x102 =>
 obind (ld0 h14 x102) fun x103 =>
 obind (bldK z2 p3 [(0, (.int .i64 6)), (2, x103)]) fun x104 =>
 obind2 (bslK false 3 z2 1 [(0, x104)] h14) fun x105 h106 =>
 obind (ld0 h106 x97) fun x107 =>
 bif IV.beq x107 x98 then
 obind2 (appK 3 32 h106 x98 x105) fun x108 h109 =>
 .ok (.tup [x108, .nilSlice]) h109
 else .fail))
theorem e15_1 {T : Tab} {a0 a4 : IV} {h : H} {r : CRes} (e : t15_1 (CL T) (J15 T) a0 a4 h = r) (hr : r ≠ .fail) : J15 T 1 [a0, a4] h = r := fj_step (fn := Tryz.f15) (js := js15) (by kernel_rfl) e hr
noncomputable def t15_2 (cf : CallF) (R : Rec) (a0 a4 : IV) (h : H) : CRes :=
 obind (nilI a4) fun x110 =>
 obind (fadK 1 x110) fun x111 =>
 obind (ld0 h x111) fun x112 =>
 obind (binN .add x112 (.int .i64 1)) fun x113 =>
 obind (nilI a4) fun x114 =>
 obind (fadK 1 x114) fun x115 =>
 obindH (stA 1 h x115 x113) fun h116 =>
 R 1 [a0, a4] h116
theorem e15_2 {T : Tab} {a0 a4 : IV} {h : H} {r : CRes} (e : t15_2 (CL T) (J15 T) a0 a4 h = r) (hr : r ≠ .fail) : J15 T 2 [a0, a4] h = r := fj_step (fn := Tryz.f15) (js := js15) (by kernel_rfl) e hr
theorem c15 {T : Tab} (hT : OvStep T) (ho : T.ov 15 = none) (hp : T.pol 15 = true) {a0 : IV} {h : H} {r : CRes} (hg : Gd h) (e : t15_0 (CL T) (J15 T) a0 h = r) (hr : r ≠ .fail) : CL T 15 [a0] h = r := call_good ho Tryz.func15 rfl rfl rfl hp hg hT (e15_0 e hr) hr

-- silkworm/syntax.Parse$1
def js16 : List Jn := [⟨[1], [0, 1, 5]⟩]
noncomputable def J16 (T : Tab) : Rec := cj Tryz.prog (CL T) Tryz.f16 js16
noncomputable def t16_0 (cf : CallF) (R : Rec) (a0 a1 a5 : IV) (h : H) : CRes :=
 obind (eqIf .eql true a5 .nilIface) fun x1 =>
 condK x1
 (.ok (.tup []) h)
 (obind (assertI 58 true (some (.agg [(.int .i64 0), (.int .i64 0)])) a5) fun x2 =>
 obind (extractI x2 1) fun x3 =>
 obind (extractI x2 0) fun x4 =>
 condK x3
 (obind2 (newI h [(.int .i64 0), (.int .i64 0)]) fun x5 h6 =>
 obindH (stA 2 h6 x5 x4) fun h7 =>
 obindH (stA 1 h7 a0 .nilSlice) fun h8 =>
 obind (fadK 0 x5) fun x9 =>
 obind (ldA 2 h7 x9) fun x10 =>
 obind (ldA 2 h8 x9) fun x11 =>
 bif IV.beq x11 x10 then
 obind (fadK 0 x5) fun x12 =>
 obind (ldA 2 h7 x12) fun x13 =>
 obind2 (bslK false 2 [(.int .i64 0), (.int .i64 0)] 1 [(0, x13)] h7) fun x14 h15 =>
 obindH (stA 1 h15 a0 .nilSlice) fun h16 =>
 obindH (stA 1 h16 a1 x14) fun h17 =>
 .ok (.tup []) h17
 else .fail)
 (panK a5 h nop))
theorem e16_0 {T : Tab} {a0 a1 a5 : IV} {h : H} {r : CRes} (e : t16_0 (CL T) (J16 T) a0 a1 a5 h = r) (hr : r ≠ .fail) : J16 T 0 [a0, a1, a5] h = r := cj_step (fn := Tryz.f16) (js := js16) (by kernel_rfl) e hr
theorem l16 {T : Tab} {a0 a1 : IV} {st : I.Mode} {h h' : H} {v : IV} (hst : st ≠ .done) (e : t16_0 (CL T) (J16 T) a0 a1 (recV st) h = .ok v h') : LV Tryz.prog (CL T) 16 [a0, a1] st h = some (.ret, h') := LV_of Tryz.func16 rfl rfl rfl (of_decide_eq_true (by kernel_rfl)) hst rfl rfl (of_decide_eq_true (by kernel_rfl)) (e16_0 e (by simp))

-- (*silkworm/syntax.parser).is
def js17 : List Jn := [⟨[], [0, 1]⟩, ⟨[0, 1, 0, 1, 1], [5, 14, 15, 16]⟩]
noncomputable def J17 (T : Tab) : Rec := fj Tryz.prog (CL T) Tryz.f17 js17
noncomputable def t17_0 (cf : CallF) (R : Rec) (a0 a1 : IV) (h : H) : CRes :=
 callP (cf 36 [a0] h) .pan fun x1 h2 =>
 obind (extractI x1 0) fun x3 =>
 obind (extractI x1 1) fun x4 =>
 obind (lenS a1) fun x5 =>
 R 1 [x3, a1, x5, (.int .i64 0)] h2
theorem e17_0 {T : Tab} {a0 a1 : IV} {h : H} {r : CRes} (e : t17_0 (CL T) (J17 T) a0 a1 h = r) (hr : r ≠ .fail) : J17 T 0 [a0, a1] h = r := fj_step (fn := Tryz.f17) (js := js17) (by kernel_rfl) e hr
noncomputable def t17_1 (cf : CallF) (R : Rec) (a5 a14 a15 a16 : IV) (h : H) : CRes :=
 obind (binN .lss a16 a15) fun x6 =>
 condK x6
 (obind (ixS 1 a14 a16) fun x7 =>
 obind (ld0 h x7) fun x8 =>
 obind (binS .eql a5 x8) fun x9 =>
 condK x9
 (.ok (.bool true) h)
 (obind (binN .add a16 (.int .i64 1)) fun x10 =>
 R 1 [a5, a14, a15, x10] h))
 (.ok (.bool false) h)
theorem e17_1 {T : Tab} {a5 a14 a15 a16 : IV} {h : H} {r : CRes} (e : t17_1 (CL T) (J17 T) a5 a14 a15 a16 h = r) (hr : r ≠ .fail) : J17 T 1 [a5, a14, a15, a16] h = r := fj_step (fn := Tryz.f17) (js := js17) (by kernel_rfl) e hr
theorem c17 {T : Tab} (hT : OvStep T) (ho : T.ov 17 = none) (hp : T.pol 17 = true) {a0 a1 : IV} {h : H} {r : CRes} (hg : Gd h) (e : t17_0 (CL T) (J17 T) a0 a1 h = r) (hr : r ≠ .fail) : CL T 17 [a0, a1] h = r := call_good ho Tryz.func17 rfl rfl rfl hp hg hT (e17_0 e hr) hr

-- (*silkworm/syntax.parser).module
def js18 : List Jn := [⟨[], [0]⟩, ⟨[1, 1, 1, 1, 1], [0, 2, 3]⟩, ⟨[0, 1, 0, 1, 0, 1, 0, 1, 1, 1, 1], [0, 2, 3, 4]⟩, ⟨[1, 1, 1, 1, 1, 1, 1], [0, 2, 3]⟩, ⟨[0, 1, 0, 0, 1, 0, 1, 1, 1, 1, 1, 1], [0, 2, 3, 6]⟩]
noncomputable def J18 (T : Tab) : Rec := fj Tryz.prog (CL T) Tryz.f18 js18
noncomputable def t18_0 (cf : CallF) (R : Rec) (a0 : IV) (h : H) : CRes :=
 obind2 (newI h z1) fun x1 h2 =>
 callP (cf 37 [a0] h2) .pan fun x3 h4 =>
 obind (bldK z1 p6 [(4, x3)]) fun x5 =>
 obind2 (newI h4 z1) fun x6 h7 =>
 obindH (stA 5 h7 x6 x5) fun h8 =>
 obind2 (bslK false 1 [(.str ⟨0, 0⟩)] 1 [(0, (.str ⟨6, 111516500389741⟩))] h8) fun x9 h10 =>
 callP (cf 38 [a0, x9] h10) .pan fun x11 h12 =>
 callP (cf 39 [a0] h12) .pan fun x13 h14 =>
 obind (fadK 0 x6) fun x15 =>
 obindH (stA 1 h14 x15 x13) fun h16 =>
 callP (cf 40 [a0, (.str ⟨1, 35⟩)] h16) .pan fun x17 h18 =>
 condK x17
 (obind2 (bslK false 1 [(.str ⟨0, 0⟩)] 1 [(0, (.str ⟨1, 40⟩))] h18) fun x19 h20 =>
 callP (cf 38 [a0, x19] h20) .pan fun x21 h22 =>
 R 2 [a0, x1, x6, (.bool true)] h22)
 (R 1 [a0, x1, x6] h18)
theorem e18_0 {T : Tab} {a0 : IV} {h : H} {r : CRes} (e : t18_0 (CL T) (J18 T) a0 h = r) (hr : r ≠ .fail) : J18 T 0 [a0] h = r := fj_step (fn := Tryz.f18) (js := js18) (by kernel_rfl) e hr
noncomputable def t18_1 (cf : CallF) (R : Rec) (a0 a2 a3 : IV) (h : H) : CRes :=
 obind2 (bslK false 1 [(.str ⟨0, 0⟩)] 1 [(0, (.str ⟨1, 40⟩))] h) fun x23 h24 =>
 callP (cf 38 [a0, x23] h24) .pan fun x25 h26 =>
 callP (cf 40 [a0, (.str ⟨1, 41⟩)] h26) .pan fun x27 h28 =>
 obind (unI .not x27) fun x29 =>
 condK x29
 (R 4 [a0, a2, a3, (.bool true)] h28)
 (R 3 [a0, a2, a3] h28)
theorem e18_1 {T : Tab} {a0 a2 a3 : IV} {h : H} {r : CRes} (e : t18_1 (CL T) (J18 T) a0 a2 a3 h = r) (hr : r ≠ .fail) : J18 T 1 [a0, a2, a3] h = r := fj_step (fn := Tryz.f18) (js := js18) (by kernel_rfl) e hr
noncomputable def t18_2 (cf : CallF) (R : Rec) (a0 a2 a3 a4 : IV) (h : H) : CRes :=
 condK a4
 (obind2 (bslK false 1 [(.str ⟨0, 0⟩)] 1 [(0, (.str ⟨9, 2110239404018478768496⟩))] h) fun x30 h31 =>
 callP (cf 38 [a0, x30] h31) .pan fun x32 h33 =>
 callP (cf 37 [a0] h33) .pan fun x34 h35 =>
 callP (cf 39 [a0] h35) .pan fun x36 h37 =>
 obind (bldK z7 p8 [(2, x34), (0, x36)]) fun x38 =>
 obind2 (newI h37 z7) fun x39 h40 =>
 obindH (stA 8 h40 x39 x38) fun h41 =>
 obind2 (bslK false 1 [(.str ⟨0, 0⟩)] 1 [(0, (.str ⟨1, 61⟩))] h41) fun x42 h43 =>
 callP (cf 38 [a0, x42] h43) .pan fun x44 h45 =>
 callP (cf 41 [a0, (.int .i64 1)] h45) .pan fun x46 h47 =>
 obind (fadK 1 x39) fun x48 =>
 obindH (stA 6 h47 x48 x46) fun h49 =>
 obind (fadK 1 a3) fun x50 =>
 obind (ld0 h49 x50) fun x51 =>
 obind (ldA 8 h49 x39) fun x52 =>
 obind2 (bslK false 8 z7 1 [(0, x52)] h49) fun x53 h54 =>
 obind2 (appK 8 104 h54 x51 x53) fun x55 h56 =>
 obind (fadK 1 a3) fun x57 =>
 obindH (stA 1 h56 x57 x55) fun h58 =>
 callP (cf 40 [a0, (.str ⟨1, 44⟩)] h58) .pan fun x59 h60 =>
 R 2 [a0, a2, a3, x59] h60)
 (obind2 (bslK false 1 [(.str ⟨0, 0⟩)] 1 [(0, (.str ⟨1, 41⟩))] h) fun x61 h62 =>
 callP (cf 38 [a0, x61] h62) .pan fun x63 h64 =>
 R 1 [a0, a2, a3] h64)
theorem e18_2 {T : Tab} {a0 a2 a3 a4 : IV} {h : H} {r : CRes} (e : t18_2 (CL T) (J18 T) a0 a2 a3 a4 h = r) (hr : r ≠ .fail) : J18 T 2 [a0, a2, a3, a4] h = r := fj_step (fn := Tryz.f18) (js := js18) (by kernel_rfl) e hr
noncomputable def t18_3 (cf : CallF) (R : Rec) (a0 a2 a3 : IV) (h : H) : CRes :=
 obind2 (bslK false 1 [(.str ⟨0, 0⟩)] 1 [(0, (.str ⟨1, 59⟩))] h) fun x65 h66 =>
 callP (cf 38 [a0, x65] h66) .pan fun x67 h68 =>
 callP (cf 43 [a0, (.str ⟨9, 1870936414602775522917⟩), (.int .i64 1)] h68) .pan fun x69 h70 =>
 obind (fadK 3 a3) fun x71 =>
 obindH (stA 1 h70 x71 x69) fun h72 =>
 obind (ldA 5 h72 a3) fun x73 =>
 obindH (stA 5 h72 a2 x73) fun h74 =>
 obind (ldA 5 h74 a2) fun x75 =>
 .ok x75 h74
theorem e18_3 {T : Tab} {a0 a2 a3 : IV} {h : H} {r : CRes} (e : t18_3 (CL T) (J18 T) a0 a2 a3 h = r) (hr : r ≠ .fail) : J18 T 3 [a0, a2, a3] h = r := fj_step (fn := Tryz.f18) (js := js18) (by kernel_rfl) e hr
noncomputable def t18_4 (cf : CallF) (R : Rec) (a0 a2 a3 a6 : IV) (h : H) : CRes :=
 condK a6
 (obind (fadK 2 a3) fun x76 =>
 obind (ld0 h x76) fun x77 =>
 callP (cf 42 [a0] h) (fun v78 h79 =>
 .pan v78 h79) fun x80 h81 =>
 obind (ld0 h81 x76) fun x82 =>
 bif IV.beq x82 x77 then
 obind2 (bslK false 17 z9 1 [(0, x80)] h81) fun x83 h84 =>
 obind (ld0 h84 x76) fun x85 =>
 bif IV.beq x85 x77 then
 obind2 (appK 17 192 h84 x77 x83) fun x86 h87 =>
 obind (fadK 2 a3) fun x88 =>
 obindH (stA 1 h87 x88 x86) fun h89 =>
 callP (cf 40 [a0, (.str ⟨1, 44⟩)] h89) .pan fun x90 h91 =>
 R 4 [a0, a2, a3, x90] h91
 else .fail
 else .fail)
 (obind2 (bslK false 1 [(.str ⟨0, 0⟩)] 1 [(0, (.str ⟨1, 41⟩))] h) fun x92 h93 =>
 callP (cf 38 [a0, x92] h93) .pan fun x94 h95 =>
 R 3 [a0, a2, a3] h95)
theorem e18_4 {T : Tab} {a0 a2 a3 a6 : IV} {h : H} {r : CRes} (e : t18_4 (CL T) (J18 T) a0 a2 a3 a6 h = r) (hr : r ≠ .fail) : J18 T 4 [a0, a2, a3, a6] h = r := fj_step (fn := Tryz.f18) (js := js18) (by kernel_rfl) e hr
theorem c18 {T : Tab} (hT : OvStep T) (ho : T.ov 18 = none) (hp : T.pol 18 = true) {a0 : IV} {h : H} {r : CRes} (hg : Gd h) (e : t18_0 (CL T) (J18 T) a0 h = r) (hr : r ≠ .fail) : CL T 18 [a0] h = r := call_good ho Tryz.func18 rfl rfl rfl hp hg hT (e18_0 e hr) hr

-- silkworm/silkwormref02.fails
def js24 : List Jn := [⟨[], [0, 1]⟩]
noncomputable def J24 (T : Tab) : Rec := fj Tryz.prog (CL T) Tryz.f24 js24
noncomputable def t24_0 (cf : CallF) (R : Rec) (a0 a1 : IV) (h : H) : CRes :=
 obind (bldK [(.int .i64 0), (.int .i64 0)] [(0, 1), (1, 1)] [(0, a0), (1, a1)]) fun x1 =>
 obind2 (bslK false 2 [(.int .i64 0), (.int .i64 0)] 1 [(0, x1)] h) fun x2 h3 =>
 .ok x2 h3
theorem e24_0 {T : Tab} {a0 a1 : IV} {h : H} {r : CRes} (e : t24_0 (CL T) (J24 T) a0 a1 h = r) (hr : r ≠ .fail) : J24 T 0 [a0, a1] h = r := fj_step (fn := Tryz.f24) (js := js24) (by kernel_rfl) e hr
theorem c24 {T : Tab} (hT : OvStep T) (ho : T.ov 24 = none) (hp : T.pol 24 = true) {a0 a1 : IV} {h : H} {r : CRes} (hg : Gd h) (e : t24_0 (CL T) (J24 T) a0 a1 h = r) (hr : r ≠ .fail) : CL T 24 [a0, a1] h = r := call_good ho Tryz.func24 rfl rfl rfl hp hg hT (e24_0 e hr) hr

-- silkworm/silkwormref02.begins
def js25 : List Jn := [⟨[], [0, 1, 2]⟩]
noncomputable def J25 (T : Tab) : Rec := fj Tryz.prog (CL T) Tryz.f25 js25
noncomputable def t25_0 (cf : CallF) (R : Rec) (a0 a1 a2 : IV) (h : H) : CRes :=
 obind (lenStr a0) fun x1 =>
 obind (binN .sub x1 a1) fun x2 =>
 obind (lenStr a2) fun x3 =>
 obind (binN .geq x2 x3) fun x4 =>
 spanK x4 true h (fun k5 =>
 obind (lenStr a2) fun x8 =>
 obind (binN .add a1 x8) fun x9 =>
 obind (slcStr a0 (some a1) (some x9)) fun x10 =>
 obind (binS .eql x10 a2) fun x11 =>
 k5 x11 h) fun x6 h7 =>
 obind (pickI x4 (some x6) (some (.bool false))) fun x12 =>
 .ok x12 h7
theorem e25_0 {T : Tab} {a0 a1 a2 : IV} {h : H} {r : CRes} (e : t25_0 (CL T) (J25 T) a0 a1 a2 h = r) (hr : r ≠ .fail) : J25 T 0 [a0, a1, a2] h = r := fj_step (fn := Tryz.f25) (js := js25) (by kernel_rfl) e hr
theorem c25 {T : Tab} (hT : OvStep T) (ho : T.ov 25 = none) (hp : T.pol 25 = true) {a0 a1 a2 : IV} {h : H} {r : CRes} (hg : Gd h) (e : t25_0 (CL T) (J25 T) a0 a1 a2 h = r) (hr : r ≠ .fail) : CL T 25 [a0, a1, a2] h = r := call_good ho Tryz.func25 rfl rfl rfl hp hg hT (e25_0 e hr) hr

-- silkworm/silkwormref02.behind
def js26 : List Jn := [⟨[], [0, 1]⟩, ⟨[0, 0, 0, 1, 0, 1], [0, 1]⟩, ⟨[0, 1, 0, 1, 1, 1], [0, 5]⟩]
noncomputable def J26 (T : Tab) : Rec := fj Tryz.prog (CL T) Tryz.f26 js26
noncomputable def t26_0 (cf : CallF) (R : Rec) (a0 a1 : IV) (h : H) : CRes :=
 callP (cf 25 [a0, a1, (.str ⟨2, 12079⟩)] h) .pan fun x1 h2 =>
 condK x1
 (R 1 [a0, a1] h2)
 (callP (cf 25 [a0, a1, (.str ⟨2, 10799⟩)] h2) .pan fun x3 h4 =>
 obind (unI .not x3) fun x5 =>
 condK x5
 (.ok (.int .i64 (-1)) h4)
 (obind (binN .add a1 (.int .i64 2)) fun x6 =>
 R 2 [a0, x6] h4))
theorem e26_0 {T : Tab} {a0 a1 : IV} {h : H} {r : CRes} (e : t26_0 (CL T) (J26 T) a0 a1 h = r) (hr : r ≠ .fail) : J26 T 0 [a0, a1] h = r := fj_step (fn := Tryz.f26) (js := js26) (by kernel_rfl) e hr
noncomputable def t26_1 (cf : CallF) (R : Rec) (a0 a1 : IV) (h : H) : CRes :=
 obind (lenStr a0) fun x7 =>
 obind (binN .lss a1 x7) fun x8 =>
 spanK x8 true h (fun k9 =>
 obind (ixStr a0 a1) fun x12 =>
 obind (binN .neq x12 (.int .u8 10)) fun x13 =>
 k9 x13 h) fun x10 h11 =>
 obind (pickI x8 (some x10) (some (.bool false))) fun x14 =>
 condK x14
 (obind (binN .add a1 (.int .i64 1)) fun x15 =>
 R 1 [a0, x15] h11)
 (.ok a1 h11)
theorem e26_1 {T : Tab} {a0 a1 : IV} {h : H} {r : CRes} (e : t26_1 (CL T) (J26 T) a0 a1 h = r) (hr : r ≠ .fail) : J26 T 1 [a0, a1] h = r := fj_step (fn := Tryz.f26) (js := js26) (by kernel_rfl) e hr
noncomputable def t26_2 (cf : CallF) (R : Rec) (a0 a5 : IV) (h : H) : CRes :=
 obind (lenStr a0) fun x16 =>
 obind (binN .lss a5 x16) fun x17 =>
 condK x17
 (callP (cf 25 [a0, a5, (.str ⟨2, 12074⟩)] h) .pan fun x18 h19 =>
 condK x18
 (obind (binN .add a5 (.int .i64 2)) fun x20 =>
 .ok x20 h19)
 (obind (binN .add a5 (.int .i64 1)) fun x21 =>
 R 2 [a0, x21] h19))
 (.ok (.int .i64 (-1)) h)
theorem e26_2 {T : Tab} {a0 a5 : IV} {h : H} {r : CRes} (e : t26_2 (CL T) (J26 T) a0 a5 h = r) (hr : r ≠ .fail) : J26 T 2 [a0, a5] h = r := fj_step (fn := Tryz.f26) (js := js26) (by kernel_rfl) e hr
theorem c26 {T : Tab} (hT : OvStep T) (ho : T.ov 26 = none) (hp : T.pol 26 = true) {a0 a1 : IV} {h : H} {r : CRes} (hg : Gd h) (e : t26_0 (CL T) (J26 T) a0 a1 h = r) (hr : r ≠ .fail) : CL T 26 [a0, a1] h = r := call_good ho Tryz.func26 rfl rfl rfl hp hg hT (e26_0 e hr) hr

-- silkworm/silkwormref02.one
def js27 : List Jn := [⟨[], [0, 1]⟩, ⟨[1, 1, 1], [0, 1, 4, 7]⟩, ⟨[0, 0, 1, 0, 1, 0, 1, 1, 1], [0, 1, 4, 7, 8]⟩, ⟨[1, 1, 1, 1, 1, 0, 1, 0, 1, 1, 1], [0, 1, 4, 7, 8, 9]⟩, ⟨[0, 0, 0, 1, 0, 1, 1, 1, 1], [0, 1, 4, 7]⟩]
noncomputable def J27 (T : Tab) : Rec := fj Tryz.prog (CL T) Tryz.f27 js27
noncomputable def t27_0 (cf : CallF) (R : Rec) (a0 a1 : IV) (h : H) : CRes :=
 obind2 (newI h z2) fun x1 h2 =>
 obind (ixStr a0 a1) fun x3 =>
 obind (binN .eql x3 (.int .u8 96)) fun x4 =>
 condK x4
 (obind (binN .add a1 (.int .i64 1)) fun x5 =>
 R 1 [a0, a1, x1, x5] h2)
 (R 1 [a0, a1, x1, a1] h2)
theorem e27_0 {T : Tab} {a0 a1 : IV} {h : H} {r : CRes} (e : t27_0 (CL T) (J27 T) a0 a1 h = r) (hr : r ≠ .fail) : J27 T 0 [a0, a1] h = r := fj_step (fn := Tryz.f27) (js := js27) (by kernel_rfl) e hr
noncomputable def t27_1 (cf : CallF) (R : Rec) (a0 a1 a4 a7 : IV) (h : H) : CRes :=
 obind (lenStr a0) fun x6 =>
 obind (binN .lss a7 x6) fun x7 =>
 spanK x7 true h (fun k8 =>
 obind (ixStr a0 a7) fun x11 =>
 callP (cf 52 [x11] h) .pan fun x12 h13 =>
 k8 x12 h13) fun x9 h10 =>
 obind (pickI x7 (some x9) (some (.bool false))) fun x14 =>
 condK x14
 (R 2 [a0, a1, a4, a7, a7] h10)
 (obind (ixStr a0 a1) fun x15 =>
 callP (cf 54 [x15] h10) .pan fun x16 h17 =>
 condK x16
 (R 4 [a0, a1, a4, a7] h17)
 (callP (cf 56 [a0, a1] h17) .pan fun x18 h19 =>
 obind (binS .eql x18 (.str ⟨0, 0⟩)) fun x20 =>
 condK x20
 (obind (bldK z2 p3 []) fun x21 =>
 obindH (stA 3 h19 a4 x21) fun h22 =>
 obind (ldA 3 h22 a4) fun x23 =>
 .ok (.tup [x23, (.int .i64 0), (.int .i64 20)]) h22)
 (obind (bldK z2 p3 [(0, (.int .i64 3)), (1, x18), (2, a1)]) fun x24 =>
 obind (lenStr x18) fun x25 =>
 obind (binN .add a1 x25) fun x26 =>
 obindH (stA 3 h19 a4 x24) fun h27 =>
 obind (ldA 3 h27 a4) fun x28 =>
 .ok (.tup [x28, x26, (.int .i64 0)]) h27)))
theorem e27_1 {T : Tab} {a0 a1 a4 a7 : IV} {h : H} {r : CRes} (e : t27_1 (CL T) (J27 T) a0 a1 a4 a7 h = r) (hr : r ≠ .fail) : J27 T 1 [a0, a1, a4, a7] h = r := fj_step (fn := Tryz.f27) (js := js27) (by kernel_rfl) e hr
noncomputable def t27_2 (cf : CallF) (R : Rec) (a0 a1 a4 a7 a8 : IV) (h : H) : CRes :=
 obind (lenStr a0) fun x29 =>
 obind (binN .lss a7 x29) fun x30 =>
 spanK x30 true h (fun k31 =>
 obind (ixStr a0 a7) fun x34 =>
 callP (cf 53 [x34] h) .pan fun x35 h36 =>
 k31 x35 h36) fun x32 h33 =>
 obind (pickI x30 (some x32) (some (.bool false))) fun x37 =>
 condK x37
 (obind (binN .add a7 (.int .i64 1)) fun x38 =>
 R 2 [a0, a1, a4, x38, a8] h33)
 (obind (binN .sub a7 a8) fun x39 =>
 obind (binN .gtr x39 (.int .i64 64)) fun x40 =>
 condK x40
 (obind (bldK z2 p3 []) fun x41 =>
 obindH (stA 3 h33 a4 x41) fun h42 =>
 obind (ldA 3 h42 a4) fun x43 =>
 .ok (.tup [x43, (.int .i64 0), (.int .i64 4)]) h42)
 (obind (ixStr a0 a1) fun x44 =>
 obind (binN .eql x44 (.int .u8 96)) fun x45 =>
 condK x45
 (R 3 [a0, a1, a4, a7, a8, (.int .i64 4)] h33)
 (R 3 [a0, a1, a4, a7, a8, (.int .i64 1)] h33)))
theorem e27_2 {T : Tab} {a0 a1 a4 a7 a8 : IV} {h : H} {r : CRes} (e : t27_2 (CL T) (J27 T) a0 a1 a4 a7 a8 h = r) (hr : r ≠ .fail) : J27 T 2 [a0, a1, a4, a7, a8] h = r := fj_step (fn := Tryz.f27) (js := js27) (by kernel_rfl) e hr
noncomputable def t27_4 (cf : CallF) (R : Rec) (a0 a1 a4 a7 : IV) (h : H) : CRes :=
 obind (lenStr a0) fun x46 =>
 obind (binN .lss a7 x46) fun x47 =>
 spanK x47 true h (fun k48 =>
 obind (ixStr a0 a7) fun x51 =>
 callP (cf 53 [x51] h) .pan fun x52 h53 =>
 k48 x52 h53) fun x49 h50 =>
 spanK x49 false h50 (fun k54 =>
 obind (ixStr a0 a7) fun x57 =>
 obind (binN .eql x57 (.int .u8 39)) fun x58 =>
 k54 x58 h50) fun x55 h56 =>
 spanK x47 true h56 (fun k59 =>
 obind (pickI x49 (some (.bool true)) (some x55)) fun x62 =>
 k59 x62 h56) fun x60 h61 =>
 obind (pickI x47 (some x60) (some (.bool false))) fun x63 =>
 condK x63
 (obind (binN .add a7 (.int .i64 1)) fun x64 =>
 R 4 [a0, a1, a4, x64] h61)
 (obind (slcStr a0 (some a1) (some a7)) fun x65 =>
 callP (cf 55 [x65] h61) .pan fun x66 h67 =>
 obind (extractI x66 0) fun x68 =>
 obind (extractI x66 1) fun x69 =>
 obind (extractI x66 2) fun x70 =>
 obind (binN .neq x70 (.int .i64 0)) fun x71 =>
 condK x71
 (obind (bldK z2 p3 []) fun x72 =>
 obindH (stA 3 h67 a4 x72) fun h73 =>
 obind (ldA 3 h73 a4) fun x74 =>
 .ok (.tup [x74, (.int .i64 0), x70]) h73)
 (obind (slcStr a0 (some a1) (some a7)) fun x75 =>
 obind (bldK z2 p3 [(0, (.int .i64 2)), (1, x75), (2, a1)]) fun x76 =>
 obindH (stA 3 h67 a4 x76) fun h77 =>
 obind (ldA 3 h77 a4) fun x78 =>
 .ok (.tup [x78, a7, (.int .i64 0)]) h77))
theorem e27_4 {T : Tab} {a0 a1 a4 a7 : IV} {h : H} {r : CRes} (e : t27_4 (CL T) (J27 T) a0 a1 a4 a7 h = r) (hr : r ≠ .fail) : J27 T 4 [a0, a1, a4, a7] h = r := fj_step (fn := Tryz.f27) (js := js27) (by kernel_rfl) e hr
noncomputable def t27_3 (cf : CallF) (R : Rec) (a0 a1 a4 a7 a8 a9 : IV) (h : H) : CRes :=
 obind (slcStr a0 (some a8) (some a7)) fun x79 =>
 obind (bldK z2 p3 [(0, a9), (1, x79), (2, a1)]) fun x80 =>
 obindH (stA 3 h a4 x80) fun h81 =>
 obind (ldA 3 h81 a4) fun x82 =>
 .ok (.tup [x82, a7, (.int .i64 0)]) h81
theorem e27_3 {T : Tab} {a0 a1 a4 a7 a8 a9 : IV} {h : H} {r : CRes} (e : t27_3 (CL T) (J27 T) a0 a1 a4 a7 a8 a9 h = r) (hr : r ≠ .fail) : J27 T 3 [a0, a1, a4, a7, a8, a9] h = r := fj_step (fn := Tryz.f27) (js := js27) (by kernel_rfl) e hr
theorem c27 {T : Tab} (hT : OvStep T) (ho : T.ov 27 = none) (hp : T.pol 27 = true) {a0 a1 : IV} {h : H} {r : CRes} (hg : Gd h) (e : t27_0 (CL T) (J27 T) a0 a1 h = r) (hr : r ≠ .fail) : CL T 27 [a0, a1] h = r := call_good ho Tryz.func27 rfl rfl rfl hp hg hT (e27_0 e hr) hr

-- silkworm/silkwormref03.conditional
def js28 : List Jn := [⟨[], [0]⟩]
noncomputable def J28 (T : Tab) : Rec := fj Tryz.prog (CL T) Tryz.f28 js28
noncomputable def t28_0 (cf : CallF) (R : Rec) (a0 : IV) (h : H) : CRes :=
 obind (binS .eql a0 (.str ⟨5, 439787742825⟩)) fun x1 =>
 spanK x1 false h (fun k2 =>
 obind (binS .eql a0 (.str ⟨6, 112585662686825⟩)) fun x5 =>
 k2 x5 h) fun x3 h4 =>
 obind (pickI x1 (some (.bool true)) (some x3)) fun x6 =>
 spanK x6 false h4 (fun k7 =>
 obind (binS .eql a0 (.str ⟨4, 1702063205⟩)) fun x10 =>
 k7 x10 h4) fun x8 h9 =>
 obind (pickI x6 (some (.bool true)) (some x8)) fun x11 =>
 spanK x11 false h9 (fun k12 =>
 obind (binS .eql a0 (.str ⟨5, 439854853733⟩)) fun x15 =>
 k12 x15 h9) fun x13 h14 =>
 obind (pickI x11 (some (.bool true)) (some x13)) fun x16 =>
 .ok x16 h14
theorem e28_0 {T : Tab} {a0 : IV} {h : H} {r : CRes} (e : t28_0 (CL T) (J28 T) a0 h = r) (hr : r ≠ .fail) : J28 T 0 [a0] h = r := fj_step (fn := Tryz.f28) (js := js28) (by kernel_rfl) e hr
theorem c28 {T : Tab} (hT : OvStep T) (ho : T.ov 28 = none) (hp : T.pol 28 = true) {a0 : IV} {h : H} {r : CRes} (hg : Gd h) (e : t28_0 (CL T) (J28 T) a0 h = r) (hr : r ≠ .fail) : CL T 28 [a0] h = r := call_good ho Tryz.func28 rfl rfl rfl hp hg hT (e28_0 e hr) hr

-- (*silkworm/silkwormref03.run).chooses
def js29 : List Jn := [⟨[], [0, 1]⟩, ⟨[1, 0, 1, 1, 1], [0, 3, 4, 14, 31]⟩, ⟨[1, 1, 1, 1, 0, 1, 0, 1, 1, 1], [0]⟩]
noncomputable def J29 (T : Tab) : Rec := fj Tryz.prog (CL T) Tryz.f29 js29
noncomputable def t29_0 (cf : CallF) (R : Rec) (a0 a1 : IV) (h : H) : CRes :=
 obind2 (newI h (IV.cells a1)) fun x1 h2 =>
 obind (nilI a0) fun x3 =>
 obind (fadK 3 x3) fun x4 =>
 obind (ld0 h2 x4) fun x5 =>
 obind (lenS x5) fun x6 =>
 obind (fadK 1 x1) fun x7 =>
 obind (ld0 h2 x7) fun x8 =>
 obind (binS .eql x8 (.str ⟨5, 439787742825⟩)) fun x9 =>
 condK x9
 (R 1 [a0, x1, x6, x8, x9] h2)
 (obind (binS .eql x8 (.str ⟨6, 112585662686825⟩)) fun x10 =>
 R 1 [a0, x1, x6, x8, x10] h2)
theorem e29_0 {T : Tab} {a0 a1 : IV} {h : H} {r : CRes} (e : t29_0 (CL T) (J29 T) a0 a1 h = r) (hr : r ≠ .fail) : J29 T 0 [a0, a1] h = r := fj_step (fn := Tryz.f29) (js := js29) (by kernel_rfl) e hr
noncomputable def t29_1 (cf : CallF) (R : Rec) (a0 a3 a4 a14 a31 : IV) (h : H) : CRes :=
 condK a31
 (callP (cf 31 [a0] h) .pan fun x11 h12 =>
 callP (cf 57 [a0] h12) .pan fun x13 h14 =>
 callP (cf 58 [a0, x13] h14) (fun v15 h16 =>
 obind (fadK 1 a3) fun x17 =>
 obind (ld0 h14 x17) fun x18 =>
 obind (binS .eql x18 (.str ⟨5, 439787742825⟩)) fun x19 =>
 .pan v15 h16) fun x20 h21 =>
 obind (binN .geq x20 (.int .i64 0)) fun x22 =>
 obind (fadK 1 a3) fun x23 =>
 obind (ld0 h21 x23) fun x24 =>
 obind (ld0 h14 x23) fun x25 =>
 bif IV.beq x25 x24 then
 obind (binS .eql x24 (.str ⟨5, 439787742825⟩)) fun x26 =>
 obind (binS .eql x24 (.str ⟨5, 439787742825⟩)) fun x27 =>
 bif IV.beq x27 x26 then
 obind (eqB .eql x22 x26) fun x28 =>
 obind (nilI a0) fun x29 =>
 obind (fadK 3 x29) fun x30 =>
 obind (ld0 h21 x30) fun x31 =>
 obind (fadK 2 a3) fun x32 =>
 obind (ld0 h21 x32) fun x33 =>
 guardK x11 (obind (pickI (.bool true) (some x28) (some (.bool false))) fun x34 =>
 obind (bldK z10 p11 [(0, x33), (1, x34), (3, x11)]) fun x35 =>
 obind2 (bslK false 4 z10 1 [(0, x35)] h21) fun x36 h37 =>
 obind (ld0 h37 x30) fun x38 =>
 bif IV.beq x38 x31 then
 obind2 (appK 4 16 h37 x31 x36) fun x39 h40 =>
 obind (nilI a0) fun x41 =>
 obind (fadK 3 x41) fun x42 =>
 obindH (stA 1 h40 x42 x39) fun h43 =>
 R 2 [a0] h43
 else .fail)
 (obind (pickI (.bool false) (some (.tup [])) (some (.bool false))) fun x44 =>
 obind (bldK z10 p11 [(0, x33), (1, x44), (3, x11)]) fun x45 =>
 obind2 (bslK false 4 z10 1 [(0, x45)] h21) fun x46 h47 =>
 obind (ld0 h47 x30) fun x48 =>
 bif IV.beq x48 x31 then
 obind2 (appK 4 16 h47 x31 x46) fun x49 h50 =>
 obind (nilI a0) fun x51 =>
 obind (fadK 3 x51) fun x52 =>
 obindH (stA 1 h50 x52 x49) fun h53 =>
 R 2 [a0] h53
 else .fail)
 (obind (pickI (.tup []) (some (.tup [])) (some (.bool false))) fun x54 =>
 obind (bldK z10 p11 [(0, x33), (1, x54), (3, x11)]) fun x55 =>
 obind2 (bslK false 4 z10 1 [(0, x55)] h21) fun x56 h57 =>
 obind (ld0 h57 x30) fun x58 =>
 bif IV.beq x58 x31 then
 obind2 (appK 4 16 h57 x31 x56) fun x59 h60 =>
 obind (nilI a0) fun x61 =>
 obind (fadK 3 x61) fun x62 =>
 obindH (stA 1 h60 x62 x59) fun h63 =>
 R 2 [a0] h63
 else .fail)
 else .fail
 else .fail)
 (obind (binS .eql a14 (.str ⟨4, 1702063205⟩)) fun x64 =>
 condK x64
 (obind (binN .eql a4 (.int .i64 0)) fun x65 =>
 spanK x65 false h (fun k66 =>
 obind (nilI a0) fun x69 =>
 obind (fadK 3 x69) fun x70 =>
 obind (ld0 h x70) fun x71 =>
 obind (binN .sub a4 (.int .i64 1)) fun x72 =>
 obind (ixS 4 x71 x72) fun x73 =>
 obind (fadK 2 x73) fun x74 =>
 obind (ld0 h x74) fun x75 =>
 k66 x75 h) fun x67 h68 =>
 obind (pickI x65 (some (.bool true)) (some x67)) fun x76 =>
 condK x76
 (obind (fadK 2 a3) fun x77 =>
 obind (ld0 h68 x77) fun x78 =>
 callP (cf 30 [a0, x78, (.int .i64 30)] h68) .pan fun x79 h80 =>
 .ok (.tup []) h80)
 (obind (nilI a0) fun x81 =>
 obind (fadK 3 x81) fun x82 =>
 obind (ld0 h68 x82) fun x83 =>
 obind (binN .sub a4 (.int .i64 1)) fun x84 =>
 obind (ixS 4 x83 x84) fun x85 =>
 obind (fadK 2 x85) fun x86 =>
 obindH (stA 1 h68 x86 (.bool true)) fun h87 =>
 obind (nilI a0) fun x88 =>
 obind (fadK 3 x88) fun x89 =>
 obind (ld0 h87 x89) fun x90 =>
 obind (binN .sub a4 (.int .i64 1)) fun x91 =>
 obind (nilI a0) fun x92 =>
 obind (fadK 3 x92) fun x93 =>
 obind (ld0 h87 x93) fun x94 =>
 obind (binN .sub a4 (.int .i64 1)) fun x95 =>
 obind (ixS 4 x94 x95) fun x96 =>
 obind (fadK 3 x96) fun x97 =>
 obind (ld0 h87 x97) fun x98 =>
 guardK x98 (obind (nilI a0) fun x99 =>
 obind (fadK 3 x99) fun x100 =>
 obind (ld0 h87 x100) fun x101 =>
 obind (binN .sub a4 (.int .i64 1)) fun x102 =>
 obind (ixS 4 x101 x102) fun x103 =>
 obind (fadK 1 x103) fun x104 =>
 obind (ld0 h87 x104) fun x105 =>
 obind (unI .not x105) fun x106 =>
 obind (pickI (.bool true) (some x106) (some (.bool false))) fun x107 =>
 obind (ixS 4 x90 x91) fun x108 =>
 obind (fadK 1 x108) fun x109 =>
 obindH (stA 1 h87 x109 x107) fun h110 =>
 .ok (.tup []) h110)
 (obind (pickI (.bool false) (some (.tup [])) (some (.bool false))) fun x111 =>
 obind (ixS 4 x90 x91) fun x112 =>
 obind (fadK 1 x112) fun x113 =>
 obindH (stA 1 h87 x113 x111) fun h114 =>
 .ok (.tup []) h114)
 (obind (pickI (.tup []) (some (.tup [])) (some (.bool false))) fun x115 =>
 obind (ixS 4 x90 x91) fun x116 =>
 obind (fadK 1 x116) fun x117 =>
 obindH (stA 1 h87 x117 x115) fun h118 =>
 .ok (.tup []) h118)))
 (obind (binN .eql a4 (.int .i64 0)) fun x119 =>
 condK x119
 (obind (fadK 2 a3) fun x120 =>
 obind (ld0 h x120) fun x121 =>
 callP (cf 30 [a0, x121, (.int .i64 30)] h) .pan fun x122 h123 =>
 .ok (.tup []) h123)
 (obind (nilI a0) fun x124 =>
 obind (fadK 3 x124) fun x125 =>
 obind (ld0 h x125) fun x126 =>
 obind (binN .sub a4 (.int .i64 1)) fun x127 =>
 obind (slcS 4 x126 none (some x127) none) fun x128 =>
 obind (nilI a0) fun x129 =>
 obind (fadK 3 x129) fun x130 =>
 obindH (stA 1 h x130 x128) fun h131 =>
 .ok (.tup []) h131)))
theorem e29_1 {T : Tab} {a0 a3 a4 a14 a31 : IV} {h : H} {r : CRes} (e : t29_1 (CL T) (J29 T) a0 a3 a4 a14 a31 h = r) (hr : r ≠ .fail) : J29 T 1 [a0, a3, a4, a14, a31] h = r := fj_step (fn := Tryz.f29) (js := js29) (by kernel_rfl) e hr
noncomputable def t29_2 (cf : CallF) (R : Rec) (a0 : IV) (h : H) : CRes :=
 obind (nilI a0) fun x132 =>
 obind (fadK 1 x132) fun x133 =>
 obind (ld0 h x133) fun x134 =>
 obind (binN .add x134 (.int .i64 1)) fun x135 =>
 obind (nilI a0) fun x136 =>
 obind (fadK 1 x136) fun x137 =>
 obindH (stA 1 h x137 x135) fun h138 =>
 .ok (.tup []) h138
theorem e29_2 {T : Tab} {a0 : IV} {h : H} {r : CRes} (e : t29_2 (CL T) (J29 T) a0 h = r) (hr : r ≠ .fail) : J29 T 2 [a0] h = r := fj_step (fn := Tryz.f29) (js := js29) (by kernel_rfl) e hr
theorem c29 {T : Tab} (hT : OvStep T) (ho : T.ov 29 = none) (hp : T.pol 29 = true) {a0 a1 : IV} {h : H} {r : CRes} (hg : Gd h) (e : t29_0 (CL T) (J29 T) a0 a1 h = r) (hr : r ≠ .fail) : CL T 29 [a0, a1] h = r := call_good ho Tryz.func29 rfl rfl rfl hp hg hT (e29_0 e hr) hr

-- (*silkworm/silkwormref03.run).fails
def js30 : List Jn := [⟨[], [0, 1, 2]⟩]
noncomputable def J30 (T : Tab) : Rec := fj Tryz.prog (CL T) Tryz.f30 js30
noncomputable def t30_0 (cf : CallF) (R : Rec) (a0 a1 a2 : IV) (h : H) : CRes :=
 obind (nilI a0) fun x1 =>
 obind (fadK 6 x1) fun x2 =>
 obind (fadK 1 x2) fun x3 =>
 obind (ld0 h x3) fun x4 =>
 obind (binN .eql x4 (.int .i64 0)) fun x5 =>
 condK x5
 (obind (bldK [(.int .i64 0), (.int .i64 0)] [(0, 1), (1, 1)] [(0, a1), (1, a2)]) fun x6 =>
 obind (nilI a0) fun x7 =>
 obind (fadK 6 x7) fun x8 =>
 obindH (stA 2 h x8 x6) fun h9 =>
 .ok (.tup []) h9)
 (.ok (.tup []) h)
theorem e30_0 {T : Tab} {a0 a1 a2 : IV} {h : H} {r : CRes} (e : t30_0 (CL T) (J30 T) a0 a1 a2 h = r) (hr : r ≠ .fail) : J30 T 0 [a0, a1, a2] h = r := fj_step (fn := Tryz.f30) (js := js30) (by kernel_rfl) e hr
theorem c30 {T : Tab} (hT : OvStep T) (ho : T.ov 30 = none) (hp : T.pol 30 = true) {a0 a1 a2 : IV} {h : H} {r : CRes} (hg : Gd h) (e : t30_0 (CL T) (J30 T) a0 a1 a2 h = r) (hr : r ≠ .fail) : CL T 30 [a0, a1, a2] h = r := call_good ho Tryz.func30 rfl rfl rfl hp hg hT (e30_0 e hr) hr

-- (*silkworm/silkwormref03.run).kept
def js31 : List Jn := [⟨[], [0]⟩, ⟨[1, 1], [2]⟩]
noncomputable def J31 (T : Tab) : Rec := fj Tryz.prog (CL T) Tryz.f31 js31
noncomputable def t31_0 (cf : CallF) (R : Rec) (a0 : IV) (h : H) : CRes :=
 obind (nilI a0) fun x1 =>
 obind (fadK 3 x1) fun x2 =>
 obind (ld0 h x2) fun x3 =>
 obind (lenS x3) fun x4 =>
 obind (binN .eql x4 (.int .i64 0)) fun x5 =>
 guardK x5 (obind (pickI (.bool true) (some (.bool true)) (some (.tup []))) fun x6 =>
 R 1 [x6] h)
 (obind (nilI a0) fun x7 =>
 obind (fadK 3 x7) fun x8 =>
 obind (ld0 h x8) fun x9 =>
 obind (nilI a0) fun x10 =>
 obind (fadK 3 x10) fun x11 =>
 obind (ld0 h x11) fun x12 =>
 obind (lenS x12) fun x13 =>
 obind (binN .sub x13 (.int .i64 1)) fun x14 =>
 obind (ixS 4 x9 x14) fun x15 =>
 obind (fadK 1 x15) fun x16 =>
 obind (ld0 h x16) fun x17 =>
 obind (pickI (.bool false) (some (.bool true)) (some x17)) fun x18 =>
 R 1 [x18] h)
 (obind (pickI (.tup []) (some (.bool true)) (some (.tup []))) fun x19 =>
 R 1 [x19] h)
theorem e31_0 {T : Tab} {a0 : IV} {h : H} {r : CRes} (e : t31_0 (CL T) (J31 T) a0 h = r) (hr : r ≠ .fail) : J31 T 0 [a0] h = r := fj_step (fn := Tryz.f31) (js := js31) (by kernel_rfl) e hr
noncomputable def t31_1 (cf : CallF) (R : Rec) (a2 : IV) (h : H) : CRes :=
 .ok a2 h
theorem e31_1 {T : Tab} {a2 : IV} {h : H} {r : CRes} (e : t31_1 (CL T) (J31 T) a2 h = r) (hr : r ≠ .fail) : J31 T 1 [a2] h = r := fj_step (fn := Tryz.f31) (js := js31) (by kernel_rfl) e hr
theorem c31 {T : Tab} (hT : OvStep T) (ho : T.ov 31 = none) (hp : T.pol 31 = true) {a0 : IV} {h : H} {r : CRes} (hg : Gd h) (e : t31_0 (CL T) (J31 T) a0 h = r) (hr : r ≠ .fail) : CL T 31 [a0] h = r := call_good ho Tryz.func31 rfl rfl rfl hp hg hT (e31_0 e hr) hr

-- silkworm/silkwormref03.directive
def js32 : List Jn := [⟨[], [0]⟩]
noncomputable def J32 (T : Tab) : Rec := fj Tryz.prog (CL T) Tryz.f32 js32
noncomputable def t32_0 (cf : CallF) (R : Rec) (a0 : IV) (h : H) : CRes :=
 obind2 (newI h (IV.cells a0)) fun x1 h2 =>
 obind (fadK 0 x1) fun x3 =>
 obind (ld0 h2 x3) fun x4 =>
 obind (binN .eql x4 (.int .i64 4)) fun x5 =>
 spanK x5 true h2 (fun k6 =>
 obind (fadK 1 x1) fun x9 =>
 obind (ld0 h2 x9) fun x10 =>
 obind (binS .eql x10 (.str ⟨6, 111524889126244⟩)) fun x11 =>
 k6 x11 h2) fun x7 h8 =>
 spanK x7 false h8 (fun k12 =>
 obind (fadK 1 x1) fun x15 =>
 obind (ld0 h8 x15) fun x16 =>
 obind (binS .eql x16 (.str ⟨5, 439787744885⟩)) fun x17 =>
 k12 x17 h8) fun x13 h14 =>
 spanK x5 true h14 (fun k18 =>
 obind (pickI x7 (some (.bool true)) (some x13)) fun x21 =>
 k18 x21 h14) fun x19 h20 =>
 spanK x19 false h20 (fun k22 =>
 obind (fadK 1 x1) fun x25 =>
 obind (ld0 h20 x25) fun x26 =>
 callP (cf 28 [x26] h20) .pan fun x27 h28 =>
 k22 x27 h28) fun x23 h24 =>
 spanK x5 true h24 (fun k29 =>
 obind (pickI x19 (some (.bool true)) (some x23)) fun x32 =>
 k29 x32 h24) fun x30 h31 =>
 obind (pickI x5 (some x30) (some (.bool false))) fun x33 =>
 .ok x33 h31
theorem e32_0 {T : Tab} {a0 : IV} {h : H} {r : CRes} (e : t32_0 (CL T) (J32 T) a0 h = r) (hr : r ≠ .fail) : J32 T 0 [a0] h = r := fj_step (fn := Tryz.f32) (js := js32) (by kernel_rfl) e hr
theorem c32 {T : Tab} (hT : OvStep T) (ho : T.ov 32 = none) (hp : T.pol 32 = true) {a0 : IV} {h : H} {r : CRes} (hg : Gd h) (e : t32_0 (CL T) (J32 T) a0 h = r) (hr : r ≠ .fail) : CL T 32 [a0] h = r := call_good ho Tryz.func32 rfl rfl rfl hp hg hT (e32_0 e hr) hr

-- (*silkworm/silkwormref03.run).defines
def js33 : List Jn := [⟨[], [0, 1]⟩, ⟨[0, 0, 1, 1, 1, 1, 1, 1, 1], [0, 4, 5]⟩, ⟨[1, 0, 0, 0, 0, 1, 1, 1, 1, 1, 1, 1], [0, 4, 5, 73]⟩]
noncomputable def J33 (T : Tab) : Rec := fj Tryz.prog (CL T) Tryz.f33 js33
noncomputable def t33_0 (cf : CallF) (R : Rec) (a0 a1 : IV) (h : H) : CRes :=
 obind2 (newI h (IV.cells a1)) fun x1 h2 =>
 callP (cf 57 [a0] h2) .pan fun x3 h4 =>
 obind (nilI a0) fun x5 =>
 obind (fadK 6 x5) fun x6 =>
 obind (fadK 1 x6) fun x7 =>
 obind (ld0 h4 x7) fun x8 =>
 obind (binN .neq x8 (.int .i64 0)) fun x9 =>
 condK x9
 (.ok (.tup []) h4)
 (obind (nilI a0) fun x10 =>
 obind (fadK 2 x10) fun x11 =>
 obind (ld0 h4 x11) fun x12 =>
 callP (cf 59 [x12, x3] h4) .pan fun x13 h14 =>
 obind (nilI a0) fun x15 =>
 obind (fadK 2 x15) fun x16 =>
 obindH (stA 1 h14 x16 x13) fun h17 =>
 obind (nilI a0) fun x18 =>
 obind (fadK 1 x18) fun x19 =>
 obind (ld0 h17 x19) fun x20 =>
 obind (binN .add x20 (.int .i64 1)) fun x21 =>
 obind (nilI a0) fun x22 =>
 obind (fadK 1 x22) fun x23 =>
 obindH (stA 1 h17 x23 x21) fun h24 =>
 obind (fadK 1 x1) fun x25 =>
 obind (ld0 h24 x25) fun x26 =>
 obind (binS .eql x26 (.str ⟨5, 439787744885⟩)) fun x27 =>
 condK x27
 (.ok (.tup []) h24)
 (R 1 [a0, x3, .nilSlice] h24))
theorem e33_0 {T : Tab} {a0 a1 : IV} {h : H} {r : CRes} (e : t33_0 (CL T) (J33 T) a0 a1 h = r) (hr : r ≠ .fail) : J33 T 0 [a0, a1] h = r := fj_step (fn := Tryz.f33) (js := js33) (by kernel_rfl) e hr
noncomputable def t33_1 (cf : CallF) (R : Rec) (a0 a4 a5 : IV) (h : H) : CRes :=
 obind (nilI a0) fun x28 =>
 obind (fadK 1 x28) fun x29 =>
 obind (ld0 h x29) fun x30 =>
 obind (binN .add x30 (.int .i64 1)) fun x31 =>
 obind (nilI a0) fun x32 =>
 obind (fadK 0 x32) fun x33 =>
 obind (ld0 h x33) fun x34 =>
 obind (lenS x34) fun x35 =>
 obind (binN .lss x31 x35) fun x36 =>
 guardK x36 (obind (nilI a0) fun x37 =>
 obind (fadK 0 x37) fun x38 =>
 obind (ld0 h x38) fun x39 =>
 obind (nilI a0) fun x40 =>
 obind (fadK 1 x40) fun x41 =>
 obind (ld0 h x41) fun x42 =>
 obind (binN .add x42 (.int .i64 1)) fun x43 =>
 obind (ixS 3 x39 x43) fun x44 =>
 obind (fadK 0 x44) fun x45 =>
 obind (ld0 h x45) fun x46 =>
 obind (binN .neq x46 (.int .i64 5)) fun x47 =>
 obind (pickI (.bool true) (some x47) (some (.bool false))) fun x48 =>
 guardK x48 (obind (nilI a0) fun x49 =>
 obind (fadK 0 x49) fun x50 =>
 obind (ld0 h x50) fun x51 =>
 obind (nilI a0) fun x52 =>
 obind (fadK 1 x52) fun x53 =>
 obind (ld0 h x53) fun x54 =>
 obind (binN .add x54 (.int .i64 1)) fun x55 =>
 obind (ixS 3 x51 x55) fun x56 =>
 obind (fadK 0 x56) fun x57 =>
 obind (ld0 h x57) fun x58 =>
 obind (binN .neq x58 (.int .i64 6)) fun x59 =>
 obind (pickI (.bool true) (some x59) (some (.bool false))) fun x60 =>
 R 2 [a0, a4, a5, x60] h)
 (obind (pickI (.bool false) (some (.tup [])) (some (.bool false))) fun x61 =>
 R 2 [a0, a4, a5, x61] h)
 (obind (pickI (.tup []) (some (.tup [])) (some (.bool false))) fun x62 =>
 R 2 [a0, a4, a5, x62] h))
 (obind (pickI (.bool false) (some (.tup [])) (some (.bool false))) fun x63 =>
 guardK x63 (obind (nilI a0) fun x64 =>
 obind (fadK 0 x64) fun x65 =>
 obind (ld0 h x65) fun x66 =>
 obind (nilI a0) fun x67 =>
 obind (fadK 1 x67) fun x68 =>
 obind (ld0 h x68) fun x69 =>
 obind (binN .add x69 (.int .i64 1)) fun x70 =>
 obind (ixS 3 x66 x70) fun x71 =>
 obind (fadK 0 x71) fun x72 =>
 obind (ld0 h x72) fun x73 =>
 obind (binN .neq x73 (.int .i64 6)) fun x74 =>
 obind (pickI (.bool true) (some x74) (some (.bool false))) fun x75 =>
 R 2 [a0, a4, a5, x75] h)
 (obind (pickI (.bool false) (some (.tup [])) (some (.bool false))) fun x76 =>
 R 2 [a0, a4, a5, x76] h)
 (obind (pickI (.tup []) (some (.tup [])) (some (.bool false))) fun x77 =>
 R 2 [a0, a4, a5, x77] h))
 (obind (pickI (.tup []) (some (.tup [])) (some (.bool false))) fun x78 =>
 guardK x78 (obind (nilI a0) fun x79 =>
 obind (fadK 0 x79) fun x80 =>
 obind (ld0 h x80) fun x81 =>
 obind (nilI a0) fun x82 =>
 obind (fadK 1 x82) fun x83 =>
 obind (ld0 h x83) fun x84 =>
 obind (binN .add x84 (.int .i64 1)) fun x85 =>
 obind (ixS 3 x81 x85) fun x86 =>
 obind (fadK 0 x86) fun x87 =>
 obind (ld0 h x87) fun x88 =>
 obind (binN .neq x88 (.int .i64 6)) fun x89 =>
 obind (pickI (.bool true) (some x89) (some (.bool false))) fun x90 =>
 R 2 [a0, a4, a5, x90] h)
 (obind (pickI (.bool false) (some (.tup [])) (some (.bool false))) fun x91 =>
 R 2 [a0, a4, a5, x91] h)
 (obind (pickI (.tup []) (some (.tup [])) (some (.bool false))) fun x92 =>
 R 2 [a0, a4, a5, x92] h))
theorem e33_1 {T : Tab} {a0 a4 a5 : IV} {h : H} {r : CRes} (e : t33_1 (CL T) (J33 T) a0 a4 a5 h = r) (hr : r ≠ .fail) : J33 T 1 [a0, a4, a5] h = r := fj_step (fn := Tryz.f33) (js := js33) (by kernel_rfl) e hr
noncomputable def t33_2 (cf : CallF) (R : Rec) (a0 a4 a5 a73 : IV) (h : H) : CRes :=
 condK a73
 (obind (nilI a0) fun x93 =>
 obind (fadK 1 x93) fun x94 =>
 obind (ld0 h x94) fun x95 =>
 obind (binN .add x95 (.int .i64 1)) fun x96 =>
 obind (nilI a0) fun x97 =>
 obind (fadK 1 x97) fun x98 =>
 obindH (stA 1 h x98 x96) fun h99 =>
 obind (nilI a0) fun x100 =>
 obind (fadK 0 x100) fun x101 =>
 obind (ld0 h99 x101) fun x102 =>
 obind (nilI a0) fun x103 =>
 obind (fadK 1 x103) fun x104 =>
 obind (ld0 h99 x104) fun x105 =>
 obind (ixS 3 x102 x105) fun x106 =>
 obind (ldA 3 h99 x106) fun x107 =>
 obind2 (bslK false 3 z2 1 [(0, x107)] h99) fun x108 h109 =>
 obind2 (appK 3 32 h109 a5 x108) fun x110 h111 =>
 R 1 [a0, a4, x110] h111)
 (obind (nilI a0) fun x112 =>
 obind (fadK 2 x112) fun x113 =>
 obind (ld0 h x113) fun x114 =>
 obind (bldK [(.str ⟨0, 0⟩), .nilSlice] [(0, 1), (1, 1)] [(0, a4), (1, a5)]) fun x115 =>
 obind2 (bslK false 2 [(.str ⟨0, 0⟩), .nilSlice] 1 [(0, x115)] h) fun x116 h117 =>
 obind2 (appK 2 40 h117 x114 x116) fun x118 h119 =>
 obind (nilI a0) fun x120 =>
 obind (fadK 2 x120) fun x121 =>
 obindH (stA 1 h119 x121 x118) fun h122 =>
 .ok (.tup []) h122)
theorem e33_2 {T : Tab} {a0 a4 a5 a73 : IV} {h : H} {r : CRes} (e : t33_2 (CL T) (J33 T) a0 a4 a5 a73 h = r) (hr : r ≠ .fail) : J33 T 2 [a0, a4, a5, a73] h = r := fj_step (fn := Tryz.f33) (js := js33) (by kernel_rfl) e hr
theorem c33 {T : Tab} (hT : OvStep T) (ho : T.ov 33 = none) (hp : T.pol 33 = true) {a0 a1 : IV} {h : H} {r : CRes} (hg : Gd h) (e : t33_0 (CL T) (J33 T) a0 a1 h = r) (hr : r ≠ .fail) : CL T 33 [a0, a1] h = r := call_good ho Tryz.func33 rfl rfl rfl hp hg hT (e33_0 e hr) hr

-- (*silkworm/silkwormref03.run).use
def js34 : List Jn := [⟨[], [0, 1, 2]⟩, ⟨[0, 1, 1, 1, 1], [0, 2, 7, 8]⟩, ⟨[1, 1, 0, 0, 1, 1, 1, 1], [0, 2, 7, 8]⟩]
noncomputable def J34 (T : Tab) : Rec := fj Tryz.prog (CL T) Tryz.f34 js34
noncomputable def t34_0 (cf : CallF) (R : Rec) (a0 a1 a2 : IV) (h : H) : CRes :=
 callP (cf 58 [a0, a1] h) .pan fun x1 h2 =>
 obind (binN .lss x1 (.int .i64 0)) fun x3 =>
 condK x3
 (callP (cf 30 [a0, a2, (.int .i64 30)] h2) .pan fun x4 h5 =>
 .ok (.tup []) h5)
 (obind (nilI a0) fun x6 =>
 obind (fadK 2 x6) fun x7 =>
 obind (ld0 h2 x7) fun x8 =>
 obind (ixS 2 x8 x1) fun x9 =>
 obind (fadK 1 x9) fun x10 =>
 obind (ld0 h2 x10) fun x11 =>
 R 1 [a0, a2, x11, (.int .i64 0)] h2)
theorem e34_0 {T : Tab} {a0 a1 a2 : IV} {h : H} {r : CRes} (e : t34_0 (CL T) (J34 T) a0 a1 a2 h = r) (hr : r ≠ .fail) : J34 T 0 [a0, a1, a2] h = r := fj_step (fn := Tryz.f34) (js := js34) (by kernel_rfl) e hr
noncomputable def t34_1 (cf : CallF) (R : Rec) (a0 a2 a7 a8 : IV) (h : H) : CRes :=
 obind (lenS a7) fun x12 =>
 obind (binN .lss a8 x12) fun x13 =>
 spanK x13 true h (fun k14 =>
 obind (nilI a0) fun x17 =>
 obind (fadK 6 x17) fun x18 =>
 obind (fadK 1 x18) fun x19 =>
 obind (ld0 h x19) fun x20 =>
 obind (binN .eql x20 (.int .i64 0)) fun x21 =>
 k14 x21 h) fun x15 h16 =>
 obind (pickI x13 (some x15) (some (.bool false))) fun x22 =>
 condK x22
 (obind (nilI a0) fun x23 =>
 obind (fadK 5 x23) fun x24 =>
 obind (ld0 h16 x24) fun x25 =>
 obind (binN .add x25 (.int .i64 1)) fun x26 =>
 obind (nilI a0) fun x27 =>
 obind (fadK 5 x27) fun x28 =>
 obindH (stA 1 h16 x28 x26) fun h29 =>
 obind (nilI a0) fun x30 =>
 obind (fadK 5 x30) fun x31 =>
 obind (ld0 h29 x31) fun x32 =>
 obind (binN .gtr x32 (.int .i64 4096)) fun x33 =>
 condK x33
 (callP (cf 30 [a0, a2, (.int .i64 31)] h29) .pan fun x34 h35 =>
 .ok (.tup []) h35)
 (obind (ixS 3 a7 a8) fun x36 =>
 obind (ldA 3 h29 x36) fun x37 =>
 obind2 (newI h29 z2) fun x38 h39 =>
 obindH (stA 3 h39 x38 x37) fun h40 =>
 obind (fadK 2 x38) fun x41 =>
 obindH (stA 1 h40 x41 a2) fun h42 =>
 obind (ldA 3 h42 x38) fun x43 =>
 callP (cf 32 [x43] h42) .pan fun x44 h45 =>
 condK x44
 (callP (cf 30 [a0, a2, (.int .i64 30)] h45) .pan fun x46 h47 =>
 R 2 [a0, a2, a7, a8] h47)
 (obind (fadK 0 x38) fun x48 =>
 obind (ld0 h45 x48) fun x49 =>
 obind (binN .eql x49 (.int .i64 4)) fun x50 =>
 condK x50
 (obind (fadK 1 x38) fun x51 =>
 obind (ld0 h45 x51) fun x52 =>
 callP (cf 34 [a0, x52, a2] h45) .pan fun x53 h54 =>
 R 2 [a0, a2, a7, a8] h54)
 (obind (ldA 3 h45 x38) fun x55 =>
 callP (cf 35 [a0, x55] h45) .pan fun x56 h57 =>
 R 2 [a0, a2, a7, a8] h57))))
 (.ok (.tup []) h16)
theorem e34_1 {T : Tab} {a0 a2 a7 a8 : IV} {h : H} {r : CRes} (e : t34_1 (CL T) (J34 T) a0 a2 a7 a8 h = r) (hr : r ≠ .fail) : J34 T 1 [a0, a2, a7, a8] h = r := fj_step (fn := Tryz.f34) (js := js34) (by kernel_rfl) e hr
noncomputable def t34_2 (cf : CallF) (R : Rec) (a0 a2 a7 a8 : IV) (h : H) : CRes :=
 obind (binN .add a8 (.int .i64 1)) fun x58 =>
 R 1 [a0, a2, a7, x58] h
theorem e34_2 {T : Tab} {a0 a2 a7 a8 : IV} {h : H} {r : CRes} (e : t34_2 (CL T) (J34 T) a0 a2 a7 a8 h = r) (hr : r ≠ .fail) : J34 T 2 [a0, a2, a7, a8] h = r := fj_step (fn := Tryz.f34) (js := js34) (by kernel_rfl) e hr
theorem c34 {T : Tab} (hT : OvStep T) (ho : T.ov 34 = none) (hp : T.pol 34 = true) {a0 a1 a2 : IV} {h : H} {r : CRes} (hg : Gd h) (e : t34_0 (CL T) (J34 T) a0 a1 a2 h = r) (hr : r ≠ .fail) : CL T 34 [a0, a1, a2] h = r := call_good ho Tryz.func34 rfl rfl rfl hp hg hT (e34_0 e hr) hr

-- (*silkworm/silkwormref03.run).puts
def js35 : List Jn := [⟨[], [0, 1]⟩]
noncomputable def J35 (T : Tab) : Rec := fj Tryz.prog (CL T) Tryz.f35 js35
noncomputable def t35_0 (cf : CallF) (R : Rec) (a0 a1 : IV) (h : H) : CRes :=
 obind2 (newI h (IV.cells a1)) fun x1 h2 =>
 obind (nilI a0) fun x3 =>
 obind (fadK 6 x3) fun x4 =>
 obind (fadK 1 x4) fun x5 =>
 obind (ld0 h2 x5) fun x6 =>
 obind (binN .neq x6 (.int .i64 0)) fun x7 =>
 condK x7
 (.ok (.tup []) h2)
 (obind (nilI a0) fun x8 =>
 obind (fadK 4 x8) fun x9 =>
 obind (ld0 h2 x9) fun x10 =>
 obind (lenS x10) fun x11 =>
 obind (binN .geq x11 (.int .i64 16384)) fun x12 =>
 condK x12
 (obind (fadK 2 x1) fun x13 =>
 obind (ld0 h2 x13) fun x14 =>
 callP (cf 30 [a0, x14, (.int .i64 2)] h2) .pan fun x15 h16 =>
 .ok (.tup []) h16)
 (obind (nilI a0) fun x17 =>
 obind (fadK 4 x17) fun x18 =>
 obind (ld0 h2 x18) fun x19 =>
 obind (ldA 3 h2 x1) fun x20 =>
 obind2 (bslK false 3 z2 1 [(0, x20)] h2) fun x21 h22 =>
 obind (ld0 h22 x18) fun x23 =>
 bif IV.beq x23 x19 then
 obind2 (appK 3 32 h22 x19 x21) fun x24 h25 =>
 obind (nilI a0) fun x26 =>
 obind (fadK 4 x26) fun x27 =>
 obindH (stA 1 h25 x27 x24) fun h28 =>
 .ok (.tup []) h28
 else .fail))
theorem e35_0 {T : Tab} {a0 a1 : IV} {h : H} {r : CRes} (e : t35_0 (CL T) (J35 T) a0 a1 h = r) (hr : r ≠ .fail) : J35 T 0 [a0, a1] h = r := fj_step (fn := Tryz.f35) (js := js35) (by kernel_rfl) e hr
theorem c35 {T : Tab} (hT : OvStep T) (ho : T.ov 35 = none) (hp : T.pol 35 = true) {a0 a1 : IV} {h : H} {r : CRes} (hg : Gd h) (e : t35_0 (CL T) (J35 T) a0 a1 h = r) (hr : r ≠ .fail) : CL T 35 [a0, a1] h = r := call_good ho Tryz.func35 rfl rfl rfl hp hg hT (e35_0 e hr) hr

-- (*silkworm/syntax.parser).next
def js36 : List Jn := [⟨[], [0]⟩]
noncomputable def J36 (T : Tab) : Rec := fj Tryz.prog (CL T) Tryz.f36 js36
noncomputable def t36_0 (cf : CallF) (R : Rec) (a0 : IV) (h : H) : CRes :=
 obind (nilI a0) fun x1 =>
 obind (fadK 0 x1) fun x2 =>
 obind (ld0 h x2) fun x3 =>
 obind (ixS 3 x3 (.int .i64 0)) fun x4 =>
 obind (ldA 3 h x4) fun x5 =>
 obind2 (newI h z2) fun x6 h7 =>
 obindH (stA 3 h7 x6 x5) fun h8 =>
 obind (fadK 0 x6) fun x9 =>
 obind (ld0 h8 x9) fun x10 =>
 obind (binN .eql x10 (.int .i64 1)) fun x11 =>
 condK x11
 (obind (fadK 1 x6) fun x12 =>
 obind (ld0 h8 x12) fun x13 =>
 callP (cf 60 [x13] h8) .pan fun x14 h15 =>
 condK x14
 (obind (fadK 1 x6) fun x16 =>
 obind (ld0 h15 x16) fun x17 =>
 obind (fadK 1 x6) fun x18 =>
 obind (ld0 h15 x18) fun x19 =>
 .ok (.tup [x17, x19]) h15)
 (obind (fadK 1 x6) fun x20 =>
 obind (ld0 h15 x20) fun x21 =>
 .ok (.tup [(.str ⟨5, 435626798624⟩), x21]) h15))
 (obind (binN .eql x10 (.int .i64 2)) fun x22 =>
 condK x22
 (obind (fadK 1 x6) fun x23 =>
 obind (ld0 h8 x23) fun x24 =>
 .ok (.tup [(.str ⟨7, 32199620762627616⟩), x24]) h8)
 (obind (binN .eql x10 (.int .i64 3)) fun x25 =>
 condK x25
 (obind (fadK 1 x6) fun x26 =>
 obind (ld0 h8 x26) fun x27 =>
 obind (fadK 1 x6) fun x28 =>
 obind (ld0 h8 x28) fun x29 =>
 .ok (.tup [x27, x29]) h8)
 (.ok (.tup [(.str ⟨0, 0⟩), (.str ⟨0, 0⟩)]) h8)))
theorem e36_0 {T : Tab} {a0 : IV} {h : H} {r : CRes} (e : t36_0 (CL T) (J36 T) a0 h = r) (hr : r ≠ .fail) : J36 T 0 [a0] h = r := fj_step (fn := Tryz.f36) (js := js36) (by kernel_rfl) e hr
theorem c36 {T : Tab} (hT : OvStep T) (ho : T.ov 36 = none) (hp : T.pol 36 = true) {a0 : IV} {h : H} {r : CRes} (hg : Gd h) (e : t36_0 (CL T) (J36 T) a0 h = r) (hr : r ≠ .fail) : CL T 36 [a0] h = r := call_good ho Tryz.func36 rfl rfl rfl hp hg hT (e36_0 e hr) hr

-- (*silkworm/syntax.parser).at
def js37 : List Jn := [⟨[], [0]⟩]
noncomputable def J37 (T : Tab) : Rec := fj Tryz.prog (CL T) Tryz.f37 js37
noncomputable def t37_0 (cf : CallF) (R : Rec) (a0 : IV) (h : H) : CRes :=
 obind (nilI a0) fun x1 =>
 obind (fadK 0 x1) fun x2 =>
 obind (ld0 h x2) fun x3 =>
 obind (ixS 3 x3 (.int .i64 0)) fun x4 =>
 obind (fadK 2 x4) fun x5 =>
 obind (ld0 h x5) fun x6 =>
 .ok x6 h
theorem e37_0 {T : Tab} {a0 : IV} {h : H} {r : CRes} (e : t37_0 (CL T) (J37 T) a0 h = r) (hr : r ≠ .fail) : J37 T 0 [a0] h = r := fj_step (fn := Tryz.f37) (js := js37) (by kernel_rfl) e hr
theorem c37 {T : Tab} (hT : OvStep T) (ho : T.ov 37 = none) (hp : T.pol 37 = true) {a0 : IV} {h : H} {r : CRes} (hg : Gd h) (e : t37_0 (CL T) (J37 T) a0 h = r) (hr : r ≠ .fail) : CL T 37 [a0] h = r := call_good ho Tryz.func37 rfl rfl rfl hp hg hT (e37_0 e hr) hr

-- (*silkworm/syntax.parser).must
def js38 : List Jn := [⟨[], [0, 1]⟩, ⟨[0, 1], [0, 6, 7, 8]⟩, ⟨[1, 1, 1, 0, 0, 1], [0, 6, 7, 8]⟩]
noncomputable def J38 (T : Tab) : Rec := fj Tryz.prog (CL T) Tryz.f38 js38
noncomputable def t38_0 (cf : CallF) (R : Rec) (a0 a1 : IV) (h : H) : CRes :=
 obind (lenS a1) fun x1 =>
 R 1 [a0, a1, x1, (.int .i64 0)] h
theorem e38_0 {T : Tab} {a0 a1 : IV} {h : H} {r : CRes} (e : t38_0 (CL T) (J38 T) a0 a1 h = r) (hr : r ≠ .fail) : J38 T 0 [a0, a1] h = r := fj_step (fn := Tryz.f38) (js := js38) (by kernel_rfl) e hr
noncomputable def t38_1 (cf : CallF) (R : Rec) (a0 a6 a7 a8 : IV) (h : H) : CRes :=
 obind (binN .lss a8 a7) fun x2 =>
 condK x2
 (obind (ixS 1 a6 a8) fun x3 =>
 obind (ld0 h x3) fun x4 =>
 callP (cf 40 [a0, x4] h) .pan fun x5 h6 =>
 obind (unI .not x5) fun x7 =>
 condK x7
 (callP (cf 61 [a0, (.int .i64 40)] h6) .pan fun x8 h9 =>
 R 2 [a0, a6, a7, a8] h9)
 (R 2 [a0, a6, a7, a8] h6))
 (.ok (.tup []) h)
theorem e38_1 {T : Tab} {a0 a6 a7 a8 : IV} {h : H} {r : CRes} (e : t38_1 (CL T) (J38 T) a0 a6 a7 a8 h = r) (hr : r ≠ .fail) : J38 T 1 [a0, a6, a7, a8] h = r := fj_step (fn := Tryz.f38) (js := js38) (by kernel_rfl) e hr
noncomputable def t38_2 (cf : CallF) (R : Rec) (a0 a6 a7 a8 : IV) (h : H) : CRes :=
 obind (binN .add a8 (.int .i64 1)) fun x10 =>
 R 1 [a0, a6, a7, x10] h
theorem e38_2 {T : Tab} {a0 a6 a7 a8 : IV} {h : H} {r : CRes} (e : t38_2 (CL T) (J38 T) a0 a6 a7 a8 h = r) (hr : r ≠ .fail) : J38 T 2 [a0, a6, a7, a8] h = r := fj_step (fn := Tryz.f38) (js := js38) (by kernel_rfl) e hr
theorem c38 {T : Tab} (hT : OvStep T) (ho : T.ov 38 = none) (hp : T.pol 38 = true) {a0 a1 : IV} {h : H} {r : CRes} (hg : Gd h) (e : t38_0 (CL T) (J38 T) a0 a1 h = r) (hr : r ≠ .fail) : CL T 38 [a0, a1] h = r := call_good ho Tryz.func38 rfl rfl rfl hp hg hT (e38_0 e hr) hr

-- (*silkworm/syntax.parser).name
def js39 : List Jn := [⟨[], [0]⟩]
noncomputable def J39 (T : Tab) : Rec := fj Tryz.prog (CL T) Tryz.f39 js39
noncomputable def t39_0 (cf : CallF) (R : Rec) (a0 : IV) (h : H) : CRes :=
 callP (cf 36 [a0] h) .pan fun x1 h2 =>
 obind (extractI x1 0) fun x3 =>
 obind (extractI x1 1) fun x4 =>
 obind2 (bslK false 1 [(.str ⟨0, 0⟩)] 1 [(0, (.str ⟨5, 435626798624⟩))] h2) fun x5 h6 =>
 callP (cf 38 [a0, x5] h6) .pan fun x7 h8 =>
 .ok x4 h8
theorem e39_0 {T : Tab} {a0 : IV} {h : H} {r : CRes} (e : t39_0 (CL T) (J39 T) a0 h = r) (hr : r ≠ .fail) : J39 T 0 [a0] h = r := fj_step (fn := Tryz.f39) (js := js39) (by kernel_rfl) e hr
theorem c39 {T : Tab} (hT : OvStep T) (ho : T.ov 39 = none) (hp : T.pol 39 = true) {a0 : IV} {h : H} {r : CRes} (hg : Gd h) (e : t39_0 (CL T) (J39 T) a0 h = r) (hr : r ≠ .fail) : CL T 39 [a0] h = r := call_good ho Tryz.func39 rfl rfl rfl hp hg hT (e39_0 e hr) hr

-- (*silkworm/syntax.parser).take
def js40 : List Jn := [⟨[], [0, 1]⟩, ⟨[1, 1, 1], [5]⟩]
noncomputable def J40 (T : Tab) : Rec := fj Tryz.prog (CL T) Tryz.f40 js40
noncomputable def t40_0 (cf : CallF) (R : Rec) (a0 a1 : IV) (h : H) : CRes :=
 obind2 (bslK false 1 [(.str ⟨0, 0⟩)] 1 [(0, a1)] h) fun x1 h2 =>
 callP (cf 17 [a0, x1] h2) .pan fun x3 h4 =>
 condK x3
 (obind (nilI a0) fun x5 =>
 obind (fadK 0 x5) fun x6 =>
 obind (ld0 h4 x6) fun x7 =>
 obind (slcS 3 x7 (some (.int .i64 1)) none none) fun x8 =>
 obind (nilI a0) fun x9 =>
 obind (fadK 0 x9) fun x10 =>
 obindH (stA 1 h4 x10 x8) fun h11 =>
 R 1 [x3] h11)
 (R 1 [x3] h4)
theorem e40_0 {T : Tab} {a0 a1 : IV} {h : H} {r : CRes} (e : t40_0 (CL T) (J40 T) a0 a1 h = r) (hr : r ≠ .fail) : J40 T 0 [a0, a1] h = r := fj_step (fn := Tryz.f40) (js := js40) (by kernel_rfl) e hr
noncomputable def t40_1 (cf : CallF) (R : Rec) (a5 : IV) (h : H) : CRes :=
 .ok a5 h
theorem e40_1 {T : Tab} {a5 : IV} {h : H} {r : CRes} (e : t40_1 (CL T) (J40 T) a5 h = r) (hr : r ≠ .fail) : J40 T 1 [a5] h = r := fj_step (fn := Tryz.f40) (js := js40) (by kernel_rfl) e hr
theorem c40 {T : Tab} (hT : OvStep T) (ho : T.ov 40 = none) (hp : T.pol 40 = true) {a0 a1 : IV} {h : H} {r : CRes} (hg : Gd h) (e : t40_0 (CL T) (J40 T) a0 a1 h = r) (hr : r ≠ .fail) : CL T 40 [a0, a1] h = r := call_good ho Tryz.func40 rfl rfl rfl hp hg hT (e40_0 e hr) hr

-- (*silkworm/syntax.parser).expr
def js41 : List Jn := [⟨[], [0, 1]⟩]
noncomputable def J41 (T : Tab) : Rec := fj Tryz.prog (CL T) Tryz.f41 js41
noncomputable def t41_0 (cf : CallF) (R : Rec) (a0 a1 : IV) (h : H) : CRes :=
 obind2 (newI h z0) fun x1 h2 =>
 callP (cf 62 [a0, a1] h2) .pan fun x3 h4 =>
 callP (cf 64 [a0, a1] h4) .pan fun x5 h6 =>
 callP (cf 63 [a0, x5, (.int .i64 1), a1] h6) .pan fun x7 h8 =>
 obind2 (newI h8 z0) fun x9 h10 =>
 obindH (stA 6 h10 x9 x7) fun h11 =>
 callP (cf 37 [a0] h11) .pan fun x12 h13 =>
 callP (cf 40 [a0, (.str ⟨1, 63⟩)] h13) .pan fun x14 h15 =>
 obind (unI .not x14) fun x16 =>
 condK x16
 (obind (ldA 6 h15 x9) fun x17 =>
 obindH (stA 6 h15 x1 x17) fun h18 =>
 obind (ldA 6 h18 x1) fun x19 =>
 .ok x19 h18)
 (obind (binN .add a1 (.int .i64 1)) fun x20 =>
 callP (cf 41 [a0, x20] h15) .pan fun x21 h22 =>
 obind2 (newI h22 z0) fun x23 h24 =>
 obindH (stA 6 h24 x23 x21) fun h25 =>
 obind2 (bslK false 1 [(.str ⟨0, 0⟩)] 1 [(0, (.str ⟨1, 58⟩))] h25) fun x26 h27 =>
 callP (cf 38 [a0, x26] h27) .pan fun x28 h29 =>
 obind (ldA 6 h29 x9) fun x30 =>
 obind (ldA 6 h29 x23) fun x31 =>
 obind (binN .add a1 (.int .i64 1)) fun x32 =>
 callP (cf 41 [a0, x32] h29) (fun v33 h34 =>
 .pan v33 h34) fun x35 h36 =>
 obind (ldA 6 h36 x23) fun x37 =>
 bif IV.beq x37 x31 then
 obind (ldA 6 h36 x9) fun x38 =>
 bif IV.beq x38 x30 then
 obind2 (bslK false 6 z0 3 [(0, x30), (1, x31), (2, x35)] h36) fun x39 h40 =>
 obind (bldK z0 p12 [(0, (.int .i64 6)), (4, x39), (5, x12)]) fun x41 =>
 obindH (stA 6 h40 x1 x41) fun h42 =>
 obind (ldA 6 h42 x1) fun x43 =>
 .ok x43 h42
 else .fail
 else .fail)
theorem e41_0 {T : Tab} {a0 a1 : IV} {h : H} {r : CRes} (e : t41_0 (CL T) (J41 T) a0 a1 h = r) (hr : r ≠ .fail) : J41 T 0 [a0, a1] h = r := fj_step (fn := Tryz.f41) (js := js41) (by kernel_rfl) e hr
theorem c41 {T : Tab} (hT : OvStep T) (ho : T.ov 41 = none) (hp : T.pol 41 = true) {a0 a1 : IV} {h : H} {r : CRes} (hg : Gd h) (e : t41_0 (CL T) (J41 T) a0 a1 h = r) (hr : r ≠ .fail) : CL T 41 [a0, a1] h = r := call_good ho Tryz.func41 rfl rfl rfl hp hg hT (e41_0 e hr) hr

-- (*silkworm/syntax.parser).port
def js42 : List Jn := [⟨[], [0]⟩, ⟨[1, 1, 1], [0, 2, 3]⟩]
noncomputable def J42 (T : Tab) : Rec := fj Tryz.prog (CL T) Tryz.f42 js42
noncomputable def t42_0 (cf : CallF) (R : Rec) (a0 : IV) (h : H) : CRes :=
 obind2 (newI h z9) fun x1 h2 =>
 callP (cf 37 [a0] h2) .pan fun x3 h4 =>
 callP (cf 40 [a0, (.str ⟨6, 128047746676079⟩)] h4) .pan fun x5 h6 =>
 obind (bldK z9 p13 [(6, x3), (0, x5)]) fun x7 =>
 obind2 (newI h6 z9) fun x8 h9 =>
 obindH (stA 17 h9 x8 x7) fun h10 =>
 obind (fadK 0 x8) fun x11 =>
 obind (ld0 h10 x11) fun x12 =>
 condK x12
 (callP (cf 40 [a0, (.str ⟨3, 6776178⟩)] h10) .pan fun x13 h14 =>
 obind (fadK 1 x8) fun x15 =>
 obindH (stA 1 h14 x15 x13) fun h16 =>
 R 1 [a0, x1, x8] h16)
 (obind2 (bslK false 1 [(.str ⟨0, 0⟩)] 1 [(0, (.str ⟨5, 500186508905⟩))] h10) fun x17 h18 =>
 callP (cf 38 [a0, x17] h18) .pan fun x19 h20 =>
 R 1 [a0, x1, x8] h20)
theorem e42_0 {T : Tab} {a0 : IV} {h : H} {r : CRes} (e : t42_0 (CL T) (J42 T) a0 h = r) (hr : r ≠ .fail) : J42 T 0 [a0] h = r := fj_step (fn := Tryz.f42) (js := js42) (by kernel_rfl) e hr
noncomputable def t42_1 (cf : CallF) (R : Rec) (a0 a2 a3 : IV) (h : H) : CRes :=
 callP (cf 65 [a0] h) .pan fun x21 h22 =>
 obind (extractI x21 0) fun x23 =>
 obind (extractI x21 1) fun x24 =>
 obind (extractI x21 2) fun x25 =>
 obind (fadK 2 a3) fun x26 =>
 obindH (stA 1 h22 x26 x23) fun h27 =>
 obind (fadK 3 a3) fun x28 =>
 obindH (stA 6 h27 x28 x24) fun h29 =>
 obind (fadK 9 a3) fun x30 =>
 obindH (stA 6 h29 x30 x25) fun h31 =>
 callP (cf 39 [a0] h31) .pan fun x32 h33 =>
 obind (fadK 15 a3) fun x34 =>
 obindH (stA 1 h33 x34 x32) fun h35 =>
 obind (ldA 17 h35 a3) fun x36 =>
 obindH (stA 17 h35 a2 x36) fun h37 =>
 obind (ldA 17 h37 a2) fun x38 =>
 .ok x38 h37
theorem e42_1 {T : Tab} {a0 a2 a3 : IV} {h : H} {r : CRes} (e : t42_1 (CL T) (J42 T) a0 a2 a3 h = r) (hr : r ≠ .fail) : J42 T 1 [a0, a2, a3] h = r := fj_step (fn := Tryz.f42) (js := js42) (by kernel_rfl) e hr
theorem c42 {T : Tab} (hT : OvStep T) (ho : T.ov 42 = none) (hp : T.pol 42 = true) {a0 : IV} {h : H} {r : CRes} (hg : Gd h) (e : t42_0 (CL T) (J42 T) a0 h = r) (hr : r ≠ .fail) : CL T 42 [a0] h = r := call_good ho Tryz.func42 rfl rfl rfl hp hg hT (e42_0 e hr) hr

-- (*silkworm/syntax.parser).items
def js43 : List Jn := [⟨[], [0, 1, 2]⟩, ⟨[0, 0, 1], [0, 1, 2, 6]⟩, ⟨[1, 0, 1, 0, 0, 0, 1], [0, 1, 2, 6]⟩, ⟨[1, 1, 0, 1, 0, 0, 0, 1], [0, 1, 2, 6]⟩]
noncomputable def J43 (T : Tab) : Rec := fj Tryz.prog (CL T) Tryz.f43 js43
noncomputable def t43_0 (cf : CallF) (R : Rec) (a0 a1 a2 : IV) (h : H) : CRes :=
 R 1 [a0, a1, a2, .nilSlice] h
theorem e43_0 {T : Tab} {a0 a1 a2 : IV} {h : H} {r : CRes} (e : t43_0 (CL T) (J43 T) a0 a1 a2 h = r) (hr : r ≠ .fail) : J43 T 0 [a0, a1, a2] h = r := fj_step (fn := Tryz.f43) (js := js43) (by kernel_rfl) e hr
noncomputable def t43_1 (cf : CallF) (R : Rec) (a0 a1 a2 a6 : IV) (h : H) : CRes :=
 callP (cf 40 [a0, a1] h) .pan fun x1 h2 =>
 obind (unI .not x1) fun x3 =>
 condK x3
 (obind2 (bslK false 1 [(.str ⟨0, 0⟩)] 7 [(0, (.str ⟨4, 1701996919⟩)), (1, (.str ⟨3, 6776178⟩)), (2, (.str ⟨10, 516535522800345012203372⟩)), (3, (.str ⟨6, 121390429860705⟩)), (4, (.str ⟨6, 126965163453537⟩)), (5, (.str ⟨3, 7499622⟩)), (6, (.str ⟨5, 435626798624⟩))] h2) fun x4 h5 =>
 callP (cf 17 [a0, x4] h5) .pan fun x6 h7 =>
 obind (unI .not x6) fun x8 =>
 condK x8
 (callP (cf 61 [a0, (.int .i64 40)] h7) .pan fun x9 h10 =>
 R 2 [a0, a1, a2, a6] h10)
 (R 2 [a0, a1, a2, a6] h7))
 (.ok a6 h2)
theorem e43_1 {T : Tab} {a0 a1 a2 a6 : IV} {h : H} {r : CRes} (e : t43_1 (CL T) (J43 T) a0 a1 a2 a6 h = r) (hr : r ≠ .fail) : J43 T 1 [a0, a1, a2, a6] h = r := fj_step (fn := Tryz.f43) (js := js43) (by kernel_rfl) e hr
noncomputable def t43_2 (cf : CallF) (R : Rec) (a0 a1 a2 a6 : IV) (h : H) : CRes :=
 obind (binN .gtr a2 (.int .i64 32)) fun x11 =>
 condK x11
 (callP (cf 61 [a0, (.int .i64 41)] h) .pan fun x12 h13 =>
 R 3 [a0, a1, a2, a6] h13)
 (R 3 [a0, a1, a2, a6] h)
theorem e43_2 {T : Tab} {a0 a1 a2 a6 : IV} {h : H} {r : CRes} (e : t43_2 (CL T) (J43 T) a0 a1 a2 a6 h = r) (hr : r ≠ .fail) : J43 T 2 [a0, a1, a2, a6] h = r := fj_step (fn := Tryz.f43) (js := js43) (by kernel_rfl) e hr
noncomputable def t43_3 (cf : CallF) (R : Rec) (a0 a1 a2 a6 : IV) (h : H) : CRes :=
 callP (cf 66 [a0, a2] h) .pan fun x14 h15 =>
 obind2 (bslK false 48 z14 1 [(0, x14)] h15) fun x16 h17 =>
 obind2 (appK 48 680 h17 a6 x16) fun x18 h19 =>
 R 1 [a0, a1, a2, x18] h19
theorem e43_3 {T : Tab} {a0 a1 a2 a6 : IV} {h : H} {r : CRes} (e : t43_3 (CL T) (J43 T) a0 a1 a2 a6 h = r) (hr : r ≠ .fail) : J43 T 3 [a0, a1, a2, a6] h = r := fj_step (fn := Tryz.f43) (js := js43) (by kernel_rfl) e hr
theorem c43 {T : Tab} (hT : OvStep T) (ho : T.ov 43 = none) (hp : T.pol 43 = true) {a0 a1 a2 : IV} {h : H} {r : CRes} (hg : Gd h) (e : t43_0 (CL T) (J43 T) a0 a1 a2 h = r) (hr : r ≠ .fail) : CL T 43 [a0, a1, a2] h = r := call_good ho Tryz.func43 rfl rfl rfl hp hg hT (e43_0 e hr) hr

-- silkworm/silkwormref02.Letter
def js52 : List Jn := [⟨[], [0]⟩]
noncomputable def J52 (T : Tab) : Rec := fj Tryz.prog (CL T) Tryz.f52 js52
noncomputable def t52_0 (cf : CallF) (R : Rec) (a0 : IV) (h : H) : CRes :=
 obind (binN .geq a0 (.int .u8 97)) fun x1 =>
 spanK x1 true h (fun k2 =>
 obind (binN .leq a0 (.int .u8 122)) fun x5 =>
 k2 x5 h) fun x3 h4 =>
 obind (pickI x1 (some x3) (some (.bool false))) fun x6 =>
 spanK x6 false h4 (fun k7 =>
 obind (binN .geq a0 (.int .u8 65)) fun x10 =>
 k7 x10 h4) fun x8 h9 =>
 spanK x8 true h9 (fun k11 =>
 obind (binN .leq a0 (.int .u8 90)) fun x14 =>
 k11 x14 h9) fun x12 h13 =>
 spanK x6 false h13 (fun k15 =>
 obind (pickI x8 (some x12) (some (.bool false))) fun x18 =>
 k15 x18 h13) fun x16 h17 =>
 obind (pickI x6 (some (.bool true)) (some x16)) fun x19 =>
 spanK x19 false h17 (fun k20 =>
 obind (binN .eql a0 (.int .u8 95)) fun x23 =>
 k20 x23 h17) fun x21 h22 =>
 obind (pickI x19 (some (.bool true)) (some x21)) fun x24 =>
 .ok x24 h22
theorem e52_0 {T : Tab} {a0 : IV} {h : H} {r : CRes} (e : t52_0 (CL T) (J52 T) a0 h = r) (hr : r ≠ .fail) : J52 T 0 [a0] h = r := fj_step (fn := Tryz.f52) (js := js52) (by kernel_rfl) e hr
theorem c52 {T : Tab} (hT : OvStep T) (ho : T.ov 52 = none) (hp : T.pol 52 = true) {a0 : IV} {h : H} {r : CRes} (hg : Gd h) (e : t52_0 (CL T) (J52 T) a0 h = r) (hr : r ≠ .fail) : CL T 52 [a0] h = r := call_good ho Tryz.func52 rfl rfl rfl hp hg hT (e52_0 e hr) hr

-- silkworm/silkwormref02.word
def js53 : List Jn := [⟨[], [0]⟩]
noncomputable def J53 (T : Tab) : Rec := fj Tryz.prog (CL T) Tryz.f53 js53
noncomputable def t53_0 (cf : CallF) (R : Rec) (a0 : IV) (h : H) : CRes :=
 callP (cf 52 [a0] h) .pan fun x1 h2 =>
 spanK x1 false h2 (fun k3 =>
 callP (cf 54 [a0] h2) .pan fun x6 h7 =>
 k3 x6 h7) fun x4 h5 =>
 obind (pickI x1 (some (.bool true)) (some x4)) fun x8 =>
 .ok x8 h5
theorem e53_0 {T : Tab} {a0 : IV} {h : H} {r : CRes} (e : t53_0 (CL T) (J53 T) a0 h = r) (hr : r ≠ .fail) : J53 T 0 [a0] h = r := fj_step (fn := Tryz.f53) (js := js53) (by kernel_rfl) e hr
theorem c53 {T : Tab} (hT : OvStep T) (ho : T.ov 53 = none) (hp : T.pol 53 = true) {a0 : IV} {h : H} {r : CRes} (hg : Gd h) (e : t53_0 (CL T) (J53 T) a0 h = r) (hr : r ≠ .fail) : CL T 53 [a0] h = r := call_good ho Tryz.func53 rfl rfl rfl hp hg hT (e53_0 e hr) hr

-- silkworm/silkwormref02.digit
def js54 : List Jn := [⟨[], [0]⟩]
noncomputable def J54 (T : Tab) : Rec := fj Tryz.prog (CL T) Tryz.f54 js54
noncomputable def t54_0 (cf : CallF) (R : Rec) (a0 : IV) (h : H) : CRes :=
 obind (binN .geq a0 (.int .u8 48)) fun x1 =>
 spanK x1 true h (fun k2 =>
 obind (binN .leq a0 (.int .u8 57)) fun x5 =>
 k2 x5 h) fun x3 h4 =>
 obind (pickI x1 (some x3) (some (.bool false))) fun x6 =>
 .ok x6 h4
theorem e54_0 {T : Tab} {a0 : IV} {h : H} {r : CRes} (e : t54_0 (CL T) (J54 T) a0 h = r) (hr : r ≠ .fail) : J54 T 0 [a0] h = r := fj_step (fn := Tryz.f54) (js := js54) (by kernel_rfl) e hr
theorem c54 {T : Tab} (hT : OvStep T) (ho : T.ov 54 = none) (hp : T.pol 54 = true) {a0 : IV} {h : H} {r : CRes} (hg : Gd h) (e : t54_0 (CL T) (J54 T) a0 h = r) (hr : r ≠ .fail) : CL T 54 [a0] h = r := call_good ho Tryz.func54 rfl rfl rfl hp hg hT (e54_0 e hr) hr

-- silkworm/silkwormref02.Number
def js55 : List Jn := [⟨[], [0]⟩, ⟨[0, 1, 0, 1, 1], [0, 5, 6]⟩, ⟨[1, 1, 0, 0, 1, 0, 1, 1], [0, 5, 6]⟩]
noncomputable def J55 (T : Tab) : Rec := fj Tryz.prog (CL T) Tryz.f55 js55
noncomputable def t55_0 (cf : CallF) (R : Rec) (a0 : IV) (h : H) : CRes :=
 R 1 [a0, (.int .i64 (-1)), (.int .i64 0)] h
theorem e55_0 {T : Tab} {a0 : IV} {h : H} {r : CRes} (e : t55_0 (CL T) (J55 T) a0 h = r) (hr : r ≠ .fail) : J55 T 0 [a0] h = r := fj_step (fn := Tryz.f55) (js := js55) (by kernel_rfl) e hr
noncomputable def t55_1 (cf : CallF) (R : Rec) (a0 a5 a6 : IV) (h : H) : CRes :=
 obind (lenStr a0) fun x1 =>
 obind (binN .lss a6 x1) fun x2 =>
 condK x2
 (obind (binN .lss a5 (.int .i64 0)) fun x3 =>
 spanK x3 true h (fun k4 =>
 obind (ixStr a0 a6) fun x7 =>
 obind (binN .eql x7 (.int .u8 39)) fun x8 =>
 k4 x8 h) fun x5 h6 =>
 obind (pickI x3 (some x5) (some (.bool false))) fun x9 =>
 condK x9
 (R 2 [a0, a6, a6] h6)
 (R 2 [a0, a5, a6] h6))
 (obind (binN .lss a5 (.int .i64 0)) fun x10 =>
 condK x10
 (callP (cf 73 [a0, (.int .i64 4294967295), (.bool false)] h) .pan fun x11 h12 =>
 obind (binN .lss x11 (.int .i64 0)) fun x13 =>
 condK x13
 (.ok (.tup [(.str ⟨0, 0⟩), (.bool false), (.int .i64 21)]) h12)
 (callP (cf 74 [x11, (.int .i64 32)] h12) .pan fun x14 h15 =>
 .ok (.tup [x14, (.bool true), (.int .i64 0)]) h15))
 (obind (slcStr a0 none (some a5)) fun x16 =>
 callP (cf 73 [x16, (.int .i64 256), (.bool false)] h) .pan fun x17 h18 =>
 obind (binN .lss x17 (.int .i64 1)) fun x19 =>
 spanK x19 false h18 (fun k20 =>
 obind (binN .add a5 (.int .i64 1)) fun x23 =>
 obind (lenStr a0) fun x24 =>
 obind (binN .geq x23 x24) fun x25 =>
 k20 x25 h18) fun x21 h22 =>
 obind (pickI x19 (some (.bool true)) (some x21)) fun x26 =>
 condK x26
 (.ok (.tup [(.str ⟨0, 0⟩), (.bool false), (.int .i64 21)]) h22)
 (obind (binN .add a5 (.int .i64 1)) fun x27 =>
 obind (ixStr a0 x27) fun x28 =>
 obind (binN .add a5 (.int .i64 2)) fun x29 =>
 obind (slcStr a0 (some x29) none) fun x30 =>
 callP (cf 75 [x28, x30] h22) (fun v31 h32 =>
 .pan v31 h32) fun x33 h34 =>
 obind (binS .eql x33 (.str ⟨0, 0⟩)) fun x35 =>
 condK x35
 (.ok (.tup [(.str ⟨0, 0⟩), (.bool false), (.int .i64 21)]) h34)
 (obind (lenStr x33) fun x36 =>
 obind (binN .lss x36 x17) fun x37 =>
 spanK x37 true h34 (fun k38 =>
 obind (ixStr x33 (.int .i64 0)) fun x41 =>
 obind (binN .eql x41 (.int .u8 120)) fun x42 =>
 k38 x42 h34) fun x39 h40 =>
 spanK x39 false h40 (fun k43 =>
 obind (ixStr x33 (.int .i64 0)) fun x46 =>
 obind (binN .eql x46 (.int .u8 122)) fun x47 =>
 k43 x47 h40) fun x44 h45 =>
 spanK x37 true h45 (fun k48 =>
 obind (pickI x39 (some (.bool true)) (some x44)) fun x51 =>
 k48 x51 h45) fun x49 h50 =>
 obind (pickI x37 (some x49) (some (.bool false))) fun x52 =>
 condK x52
 (obind (ixStr x33 (.int .i64 0)) fun x53 =>
 obind (lenStr x33) fun x54 =>
 obind (binN .sub x17 x54) fun x55 =>
 callP (cf 76 [x53, x55] h50) .pan fun x56 h57 =>
 obind (binS .add x56 x33) fun x58 =>
 .ok (.tup [x58, (.bool false), (.int .i64 0)]) h57)
 (callP (cf 77 [x33, x17] h50) .pan fun x59 h60 =>
 .ok (.tup [x59, (.bool false), (.int .i64 0)]) h60)))))
theorem e55_1 {T : Tab} {a0 a5 a6 : IV} {h : H} {r : CRes} (e : t55_1 (CL T) (J55 T) a0 a5 a6 h = r) (hr : r ≠ .fail) : J55 T 1 [a0, a5, a6] h = r := fj_step (fn := Tryz.f55) (js := js55) (by kernel_rfl) e hr
noncomputable def t55_2 (cf : CallF) (R : Rec) (a0 a5 a6 : IV) (h : H) : CRes :=
 obind (binN .add a6 (.int .i64 1)) fun x61 =>
 R 1 [a0, a5, x61] h
theorem e55_2 {T : Tab} {a0 a5 a6 : IV} {h : H} {r : CRes} (e : t55_2 (CL T) (J55 T) a0 a5 a6 h = r) (hr : r ≠ .fail) : J55 T 2 [a0, a5, a6] h = r := fj_step (fn := Tryz.f55) (js := js55) (by kernel_rfl) e hr
theorem c55 {T : Tab} (hT : OvStep T) (ho : T.ov 55 = none) (hp : T.pol 55 = true) {a0 : IV} {h : H} {r : CRes} (hg : Gd h) (e : t55_0 (CL T) (J55 T) a0 h = r) (hr : r ≠ .fail) : CL T 55 [a0] h = r := call_good ho Tryz.func55 rfl rfl rfl hp hg hT (e55_0 e hr) hr

-- silkworm/silkwormref02.sign
def js56 : List Jn := [⟨[], [0, 1]⟩, ⟨[0, 1, 0, 1, 1], [0, 1, 5, 6]⟩, ⟨[0, 1, 0, 1, 1, 1, 1], [0, 1, 7, 8]⟩]
noncomputable def J56 (T : Tab) : Rec := fj Tryz.prog (CL T) Tryz.f56 js56
noncomputable def t56_0 (cf : CallF) (R : Rec) (a0 a1 : IV) (h : H) : CRes :=
 obind2 (bslK false 1 [(.str ⟨0, 0⟩)] 8 [(0, (.str ⟨2, 9766⟩)), (1, (.str ⟨2, 31868⟩)), (2, (.str ⟨2, 15677⟩)), (3, (.str ⟨2, 15649⟩)), (4, (.str ⟨2, 15676⟩)), (5, (.str ⟨2, 15678⟩)), (6, (.str ⟨2, 15420⟩)), (7, (.str ⟨2, 15934⟩))] h) fun x1 h2 =>
 R 1 [a0, a1, x1, (.int .i64 0)] h2
theorem e56_0 {T : Tab} {a0 a1 : IV} {h : H} {r : CRes} (e : t56_0 (CL T) (J56 T) a0 a1 h = r) (hr : r ≠ .fail) : J56 T 0 [a0, a1] h = r := fj_step (fn := Tryz.f56) (js := js56) (by kernel_rfl) e hr
noncomputable def t56_1 (cf : CallF) (R : Rec) (a0 a1 a5 a6 : IV) (h : H) : CRes :=
 obind (lenS a5) fun x3 =>
 obind (binN .lss a6 x3) fun x4 =>
 condK x4
 (obind (ixS 1 a5 a6) fun x5 =>
 obind (ld0 h x5) fun x6 =>
 callP (cf 25 [a0, a1, x6] h) .pan fun x7 h8 =>
 condK x7
 (obind (ixS 1 a5 a6) fun x9 =>
 obind (ld0 h8 x9) fun x10 =>
 .ok x10 h8)
 (obind (binN .add a6 (.int .i64 1)) fun x11 =>
 R 1 [a0, a1, a5, x11] h8))
 (R 2 [a0, a1, (.str ⟨24, 1035797962038895658522808901809198590842054073607314417960⟩), (.int .i64 0)] h)
theorem e56_1 {T : Tab} {a0 a1 a5 a6 : IV} {h : H} {r : CRes} (e : t56_1 (CL T) (J56 T) a0 a1 a5 a6 h = r) (hr : r ≠ .fail) : J56 T 1 [a0, a1, a5, a6] h = r := fj_step (fn := Tryz.f56) (js := js56) (by kernel_rfl) e hr
noncomputable def t56_2 (cf : CallF) (R : Rec) (a0 a1 a7 a8 : IV) (h : H) : CRes :=
 obind (lenStr a7) fun x12 =>
 obind (binN .lss a8 x12) fun x13 =>
 condK x13
 (obind (ixStr a0 a1) fun x14 =>
 obind (ixStr a7 a8) fun x15 =>
 obind (binN .eql x14 x15) fun x16 =>
 condK x16
 (obind (binN .add a8 (.int .i64 1)) fun x17 =>
 obind (slcStr a7 (some a8) (some x17)) fun x18 =>
 .ok x18 h)
 (obind (binN .add a8 (.int .i64 1)) fun x19 =>
 R 2 [a0, a1, a7, x19] h))
 (.ok (.str ⟨0, 0⟩) h)
theorem e56_2 {T : Tab} {a0 a1 a7 a8 : IV} {h : H} {r : CRes} (e : t56_2 (CL T) (J56 T) a0 a1 a7 a8 h = r) (hr : r ≠ .fail) : J56 T 2 [a0, a1, a7, a8] h = r := fj_step (fn := Tryz.f56) (js := js56) (by kernel_rfl) e hr
theorem c56 {T : Tab} (hT : OvStep T) (ho : T.ov 56 = none) (hp : T.pol 56 = true) {a0 a1 : IV} {h : H} {r : CRes} (hg : Gd h) (e : t56_0 (CL T) (J56 T) a0 a1 h = r) (hr : r ≠ .fail) : CL T 56 [a0, a1] h = r := call_good ho Tryz.func56 rfl rfl rfl hp hg hT (e56_0 e hr) hr

-- (*silkworm/silkwormref03.run).name
def js57 : List Jn := [⟨[], [0]⟩, ⟨[1, 0, 1], [0, 28]⟩]
noncomputable def J57 (T : Tab) : Rec := fj Tryz.prog (CL T) Tryz.f57 js57
noncomputable def t57_0 (cf : CallF) (R : Rec) (a0 : IV) (h : H) : CRes :=
 obind (nilI a0) fun x1 =>
 obind (fadK 1 x1) fun x2 =>
 obind (ld0 h x2) fun x3 =>
 obind (binN .add x3 (.int .i64 1)) fun x4 =>
 obind (nilI a0) fun x5 =>
 obind (fadK 0 x5) fun x6 =>
 obind (ld0 h x6) fun x7 =>
 obind (lenS x7) fun x8 =>
 obind (binN .lss x4 x8) fun x9 =>
 guardK x9 (obind (nilI a0) fun x10 =>
 obind (fadK 0 x10) fun x11 =>
 obind (ld0 h x11) fun x12 =>
 obind (nilI a0) fun x13 =>
 obind (fadK 1 x13) fun x14 =>
 obind (ld0 h x14) fun x15 =>
 obind (binN .add x15 (.int .i64 1)) fun x16 =>
 obind (ixS 3 x12 x16) fun x17 =>
 obind (fadK 0 x17) fun x18 =>
 obind (ld0 h x18) fun x19 =>
 obind (binN .eql x19 (.int .i64 1)) fun x20 =>
 obind (pickI (.bool true) (some x20) (some (.bool false))) fun x21 =>
 R 1 [a0, x21] h)
 (obind (pickI (.bool false) (some (.tup [])) (some (.bool false))) fun x22 =>
 R 1 [a0, x22] h)
 (obind (pickI (.tup []) (some (.tup [])) (some (.bool false))) fun x23 =>
 R 1 [a0, x23] h)
theorem e57_0 {T : Tab} {a0 : IV} {h : H} {r : CRes} (e : t57_0 (CL T) (J57 T) a0 h = r) (hr : r ≠ .fail) : J57 T 0 [a0] h = r := fj_step (fn := Tryz.f57) (js := js57) (by kernel_rfl) e hr
noncomputable def t57_1 (cf : CallF) (R : Rec) (a0 a28 : IV) (h : H) : CRes :=
 condK a28
 (obind (nilI a0) fun x24 =>
 obind (fadK 0 x24) fun x25 =>
 obind (ld0 h x25) fun x26 =>
 obind (nilI a0) fun x27 =>
 obind (fadK 1 x27) fun x28 =>
 obind (ld0 h x28) fun x29 =>
 obind (binN .add x29 (.int .i64 1)) fun x30 =>
 obind (ixS 3 x26 x30) fun x31 =>
 obind (fadK 1 x31) fun x32 =>
 obind (ld0 h x32) fun x33 =>
 .ok x33 h)
 (obind (nilI a0) fun x34 =>
 obind (fadK 0 x34) fun x35 =>
 obind (ld0 h x35) fun x36 =>
 obind (nilI a0) fun x37 =>
 obind (fadK 1 x37) fun x38 =>
 obind (ld0 h x38) fun x39 =>
 obind (ixS 3 x36 x39) fun x40 =>
 obind (fadK 2 x40) fun x41 =>
 obind (ld0 h x41) fun x42 =>
 callP (cf 30 [a0, x42, (.int .i64 30)] h) (fun v43 h44 =>
 .pan v43 h44) fun x45 h46 =>
 .ok (.str ⟨0, 0⟩) h46)
theorem e57_1 {T : Tab} {a0 a28 : IV} {h : H} {r : CRes} (e : t57_1 (CL T) (J57 T) a0 a28 h = r) (hr : r ≠ .fail) : J57 T 1 [a0, a28] h = r := fj_step (fn := Tryz.f57) (js := js57) (by kernel_rfl) e hr
theorem c57 {T : Tab} (hT : OvStep T) (ho : T.ov 57 = none) (hp : T.pol 57 = true) {a0 : IV} {h : H} {r : CRes} (hg : Gd h) (e : t57_0 (CL T) (J57 T) a0 h = r) (hr : r ≠ .fail) : CL T 57 [a0] h = r := call_good ho Tryz.func57 rfl rfl rfl hp hg hT (e57_0 e hr) hr

-- (*silkworm/silkwormref03.run).find
def js58 : List Jn := [⟨[], [0, 1]⟩, ⟨[0, 1, 0, 1], [0, 1, 5]⟩]
noncomputable def J58 (T : Tab) : Rec := fj Tryz.prog (CL T) Tryz.f58 js58
noncomputable def t58_0 (cf : CallF) (R : Rec) (a0 a1 : IV) (h : H) : CRes :=
 R 1 [a0, a1, (.int .i64 0)] h
theorem e58_0 {T : Tab} {a0 a1 : IV} {h : H} {r : CRes} (e : t58_0 (CL T) (J58 T) a0 a1 h = r) (hr : r ≠ .fail) : J58 T 0 [a0, a1] h = r := fj_step (fn := Tryz.f58) (js := js58) (by kernel_rfl) e hr
noncomputable def t58_1 (cf : CallF) (R : Rec) (a0 a1 a5 : IV) (h : H) : CRes :=
 obind (nilI a0) fun x1 =>
 obind (fadK 2 x1) fun x2 =>
 obind (ld0 h x2) fun x3 =>
 obind (lenS x3) fun x4 =>
 obind (binN .lss a5 x4) fun x5 =>
 condK x5
 (obind (nilI a0) fun x6 =>
 obind (fadK 2 x6) fun x7 =>
 obind (ld0 h x7) fun x8 =>
 obind (ixS 2 x8 a5) fun x9 =>
 obind (fadK 0 x9) fun x10 =>
 obind (ld0 h x10) fun x11 =>
 obind (binS .eql x11 a1) fun x12 =>
 condK x12
 (.ok a5 h)
 (obind (binN .add a5 (.int .i64 1)) fun x13 =>
 R 1 [a0, a1, x13] h))
 (.ok (.int .i64 (-1)) h)
theorem e58_1 {T : Tab} {a0 a1 a5 : IV} {h : H} {r : CRes} (e : t58_1 (CL T) (J58 T) a0 a1 a5 h = r) (hr : r ≠ .fail) : J58 T 1 [a0, a1, a5] h = r := fj_step (fn := Tryz.f58) (js := js58) (by kernel_rfl) e hr
theorem c58 {T : Tab} (hT : OvStep T) (ho : T.ov 58 = none) (hp : T.pol 58 = true) {a0 a1 : IV} {h : H} {r : CRes} (hg : Gd h) (e : t58_0 (CL T) (J58 T) a0 a1 h = r) (hr : r ≠ .fail) : CL T 58 [a0, a1] h = r := call_good ho Tryz.func58 rfl rfl rfl hp hg hT (e58_0 e hr) hr

-- silkworm/silkwormref03.without
def js59 : List Jn := [⟨[], [0, 1]⟩, ⟨[0, 1, 0, 1, 1], [0, 1, 5, 6]⟩, ⟨[1, 1, 0, 0, 1, 0, 1, 1], [0, 1, 5, 6]⟩]
noncomputable def J59 (T : Tab) : Rec := fj Tryz.prog (CL T) Tryz.f59 js59
noncomputable def t59_0 (cf : CallF) (R : Rec) (a0 a1 : IV) (h : H) : CRes :=
 R 1 [a0, a1, .nilSlice, (.int .i64 0)] h
theorem e59_0 {T : Tab} {a0 a1 : IV} {h : H} {r : CRes} (e : t59_0 (CL T) (J59 T) a0 a1 h = r) (hr : r ≠ .fail) : J59 T 0 [a0, a1] h = r := fj_step (fn := Tryz.f59) (js := js59) (by kernel_rfl) e hr
noncomputable def t59_1 (cf : CallF) (R : Rec) (a0 a1 a5 a6 : IV) (h : H) : CRes :=
 obind (lenS a0) fun x1 =>
 obind (binN .lss a6 x1) fun x2 =>
 condK x2
 (obind (ixS 2 a0 a6) fun x3 =>
 obind (fadK 0 x3) fun x4 =>
 obind (ld0 h x4) fun x5 =>
 obind (binS .neq x5 a1) fun x6 =>
 condK x6
 (obind (ixS 2 a0 a6) fun x7 =>
 obind (ldA 2 h x7) fun x8 =>
 obind2 (bslK false 2 [(.str ⟨0, 0⟩), .nilSlice] 1 [(0, x8)] h) fun x9 h10 =>
 obind2 (appK 2 40 h10 a5 x9) fun x11 h12 =>
 R 2 [a0, a1, x11, a6] h12)
 (R 2 [a0, a1, a5, a6] h))
 (.ok a5 h)
theorem e59_1 {T : Tab} {a0 a1 a5 a6 : IV} {h : H} {r : CRes} (e : t59_1 (CL T) (J59 T) a0 a1 a5 a6 h = r) (hr : r ≠ .fail) : J59 T 1 [a0, a1, a5, a6] h = r := fj_step (fn := Tryz.f59) (js := js59) (by kernel_rfl) e hr
noncomputable def t59_2 (cf : CallF) (R : Rec) (a0 a1 a5 a6 : IV) (h : H) : CRes :=
 obind (binN .add a6 (.int .i64 1)) fun x13 =>
 R 1 [a0, a1, a5, x13] h
theorem e59_2 {T : Tab} {a0 a1 a5 a6 : IV} {h : H} {r : CRes} (e : t59_2 (CL T) (J59 T) a0 a1 a5 a6 h = r) (hr : r ≠ .fail) : J59 T 2 [a0, a1, a5, a6] h = r := fj_step (fn := Tryz.f59) (js := js59) (by kernel_rfl) e hr
theorem c59 {T : Tab} (hT : OvStep T) (ho : T.ov 59 = none) (hp : T.pol 59 = true) {a0 a1 : IV} {h : H} {r : CRes} (hg : Gd h) (e : t59_0 (CL T) (J59 T) a0 a1 h = r) (hr : r ≠ .fail) : CL T 59 [a0, a1] h = r := call_good ho Tryz.func59 rfl rfl rfl hp hg hT (e59_0 e hr) hr

-- silkworm/syntax.reserved
def js60 : List Jn := [⟨[], [0]⟩, ⟨[1, 0, 1, 0, 1], [4]⟩]
noncomputable def J60 (T : Tab) : Rec := fj Tryz.prog (CL T) Tryz.f60 js60
noncomputable def t60_0 (cf : CallF) (R : Rec) (a0 : IV) (h : H) : CRes :=
 obind (binS .eql a0 (.str ⟨6, 111516500389741⟩)) fun x1 =>
 condK x1
 (R 1 [x1] h)
 (obind (binS .eql a0 (.str ⟨9, 1870936414602775522917⟩)) fun x2 =>
 condK x2
 (R 1 [x2] h)
 (obind (binS .eql a0 (.str ⟨5, 500186508905⟩)) fun x3 =>
 condK x3
 (R 1 [x3] h)
 (obind (binS .eql a0 (.str ⟨6, 128047746676079⟩)) fun x4 =>
 condK x4
 (R 1 [x4] h)
 (obind (binS .eql a0 (.str ⟨3, 6776178⟩)) fun x5 =>
 condK x5
 (R 1 [x5] h)
 (obind (binS .eql a0 (.str ⟨4, 1701996919⟩)) fun x6 =>
 condK x6
 (R 1 [x6] h)
 (obind (binS .eql a0 (.str ⟨9, 2110239404018478768496⟩)) fun x7 =>
 condK x7
 (R 1 [x7] h)
 (obind (binS .eql a0 (.str ⟨10, 516535522800345012203372⟩)) fun x8 =>
 condK x8
 (R 1 [x8] h)
 (obind (binS .eql a0 (.str ⟨6, 121390429860705⟩)) fun x9 =>
 condK x9
 (R 1 [x9] h)
 (obind (binS .eql a0 (.str ⟨6, 126965163453537⟩)) fun x10 =>
 condK x10
 (R 1 [x10] h)
 (obind (binS .eql a0 (.str ⟨7, 28542653544230768⟩)) fun x11 =>
 condK x11
 (R 1 [x11] h)
 (obind (binS .eql a0 (.str ⟨5, 474214786402⟩)) fun x12 =>
 condK x12
 (R 1 [x12] h)
 (obind (binS .eql a0 (.str ⟨3, 6581861⟩)) fun x13 =>
 condK x13
 (R 1 [x13] h)
 (obind (binS .eql a0 (.str ⟨2, 26217⟩)) fun x14 =>
 condK x14
 (R 1 [x14] h)
 (obind (binS .eql a0 (.str ⟨4, 1702063205⟩)) fun x15 =>
 condK x15
 (R 1 [x15] h)
 (obind (binS .eql a0 (.str ⟨4, 1702060387⟩)) fun x16 =>
 condK x16
 (R 1 [x16] h)
 (obind (binS .eql a0 (.str ⟨7, 28555834764324453⟩)) fun x17 =>
 condK x17
 (R 1 [x17] h)
 (obind (binS .eql a0 (.str ⟨7, 32770348699510116⟩)) fun x18 =>
 condK x18
 (R 1 [x18] h)
 (obind (binS .eql a0 (.str ⟨3, 7499622⟩)) fun x19 =>
 R 1 [x19] h))))))))))))))))))
theorem e60_0 {T : Tab} {a0 : IV} {h : H} {r : CRes} (e : t60_0 (CL T) (J60 T) a0 h = r) (hr : r ≠ .fail) : J60 T 0 [a0] h = r := fj_step (fn := Tryz.f60) (js := js60) (by kernel_rfl) e hr
noncomputable def t60_1 (cf : CallF) (R : Rec) (a4 : IV) (h : H) : CRes :=
 condK a4
 (.ok (.bool true) h)
 (.ok (.bool false) h)
theorem e60_1 {T : Tab} {a4 : IV} {h : H} {r : CRes} (e : t60_1 (CL T) (J60 T) a4 h = r) (hr : r ≠ .fail) : J60 T 1 [a4] h = r := fj_step (fn := Tryz.f60) (js := js60) (by kernel_rfl) e hr
theorem c60 {T : Tab} (hT : OvStep T) (ho : T.ov 60 = none) (hp : T.pol 60 = true) {a0 : IV} {h : H} {r : CRes} (hg : Gd h) (e : t60_0 (CL T) (J60 T) a0 h = r) (hr : r ≠ .fail) : CL T 60 [a0] h = r := call_good ho Tryz.func60 rfl rfl rfl hp hg hT (e60_0 e hr) hr

-- (*silkworm/syntax.parser).no
def js61 : List Jn := [⟨[], [0, 1]⟩]
noncomputable def J61 (T : Tab) : Rec := fj Tryz.prog (CL T) Tryz.f61 js61
noncomputable def t61_0 (cf : CallF) (R : Rec) (a0 a1 : IV) (h : H) : CRes :=
 callP (cf 37 [a0] h) .pan fun x1 h2 =>
 obind (bldK [(.int .i64 0), (.int .i64 0)] [(0, 1), (1, 1)] [(0, x1), (1, a1)]) fun x3 =>
 obind (bldK [(.int .i64 0), (.int .i64 0)] [(0, 2)] [(0, x3)]) fun x4 =>
 panK (.iface 58 x4) h2 .pan
theorem e61_0 {T : Tab} {a0 a1 : IV} {h : H} {r : CRes} (e : t61_0 (CL T) (J61 T) a0 a1 h = r) (hr : r ≠ .fail) : J61 T 0 [a0, a1] h = r := fj_step (fn := Tryz.f61) (js := js61) (by kernel_rfl) e hr
theorem c61 {T : Tab} (hT : OvStep T) (ho : T.ov 61 = none) (hp : T.pol 61 = true) {a0 a1 : IV} {h : H} {r : CRes} (hg : Gd h) (e : t61_0 (CL T) (J61 T) a0 a1 h = r) (hr : r ≠ .fail) : CL T 61 [a0, a1] h = r := call_good ho Tryz.func61 rfl rfl rfl hp hg hT (e61_0 e hr) hr

-- (*silkworm/syntax.parser).deep
def js62 : List Jn := [⟨[], [0, 1]⟩, ⟨[1], [0, 1]⟩]
noncomputable def J62 (T : Tab) : Rec := fj Tryz.prog (CL T) Tryz.f62 js62
noncomputable def t62_0 (cf : CallF) (R : Rec) (a0 a1 : IV) (h : H) : CRes :=
 callP (cf 78 [a0, (.bool true)] h) .pan fun x1 h2 =>
 obind (unI .not x1) fun x3 =>
 condK x3
 (callP (cf 61 [a0, (.int .i64 40)] h2) .pan fun x4 h5 =>
 R 1 [a0, a1] h5)
 (R 1 [a0, a1] h2)
theorem e62_0 {T : Tab} {a0 a1 : IV} {h : H} {r : CRes} (e : t62_0 (CL T) (J62 T) a0 a1 h = r) (hr : r ≠ .fail) : J62 T 0 [a0, a1] h = r := fj_step (fn := Tryz.f62) (js := js62) (by kernel_rfl) e hr
noncomputable def t62_1 (cf : CallF) (R : Rec) (a0 a1 : IV) (h : H) : CRes :=
 obind (binN .gtr a1 (.int .i64 32)) fun x6 =>
 condK x6
 (callP (cf 61 [a0, (.int .i64 41)] h) .pan fun x7 h8 =>
 .ok (.tup []) h8)
 (.ok (.tup []) h)
theorem e62_1 {T : Tab} {a0 a1 : IV} {h : H} {r : CRes} (e : t62_1 (CL T) (J62 T) a0 a1 h = r) (hr : r ≠ .fail) : J62 T 1 [a0, a1] h = r := fj_step (fn := Tryz.f62) (js := js62) (by kernel_rfl) e hr
theorem c62 {T : Tab} (hT : OvStep T) (ho : T.ov 62 = none) (hp : T.pol 62 = true) {a0 a1 : IV} {h : H} {r : CRes} (hg : Gd h) (e : t62_0 (CL T) (J62 T) a0 a1 h = r) (hr : r ≠ .fail) : CL T 62 [a0, a1] h = r := call_good ho Tryz.func62 rfl rfl rfl hp hg hT (e62_0 e hr) hr

-- (*silkworm/syntax.parser).climb
def js63 : List Jn := [⟨[], [0, 1, 2, 3]⟩, ⟨[0, 1], [0, 2, 3, 5, 8]⟩, ⟨[1, 1, 1, 1, 1, 1, 0, 0, 0, 1], [0, 2, 3, 5, 8, 11, 12, 13]⟩]
noncomputable def J63 (T : Tab) : Rec := fj Tryz.prog (CL T) Tryz.f63 js63
noncomputable def t63_0 (cf : CallF) (R : Rec) (a0 a1 a2 a3 : IV) (h : H) : CRes :=
 obind2 (newI h (IV.cells a1)) fun x1 h2 =>
 obind2 (newI h2 z0) fun x3 h4 =>
 R 1 [a0, a2, a3, x1, x3] h4
theorem e63_0 {T : Tab} {a0 a1 a2 a3 : IV} {h : H} {r : CRes} (e : t63_0 (CL T) (J63 T) a0 a1 a2 a3 h = r) (hr : r ≠ .fail) : J63 T 0 [a0, a1, a2, a3] h = r := fj_step (fn := Tryz.f63) (js := js63) (by kernel_rfl) e hr
noncomputable def t63_1 (cf : CallF) (R : Rec) (a0 a2 a3 a5 a8 : IV) (h : H) : CRes :=
 callP (cf 36 [a0] h) .pan fun x5 h6 =>
 obind (extractI x5 0) fun x7 =>
 obind (extractI x5 1) fun x8 =>
 callP (cf 79 [x7] h6) .pan fun x9 h10 =>
 obind (extractI x9 0) fun x11 =>
 obind (extractI x9 1) fun x12 =>
 obind (binN .lss x11 a2) fun x13 =>
 spanK x13 false h10 (fun k14 =>
 obind (binN .eql x11 (.int .i64 0)) fun x17 =>
 k14 x17 h10) fun x15 h16 =>
 obind (pickI x13 (some (.bool true)) (some x15)) fun x18 =>
 condK x18
 (obind (ldA 6 h16 a5) fun x19 =>
 obindH (stA 6 h16 a8 x19) fun h20 =>
 obind (ldA 6 h20 a8) fun x21 =>
 .ok x21 h20)
 (callP (cf 37 [a0] h16) .pan fun x22 h23 =>
 obind2 (bslK false 1 [(.str ⟨0, 0⟩)] 1 [(0, x7)] h23) fun x24 h25 =>
 callP (cf 38 [a0, x24] h25) .pan fun x26 h27 =>
 callP (cf 78 [a0, (.bool true)] h27) .pan fun x28 h29 =>
 obind (unI .not x28) fun x30 =>
 condK x30
 (callP (cf 61 [a0, (.int .i64 40)] h29) .pan fun x31 h32 =>
 R 2 [a0, a2, a3, a5, a8, x11, x12, x22] h32)
 (R 2 [a0, a2, a3, a5, a8, x11, x12, x22] h29))
theorem e63_1 {T : Tab} {a0 a2 a3 a5 a8 : IV} {h : H} {r : CRes} (e : t63_1 (CL T) (J63 T) a0 a2 a3 a5 a8 h = r) (hr : r ≠ .fail) : J63 T 1 [a0, a2, a3, a5, a8] h = r := fj_step (fn := Tryz.f63) (js := js63) (by kernel_rfl) e hr
noncomputable def t63_2 (cf : CallF) (R : Rec) (a0 a2 a3 a5 a8 a11 a12 a13 : IV) (h : H) : CRes :=
 callP (cf 64 [a0, a3] h) .pan fun x33 h34 =>
 obind (binN .add a11 (.int .i64 1)) fun x35 =>
 callP (cf 63 [a0, x33, x35, a3] h34) .pan fun x36 h37 =>
 obind2 (newI h37 z0) fun x38 h39 =>
 obindH (stA 6 h39 x38 x36) fun h40 =>
 obind (ldA 6 h40 a5) fun x41 =>
 obind (ldA 6 h40 x38) fun x42 =>
 obind2 (bslK false 6 z0 2 [(0, x41), (1, x42)] h40) fun x43 h44 =>
 obind (bldK z0 p12 [(0, a12), (4, x43), (5, a13)]) fun x45 =>
 obindH (stA 6 h44 a5 x45) fun h46 =>
 R 1 [a0, a2, a3, a5, a8] h46
theorem e63_2 {T : Tab} {a0 a2 a3 a5 a8 a11 a12 a13 : IV} {h : H} {r : CRes} (e : t63_2 (CL T) (J63 T) a0 a2 a3 a5 a8 a11 a12 a13 h = r) (hr : r ≠ .fail) : J63 T 2 [a0, a2, a3, a5, a8, a11, a12, a13] h = r := fj_step (fn := Tryz.f63) (js := js63) (by kernel_rfl) e hr
theorem c63 {T : Tab} (hT : OvStep T) (ho : T.ov 63 = none) (hp : T.pol 63 = true) {a0 a1 a2 a3 : IV} {h : H} {r : CRes} (hg : Gd h) (e : t63_0 (CL T) (J63 T) a0 a1 a2 a3 h = r) (hr : r ≠ .fail) : CL T 63 [a0, a1, a2, a3] h = r := call_good ho Tryz.func63 rfl rfl rfl hp hg hT (e63_0 e hr) hr

-- (*silkworm/syntax.parser).operand
def js64 : List Jn := [⟨[], [0, 1]⟩]
noncomputable def J64 (T : Tab) : Rec := fj Tryz.prog (CL T) Tryz.f64 js64
noncomputable def t64_0 (cf : CallF) (R : Rec) (a0 a1 : IV) (h : H) : CRes :=
 obind2 (newI h z0) fun x1 h2 =>
 callP (cf 37 [a0] h2) .pan fun x3 h4 =>
 callP (cf 36 [a0] h4) .pan fun x5 h6 =>
 obind (extractI x5 0) fun x7 =>
 obind (extractI x5 1) fun x8 =>
 callP (cf 80 [x7] h6) .pan fun x9 h10 =>
 obind (binN .gtr x9 (.int .i64 0)) fun x11 =>
 condK x11
 (obind2 (bslK false 1 [(.str ⟨0, 0⟩)] 1 [(0, x7)] h10) fun x12 h13 =>
 callP (cf 38 [a0, x12] h13) .pan fun x14 h15 =>
 obind (binN .add a1 (.int .i64 1)) fun x16 =>
 callP (cf 62 [a0, x16] h15) .pan fun x17 h18 =>
 callP (cf 80 [x7] h18) .pan fun x19 h20 =>
 obind (binN .add a1 (.int .i64 1)) fun x21 =>
 callP (cf 64 [a0, x21] h20) .pan fun x22 h23 =>
 obind2 (bslK false 6 z0 1 [(0, x22)] h23) fun x24 h25 =>
 obind (bldK z0 p12 [(0, x19), (4, x24), (5, x3)]) fun x26 =>
 obindH (stA 6 h25 x1 x26) fun h27 =>
 obind (ldA 6 h27 x1) fun x28 =>
 .ok x28 h27)
 (callP (cf 81 [a0, a1] h10) .pan fun x29 h30 =>
 obindH (stA 6 h30 x1 x29) fun h31 =>
 obind (ldA 6 h31 x1) fun x32 =>
 .ok x32 h31)
theorem e64_0 {T : Tab} {a0 a1 : IV} {h : H} {r : CRes} (e : t64_0 (CL T) (J64 T) a0 a1 h = r) (hr : r ≠ .fail) : J64 T 0 [a0, a1] h = r := fj_step (fn := Tryz.f64) (js := js64) (by kernel_rfl) e hr
theorem c64 {T : Tab} (hT : OvStep T) (ho : T.ov 64 = none) (hp : T.pol 64 = true) {a0 a1 : IV} {h : H} {r : CRes} (hg : Gd h) (e : t64_0 (CL T) (J64 T) a0 a1 h = r) (hr : r ≠ .fail) : CL T 64 [a0, a1] h = r := call_good ho Tryz.func64 rfl rfl rfl hp hg hT (e64_0 e hr) hr

-- (*silkworm/syntax.parser).span
def js65 : List Jn := [⟨[], [0]⟩]
noncomputable def J65 (T : Tab) : Rec := fj Tryz.prog (CL T) Tryz.f65 js65
noncomputable def t65_0 (cf : CallF) (R : Rec) (a0 : IV) (h : H) : CRes :=
 obind2 (newI h z0) fun x1 h2 =>
 obind2 (newI h2 z0) fun x3 h4 =>
 callP (cf 40 [a0, (.str ⟨1, 91⟩)] h4) .pan fun x5 h6 =>
 obind (unI .not x5) fun x7 =>
 condK x7
 (obind (ldA 6 h6 x1) fun x8 =>
 obind (ldA 6 h6 x3) fun x9 =>
 obindH (stA 6 h6 x1 x8) fun h10 =>
 obind (ldA 6 h10 x3) fun x11 =>
 bif IV.beq x11 x9 then
 obindH (stA 6 h10 x3 x9) fun h12 =>
 obind (ldA 6 h12 x1) fun x13 =>
 obind (ldA 6 h12 x3) fun x14 =>
 .ok (.tup [(.bool false), x13, x14]) h12
 else .fail)
 (callP (cf 41 [a0, (.int .i64 1)] h6) .pan fun x15 h16 =>
 obindH (stA 6 h16 x1 x15) fun h17 =>
 obind2 (bslK false 1 [(.str ⟨0, 0⟩)] 1 [(0, (.str ⟨1, 58⟩))] h17) fun x18 h19 =>
 callP (cf 38 [a0, x18] h19) .pan fun x20 h21 =>
 callP (cf 41 [a0, (.int .i64 1)] h21) .pan fun x22 h23 =>
 obindH (stA 6 h23 x3 x22) fun h24 =>
 obind2 (bslK false 1 [(.str ⟨0, 0⟩)] 1 [(0, (.str ⟨1, 93⟩))] h24) fun x25 h26 =>
 callP (cf 38 [a0, x25] h26) .pan fun x27 h28 =>
 obind (ldA 6 h28 x1) fun x29 =>
 obind (ldA 6 h28 x3) fun x30 =>
 obindH (stA 6 h28 x1 x29) fun h31 =>
 obind (ldA 6 h31 x3) fun x32 =>
 bif IV.beq x32 x30 then
 obindH (stA 6 h31 x3 x30) fun h33 =>
 obind (ldA 6 h33 x1) fun x34 =>
 obind (ldA 6 h33 x3) fun x35 =>
 .ok (.tup [(.bool true), x34, x35]) h33
 else .fail)
theorem e65_0 {T : Tab} {a0 : IV} {h : H} {r : CRes} (e : t65_0 (CL T) (J65 T) a0 h = r) (hr : r ≠ .fail) : J65 T 0 [a0] h = r := fj_step (fn := Tryz.f65) (js := js65) (by kernel_rfl) e hr
theorem c65 {T : Tab} (hT : OvStep T) (ho : T.ov 65 = none) (hp : T.pol 65 = true) {a0 : IV} {h : H} {r : CRes} (hg : Gd h) (e : t65_0 (CL T) (J65 T) a0 h = r) (hr : r ≠ .fail) : CL T 65 [a0] h = r := call_good ho Tryz.func65 rfl rfl rfl hp hg hT (e65_0 e hr) hr

-- (*silkworm/syntax.parser).item
def js66 : List Jn := [⟨[], [0, 1]⟩, ⟨[1, 1, 1], [4, 5]⟩, ⟨[1, 1, 1, 1, 1, 1, 1, 1, 1, 1, 1, 1, 1, 1, 0, 0, 1, 1], [0, 4, 5]⟩, ⟨[1, 1, 1, 1, 1, 1, 1, 1, 1, 1, 1, 1, 1, 1, 1, 1, 1, 0, 0, 1, 1], [0, 4, 5]⟩]
noncomputable def J66 (T : Tab) : Rec := fj Tryz.prog (CL T) Tryz.f66 js66
noncomputable def t66_0 (cf : CallF) (R : Rec) (a0 a1 : IV) (h : H) : CRes :=
 obind2 (newI h z14) fun x1 h2 =>
 callP (cf 37 [a0] h2) .pan fun x3 h4 =>
 obind (bldK z14 p15 [(17, x3)]) fun x5 =>
 obind2 (newI h4 z14) fun x6 h7 =>
 obindH (stA 48 h7 x6 x5) fun h8 =>
 callP (cf 40 [a0, (.str ⟨4, 1701996919⟩)] h8) .pan fun x9 h10 =>
 condK x9
 (obind (fadK 0 x6) fun x11 =>
 obindH (stA 1 h10 x11 (.int .i64 1)) fun h12 =>
 callP (cf 82 [a0, x6] h12) .pan fun x13 h14 =>
 R 1 [x1, x6] h14)
 (callP (cf 40 [a0, (.str ⟨3, 6776178⟩)] h10) .pan fun x15 h16 =>
 condK x15
 (obind (fadK 0 x6) fun x17 =>
 obindH (stA 1 h16 x17 (.int .i64 2)) fun h18 =>
 callP (cf 82 [a0, x6] h18) .pan fun x19 h20 =>
 R 1 [x1, x6] h20)
 (callP (cf 40 [a0, (.str ⟨10, 516535522800345012203372⟩)] h16) .pan fun x21 h22 =>
 condK x21
 (callP (cf 39 [a0] h22) .pan fun x23 h24 =>
 obind (fadK 0 x6) fun x25 =>
 obindH (stA 1 h24 x25 (.int .i64 3)) fun h26 =>
 obind (fadK 1 x6) fun x27 =>
 obindH (stA 1 h26 x27 x23) fun h28 =>
 obind2 (bslK false 1 [(.str ⟨0, 0⟩)] 1 [(0, (.str ⟨1, 61⟩))] h28) fun x29 h30 =>
 callP (cf 38 [a0, x29] h30) .pan fun x31 h32 =>
 callP (cf 41 [a0, (.int .i64 1)] h32) .pan fun x33 h34 =>
 obind (fadK 23 x6) fun x35 =>
 obindH (stA 6 h34 x35 x33) fun h36 =>
 obind2 (bslK false 1 [(.str ⟨0, 0⟩)] 1 [(0, (.str ⟨1, 59⟩))] h36) fun x37 h38 =>
 callP (cf 38 [a0, x37] h38) .pan fun x39 h40 =>
 R 1 [x1, x6] h40)
 (callP (cf 40 [a0, (.str ⟨6, 121390429860705⟩)] h22) .pan fun x41 h42 =>
 condK x41
 (callP (cf 83 [a0, x6] h42) .pan fun x43 h44 =>
 R 1 [x1, x6] h44)
 (callP (cf 40 [a0, (.str ⟨6, 126965163453537⟩)] h42) .pan fun x45 h46 =>
 condK x45
 (callP (cf 84 [a0, x6] h46) .pan fun x47 h48 =>
 R 1 [x1, x6] h48)
 (callP (cf 40 [a0, (.str ⟨3, 7499622⟩)] h46) .pan fun x49 h50 =>
 condK x49
 (callP (cf 85 [a0, x6, a1] h50) .pan fun x51 h52 =>
 R 1 [x1, x6] h52)
 (callP (cf 39 [a0] h50) .pan fun x53 h54 =>
 obind (fadK 0 x6) fun x55 =>
 obindH (stA 1 h54 x55 (.int .i64 7)) fun h56 =>
 obind (fadK 42 x6) fun x57 =>
 obindH (stA 1 h56 x57 x53) fun h58 =>
 callP (cf 40 [a0, (.str ⟨1, 35⟩)] h58) .pan fun x59 h60 =>
 condK x59
 (obind2 (bslK false 1 [(.str ⟨0, 0⟩)] 1 [(0, (.str ⟨1, 40⟩))] h60) fun x61 h62 =>
 callP (cf 38 [a0, x61] h62) .pan fun x63 h64 =>
 callP (cf 86 [a0] h64) .pan fun x65 h66 =>
 obind (fadK 43 x6) fun x67 =>
 obindH (stA 1 h66 x67 x65) fun h68 =>
 R 2 [a0, x1, x6] h68)
 (R 2 [a0, x1, x6] h60)))))))
theorem e66_0 {T : Tab} {a0 a1 : IV} {h : H} {r : CRes} (e : t66_0 (CL T) (J66 T) a0 a1 h = r) (hr : r ≠ .fail) : J66 T 0 [a0, a1] h = r := fj_step (fn := Tryz.f66) (js := js66) (by kernel_rfl) e hr
noncomputable def t66_1 (cf : CallF) (R : Rec) (a4 a5 : IV) (h : H) : CRes :=
 obind (ldA 48 h a5) fun x69 =>
 obindH (stA 48 h a4 x69) fun h70 =>
 obind (ldA 48 h70 a4) fun x71 =>
 .ok x71 h70
theorem e66_1 {T : Tab} {a4 a5 : IV} {h : H} {r : CRes} (e : t66_1 (CL T) (J66 T) a4 a5 h = r) (hr : r ≠ .fail) : J66 T 1 [a4, a5] h = r := fj_step (fn := Tryz.f66) (js := js66) (by kernel_rfl) e hr
noncomputable def t66_2 (cf : CallF) (R : Rec) (a0 a4 a5 : IV) (h : H) : CRes :=
 callP (cf 39 [a0] h) .pan fun x72 h73 =>
 obind (fadK 1 a5) fun x74 =>
 obindH (stA 1 h73 x74 x72) fun h75 =>
 obind2 (bslK false 1 [(.str ⟨0, 0⟩)] 1 [(0, (.str ⟨1, 40⟩))] h75) fun x76 h77 =>
 callP (cf 38 [a0, x76] h77) .pan fun x78 h79 =>
 callP (cf 40 [a0, (.str ⟨1, 41⟩)] h79) .pan fun x80 h81 =>
 obind (unI .not x80) fun x82 =>
 condK x82
 (callP (cf 86 [a0] h81) .pan fun x83 h84 =>
 obind (fadK 44 a5) fun x85 =>
 obindH (stA 1 h84 x85 x83) fun h86 =>
 R 3 [a0, a4, a5] h86)
 (R 3 [a0, a4, a5] h81)
theorem e66_2 {T : Tab} {a0 a4 a5 : IV} {h : H} {r : CRes} (e : t66_2 (CL T) (J66 T) a0 a4 a5 h = r) (hr : r ≠ .fail) : J66 T 2 [a0, a4, a5] h = r := fj_step (fn := Tryz.f66) (js := js66) (by kernel_rfl) e hr
noncomputable def t66_3 (cf : CallF) (R : Rec) (a0 a4 a5 : IV) (h : H) : CRes :=
 obind2 (bslK false 1 [(.str ⟨0, 0⟩)] 1 [(0, (.str ⟨1, 59⟩))] h) fun x87 h88 =>
 callP (cf 38 [a0, x87] h88) .pan fun x89 h90 =>
 R 1 [a4, a5] h90
theorem e66_3 {T : Tab} {a0 a4 a5 : IV} {h : H} {r : CRes} (e : t66_3 (CL T) (J66 T) a0 a4 a5 h = r) (hr : r ≠ .fail) : J66 T 3 [a0, a4, a5] h = r := fj_step (fn := Tryz.f66) (js := js66) (by kernel_rfl) e hr
theorem c66 {T : Tab} (hT : OvStep T) (ho : T.ov 66 = none) (hp : T.pol 66 = true) {a0 a1 : IV} {h : H} {r : CRes} (hg : Gd h) (e : t66_0 (CL T) (J66 T) a0 a1 h = r) (hr : r ≠ .fail) : CL T 66 [a0, a1] h = r := call_good ho Tryz.func66 rfl rfl rfl hp hg hT (e66_0 e hr) hr

-- silkworm/silkwormref02.decimal
def js73 : List Jn := [⟨[], [0, 1, 2]⟩, ⟨[0, 1, 0, 1, 1, 1], [0, 1, 7, 8]⟩]
noncomputable def J73 (T : Tab) : Rec := fj Tryz.prog (CL T) Tryz.f73 js73
noncomputable def t73_0 (cf : CallF) (R : Rec) (a0 a1 a2 : IV) (h : H) : CRes :=
 obind (binS .eql a0 (.str ⟨0, 0⟩)) fun x1 =>
 spanK x1 false h (fun k2 =>
 obind (unI .not a2) fun x5 =>
 k2 x5 h) fun x3 h4 =>
 spanK x3 true h4 (fun k6 =>
 obind (lenStr a0) fun x9 =>
 obind (binN .gtr x9 (.int .i64 10)) fun x10 =>
 k6 x10 h4) fun x7 h8 =>
 spanK x7 false h8 (fun k11 =>
 obind (lenStr a0) fun x14 =>
 obind (binN .gtr x14 (.int .i64 1)) fun x15 =>
 k11 x15 h8) fun x12 h13 =>
 spanK x12 true h13 (fun k16 =>
 obind (ixStr a0 (.int .i64 0)) fun x19 =>
 obind (binN .eql x19 (.int .u8 48)) fun x20 =>
 k16 x20 h13) fun x17 h18 =>
 spanK x7 false h18 (fun k21 =>
 obind (pickI x12 (some x17) (some (.bool false))) fun x24 =>
 k21 x24 h18) fun x22 h23 =>
 spanK x3 true h23 (fun k25 =>
 obind (pickI x7 (some (.bool true)) (some x22)) fun x28 =>
 k25 x28 h23) fun x26 h27 =>
 spanK x1 false h27 (fun k29 =>
 obind (pickI x3 (some x26) (some (.bool false))) fun x32 =>
 k29 x32 h27) fun x30 h31 =>
 obind (pickI x1 (some (.bool true)) (some x30)) fun x33 =>
 condK x33
 (.ok (.int .i64 (-1)) h31)
 (R 1 [a0, a1, (.int .i64 0), (.int .i64 0)] h31)
theorem e73_0 {T : Tab} {a0 a1 a2 : IV} {h : H} {r : CRes} (e : t73_0 (CL T) (J73 T) a0 a1 a2 h = r) (hr : r ≠ .fail) : J73 T 0 [a0, a1, a2] h = r := fj_step (fn := Tryz.f73) (js := js73) (by kernel_rfl) e hr
noncomputable def t73_1 (cf : CallF) (R : Rec) (a0 a1 a7 a8 : IV) (h : H) : CRes :=
 obind (lenStr a0) fun x34 =>
 obind (binN .lss a8 x34) fun x35 =>
 condK x35
 (obind (ixStr a0 a8) fun x36 =>
 callP (cf 54 [x36] h) .pan fun x37 h38 =>
 obind (unI .not x37) fun x39 =>
 condK x39
 (.ok (.int .i64 (-1)) h38)
 (obind (binN .mul (.int .i64 10) a7) fun x40 =>
 obind (ixStr a0 a8) fun x41 =>
 obind (binN .sub x41 (.int .u8 48)) fun x42 =>
 obind (cvN .i64 x42) fun x43 =>
 obind (binN .add x40 x43) fun x44 =>
 obind (binN .gtr x44 a1) fun x45 =>
 condK x45
 (.ok (.int .i64 (-1)) h38)
 (obind (binN .add a8 (.int .i64 1)) fun x46 =>
 R 1 [a0, a1, x44, x46] h38)))
 (.ok a7 h)
theorem e73_1 {T : Tab} {a0 a1 a7 a8 : IV} {h : H} {r : CRes} (e : t73_1 (CL T) (J73 T) a0 a1 a7 a8 h = r) (hr : r ≠ .fail) : J73 T 1 [a0, a1, a7, a8] h = r := fj_step (fn := Tryz.f73) (js := js73) (by kernel_rfl) e hr
theorem c73 {T : Tab} (hT : OvStep T) (ho : T.ov 73 = none) (hp : T.pol 73 = true) {a0 a1 a2 : IV} {h : H} {r : CRes} (hg : Gd h) (e : t73_0 (CL T) (J73 T) a0 a1 a2 h = r) (hr : r ≠ .fail) : CL T 73 [a0, a1, a2] h = r := call_good ho Tryz.func73 rfl rfl rfl hp hg hT (e73_0 e hr) hr

-- silkworm/silkwormref02.digits
def js75 : List Jn := [⟨[], [0, 1]⟩, ⟨[0, 1, 0, 1, 1, 1, 1], [0, 1, 6, 7]⟩, ⟨[1, 1, 0, 0, 1, 0, 0, 1, 0, 1, 1, 1, 1], [0, 1, 6, 7, 8]⟩]
noncomputable def J75 (T : Tab) : Rec := fj Tryz.prog (CL T) Tryz.f75 js75
noncomputable def t75_0 (cf : CallF) (R : Rec) (a0 a1 : IV) (h : H) : CRes :=
 obind (binS .eql a1 (.str ⟨0, 0⟩)) fun x1 =>
 condK x1
 (.ok (.str ⟨0, 0⟩) h)
 (obind (binN .eql a0 (.int .u8 100)) fun x2 =>
 condK x2
 (callP (cf 73 [a1, (.int .i64 2147483647), (.bool true)] h) .pan fun x3 h4 =>
 obind (binN .lss x3 (.int .i64 0)) fun x5 =>
 condK x5
 (.ok (.str ⟨0, 0⟩) h4)
 (callP (cf 74 [x3, (.int .i64 31)] h4) .pan fun x6 h7 =>
 .ok x6 h7))
 (R 1 [a0, a1, .nilSlice, (.int .i64 0)] h))
theorem e75_0 {T : Tab} {a0 a1 : IV} {h : H} {r : CRes} (e : t75_0 (CL T) (J75 T) a0 a1 h = r) (hr : r ≠ .fail) : J75 T 0 [a0, a1] h = r := fj_step (fn := Tryz.f75) (js := js75) (by kernel_rfl) e hr
noncomputable def t75_1 (cf : CallF) (R : Rec) (a0 a1 a6 a7 : IV) (h : H) : CRes :=
 obind (lenStr a1) fun x8 =>
 obind (binN .lss a7 x8) fun x9 =>
 condK x9
 (obind (ixStr a1 a7) fun x10 =>
 callP (cf 96 [x10] h) .pan fun x11 h12 =>
 obind (binN .eql a0 (.int .u8 98)) fun x13 =>
 condK x13
 (obind (ixStr a1 a7) fun x14 =>
 obind (binN .neq x14 (.int .u8 48)) fun x15 =>
 spanK x15 true h12 (fun k16 =>
 obind (ixStr a1 a7) fun x19 =>
 obind (binN .neq x19 (.int .u8 49)) fun x20 =>
 k16 x20 h12) fun x17 h18 =>
 obind (pickI x15 (some x17) (some (.bool false))) fun x21 =>
 spanK x21 true h18 (fun k22 =>
 obind (ixStr a1 a7) fun x25 =>
 obind (binN .neq x25 (.int .u8 120)) fun x26 =>
 k22 x26 h18) fun x23 h24 =>
 obind (pickI x21 (some x23) (some (.bool false))) fun x27 =>
 spanK x27 true h24 (fun k28 =>
 obind (ixStr a1 a7) fun x31 =>
 obind (binN .neq x31 (.int .u8 122)) fun x32 =>
 k28 x32 h24) fun x29 h30 =>
 obind (pickI x27 (some x29) (some (.bool false))) fun x33 =>
 condK x33
 (.ok (.str ⟨0, 0⟩) h30)
 (obind (binN .add a7 (.int .i64 1)) fun x34 =>
 obind (slcStr a1 (some a7) (some x34)) fun x35 =>
 R 2 [a0, a1, a6, a7, x35] h30))
 (R 2 [a0, a1, a6, a7, x11] h12))
 (obind (cvS h a6) fun x36 =>
 .ok x36 h)
theorem e75_1 {T : Tab} {a0 a1 a6 a7 : IV} {h : H} {r : CRes} (e : t75_1 (CL T) (J75 T) a0 a1 a6 a7 h = r) (hr : r ≠ .fail) : J75 T 1 [a0, a1, a6, a7] h = r := fj_step (fn := Tryz.f75) (js := js75) (by kernel_rfl) e hr
noncomputable def t75_2 (cf : CallF) (R : Rec) (a0 a1 a6 a7 a8 : IV) (h : H) : CRes :=
 obind (binS .eql a8 (.str ⟨0, 0⟩)) fun x37 =>
 spanK x37 false h (fun k38 =>
 obind (binN .neq a0 (.int .u8 98)) fun x41 =>
 k38 x41 h) fun x39 h40 =>
 spanK x39 true h40 (fun k42 =>
 obind (binN .neq a0 (.int .u8 104)) fun x45 =>
 k42 x45 h40) fun x43 h44 =>
 spanK x37 false h44 (fun k46 =>
 obind (pickI x39 (some x43) (some (.bool false))) fun x49 =>
 k46 x49 h44) fun x47 h48 =>
 obind (pickI x37 (some (.bool true)) (some x47)) fun x50 =>
 condK x50
 (.ok (.str ⟨0, 0⟩) h48)
 (obind2 (appK 1 1 h48 a6 a8) fun x51 h52 =>
 obind (binN .add a7 (.int .i64 1)) fun x53 =>
 R 1 [a0, a1, x51, x53] h52)
theorem e75_2 {T : Tab} {a0 a1 a6 a7 a8 : IV} {h : H} {r : CRes} (e : t75_2 (CL T) (J75 T) a0 a1 a6 a7 a8 h = r) (hr : r ≠ .fail) : J75 T 2 [a0, a1, a6, a7, a8] h = r := fj_step (fn := Tryz.f75) (js := js75) (by kernel_rfl) e hr
theorem c75 {T : Tab} (hT : OvStep T) (ho : T.ov 75 = none) (hp : T.pol 75 = true) {a0 a1 : IV} {h : H} {r : CRes} (hg : Gd h) (e : t75_0 (CL T) (J75 T) a0 a1 h = r) (hr : r ≠ .fail) : CL T 75 [a0, a1] h = r := call_good ho Tryz.func75 rfl rfl rfl hp hg hT (e75_0 e hr) hr

-- (*silkworm/syntax.parser).ahead
def js78 : List Jn := [⟨[], [0, 1]⟩]
noncomputable def J78 (T : Tab) : Rec := fj Tryz.prog (CL T) Tryz.f78 js78
noncomputable def t78_0 (cf : CallF) (R : Rec) (a0 a1 : IV) (h : H) : CRes :=
 callP (cf 36 [a0] h) .pan fun x1 h2 =>
 obind (extractI x1 0) fun x3 =>
 obind (extractI x1 1) fun x4 =>
 obind2 (bslK false 1 [(.str ⟨0, 0⟩)] 4 [(0, (.str ⟨5, 435626798624⟩)), (1, (.str ⟨7, 32199620762627616⟩)), (2, (.str ⟨1, 40⟩)), (3, (.str ⟨1, 123⟩))] h2) fun x5 h6 =>
 callP (cf 17 [a0, x5] h6) .pan fun x7 h8 =>
 spanK x7 false h8 (fun k9 =>
 k9 a1 h8) fun x10 h11 =>
 spanK x10 true h11 (fun k12 =>
 callP (cf 80 [x3] h11) .pan fun x15 h16 =>
 obind (binN .gtr x15 (.int .i64 0)) fun x17 =>
 k12 x17 h16) fun x13 h14 =>
 spanK x7 false h14 (fun k18 =>
 obind (pickI x10 (some x13) (some (.bool false))) fun x21 =>
 k18 x21 h14) fun x19 h20 =>
 obind (pickI x7 (some (.bool true)) (some x19)) fun x22 =>
 .ok x22 h20
theorem e78_0 {T : Tab} {a0 a1 : IV} {h : H} {r : CRes} (e : t78_0 (CL T) (J78 T) a0 a1 h = r) (hr : r ≠ .fail) : J78 T 0 [a0, a1] h = r := fj_step (fn := Tryz.f78) (js := js78) (by kernel_rfl) e hr
theorem c78 {T : Tab} (hT : OvStep T) (ho : T.ov 78 = none) (hp : T.pol 78 = true) {a0 a1 : IV} {h : H} {r : CRes} (hg : Gd h) (e : t78_0 (CL T) (J78 T) a0 a1 h = r) (hr : r ≠ .fail) : CL T 78 [a0, a1] h = r := call_good ho Tryz.func78 rfl rfl rfl hp hg hT (e78_0 e hr) hr

-- silkworm/syntax.binary
def js79 : List Jn := [⟨[], [0]⟩]
noncomputable def J79 (T : Tab) : Rec := fj Tryz.prog (CL T) Tryz.f79 js79
noncomputable def t79_0 (cf : CallF) (R : Rec) (a0 : IV) (h : H) : CRes :=
 obind (binS .eql a0 (.str ⟨2, 31868⟩)) fun x1 =>
 condK x1
 (.ok (.tup [(.int .i64 1), (.int .i64 27)]) h)
 (obind (binS .eql a0 (.str ⟨2, 9766⟩)) fun x2 =>
 condK x2
 (.ok (.tup [(.int .i64 2), (.int .i64 26)]) h)
 (obind (binS .eql a0 (.str ⟨1, 124⟩)) fun x3 =>
 condK x3
 (.ok (.tup [(.int .i64 3), (.int .i64 25)]) h)
 (obind (binS .eql a0 (.str ⟨1, 94⟩)) fun x4 =>
 condK x4
 (.ok (.tup [(.int .i64 4), (.int .i64 24)]) h)
 (obind (binS .eql a0 (.str ⟨1, 38⟩)) fun x5 =>
 condK x5
 (.ok (.tup [(.int .i64 5), (.int .i64 23)]) h)
 (obind (binS .eql a0 (.str ⟨2, 15677⟩)) fun x6 =>
 condK x6
 (.ok (.tup [(.int .i64 6), (.int .i64 21)]) h)
 (obind (binS .eql a0 (.str ⟨2, 15649⟩)) fun x7 =>
 condK x7
 (.ok (.tup [(.int .i64 6), (.int .i64 22)]) h)
 (obind (binS .eql a0 (.str ⟨1, 60⟩)) fun x8 =>
 condK x8
 (.ok (.tup [(.int .i64 7), (.int .i64 17)]) h)
 (obind (binS .eql a0 (.str ⟨2, 15676⟩)) fun x9 =>
 condK x9
 (.ok (.tup [(.int .i64 7), (.int .i64 18)]) h)
 (obind (binS .eql a0 (.str ⟨1, 62⟩)) fun x10 =>
 condK x10
 (.ok (.tup [(.int .i64 7), (.int .i64 19)]) h)
 (obind (binS .eql a0 (.str ⟨2, 15678⟩)) fun x11 =>
 condK x11
 (.ok (.tup [(.int .i64 7), (.int .i64 20)]) h)
 (obind (binS .eql a0 (.str ⟨2, 15420⟩)) fun x12 =>
 condK x12
 (.ok (.tup [(.int .i64 8), (.int .i64 15)]) h)
 (obind (binS .eql a0 (.str ⟨2, 15934⟩)) fun x13 =>
 condK x13
 (.ok (.tup [(.int .i64 8), (.int .i64 16)]) h)
 (obind (binS .eql a0 (.str ⟨1, 43⟩)) fun x14 =>
 condK x14
 (.ok (.tup [(.int .i64 9), (.int .i64 13)]) h)
 (obind (binS .eql a0 (.str ⟨1, 45⟩)) fun x15 =>
 condK x15
 (.ok (.tup [(.int .i64 9), (.int .i64 14)]) h)
 (.ok (.tup [(.int .i64 0), (.int .i64 0)]) h)))))))))))))))
theorem e79_0 {T : Tab} {a0 : IV} {h : H} {r : CRes} (e : t79_0 (CL T) (J79 T) a0 h = r) (hr : r ≠ .fail) : J79 T 0 [a0] h = r := fj_step (fn := Tryz.f79) (js := js79) (by kernel_rfl) e hr
theorem c79 {T : Tab} (hT : OvStep T) (ho : T.ov 79 = none) (hp : T.pol 79 = true) {a0 : IV} {h : H} {r : CRes} (hg : Gd h) (e : t79_0 (CL T) (J79 T) a0 h = r) (hr : r ≠ .fail) : CL T 79 [a0] h = r := call_good ho Tryz.func79 rfl rfl rfl hp hg hT (e79_0 e hr) hr

-- silkworm/syntax.unary
def js80 : List Jn := [⟨[], [0]⟩]
noncomputable def J80 (T : Tab) : Rec := fj Tryz.prog (CL T) Tryz.f80 js80
noncomputable def t80_0 (cf : CallF) (R : Rec) (a0 : IV) (h : H) : CRes :=
 obind (binS .eql a0 (.str ⟨1, 126⟩)) fun x1 =>
 condK x1
 (.ok (.int .i64 7) h)
 (obind (binS .eql a0 (.str ⟨1, 33⟩)) fun x2 =>
 condK x2
 (.ok (.int .i64 8) h)
 (obind (binS .eql a0 (.str ⟨1, 45⟩)) fun x3 =>
 condK x3
 (.ok (.int .i64 9) h)
 (obind (binS .eql a0 (.str ⟨1, 38⟩)) fun x4 =>
 condK x4
 (.ok (.int .i64 10) h)
 (obind (binS .eql a0 (.str ⟨1, 124⟩)) fun x5 =>
 condK x5
 (.ok (.int .i64 11) h)
 (obind (binS .eql a0 (.str ⟨1, 94⟩)) fun x6 =>
 condK x6
 (.ok (.int .i64 12) h)
 (.ok (.int .i64 0) h))))))
theorem e80_0 {T : Tab} {a0 : IV} {h : H} {r : CRes} (e : t80_0 (CL T) (J80 T) a0 h = r) (hr : r ≠ .fail) : J80 T 0 [a0] h = r := fj_step (fn := Tryz.f80) (js := js80) (by kernel_rfl) e hr
theorem c80 {T : Tab} (hT : OvStep T) (ho : T.ov 80 = none) (hp : T.pol 80 = true) {a0 : IV} {h : H} {r : CRes} (hg : Gd h) (e : t80_0 (CL T) (J80 T) a0 h = r) (hr : r ≠ .fail) : CL T 80 [a0] h = r := call_good ho Tryz.func80 rfl rfl rfl hp hg hT (e80_0 e hr) hr

-- (*silkworm/syntax.parser).primary
def js81 : List Jn := [⟨[], [0, 1]⟩, ⟨[0, 1, 0, 1, 0, 1, 1, 1, 1, 1, 0, 1, 0, 1, 1], [0, 1, 4, 12, 13]⟩, ⟨[1, 1, 1, 1, 1], [4, 14]⟩, ⟨[1, 1, 0, 1, 0, 1, 1, 1, 1], [0, 4, 14]⟩]
noncomputable def J81 (T : Tab) : Rec := fj Tryz.prog (CL T) Tryz.f81 js81
noncomputable def t81_0 (cf : CallF) (R : Rec) (a0 a1 : IV) (h : H) : CRes :=
 obind2 (newI h z0) fun x1 h2 =>
 callP (cf 37 [a0] h2) .pan fun x3 h4 =>
 callP (cf 36 [a0] h4) .pan fun x5 h6 =>
 obind (extractI x5 0) fun x7 =>
 obind (extractI x5 1) fun x8 =>
 callP (cf 40 [a0, (.str ⟨7, 32199620762627616⟩)] h6) .pan fun x9 h10 =>
 condK x9
 (callP (cf 97 [x8] h10) .pan fun x11 h12 =>
 obind (extractI x11 0) fun x13 =>
 obind (extractI x11 1) fun x14 =>
 obind (extractI x11 2) fun x15 =>
 obind (bldK z0 p12 [(0, (.int .i64 1)), (2, x13), (3, x14), (5, x3)]) fun x16 =>
 obindH (stA 6 h12 x1 x16) fun h17 =>
 obind (ldA 6 h17 x1) fun x18 =>
 .ok x18 h17)
 (callP (cf 40 [a0, (.str ⟨1, 40⟩)] h10) .pan fun x19 h20 =>
 condK x19
 (obind (binN .add a1 (.int .i64 1)) fun x21 =>
 callP (cf 41 [a0, x21] h20) .pan fun x22 h23 =>
 obind2 (newI h23 z0) fun x24 h25 =>
 obindH (stA 6 h25 x24 x22) fun h26 =>
 obind2 (bslK false 1 [(.str ⟨0, 0⟩)] 1 [(0, (.str ⟨1, 41⟩))] h26) fun x27 h28 =>
 callP (cf 38 [a0, x27] h28) .pan fun x29 h30 =>
 obind (ldA 6 h30 x24) fun x31 =>
 obindH (stA 6 h30 x1 x31) fun h32 =>
 obind (ldA 6 h32 x1) fun x33 =>
 .ok x33 h32)
 (callP (cf 40 [a0, (.str ⟨1, 123⟩)] h20) .pan fun x34 h35 =>
 condK x34
 (obind (bldK z0 p12 [(0, (.int .i64 5)), (5, x3)]) fun x36 =>
 obind2 (newI h35 z0) fun x37 h38 =>
 obindH (stA 6 h38 x37 x36) fun h39 =>
 R 1 [a0, a1, x1, x37, (.bool true)] h39)
 (callP (cf 39 [a0] h35) .pan fun x40 h41 =>
 obind (bldK z0 p12 [(0, (.int .i64 2)), (1, x40), (5, x3)]) fun x42 =>
 obind2 (newI h41 z0) fun x43 h44 =>
 obindH (stA 6 h44 x43 x42) fun h45 =>
 callP (cf 40 [a0, (.str ⟨1, 91⟩)] h45) .pan fun x46 h47 =>
 condK x46
 (obind (binN .add a1 (.int .i64 1)) fun x48 =>
 callP (cf 41 [a0, x48] h47) .pan fun x49 h50 =>
 obind2 (bslK false 6 z0 1 [(0, x49)] h50) fun x51 h52 =>
 obind (fadK 0 x43) fun x53 =>
 obindH (stA 1 h52 x53 (.int .i64 3)) fun h54 =>
 obind (fadK 4 x43) fun x55 =>
 obindH (stA 1 h54 x55 x51) fun h56 =>
 callP (cf 40 [a0, (.str ⟨1, 58⟩)] h56) .pan fun x57 h58 =>
 condK x57
 (obind (fadK 4 x43) fun x59 =>
 obind (ld0 h58 x59) fun x60 =>
 obind (binN .add a1 (.int .i64 1)) fun x61 =>
 callP (cf 41 [a0, x61] h58) (fun v62 h63 =>
 obind (fadK 0 x43) fun x64 =>
 .pan v62 h63) fun x65 h66 =>
 obind (ld0 h66 x59) fun x67 =>
 bif IV.beq x67 x60 then
 obind2 (bslK false 6 z0 1 [(0, x65)] h66) fun x68 h69 =>
 obind (ld0 h69 x59) fun x70 =>
 bif IV.beq x70 x60 then
 obind2 (appK 6 80 h69 x60 x68) fun x71 h72 =>
 obind (fadK 0 x43) fun x73 =>
 obindH (stA 1 h72 x73 (.int .i64 4)) fun h74 =>
 obind (fadK 4 x43) fun x75 =>
 obindH (stA 1 h74 x75 x71) fun h76 =>
 R 3 [a0, x1, x43] h76
 else .fail
 else .fail)
 (R 3 [a0, x1, x43] h58))
 (R 2 [x1, x43] h47))))
theorem e81_0 {T : Tab} {a0 a1 : IV} {h : H} {r : CRes} (e : t81_0 (CL T) (J81 T) a0 a1 h = r) (hr : r ≠ .fail) : J81 T 0 [a0, a1] h = r := fj_step (fn := Tryz.f81) (js := js81) (by kernel_rfl) e hr
noncomputable def t81_1 (cf : CallF) (R : Rec) (a0 a1 a4 a12 a13 : IV) (h : H) : CRes :=
 condK a13
 (obind (fadK 4 a12) fun x77 =>
 obind (ld0 h x77) fun x78 =>
 obind (binN .add a1 (.int .i64 1)) fun x79 =>
 callP (cf 41 [a0, x79] h) (fun v80 h81 =>
 .pan v80 h81) fun x82 h83 =>
 obind (ld0 h83 x77) fun x84 =>
 bif IV.beq x84 x78 then
 obind2 (bslK false 6 z0 1 [(0, x82)] h83) fun x85 h86 =>
 obind (ld0 h86 x77) fun x87 =>
 bif IV.beq x87 x78 then
 obind2 (appK 6 80 h86 x78 x85) fun x88 h89 =>
 obind (fadK 4 a12) fun x90 =>
 obindH (stA 1 h89 x90 x88) fun h91 =>
 callP (cf 40 [a0, (.str ⟨1, 44⟩)] h91) .pan fun x92 h93 =>
 R 1 [a0, a1, a4, a12, x92] h93
 else .fail
 else .fail)
 (obind2 (bslK false 1 [(.str ⟨0, 0⟩)] 1 [(0, (.str ⟨1, 125⟩))] h) fun x94 h95 =>
 callP (cf 38 [a0, x94] h95) .pan fun x96 h97 =>
 obind (ldA 6 h97 a12) fun x98 =>
 obindH (stA 6 h97 a4 x98) fun h99 =>
 obind (ldA 6 h99 a4) fun x100 =>
 .ok x100 h99)
theorem e81_1 {T : Tab} {a0 a1 a4 a12 a13 : IV} {h : H} {r : CRes} (e : t81_1 (CL T) (J81 T) a0 a1 a4 a12 a13 h = r) (hr : r ≠ .fail) : J81 T 1 [a0, a1, a4, a12, a13] h = r := fj_step (fn := Tryz.f81) (js := js81) (by kernel_rfl) e hr
noncomputable def t81_2 (cf : CallF) (R : Rec) (a4 a14 : IV) (h : H) : CRes :=
 obind (ldA 6 h a14) fun x101 =>
 obindH (stA 6 h a4 x101) fun h102 =>
 obind (ldA 6 h102 a4) fun x103 =>
 .ok x103 h102
theorem e81_2 {T : Tab} {a4 a14 : IV} {h : H} {r : CRes} (e : t81_2 (CL T) (J81 T) a4 a14 h = r) (hr : r ≠ .fail) : J81 T 2 [a4, a14] h = r := fj_step (fn := Tryz.f81) (js := js81) (by kernel_rfl) e hr
noncomputable def t81_3 (cf : CallF) (R : Rec) (a0 a4 a14 : IV) (h : H) : CRes :=
 obind2 (bslK false 1 [(.str ⟨0, 0⟩)] 1 [(0, (.str ⟨1, 93⟩))] h) fun x104 h105 =>
 callP (cf 38 [a0, x104] h105) .pan fun x106 h107 =>
 R 2 [a4, a14] h107
theorem e81_3 {T : Tab} {a0 a4 a14 : IV} {h : H} {r : CRes} (e : t81_3 (CL T) (J81 T) a0 a4 a14 h = r) (hr : r ≠ .fail) : J81 T 3 [a0, a4, a14] h = r := fj_step (fn := Tryz.f81) (js := js81) (by kernel_rfl) e hr
theorem c81 {T : Tab} (hT : OvStep T) (ho : T.ov 81 = none) (hp : T.pol 81 = true) {a0 a1 : IV} {h : H} {r : CRes} (hg : Gd h) (e : t81_0 (CL T) (J81 T) a0 a1 h = r) (hr : r ≠ .fail) : CL T 81 [a0, a1] h = r := call_good ho Tryz.func81 rfl rfl rfl hp hg hT (e81_0 e hr) hr

-- (*silkworm/syntax.parser).declare
def js82 : List Jn := [⟨[], [0, 1]⟩, ⟨[0, 1, 0, 1], [0, 1, 4]⟩]
noncomputable def J82 (T : Tab) : Rec := fj Tryz.prog (CL T) Tryz.f82 js82
noncomputable def t82_0 (cf : CallF) (R : Rec) (a0 a1 : IV) (h : H) : CRes :=
 callP (cf 65 [a0] h) .pan fun x1 h2 =>
 obind (extractI x1 0) fun x3 =>
 obind (extractI x1 1) fun x4 =>
 obind (extractI x1 2) fun x5 =>
 obind (nilI a1) fun x6 =>
 obind (fadK 3 x6) fun x7 =>
 obindH (stA 1 h2 x7 x3) fun h8 =>
 obind (nilI a1) fun x9 =>
 obind (fadK 4 x9) fun x10 =>
 obindH (stA 6 h8 x10 x4) fun h11 =>
 obind (nilI a1) fun x12 =>
 obind (fadK 10 x12) fun x13 =>
 obindH (stA 6 h11 x13 x5) fun h14 =>
 R 1 [a0, a1, (.bool true)] h14
theorem e82_0 {T : Tab} {a0 a1 : IV} {h : H} {r : CRes} (e : t82_0 (CL T) (J82 T) a0 a1 h = r) (hr : r ≠ .fail) : J82 T 0 [a0, a1] h = r := fj_step (fn := Tryz.f82) (js := js82) (by kernel_rfl) e hr
noncomputable def t82_1 (cf : CallF) (R : Rec) (a0 a1 a4 : IV) (h : H) : CRes :=
 condK a4
 (obind (nilI a1) fun x15 =>
 obind (fadK 2 x15) fun x16 =>
 obind (ld0 h x16) fun x17 =>
 callP (cf 39 [a0] h) (fun v18 h19 =>
 .pan v18 h19) fun x20 h21 =>
 obind (ld0 h21 x16) fun x22 =>
 bif IV.beq x22 x17 then
 obind2 (bslK false 1 [(.str ⟨0, 0⟩)] 1 [(0, x20)] h21) fun x23 h24 =>
 obind (ld0 h24 x16) fun x25 =>
 bif IV.beq x25 x17 then
 obind2 (appK 1 16 h24 x17 x23) fun x26 h27 =>
 obind (nilI a1) fun x28 =>
 obind (fadK 2 x28) fun x29 =>
 obindH (stA 1 h27 x29 x26) fun h30 =>
 callP (cf 40 [a0, (.str ⟨1, 44⟩)] h30) .pan fun x31 h32 =>
 R 1 [a0, a1, x31] h32
 else .fail
 else .fail)
 (obind2 (bslK false 1 [(.str ⟨0, 0⟩)] 1 [(0, (.str ⟨1, 59⟩))] h) fun x33 h34 =>
 callP (cf 38 [a0, x33] h34) .pan fun x35 h36 =>
 .ok (.tup []) h36)
theorem e82_1 {T : Tab} {a0 a1 a4 : IV} {h : H} {r : CRes} (e : t82_1 (CL T) (J82 T) a0 a1 a4 h = r) (hr : r ≠ .fail) : J82 T 1 [a0, a1, a4] h = r := fj_step (fn := Tryz.f82) (js := js82) (by kernel_rfl) e hr
theorem c82 {T : Tab} (hT : OvStep T) (ho : T.ov 82 = none) (hp : T.pol 82 = true) {a0 a1 : IV} {h : H} {r : CRes} (hg : Gd h) (e : t82_0 (CL T) (J82 T) a0 a1 h = r) (hr : r ≠ .fail) : CL T 82 [a0, a1] h = r := call_good ho Tryz.func82 rfl rfl rfl hp hg hT (e82_0 e hr) hr

-- (*silkworm/syntax.parser).assign
def js83 : List Jn := [⟨[], [0, 1]⟩, ⟨[1, 1], [0, 1]⟩, ⟨[1, 0, 1, 0, 1], [0, 1]⟩]
noncomputable def J83 (T : Tab) : Rec := fj Tryz.prog (CL T) Tryz.f83 js83
noncomputable def t83_0 (cf : CallF) (R : Rec) (a0 a1 : IV) (h : H) : CRes :=
 obind (nilI a1) fun x1 =>
 obind (fadK 0 x1) fun x2 =>
 obindH (stA 1 h x2 (.int .i64 4)) fun h3 =>
 callP (cf 40 [a0, (.str ⟨1, 35⟩)] h3) .pan fun x4 h5 =>
 condK x4
 (callP (cf 78 [a0, (.bool false)] h5) .pan fun x6 h7 =>
 obind (unI .not x6) fun x8 =>
 condK x8
 (callP (cf 61 [a0, (.int .i64 40)] h7) .pan fun x9 h10 =>
 R 2 [a0, a1] h10)
 (R 2 [a0, a1] h7))
 (R 1 [a0, a1] h5)
theorem e83_0 {T : Tab} {a0 a1 : IV} {h : H} {r : CRes} (e : t83_0 (CL T) (J83 T) a0 a1 h = r) (hr : r ≠ .fail) : J83 T 0 [a0, a1] h = r := fj_step (fn := Tryz.f83) (js := js83) (by kernel_rfl) e hr
noncomputable def t83_1 (cf : CallF) (R : Rec) (a0 a1 : IV) (h : H) : CRes :=
 callP (cf 39 [a0] h) .pan fun x11 h12 =>
 obind (nilI a1) fun x13 =>
 obind (fadK 1 x13) fun x14 =>
 obindH (stA 1 h12 x14 x11) fun h15 =>
 obind2 (bslK false 1 [(.str ⟨0, 0⟩)] 1 [(0, (.str ⟨1, 61⟩))] h15) fun x16 h17 =>
 callP (cf 38 [a0, x16] h17) .pan fun x18 h19 =>
 callP (cf 41 [a0, (.int .i64 1)] h19) .pan fun x20 h21 =>
 obind (nilI a1) fun x22 =>
 obind (fadK 23 x22) fun x23 =>
 obindH (stA 6 h21 x23 x20) fun h24 =>
 obind2 (bslK false 1 [(.str ⟨0, 0⟩)] 1 [(0, (.str ⟨1, 59⟩))] h24) fun x25 h26 =>
 callP (cf 38 [a0, x25] h26) .pan fun x27 h28 =>
 .ok (.tup []) h28
theorem e83_1 {T : Tab} {a0 a1 : IV} {h : H} {r : CRes} (e : t83_1 (CL T) (J83 T) a0 a1 h = r) (hr : r ≠ .fail) : J83 T 1 [a0, a1] h = r := fj_step (fn := Tryz.f83) (js := js83) (by kernel_rfl) e hr
noncomputable def t83_2 (cf : CallF) (R : Rec) (a0 a1 : IV) (h : H) : CRes :=
 callP (cf 81 [a0, (.int .i64 1)] h) .pan fun x29 h30 =>
 obind (nilI a1) fun x31 =>
 obind (fadK 16 x31) fun x32 =>
 obindH (stA 1 h30 x32 (.bool true)) fun h33 =>
 obind (nilI a1) fun x34 =>
 obind (fadK 17 x34) fun x35 =>
 obindH (stA 6 h33 x35 x29) fun h36 =>
 R 1 [a0, a1] h36
theorem e83_2 {T : Tab} {a0 a1 : IV} {h : H} {r : CRes} (e : t83_2 (CL T) (J83 T) a0 a1 h = r) (hr : r ≠ .fail) : J83 T 2 [a0, a1] h = r := fj_step (fn := Tryz.f83) (js := js83) (by kernel_rfl) e hr
theorem c83 {T : Tab} (hT : OvStep T) (ho : T.ov 83 = none) (hp : T.pol 83 = true) {a0 a1 : IV} {h : H} {r : CRes} (hg : Gd h) (e : t83_0 (CL T) (J83 T) a0 a1 h = r) (hr : r ≠ .fail) : CL T 83 [a0, a1] h = r := call_good ho Tryz.func83 rfl rfl rfl hp hg hT (e83_0 e hr) hr

-- (*silkworm/syntax.parser).always
def js84 : List Jn := [⟨[], [0, 1]⟩, ⟨[1, 1, 1], [0, 1]⟩]
noncomputable def J84 (T : Tab) : Rec := fj Tryz.prog (CL T) Tryz.f84 js84
noncomputable def t84_0 (cf : CallF) (R : Rec) (a0 a1 : IV) (h : H) : CRes :=
 obind2 (bslK false 1 [(.str ⟨0, 0⟩)] 2 [(0, (.str ⟨1, 64⟩)), (1, (.str ⟨1, 40⟩))] h) fun x1 h2 =>
 callP (cf 38 [a0, x1] h2) .pan fun x3 h4 =>
 obind (nilI a1) fun x5 =>
 obind (fadK 0 x5) fun x6 =>
 obindH (stA 1 h4 x6 (.int .i64 5)) fun h7 =>
 callP (cf 40 [a0, (.str ⟨1, 42⟩)] h7) .pan fun x8 h9 =>
 obind (unI .not x8) fun x10 =>
 condK x10
 (obind2 (bslK false 1 [(.str ⟨0, 0⟩)] 1 [(0, (.str ⟨7, 28542653544230768⟩))] h9) fun x11 h12 =>
 callP (cf 38 [a0, x11] h12) .pan fun x13 h14 =>
 callP (cf 39 [a0] h14) .pan fun x15 h16 =>
 obind (nilI a1) fun x17 =>
 obind (fadK 0 x17) fun x18 =>
 obindH (stA 1 h16 x18 (.int .i64 6)) fun h19 =>
 obind (nilI a1) fun x20 =>
 obind (fadK 1 x20) fun x21 =>
 obindH (stA 1 h19 x21 x15) fun h22 =>
 R 1 [a0, a1] h22)
 (R 1 [a0, a1] h9)
theorem e84_0 {T : Tab} {a0 a1 : IV} {h : H} {r : CRes} (e : t84_0 (CL T) (J84 T) a0 a1 h = r) (hr : r ≠ .fail) : J84 T 0 [a0, a1] h = r := fj_step (fn := Tryz.f84) (js := js84) (by kernel_rfl) e hr
noncomputable def t84_1 (cf : CallF) (R : Rec) (a0 a1 : IV) (h : H) : CRes :=
 obind2 (bslK false 1 [(.str ⟨0, 0⟩)] 1 [(0, (.str ⟨1, 41⟩))] h) fun x23 h24 =>
 callP (cf 38 [a0, x23] h24) .pan fun x25 h26 =>
 callP (cf 98 [a0, (.int .i64 1)] h26) .pan fun x27 h28 =>
 obind (nilI a1) fun x29 =>
 obind (fadK 45 x29) fun x30 =>
 obindH (stA 1 h28 x30 x27) fun h31 =>
 .ok (.tup []) h31
theorem e84_1 {T : Tab} {a0 a1 : IV} {h : H} {r : CRes} (e : t84_1 (CL T) (J84 T) a0 a1 h = r) (hr : r ≠ .fail) : J84 T 1 [a0, a1] h = r := fj_step (fn := Tryz.f84) (js := js84) (by kernel_rfl) e hr
theorem c84 {T : Tab} (hT : OvStep T) (ho : T.ov 84 = none) (hp : T.pol 84 = true) {a0 a1 : IV} {h : H} {r : CRes} (hg : Gd h) (e : t84_0 (CL T) (J84 T) a0 a1 h = r) (hr : r ≠ .fail) : CL T 84 [a0, a1] h = r := call_good ho Tryz.func84 rfl rfl rfl hp hg hT (e84_0 e hr) hr

-- (*silkworm/syntax.parser).loop
def js85 : List Jn := [⟨[], [0, 1, 2]⟩, ⟨[1, 1, 1, 1, 1, 1, 1, 1, 1], [0, 1, 2]⟩]
noncomputable def J85 (T : Tab) : Rec := fj Tryz.prog (CL T) Tryz.f85 js85
noncomputable def t85_0 (cf : CallF) (R : Rec) (a0 a1 a2 : IV) (h : H) : CRes :=
 obind (nilI a1) fun x1 =>
 obind (fadK 0 x1) fun x2 =>
 obindH (stA 1 h x2 (.int .i64 8)) fun h3 =>
 obind2 (bslK false 1 [(.str ⟨0, 0⟩)] 1 [(0, (.str ⟨1, 40⟩))] h3) fun x4 h5 =>
 callP (cf 38 [a0, x4] h5) .pan fun x6 h7 =>
 callP (cf 39 [a0] h7) .pan fun x8 h9 =>
 obind (nilI a1) fun x10 =>
 obind (fadK 41 x10) fun x11 =>
 obindH (stA 1 h9 x11 x8) fun h12 =>
 obind2 (bslK false 1 [(.str ⟨0, 0⟩)] 1 [(0, (.str ⟨1, 61⟩))] h12) fun x13 h14 =>
 callP (cf 38 [a0, x13] h14) .pan fun x15 h16 =>
 callP (cf 41 [a0, (.int .i64 1)] h16) .pan fun x17 h18 =>
 obind (nilI a1) fun x19 =>
 obind (fadK 23 x19) fun x20 =>
 obindH (stA 6 h18 x20 x17) fun h21 =>
 obind2 (bslK false 1 [(.str ⟨0, 0⟩)] 1 [(0, (.str ⟨1, 59⟩))] h21) fun x22 h23 =>
 callP (cf 38 [a0, x22] h23) .pan fun x24 h25 =>
 callP (cf 41 [a0, (.int .i64 1)] h25) .pan fun x26 h27 =>
 obind (nilI a1) fun x28 =>
 obind (fadK 29 x28) fun x29 =>
 obindH (stA 6 h27 x29 x26) fun h30 =>
 obind2 (bslK false 1 [(.str ⟨0, 0⟩)] 1 [(0, (.str ⟨1, 59⟩))] h30) fun x31 h32 =>
 callP (cf 38 [a0, x31] h32) .pan fun x33 h34 =>
 callP (cf 36 [a0] h34) .pan fun x35 h36 =>
 obind (extractI x35 0) fun x37 =>
 obind (extractI x35 1) fun x38 =>
 obind (nilI a1) fun x39 =>
 obind (fadK 41 x39) fun x40 =>
 obind (ld0 h36 x40) fun x41 =>
 obind (binS .neq x38 x41) fun x42 =>
 condK x42
 (callP (cf 61 [a0, (.int .i64 40)] h36) .pan fun x43 h44 =>
 R 1 [a0, a1, a2] h44)
 (R 1 [a0, a1, a2] h36)
theorem e85_0 {T : Tab} {a0 a1 a2 : IV} {h : H} {r : CRes} (e : t85_0 (CL T) (J85 T) a0 a1 a2 h = r) (hr : r ≠ .fail) : J85 T 0 [a0, a1, a2] h = r := fj_step (fn := Tryz.f85) (js := js85) (by kernel_rfl) e hr
noncomputable def t85_1 (cf : CallF) (R : Rec) (a0 a1 a2 : IV) (h : H) : CRes :=
 obind2 (bslK false 1 [(.str ⟨0, 0⟩)] 2 [(0, (.str ⟨5, 435626798624⟩)), (1, (.str ⟨1, 61⟩))] h) fun x45 h46 =>
 callP (cf 38 [a0, x45] h46) .pan fun x47 h48 =>
 callP (cf 41 [a0, (.int .i64 1)] h48) .pan fun x49 h50 =>
 obind (nilI a1) fun x51 =>
 obind (fadK 35 x51) fun x52 =>
 obindH (stA 6 h50 x52 x49) fun h53 =>
 obind2 (bslK false 1 [(.str ⟨0, 0⟩)] 3 [(0, (.str ⟨1, 41⟩)), (1, (.str ⟨5, 474214786402⟩)), (2, (.str ⟨1, 58⟩))] h53) fun x54 h55 =>
 callP (cf 38 [a0, x54] h55) .pan fun x56 h57 =>
 callP (cf 39 [a0] h57) .pan fun x58 h59 =>
 obind (nilI a1) fun x60 =>
 obind (fadK 1 x60) fun x61 =>
 obindH (stA 1 h59 x61 x58) fun h62 =>
 obind (binN .add a2 (.int .i64 1)) fun x63 =>
 callP (cf 43 [a0, (.str ⟨3, 6581861⟩), x63] h62) .pan fun x64 h65 =>
 obind (nilI a1) fun x66 =>
 obind (fadK 46 x66) fun x67 =>
 obindH (stA 1 h65 x67 x64) fun h68 =>
 .ok (.tup []) h68
theorem e85_1 {T : Tab} {a0 a1 a2 : IV} {h : H} {r : CRes} (e : t85_1 (CL T) (J85 T) a0 a1 a2 h = r) (hr : r ≠ .fail) : J85 T 1 [a0, a1, a2] h = r := fj_step (fn := Tryz.f85) (js := js85) (by kernel_rfl) e hr
theorem c85 {T : Tab} (hT : OvStep T) (ho : T.ov 85 = none) (hp : T.pol 85 = true) {a0 a1 a2 : IV} {h : H} {r : CRes} (hg : Gd h) (e : t85_0 (CL T) (J85 T) a0 a1 a2 h = r) (hr : r ≠ .fail) : CL T 85 [a0, a1, a2] h = r := call_good ho Tryz.func85 rfl rfl rfl hp hg hT (e85_0 e hr) hr

-- (*silkworm/syntax.parser).binds
def js86 : List Jn := [⟨[], [0]⟩, ⟨[0, 1, 0, 1], [0, 2, 3]⟩]
noncomputable def J86 (T : Tab) : Rec := fj Tryz.prog (CL T) Tryz.f86 js86
noncomputable def t86_0 (cf : CallF) (R : Rec) (a0 : IV) (h : H) : CRes :=
 R 1 [a0, .nilSlice, (.bool true)] h
theorem e86_0 {T : Tab} {a0 : IV} {h : H} {r : CRes} (e : t86_0 (CL T) (J86 T) a0 h = r) (hr : r ≠ .fail) : J86 T 0 [a0] h = r := fj_step (fn := Tryz.f86) (js := js86) (by kernel_rfl) e hr
noncomputable def t86_1 (cf : CallF) (R : Rec) (a0 a2 a3 : IV) (h : H) : CRes :=
 condK a3
 (callP (cf 37 [a0] h) .pan fun x1 h2 =>
 obind (bldK z7 p8 [(2, x1)]) fun x3 =>
 obind2 (newI h2 z7) fun x4 h5 =>
 obindH (stA 8 h5 x4 x3) fun h6 =>
 obind2 (bslK false 1 [(.str ⟨0, 0⟩)] 1 [(0, (.str ⟨1, 46⟩))] h6) fun x7 h8 =>
 callP (cf 38 [a0, x7] h8) .pan fun x9 h10 =>
 callP (cf 39 [a0] h10) .pan fun x11 h12 =>
 obind (fadK 0 x4) fun x13 =>
 obindH (stA 1 h12 x13 x11) fun h14 =>
 obind2 (bslK false 1 [(.str ⟨0, 0⟩)] 1 [(0, (.str ⟨1, 40⟩))] h14) fun x15 h16 =>
 callP (cf 38 [a0, x15] h16) .pan fun x17 h18 =>
 callP (cf 41 [a0, (.int .i64 1)] h18) .pan fun x19 h20 =>
 obind (fadK 1 x4) fun x21 =>
 obindH (stA 6 h20 x21 x19) fun h22 =>
 obind2 (bslK false 1 [(.str ⟨0, 0⟩)] 1 [(0, (.str ⟨1, 41⟩))] h22) fun x23 h24 =>
 callP (cf 38 [a0, x23] h24) .pan fun x25 h26 =>
 obind (ldA 8 h26 x4) fun x27 =>
 obind2 (bslK false 8 z7 1 [(0, x27)] h26) fun x28 h29 =>
 obind2 (appK 8 104 h29 a2 x28) fun x30 h31 =>
 callP (cf 40 [a0, (.str ⟨1, 44⟩)] h31) .pan fun x32 h33 =>
 R 1 [a0, x30, x32] h33)
 (obind2 (bslK false 1 [(.str ⟨0, 0⟩)] 1 [(0, (.str ⟨1, 41⟩))] h) fun x34 h35 =>
 callP (cf 38 [a0, x34] h35) .pan fun x36 h37 =>
 .ok a2 h37)
theorem e86_1 {T : Tab} {a0 a2 a3 : IV} {h : H} {r : CRes} (e : t86_1 (CL T) (J86 T) a0 a2 a3 h = r) (hr : r ≠ .fail) : J86 T 1 [a0, a2, a3] h = r := fj_step (fn := Tryz.f86) (js := js86) (by kernel_rfl) e hr
theorem c86 {T : Tab} (hT : OvStep T) (ho : T.ov 86 = none) (hp : T.pol 86 = true) {a0 : IV} {h : H} {r : CRes} (hg : Gd h) (e : t86_0 (CL T) (J86 T) a0 h = r) (hr : r ≠ .fail) : CL T 86 [a0] h = r := call_good ho Tryz.func86 rfl rfl rfl hp hg hT (e86_0 e hr) hr

-- silkworm/silkwormref02.four
def js96 : List Jn := [⟨[], [0]⟩, ⟨[1, 1, 1], [3]⟩]
noncomputable def J96 (T : Tab) : Rec := fj Tryz.prog (CL T) Tryz.f96 js96
noncomputable def t96_0 (cf : CallF) (R : Rec) (a0 : IV) (h : H) : CRes :=
 callP (cf 54 [a0] h) .pan fun x1 h2 =>
 condK x1
 (obind (binN .sub a0 (.int .u8 48)) fun x3 =>
 obind (cvN .i64 x3) fun x4 =>
 R 1 [x4] h2)
 (obind (binN .geq a0 (.int .u8 97)) fun x5 =>
 spanK x5 true h2 (fun k6 =>
 obind (binN .leq a0 (.int .u8 102)) fun x9 =>
 k6 x9 h2) fun x7 h8 =>
 obind (pickI x5 (some x7) (some (.bool false))) fun x10 =>
 condK x10
 (obind (binN .sub a0 (.int .u8 97)) fun x11 =>
 obind (cvN .i64 x11) fun x12 =>
 obind (binN .add x12 (.int .i64 10)) fun x13 =>
 R 1 [x13] h8)
 (obind (binN .geq a0 (.int .u8 65)) fun x14 =>
 spanK x14 true h8 (fun k15 =>
 obind (binN .leq a0 (.int .u8 70)) fun x18 =>
 k15 x18 h8) fun x16 h17 =>
 obind (pickI x14 (some x16) (some (.bool false))) fun x19 =>
 condK x19
 (obind (binN .sub a0 (.int .u8 65)) fun x20 =>
 obind (cvN .i64 x20) fun x21 =>
 obind (binN .add x21 (.int .i64 10)) fun x22 =>
 R 1 [x22] h17)
 (obind (binN .eql a0 (.int .u8 120)) fun x23 =>
 spanK x23 false h17 (fun k24 =>
 obind (binN .eql a0 (.int .u8 122)) fun x27 =>
 k24 x27 h17) fun x25 h26 =>
 obind (pickI x23 (some (.bool true)) (some x25)) fun x28 =>
 condK x28
 (obind2 (bslK true 1 [(.int .u8 0)] 4 [(0, a0), (1, a0), (2, a0), (3, a0)] h26) fun x29 h30 =>
 obind (cvS h30 x29) fun x31 =>
 .ok x31 h30)
 (R 1 [(.int .i64 (-1))] h26))))
theorem e96_0 {T : Tab} {a0 : IV} {h : H} {r : CRes} (e : t96_0 (CL T) (J96 T) a0 h = r) (hr : r ≠ .fail) : J96 T 0 [a0] h = r := fj_step (fn := Tryz.f96) (js := js96) (by kernel_rfl) e hr
noncomputable def t96_1 (cf : CallF) (R : Rec) (a3 : IV) (h : H) : CRes :=
 obind (binN .lss a3 (.int .i64 0)) fun x32 =>
 condK x32
 (.ok (.str ⟨0, 0⟩) h)
 (callP (cf 74 [a3, (.int .i64 4)] h) .pan fun x33 h34 =>
 .ok x33 h34)
theorem e96_1 {T : Tab} {a3 : IV} {h : H} {r : CRes} (e : t96_1 (CL T) (J96 T) a3 h = r) (hr : r ≠ .fail) : J96 T 1 [a3] h = r := fj_step (fn := Tryz.f96) (js := js96) (by kernel_rfl) e hr
theorem c96 {T : Tab} (hT : OvStep T) (ho : T.ov 96 = none) (hp : T.pol 96 = true) {a0 : IV} {h : H} {r : CRes} (hg : Gd h) (e : t96_0 (CL T) (J96 T) a0 h = r) (hr : r ≠ .fail) : CL T 96 [a0] h = r := call_good ho Tryz.func96 rfl rfl rfl hp hg hT (e96_0 e hr) hr

-- (*silkworm/syntax.parser).stmt
def js98 : List Jn := [⟨[], [0, 1]⟩, ⟨[1, 1], [0, 1]⟩, ⟨[1, 1, 1], [0, 1]⟩, ⟨[1, 1, 1, 1, 1], [5]⟩, ⟨[0, 0, 1, 0, 1, 0, 0, 1, 1, 1, 1], [0, 1, 6]⟩, ⟨[1, 1, 1, 1, 1, 1, 1, 1, 0, 0, 1, 1, 1, 1], [0, 5]⟩]
noncomputable def J98 (T : Tab) : Rec := fj Tryz.prog (CL T) Tryz.f98 js98
noncomputable def t98_0 (cf : CallF) (R : Rec) (a0 a1 : IV) (h : H) : CRes :=
 obind2 (bslK false 1 [(.str ⟨0, 0⟩)] 4 [(0, (.str ⟨5, 474214786402⟩)), (1, (.str ⟨2, 26217⟩)), (2, (.str ⟨4, 1702060387⟩)), (3, (.str ⟨5, 435626798624⟩))] h) fun x1 h2 =>
 callP (cf 17 [a0, x1] h2) .pan fun x3 h4 =>
 obind (unI .not x3) fun x5 =>
 condK x5
 (callP (cf 61 [a0, (.int .i64 40)] h4) .pan fun x6 h7 =>
 R 1 [a0, a1] h7)
 (R 1 [a0, a1] h4)
theorem e98_0 {T : Tab} {a0 a1 : IV} {h : H} {r : CRes} (e : t98_0 (CL T) (J98 T) a0 a1 h = r) (hr : r ≠ .fail) : J98 T 0 [a0, a1] h = r := fj_step (fn := Tryz.f98) (js := js98) (by kernel_rfl) e hr
noncomputable def t98_1 (cf : CallF) (R : Rec) (a0 a1 : IV) (h : H) : CRes :=
 obind (binN .gtr a1 (.int .i64 32)) fun x8 =>
 condK x8
 (callP (cf 61 [a0, (.int .i64 41)] h) .pan fun x9 h10 =>
 R 2 [a0, a1] h10)
 (R 2 [a0, a1] h)
theorem e98_1 {T : Tab} {a0 a1 : IV} {h : H} {r : CRes} (e : t98_1 (CL T) (J98 T) a0 a1 h = r) (hr : r ≠ .fail) : J98 T 1 [a0, a1] h = r := fj_step (fn := Tryz.f98) (js := js98) (by kernel_rfl) e hr
noncomputable def t98_2 (cf : CallF) (R : Rec) (a0 a1 : IV) (h : H) : CRes :=
 callP (cf 37 [a0] h) .pan fun x11 h12 =>
 obind (bldK z16 p17 [(6, x11)]) fun x13 =>
 obind2 (newI h12 z16) fun x14 h15 =>
 obindH (stA 12 h15 x14 x13) fun h16 =>
 callP (cf 40 [a0, (.str ⟨5, 474214786402⟩)] h16) .pan fun x17 h18 =>
 condK x17
 (R 4 [a0, a1, .nilSlice] h18)
 (callP (cf 40 [a0, (.str ⟨2, 26217⟩)] h18) .pan fun x19 h20 =>
 condK x19
 (obind (fadK 0 x14) fun x21 =>
 obindH (stA 1 h20 x21 (.int .i64 3)) fun h22 =>
 obind2 (bslK false 1 [(.str ⟨0, 0⟩)] 1 [(0, (.str ⟨1, 40⟩))] h22) fun x23 h24 =>
 callP (cf 38 [a0, x23] h24) .pan fun x25 h26 =>
 callP (cf 41 [a0, (.int .i64 1)] h26) .pan fun x27 h28 =>
 obind (fadK 2 x14) fun x29 =>
 obindH (stA 6 h28 x29 x27) fun h30 =>
 obind2 (bslK false 1 [(.str ⟨0, 0⟩)] 1 [(0, (.str ⟨1, 41⟩))] h30) fun x31 h32 =>
 callP (cf 38 [a0, x31] h32) .pan fun x33 h34 =>
 obind (binN .add a1 (.int .i64 1)) fun x35 =>
 callP (cf 98 [a0, x35] h34) .pan fun x36 h37 =>
 obind (fadK 8 x14) fun x38 =>
 obindH (stA 1 h37 x38 x36) fun h39 =>
 callP (cf 40 [a0, (.str ⟨4, 1702063205⟩)] h39) .pan fun x40 h41 =>
 condK x40
 (obind (binN .add a1 (.int .i64 1)) fun x42 =>
 callP (cf 98 [a0, x42] h41) .pan fun x43 h44 =>
 obind (fadK 9 x14) fun x45 =>
 obindH (stA 1 h44 x45 x43) fun h46 =>
 R 3 [x14] h46)
 (R 3 [x14] h41))
 (callP (cf 40 [a0, (.str ⟨4, 1702060387⟩)] h20) .pan fun x47 h48 =>
 condK x47
 (obind (fadK 0 x14) fun x49 =>
 obindH (stA 1 h48 x49 (.int .i64 4)) fun h50 =>
 obind2 (bslK false 1 [(.str ⟨0, 0⟩)] 1 [(0, (.str ⟨1, 40⟩))] h50) fun x51 h52 =>
 callP (cf 38 [a0, x51] h52) .pan fun x53 h54 =>
 callP (cf 41 [a0, (.int .i64 1)] h54) .pan fun x55 h56 =>
 obind (fadK 2 x14) fun x57 =>
 obindH (stA 6 h56 x57 x55) fun h58 =>
 obind2 (bslK false 1 [(.str ⟨0, 0⟩)] 1 [(0, (.str ⟨1, 41⟩))] h58) fun x59 h60 =>
 callP (cf 38 [a0, x59] h60) .pan fun x61 h62 =>
 obind (binN .add a1 (.int .i64 1)) fun x63 =>
 callP (cf 111 [a0, x63] h62) .pan fun x64 h65 =>
 obind (fadK 10 x14) fun x66 =>
 obindH (stA 1 h65 x66 x64) fun h67 =>
 R 3 [x14] h67)
 (callP (cf 39 [a0] h48) .pan fun x68 h69 =>
 obind (fadK 0 x14) fun x70 =>
 obindH (stA 1 h69 x70 (.int .i64 1)) fun h71 =>
 obind (fadK 1 x14) fun x72 =>
 obindH (stA 1 h71 x72 x68) fun h73 =>
 callP (cf 40 [a0, (.str ⟨2, 15676⟩)] h73) .pan fun x74 h75 =>
 condK x74
 (obind (fadK 0 x14) fun x76 =>
 obindH (stA 1 h75 x76 (.int .i64 2)) fun h77 =>
 R 5 [a0, x14] h77)
 (obind2 (bslK false 1 [(.str ⟨0, 0⟩)] 1 [(0, (.str ⟨1, 61⟩))] h75) fun x78 h79 =>
 callP (cf 38 [a0, x78] h79) .pan fun x80 h81 =>
 R 5 [a0, x14] h81))))
theorem e98_2 {T : Tab} {a0 a1 : IV} {h : H} {r : CRes} (e : t98_2 (CL T) (J98 T) a0 a1 h = r) (hr : r ≠ .fail) : J98 T 2 [a0, a1] h = r := fj_step (fn := Tryz.f98) (js := js98) (by kernel_rfl) e hr
noncomputable def t98_3 (cf : CallF) (R : Rec) (a5 : IV) (h : H) : CRes :=
 obind (ldA 12 h a5) fun x82 =>
 obind2 (bslK false 12 z16 1 [(0, x82)] h) fun x83 h84 =>
 .ok x83 h84
theorem e98_3 {T : Tab} {a5 : IV} {h : H} {r : CRes} (e : t98_3 (CL T) (J98 T) a5 h = r) (hr : r ≠ .fail) : J98 T 3 [a5] h = r := fj_step (fn := Tryz.f98) (js := js98) (by kernel_rfl) e hr
noncomputable def t98_4 (cf : CallF) (R : Rec) (a0 a1 a6 : IV) (h : H) : CRes :=
 callP (cf 40 [a0, (.str ⟨3, 6581861⟩)] h) .pan fun x85 h86 =>
 obind (unI .not x85) fun x87 =>
 condK x87
 (obind (binN .add a1 (.int .i64 1)) fun x88 =>
 callP (cf 98 [a0, x88] h86) .pan fun x89 h90 =>
 obind2 (appK 12 184 h90 a6 x89) fun x91 h92 =>
 R 4 [a0, a1, x91] h92)
 (.ok a6 h86)
theorem e98_4 {T : Tab} {a0 a1 a6 : IV} {h : H} {r : CRes} (e : t98_4 (CL T) (J98 T) a0 a1 a6 h = r) (hr : r ≠ .fail) : J98 T 4 [a0, a1, a6] h = r := fj_step (fn := Tryz.f98) (js := js98) (by kernel_rfl) e hr
noncomputable def t98_5 (cf : CallF) (R : Rec) (a0 a5 : IV) (h : H) : CRes :=
 callP (cf 41 [a0, (.int .i64 1)] h) .pan fun x93 h94 =>
 obind (fadK 2 a5) fun x95 =>
 obindH (stA 6 h94 x95 x93) fun h96 =>
 obind2 (bslK false 1 [(.str ⟨0, 0⟩)] 1 [(0, (.str ⟨1, 59⟩))] h96) fun x97 h98 =>
 callP (cf 38 [a0, x97] h98) .pan fun x99 h100 =>
 R 3 [a5] h100
theorem e98_5 {T : Tab} {a0 a5 : IV} {h : H} {r : CRes} (e : t98_5 (CL T) (J98 T) a0 a5 h = r) (hr : r ≠ .fail) : J98 T 5 [a0, a5] h = r := fj_step (fn := Tryz.f98) (js := js98) (by kernel_rfl) e hr
theorem c98 {T : Tab} (hT : OvStep T) (ho : T.ov 98 = none) (hp : T.pol 98 = true) {a0 a1 : IV} {h : H} {r : CRes} (hg : Gd h) (e : t98_0 (CL T) (J98 T) a0 a1 h = r) (hr : r ≠ .fail) : CL T 98 [a0, a1] h = r := call_good ho Tryz.func98 rfl rfl rfl hp hg hT (e98_0 e hr) hr

-- (*silkworm/syntax.parser).arms
def js111 : List Jn := [⟨[], [0, 1]⟩, ⟨[0, 0, 1], [0, 1, 4]⟩, ⟨[1, 1, 1], [0, 4]⟩]
noncomputable def J111 (T : Tab) : Rec := fj Tryz.prog (CL T) Tryz.f111 js111
noncomputable def t111_0 (cf : CallF) (R : Rec) (a0 a1 : IV) (h : H) : CRes :=
 R 1 [a0, a1, .nilSlice] h
theorem e111_0 {T : Tab} {a0 a1 : IV} {h : H} {r : CRes} (e : t111_0 (CL T) (J111 T) a0 a1 h = r) (hr : r ≠ .fail) : J111 T 0 [a0, a1] h = r := fj_step (fn := Tryz.f111) (js := js111) (by kernel_rfl) e hr
noncomputable def t111_1 (cf : CallF) (R : Rec) (a0 a1 a4 : IV) (h : H) : CRes :=
 callP (cf 78 [a0, (.bool true)] h) .pan fun x1 h2 =>
 condK x1
 (callP (cf 41 [a0, (.int .i64 1)] h2) .pan fun x3 h4 =>
 obind (bldK z18 p8 [(1, x3)]) fun x5 =>
 obind2 (newI h4 z18) fun x6 h7 =>
 obindH (stA 8 h7 x6 x5) fun h8 =>
 obind2 (bslK false 1 [(.str ⟨0, 0⟩)] 1 [(0, (.str ⟨1, 58⟩))] h8) fun x9 h10 =>
 callP (cf 38 [a0, x9] h10) .pan fun x11 h12 =>
 callP (cf 98 [a0, a1] h12) .pan fun x13 h14 =>
 obind (fadK 7 x6) fun x15 =>
 obindH (stA 1 h14 x15 x13) fun h16 =>
 obind (ldA 8 h16 x6) fun x17 =>
 obind2 (bslK false 8 z18 1 [(0, x17)] h16) fun x18 h19 =>
 obind2 (appK 8 112 h19 a4 x18) fun x20 h21 =>
 R 1 [a0, a1, x20] h21)
 (callP (cf 40 [a0, (.str ⟨7, 32770348699510116⟩)] h2) .pan fun x22 h23 =>
 condK x22
 (obind2 (bslK false 1 [(.str ⟨0, 0⟩)] 1 [(0, (.str ⟨1, 58⟩))] h23) fun x24 h25 =>
 callP (cf 38 [a0, x24] h25) .pan fun x26 h27 =>
 callP (cf 98 [a0, a1] h27) .pan fun x28 h29 =>
 obind (bldK z18 p8 [(0, (.bool true)), (2, x28)]) fun x30 =>
 obind2 (bslK false 8 z18 1 [(0, x30)] h29) fun x31 h32 =>
 obind2 (appK 8 112 h32 a4 x31) fun x33 h34 =>
 R 2 [a0, x33] h34)
 (R 2 [a0, a4] h23))
theorem e111_1 {T : Tab} {a0 a1 a4 : IV} {h : H} {r : CRes} (e : t111_1 (CL T) (J111 T) a0 a1 a4 h = r) (hr : r ≠ .fail) : J111 T 1 [a0, a1, a4] h = r := fj_step (fn := Tryz.f111) (js := js111) (by kernel_rfl) e hr
noncomputable def t111_2 (cf : CallF) (R : Rec) (a0 a4 : IV) (h : H) : CRes :=
 obind2 (bslK false 1 [(.str ⟨0, 0⟩)] 1 [(0, (.str ⟨7, 28555834764324453⟩))] h) fun x35 h36 =>
 callP (cf 38 [a0, x35] h36) .pan fun x37 h38 =>
 .ok a4 h38
theorem e111_2 {T : Tab} {a0 a4 : IV} {h : H} {r : CRes} (e : t111_2 (CL T) (J111 T) a0 a4 h = r) (hr : r ≠ .fail) : J111 T 2 [a0, a4] h = r := fj_step (fn := Tryz.f111) (js := js111) (by kernel_rfl) e hr
theorem c111 {T : Tab} (hT : OvStep T) (ho : T.ov 111 = none) (hp : T.pol 111 = true) {a0 a1 : IV} {h : H} {r : CRes} (hg : Gd h) (e : t111_0 (CL T) (J111 T) a0 a1 h = r) (hr : r ≠ .fail) : CL T 111 [a0, a1] h = r := call_good ho Tryz.func111 rfl rfl rfl hp hg hT (e111_0 e hr) hr

end Go.Proofs.YtomgclpeimipoaaGreatDoor
