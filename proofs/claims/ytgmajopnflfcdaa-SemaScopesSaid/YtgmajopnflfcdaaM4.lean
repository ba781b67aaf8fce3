/- M4: Law07: calls, by a table of functions that are told by hand. Printed by gen.py (own tool): each function in words of its own, from join to join. -/
import Derived.Test.YtgmajopnflfcdaaChecked
import Derived.Test.YtgmajopnflfcdaaM3
namespace Go.Proofs.Ytgmajopnflfcdaa
open Go I
set_option maxRecDepth 100000

noncomputable abbrev CL (T : Tab) : CallF := call Try.prog T
theorem noNum : NoNum Try.prog := by
  intro f fn hf
  have h : (Try.prog.funcs.all fun fn => !(fn.name == "runtime.NumGoroutine")) = true := by kernel_rfl
  simpa using Array.all_eq_true_iff_forall_mem.1 h fn (Array.mem_of_getElem? hf)

end Go.Proofs.Ytgmajopnflfcdaa

namespace Go.Proofs.Ytgmajopnflfcdaa
open Go I
set_option linter.unusedVariables false
set_option maxRecDepth 100000

def z0 : List IV := [(.str ⟨0, 0⟩), .nilSlice, .nilSlice, .nilSlice, (.int .i64 0)]
def z1 : List IV := [(.int .i64 0), (.str ⟨0, 0⟩), (.int .i64 0)]
def p2 : List (Nat × Nat) := [(0, 1), (1, 1), (2, 1)]
def z3 : List IV := [.nilSlice, (.int .i64 0), (.int .i64 0), (.int .i64 0)]
def p4 : List (Nat × Nat) := [(0, 1), (1, 1), (2, 2)]
def z5 : List IV := [(.str ⟨0, 0⟩), (.int .i64 0), (.str ⟨0, 0⟩), (.str ⟨0, 0⟩), (.bool false), .nilSlice, (.int .i64 0), (.int .i64 0)]
def z6 : List IV := [(.bool false), (.bool false), (.bool false), (.int .i64 0), (.str ⟨0, 0⟩), (.str ⟨0, 0⟩), (.bool false), .nilSlice, (.int .i64 0), (.int .i64 0), (.str ⟨0, 0⟩), (.str ⟨0, 0⟩), (.bool false), .nilSlice, (.int .i64 0), (.str ⟨0, 0⟩), (.int .i64 0)]
def p7 : List (Nat × Nat) := [(0, 1), (1, 1), (2, 1), (3, 1), (4, 1)]
def z8 : List IV := [(.int .i64 0), (.str ⟨0, 0⟩), .nilSlice, (.bool false), (.int .i64 0), (.str ⟨0, 0⟩), (.str ⟨0, 0⟩), (.bool false), .nilSlice, (.int .i64 0), (.int .i64 0), (.str ⟨0, 0⟩), (.str ⟨0, 0⟩), (.bool false), .nilSlice, (.int .i64 0), (.bool false), (.int .i64 0), (.str ⟨0, 0⟩), (.str ⟨0, 0⟩), (.bool false), .nilSlice, (.int .i64 0), (.int .i64 0), (.str ⟨0, 0⟩), (.str ⟨0, 0⟩), (.bool false), .nilSlice, (.int .i64 0), (.int .i64 0), (.str ⟨0, 0⟩), (.str ⟨0, 0⟩), (.bool false), .nilSlice, (.int .i64 0), (.int .i64 0), (.str ⟨0, 0⟩), (.str ⟨0, 0⟩), (.bool false), .nilSlice, (.int .i64 0), (.str ⟨0, 0⟩), (.str ⟨0, 0⟩), .nilSlice, .nilSlice, .nilSlice, .nilSlice, (.int .i64 0)]
def p9 : List (Nat × Nat) := [(0, 1), (1, 6), (7, 1)]
def p10 : List (Nat × Nat) := [(0, 1), (1, 1), (2, 1), (3, 6), (9, 6), (15, 1), (16, 1)]
def z11 : List IV := [(.int .i64 0), (.str ⟨0, 0⟩), (.str ⟨0, 0⟩), (.bool false), .nilSlice, (.int .i64 0)]
def p12 : List (Nat × Nat) := [(0, 1), (1, 1), (2, 1), (3, 1), (4, 1), (5, 1)]
def p13 : List (Nat × Nat) := [(0, 1), (1, 1), (2, 1), (3, 1), (4, 6), (10, 6), (16, 1), (17, 6), (23, 6), (29, 6), (35, 6), (41, 1), (42, 1), (43, 1), (44, 1), (45, 1), (46, 1), (47, 1)]
def z14 : List IV := [(.int .i64 0), (.str ⟨0, 0⟩), (.int .i64 0), (.str ⟨0, 0⟩), (.str ⟨0, 0⟩), (.bool false), .nilSlice, (.int .i64 0), .nilSlice, .nilSlice, .nilSlice, (.int .i64 0)]
def z15 : List IV := [(.bool false), (.int .i64 0), (.str ⟨0, 0⟩), (.str ⟨0, 0⟩), (.bool false), .nilSlice, (.int .i64 0), .nilSlice]
def p16 : List (Nat × Nat) := [(0, 1), (1, 1), (2, 6), (8, 1), (9, 1), (10, 1), (11, 1)]
-- silkworm/silkwormlaw07.SemaScopes
def js5 : List Jn := [⟨[], [0]⟩, ⟨[0, 1, 0, 1, 1, 1], [3, 4, 5]⟩, ⟨[0, 1, 0, 1, 1, 1, 1], [3, 4, 6]⟩]
noncomputable def J5 (T : Tab) : Rec := fj Try.prog (CL T) Try.f5 js5
noncomputable def t5_0 (cf : CallF) (R : Rec) (a0 : IV) (h : H) : CRes :=
 obind (binN .and a0 (.int .i64 31)) fun x1 =>
 obind (binN .rem x1 (.int .i64 20)) fun x2 =>
 R 1 [x2, (.str ⟨43, 4511958892279302592037838659287471757360031553175582169925867472317880056563007935988880239883784056685⟩), (.int .i64 0)] h
theorem e5_0 {T : Tab} {a0 : IV} {h : H} {r : CRes} (e : t5_0 (CL T) (J5 T) a0 h = r) (hr : r ≠ .fail) : J5 T 0 [a0] h = r := fj_step (fn := Try.f5) (js := js5) (by kernel_rfl) e hr
noncomputable def t5_1 (cf : CallF) (R : Rec) (a3 a4 a5 : IV) (h : H) : CRes :=
 obind (binN .lss a5 a3) fun x3 =>
 condK x3
 (obind (binS .add a4 (.str ⟨62, 25758731674359092827155979911708847622083293093301537492298217921566470966266605282465132149632355478020549638273730659925261534405150842291206909798⟩)) fun x4 =>
 obind (binN .add a5 (.int .i64 1)) fun x5 =>
 R 1 [a3, x4, x5] h)
 (R 2 [a3, a4, (.int .i64 0)] h)
theorem e5_1 {T : Tab} {a3 a4 a5 : IV} {h : H} {r : CRes} (e : t5_1 (CL T) (J5 T) a3 a4 a5 h = r) (hr : r ≠ .fail) : J5 T 1 [a3, a4, a5] h = r := fj_step (fn := Try.f5) (js := js5) (by kernel_rfl) e hr
noncomputable def t5_2 (cf : CallF) (R : Rec) (a3 a4 a6 : IV) (h : H) : CRes :=
 obind (binN .lss a6 a3) fun x6 =>
 condK x6
 (obind (binS .add a4 (.str ⟨4, 543452773⟩)) fun x7 =>
 obind (binN .add a6 (.int .i64 1)) fun x8 =>
 R 2 [a3, x7, x8] h)
 (obind (binS .add a4 (.str ⟨9, 1870936414602775522917⟩)) fun x9 =>
 callP (cf 7 [x9] h) .pan fun x10 h11 =>
 callP (cf 9 [x10] h11) .pan fun x12 h13 =>
 obind (lenS x12) fun x14 =>
 obind (binN .neq x14 (.int .i64 0)) fun x15 =>
 condK x15
 (.ok (.bool false) h13)
 (obind (binS .add a4 (.str ⟨23, 9714457268060405151475251731703064217357865765513163617⟩)) fun x16 =>
 callP (cf 7 [x16] h13) .pan fun x17 h18 =>
 callP (cf 9 [x17] h18) .pan fun x19 h20 =>
 obind (lenS x19) fun x21 =>
 obind (binN .eql x21 (.int .i64 1)) fun x22 =>
 spanK x22 true h20 (fun k23 =>
 obind (ixS 2 x19 (.int .i64 0)) fun x26 =>
 obind (ldA 2 h20 x26) fun x27 =>
 obind (lenStr a4) fun x28 =>
 obind (bldK [(.int .i64 0), (.int .i64 0)] [(0, 1), (1, 1)] [(0, x28), (1, (.int .i64 73))]) fun x29 =>
 obind (binK Try.prog h20 .eql 47 false false x27 x29) fun x30 =>
 k23 x30 h20) fun x24 h25 =>
 obind (pickI x22 (some x24) (some (.bool false))) fun x31 =>
 spanK x31 true h25 (fun k32 =>
 callP (cf 12 [] h25) .pan fun x35 h36 =>
 k32 x35 h36) fun x33 h34 =>
 obind (pickI x31 (some x33) (some (.bool false))) fun x37 =>
 .ok x37 h34))
theorem e5_2 {T : Tab} {a3 a4 a6 : IV} {h : H} {r : CRes} (e : t5_2 (CL T) (J5 T) a3 a4 a6 h = r) (hr : r ≠ .fail) : J5 T 2 [a3, a4, a6] h = r := fj_step (fn := Try.f5) (js := js5) (by kernel_rfl) e hr
theorem c5 {T : Tab} (hT : OvStep T) (ho : T.ov 5 = none) (hp : T.pol 5 = true) {a0 : IV} {h : H} {r : CRes} (hg : Gd h) (e : t5_0 (CL T) (J5 T) a0 h = r) (hr : r ≠ .fail) : CL T 5 [a0] h = r := call_good ho Try.func5 rfl rfl rfl hp hg hT (e5_0 e hr) hr

-- silkworm/silkwormlaw07.SemaWays
def js6 : List Jn := [⟨[], [0, 1]⟩, ⟨[0, 1, 0, 1, 1, 1, 1], [5, 6, 7, 8]⟩, ⟨[0, 1, 0, 1, 1, 1, 1, 1, 1], [5, 6, 7, 9]⟩, ⟨[1, 1, 0, 0, 1, 0, 1, 1, 1, 1, 1, 1], [5, 6, 7, 9]⟩]
noncomputable def J6 (T : Tab) : Rec := fj Try.prog (CL T) Try.f6 js6
noncomputable def t6_0 (cf : CallF) (R : Rec) (a0 a1 : IV) (h : H) : CRes :=
 obind (binN .and a0 (.int .i64 31)) fun x1 =>
 obind (binN .rem x1 (.int .i64 14)) fun x2 =>
 obind (binN .add (.int .i64 1) x2) fun x3 =>
 obind (binN .and a1 (.int .i64 255)) fun x4 =>
 obind (binN .add x3 (.int .i64 1)) fun x5 =>
 obind (binN .rem x4 x5) fun x6 =>
 R 1 [x3, x6, (.str ⟨45, 295042996737027189892664453235703659773535717092407273043438385707730273476733613257889332524423640923795309⟩), (.int .i64 0)] h
theorem e6_0 {T : Tab} {a0 a1 : IV} {h : H} {r : CRes} (e : t6_0 (CL T) (J6 T) a0 a1 h = r) (hr : r ≠ .fail) : J6 T 0 [a0, a1] h = r := fj_step (fn := Try.f6) (js := js6) (by kernel_rfl) e hr
noncomputable def t6_1 (cf : CallF) (R : Rec) (a5 a6 a7 a8 : IV) (h : H) : CRes :=
 obind (binN .lss a8 a5) fun x7 =>
 condK x7
 (obind (binS .add a7 (.str ⟨13, 2569471977021805880546831656553⟩)) fun x8 =>
 obind (binN .add a8 (.int .i64 1)) fun x9 =>
 R 1 [a5, a6, x8, x9] h)
 (obind (binS .add a7 (.str ⟨7, 9072281435054201⟩)) fun x10 =>
 obind (binN .sub a5 (.int .i64 1)) fun x11 =>
 R 2 [a5, a6, x10, x11] h)
theorem e6_1 {T : Tab} {a5 a6 a7 a8 : IV} {h : H} {r : CRes} (e : t6_1 (CL T) (J6 T) a5 a6 a7 a8 h = r) (hr : r ≠ .fail) : J6 T 1 [a5, a6, a7, a8] h = r := fj_step (fn := Try.f6) (js := js6) (by kernel_rfl) e hr
noncomputable def t6_2 (cf : CallF) (R : Rec) (a5 a6 a7 a9 : IV) (h : H) : CRes :=
 obind (binN .geq a9 (.int .i64 0)) fun x12 =>
 condK x12
 (obind (binS .add a7 (.str ⟨4, 543452773⟩)) fun x13 =>
 obind (binN .neq a9 a6) fun x14 =>
 condK x14
 (obind (binS .add x13 (.str ⟨12, 9975074205931947037792889957⟩)) fun x15 =>
 R 3 [a5, a6, x15, a9] h)
 (R 3 [a5, a6, x13, a9] h))
 (obind (binS .add a7 (.str ⟨9, 1870936414602775522917⟩)) fun x16 =>
 callP (cf 7 [x16] h) .pan fun x17 h18 =>
 callP (cf 9 [x17] h18) .pan fun x19 h20 =>
 obind (binN .lss a6 a5) fun x21 =>
 condK x21
 (obind (lenS x19) fun x22 =>
 obind (binN .eql x22 (.int .i64 1)) fun x23 =>
 spanK x23 true h20 (fun k24 =>
 obind (ixS 2 x19 (.int .i64 0)) fun x27 =>
 obind (ldA 2 h20 x27) fun x28 =>
 obind (bldK [(.int .i64 0), (.int .i64 0)] [(0, 1), (1, 1)] [(0, (.int .i64 33)), (1, (.int .i64 75))]) fun x29 =>
 obind (binK Try.prog h20 .eql 47 false false x28 x29) fun x30 =>
 k24 x30 h20) fun x25 h26 =>
 obind (pickI x23 (some x25) (some (.bool false))) fun x31 =>
 spanK x31 true h26 (fun k32 =>
 callP (cf 12 [] h26) .pan fun x35 h36 =>
 k32 x35 h36) fun x33 h34 =>
 obind (pickI x31 (some x33) (some (.bool false))) fun x37 =>
 .ok x37 h34)
 (obind (lenS x19) fun x38 =>
 obind (binN .eql x38 (.int .i64 0)) fun x39 =>
 spanK x39 true h20 (fun k40 =>
 callP (cf 12 [] h20) .pan fun x43 h44 =>
 k40 x43 h44) fun x41 h42 =>
 obind (pickI x39 (some x41) (some (.bool false))) fun x45 =>
 .ok x45 h42))
theorem e6_2 {T : Tab} {a5 a6 a7 a9 : IV} {h : H} {r : CRes} (e : t6_2 (CL T) (J6 T) a5 a6 a7 a9 h = r) (hr : r ≠ .fail) : J6 T 2 [a5, a6, a7, a9] h = r := fj_step (fn := Try.f6) (js := js6) (by kernel_rfl) e hr
noncomputable def t6_3 (cf : CallF) (R : Rec) (a5 a6 a7 a9 : IV) (h : H) : CRes :=
 obind (binN .sub a9 (.int .i64 1)) fun x46 =>
 R 2 [a5, a6, a7, x46] h
theorem e6_3 {T : Tab} {a5 a6 a7 a9 : IV} {h : H} {r : CRes} (e : t6_3 (CL T) (J6 T) a5 a6 a7 a9 h = r) (hr : r ≠ .fail) : J6 T 3 [a5, a6, a7, a9] h = r := fj_step (fn := Try.f6) (js := js6) (by kernel_rfl) e hr
theorem c6 {T : Tab} (hT : OvStep T) (ho : T.ov 6 = none) (hp : T.pol 6 = true) {a0 a1 : IV} {h : H} {r : CRes} (hg : Gd h) (e : t6_0 (CL T) (J6 T) a0 a1 h = r) (hr : r ≠ .fail) : CL T 6 [a0, a1] h = r := call_good ho Try.func6 rfl rfl rfl hp hg hT (e6_0 e hr) hr

-- silkworm/silkwormref04.Of
def js7 : List Jn := [⟨[], [0]⟩, ⟨[0, 1, 0, 1, 1, 1], [3, 5]⟩]
noncomputable def J7 (T : Tab) : Rec := fj Try.prog (CL T) Try.f7 js7
noncomputable def t7_0 (cf : CallF) (R : Rec) (a0 : IV) (h : H) : CRes :=
 callP (cf 14 [a0] h) .pan fun x1 h2 =>
 obind (extractI x1 0) fun x3 =>
 obind (extractI x1 1) fun x4 =>
 obind (lenS x4) fun x5 =>
 obind (binN .gtr x5 (.int .i64 0)) fun x6 =>
 condK x6
 (.ok .nilSlice h2)
 (R 1 [x3, (.int .i64 0)] h2)
theorem e7_0 {T : Tab} {a0 : IV} {h : H} {r : CRes} (e : t7_0 (CL T) (J7 T) a0 h = r) (hr : r ≠ .fail) : J7 T 0 [a0] h = r := fj_step (fn := Try.f7) (js := js7) (by kernel_rfl) e hr
noncomputable def t7_1 (cf : CallF) (R : Rec) (a3 a5 : IV) (h : H) : CRes :=
 obind (lenS a3) fun x7 =>
 obind (binN .lss a5 x7) fun x8 =>
 condK x8
 (obind (ixS 3 a3 a5) fun x9 =>
 obind (fadK 0 x9) fun x10 =>
 obind (ld0 h x10) fun x11 =>
 obind (binN .eql x11 (.int .i64 4)) fun x12 =>
 spanK x12 false h (fun k13 =>
 obind (ixS 3 a3 a5) fun x16 =>
 obind (fadK 0 x16) fun x17 =>
 obind (ld0 h x17) fun x18 =>
 obind (binN .eql x18 (.int .i64 5)) fun x19 =>
 k13 x19 h) fun x14 h15 =>
 obind (pickI x12 (some (.bool true)) (some x14)) fun x20 =>
 condK x20
 (.ok .nilSlice h15)
 (obind (binN .add a5 (.int .i64 1)) fun x21 =>
 R 1 [a3, x21] h15))
 (callP (cf 15 [a3] h) .pan fun x22 h23 =>
 obind (extractI x22 0) fun x24 =>
 obind (extractI x22 1) fun x25 =>
 .ok x24 h23)
theorem e7_1 {T : Tab} {a3 a5 : IV} {h : H} {r : CRes} (e : t7_1 (CL T) (J7 T) a3 a5 h = r) (hr : r ≠ .fail) : J7 T 1 [a3, a5] h = r := fj_step (fn := Try.f7) (js := js7) (by kernel_rfl) e hr
theorem c7 {T : Tab} (hT : OvStep T) (ho : T.ov 7 = none) (hp : T.pol 7 = true) {a0 : IV} {h : H} {r : CRes} (hg : Gd h) (e : t7_0 (CL T) (J7 T) a0 h = r) (hr : r ≠ .fail) : CL T 7 [a0] h = r := call_good ho Try.func7 rfl rfl rfl hp hg hT (e7_0 e hr) hr

-- silkworm/sema.Check
def js9 : List Jn := [⟨[], [0]⟩, ⟨[0, 1, 0, 1, 1, 1], [0, 2, 3, 12, 13, 14]⟩, ⟨[1, 1, 0, 0, 1, 1, 0, 0, 1, 0, 1, 1, 1], [0, 2, 3, 5, 12, 13, 14]⟩, ⟨[0, 1, 0, 1, 1, 1, 1], [2, 3, 34, 35, 36]⟩]
noncomputable def J9 (T : Tab) : Rec := fj Try.prog (CL T) Try.f9 js9
noncomputable def J9d (T : Tab) (d0 : IV) : Rec := fj1 Try.prog (CL T) Try.f9 js9 16 [d0]
noncomputable def t9_0 (cf : CallF) (R : Rec) (a0 : IV) (h : H) : CRes :=
 obind2 (newI h [.nilSlice]) fun x1 h2 =>
 mapK h2 fun x4 h3 =>
 obind (lenS a0) fun x5 =>
 fj1 Try.prog cf Try.f9 js9 16 [x1] 1 [a0, x1, x4, a0, x5, (.int .i64 0)] h3
theorem e9_0 {T : Tab} {a0 : IV} {h : H} {r : CRes} (e : t9_0 (CL T) (J9 T) a0 h = r) (hr : r ≠ .fail) : J9 T 0 [a0] h = r := fj_step (fn := Try.f9) (js := js9) (by kernel_rfl) e hr
noncomputable def t9_1d (cf : CallF) (R : Rec) (d0 a0 a2 a3 a12 a13 a14 : IV) (h : H) : CRes :=
 obind (binN .lss a14 a13) fun x6 =>
 condK x6
 (obind (ixS 5 a12 a14) fun x7 =>
 obind (ldA 5 h x7) fun x8 =>
 obind2 (newI h z0) fun x9 h10 =>
 obindH (stA 5 h10 x9 x8) fun h11 =>
 obind (fadK 0 x9) fun x12 =>
 obind (ld0 h11 x12) fun x13 =>
 obind (lkK true (.agg z0) h11 a3 x13 true) fun x14 =>
 obind (extractI x14 0) fun x15 =>
 obind (extractI x14 1) fun x16 =>
 obind2 (newI h11 z0) fun x17 h18 =>
 obindH (stA 5 h18 x17 x15) fun h19 =>
 condK x16
 (obind (fadK 4 x9) fun x20 =>
 obind (ld0 h19 x20) fun x21 =>
 callP (cf 17 [x21, (.int .i64 70)] h19) (dfP (LV Try.prog cf 16 [d0]) fun h22 =>
 obind (ld0 h22 a2) fun x23 =>
 .ok x23 h22) fun x24 h25 =>
 R 2 [a0, a2, a3, x9, a12, a13, a14] h25)
 (R 2 [a0, a2, a3, x9, a12, a13, a14] h19))
 (obind (lenS a0) fun x26 =>
 R 3 [a2, a3, a0, x26, (.int .i64 0)] h)
theorem e9_1d {T : Tab} {d0 a0 a2 a3 a12 a13 a14 : IV} {h : H} {r : CRes} (e : t9_1d (CL T) (J9d T d0) d0 a0 a2 a3 a12 a13 a14 h = r) (hr : r ≠ .fail) : J9d T d0 1 [a0, a2, a3, a12, a13, a14] h = r := fj1_step (fn := Try.f9) (js := js9) (by kernel_rfl) e hr
noncomputable def t9_2d (cf : CallF) (R : Rec) (d0 a0 a2 a3 a5 a12 a13 a14 : IV) (h : H) : CRes :=
 obind (fadK 0 a5) fun x27 =>
 obind (ld0 h x27) fun x28 =>
 obind (ldA 5 h a5) fun x29 =>
 obindH (mupK true h a3 x28 x29) fun h30 =>
 obind (binN .add a14 (.int .i64 1)) fun x31 =>
 R 1 [a0, a2, a3, a12, a13, x31] h30
theorem e9_2d {T : Tab} {d0 a0 a2 a3 a5 a12 a13 a14 : IV} {h : H} {r : CRes} (e : t9_2d (CL T) (J9d T d0) d0 a0 a2 a3 a5 a12 a13 a14 h = r) (hr : r ≠ .fail) : J9d T d0 2 [a0, a2, a3, a5, a12, a13, a14] h = r := fj1_step (fn := Try.f9) (js := js9) (by kernel_rfl) e hr
noncomputable def t9_3d (cf : CallF) (R : Rec) (d0 a2 a3 a34 a35 a36 : IV) (h : H) : CRes :=
 obind (binN .lss a36 a35) fun x32 =>
 condK x32
 (obind (ixS 5 a34 a36) fun x33 =>
 obind (ldA 5 h x33) fun x34 =>
 obind2 (newI h z0) fun x35 h36 =>
 obindH (stA 5 h36 x35 x34) fun h37 =>
 obind (ldA 5 h37 x35) fun x38 =>
 callP (cf 18 [x38, a3] h37) (dfP (LV Try.prog cf 16 [d0]) fun h39 =>
 obind (ld0 h39 a2) fun x40 =>
 .ok x40 h39) fun x41 h42 =>
 obind (binN .add a36 (.int .i64 1)) fun x43 =>
 R 3 [a2, a3, a34, a35, x43] h42)
 (obindH (stA 1 h a2 .nilSlice) fun h44 =>
 dfK (LV Try.prog cf 16 [d0] .ret h44) fun h45 =>
 obind (ld0 h45 a2) fun x46 =>
 .ok x46 h45)
theorem e9_3d {T : Tab} {d0 a2 a3 a34 a35 a36 : IV} {h : H} {r : CRes} (e : t9_3d (CL T) (J9d T d0) d0 a2 a3 a34 a35 a36 h = r) (hr : r ≠ .fail) : J9d T d0 3 [a2, a3, a34, a35, a36] h = r := fj1_step (fn := Try.f9) (js := js9) (by kernel_rfl) e hr
theorem c9 {T : Tab} (hT : OvStep T) (ho : T.ov 9 = none) (hp : T.pol 9 = true) {a0 : IV} {h : H} {r : CRes} (hg : Gd h) (e : t9_0 (CL T) (J9 T) a0 h = r) (hr : r ≠ .fail) : CL T 9 [a0] h = r := call_good ho Try.func9 rfl rfl rfl hp hg hT (e9_0 e hr) hr

-- silkworm/silkwormlaw07.awake
def js12 : List Jn := [⟨[], []⟩]
noncomputable def J12 (T : Tab) : Rec := fj Try.prog (CL T) Try.f12 js12
noncomputable def t12_0 (cf : CallF) (R : Rec) (h : H) : CRes :=
 callP (cf 7 [(.str ⟨66, 348126473427987974111166342295017781270910240418035618176886398528082519758683304224540429236554337974868274653395689740213287564516098906623640280375541133165⟩)] h) .pan fun x1 h2 =>
 callP (cf 9 [x1] h2) .pan fun x3 h4 =>
 callP (cf 7 [(.str ⟨68, 22814816562576619871349397373758026547181064531331856910737447064769207388284794940137150167743972807899353348760762229273835232996098465244316604540642629268041581⟩)] h4) .pan fun x5 h6 =>
 callP (cf 9 [x5] h6) .pan fun x7 h8 =>
 callP (cf 7 [(.str ⟨52, 67046719960888941892184820436145297895144066837139371145987427210056574129556742228652015165087297618486413700392914958708589⟩)] h8) .pan fun x9 h10 =>
 callP (cf 9 [x9] h10) .pan fun x11 h12 =>
 obind (lenS x3) fun x13 =>
 obind (binN .eql x13 (.int .i64 1)) fun x14 =>
 spanK x14 true h12 (fun k15 =>
 obind (ixS 2 x3 (.int .i64 0)) fun x18 =>
 obind (ldA 2 h12 x18) fun x19 =>
 obind (bldK [(.int .i64 0), (.int .i64 0)] [(0, 1), (1, 1)] [(0, (.int .i64 43)), (1, (.int .i64 73))]) fun x20 =>
 obind (binK Try.prog h12 .eql 47 false false x19 x20) fun x21 =>
 k15 x21 h12) fun x16 h17 =>
 obind (pickI x14 (some x16) (some (.bool false))) fun x22 =>
 spanK x22 true h17 (fun k23 =>
 obind (lenS x7) fun x26 =>
 obind (binN .eql x26 (.int .i64 1)) fun x27 =>
 k23 x27 h17) fun x24 h25 =>
 obind (pickI x22 (some x24) (some (.bool false))) fun x28 =>
 spanK x28 true h25 (fun k29 =>
 obind (ixS 2 x7 (.int .i64 0)) fun x32 =>
 obind (fadK 1 x32) fun x33 =>
 obind (ld0 h25 x33) fun x34 =>
 obind (binN .eql x34 (.int .i64 75)) fun x35 =>
 k29 x35 h25) fun x30 h31 =>
 obind (pickI x28 (some x30) (some (.bool false))) fun x36 =>
 spanK x36 true h31 (fun k37 =>
 obind (lenS x11) fun x40 =>
 obind (binN .eql x40 (.int .i64 0)) fun x41 =>
 k37 x41 h31) fun x38 h39 =>
 obind (pickI x36 (some x38) (some (.bool false))) fun x42 =>
 .ok x42 h39
theorem e12_0 {T : Tab} {h : H} {r : CRes} (e : t12_0 (CL T) (J12 T) h = r) (hr : r ≠ .fail) : J12 T 0 [] h = r := fj_step (fn := Try.f12) (js := js12) (by kernel_rfl) e hr
theorem c12 {T : Tab} (hT : OvStep T) (ho : T.ov 12 = none) (hp : T.pol 12 = true) {h : H} {r : CRes} (hg : Gd h) (e : t12_0 (CL T) (J12 T) h = r) (hr : r ≠ .fail) : CL T 12 [] h = r := call_good ho Try.func12 rfl rfl rfl hp hg hT (e12_0 e hr) hr

-- silkworm/silkwormref02.Lex
def js14 : List Jn := [⟨[], [0]⟩, ⟨[0, 0, 1, 1, 1, 1, 1], [0, 4, 5, 6]⟩, ⟨[1, 1, 0, 1, 0, 0, 0, 1, 1, 1, 1, 1], [0, 4, 5, 6]⟩]
noncomputable def J14 (T : Tab) : Rec := fj Try.prog (CL T) Try.f14 js14
noncomputable def t14_0 (cf : CallF) (R : Rec) (a0 : IV) (h : H) : CRes :=
 obind (lenStr a0) fun x1 =>
 obind (binN .gtr x1 (.int .i64 65536)) fun x2 =>
 condK x2
 (callP (cf 26 [(.int .i64 0), (.int .i64 4)] h) .pan fun x3 h4 =>
 .ok (.tup [.nilSlice, x3]) h4)
 (R 1 [a0, .nilSlice, (.bool false), (.int .i64 0)] h)
theorem e14_0 {T : Tab} {a0 : IV} {h : H} {r : CRes} (e : t14_0 (CL T) (J14 T) a0 h = r) (hr : r ≠ .fail) : J14 T 0 [a0] h = r := fj_step (fn := Try.f14) (js := js14) (by kernel_rfl) e hr
noncomputable def t14_1 (cf : CallF) (R : Rec) (a0 a4 a5 a6 : IV) (h : H) : CRes :=
 obind (lenStr a0) fun x5 =>
 obind (binN .lss a6 x5) fun x6 =>
 condK x6
 (obind (ixStr a0 a6) fun x7 =>
 obind (binN .eql x7 (.int .u8 10)) fun x8 =>
 spanK x8 true h (fun k9 =>
 k9 a5 h) fun x10 h11 =>
 obind (pickI x8 (some x10) (some (.bool false))) fun x12 =>
 condK x12
 (obind (bldK z1 p2 [(0, (.int .i64 5)), (2, a6)]) fun x13 =>
 obind2 (bslK false 3 z1 1 [(0, x13)] h11) fun x14 h15 =>
 obind2 (appK 3 32 h15 a4 x14) fun x16 h17 =>
 obind (binN .add a6 (.int .i64 1)) fun x18 =>
 R 2 [a0, x16, (.bool false), x18] h17)
 (obind (binN .eql x7 (.int .u8 32)) fun x19 =>
 spanK x19 false h11 (fun k20 =>
 obind (binN .eql x7 (.int .u8 9)) fun x23 =>
 k20 x23 h11) fun x21 h22 =>
 obind (pickI x19 (some (.bool true)) (some x21)) fun x24 =>
 spanK x24 false h22 (fun k25 =>
 obind (binN .eql x7 (.int .u8 10)) fun x28 =>
 k25 x28 h22) fun x26 h27 =>
 obind (pickI x24 (some (.bool true)) (some x26)) fun x29 =>
 spanK x29 false h27 (fun k30 =>
 obind (binN .eql x7 (.int .u8 13)) fun x33 =>
 k30 x33 h27) fun x31 h32 =>
 obind (pickI x29 (some (.bool true)) (some x31)) fun x34 =>
 condK x34
 (obind (binN .add a6 (.int .i64 1)) fun x35 =>
 R 1 [a0, a4, a5, x35] h32)
 (callP (cf 27 [a0, a6, (.str ⟨2, 12079⟩)] h32) .pan fun x36 h37 =>
 spanK x36 false h37 (fun k38 =>
 callP (cf 27 [a0, a6, (.str ⟨2, 10799⟩)] h37) .pan fun x41 h42 =>
 k38 x41 h42) fun x39 h40 =>
 obind (pickI x36 (some (.bool true)) (some x39)) fun x43 =>
 condK x43
 (callP (cf 28 [a0, a6] h40) .pan fun x44 h45 =>
 obind (binN .lss x44 (.int .i64 0)) fun x46 =>
 condK x46
 (callP (cf 26 [a6, (.int .i64 20)] h45) .pan fun x47 h48 =>
 .ok (.tup [.nilSlice, x47]) h48)
 (R 1 [a0, a4, a5, x44] h45))
 (callP (cf 29 [a0, a6] h40) .pan fun x49 h50 =>
 obind (extractI x49 0) fun x51 =>
 obind (extractI x49 1) fun x52 =>
 obind (extractI x49 2) fun x53 =>
 obind2 (newI h50 z1) fun x54 h55 =>
 obindH (stA 3 h55 x54 x51) fun h56 =>
 obind (binN .neq x53 (.int .i64 0)) fun x57 =>
 condK x57
 (callP (cf 26 [a6, x53] h56) .pan fun x58 h59 =>
 .ok (.tup [.nilSlice, x58]) h59)
 (spanK a5 false h56 (fun k60 =>
 obind (fadK 0 x54) fun x63 =>
 obind (ld0 h56 x63) fun x64 =>
 obind (binN .eql x64 (.int .i64 4)) fun x65 =>
 k60 x65 h56) fun x61 h62 =>
 spanK x61 true h62 (fun k66 =>
 obind (fadK 1 x54) fun x69 =>
 obind (ld0 h62 x69) fun x70 =>
 obind (binS .eql x70 (.str ⟨6, 111524889126244⟩)) fun x71 =>
 k66 x71 h62) fun x67 h68 =>
 spanK a5 false h68 (fun k72 =>
 obind (pickI x61 (some x67) (some (.bool false))) fun x75 =>
 k72 x75 h68) fun x73 h74 =>
 obind (pickI a5 (some (.bool true)) (some x73)) fun x76 =>
 obind (ldA 3 h74 x54) fun x77 =>
 obind2 (bslK false 3 z1 1 [(0, x77)] h74) fun x78 h79 =>
 obind2 (appK 3 32 h79 a4 x78) fun x80 h81 =>
 R 2 [a0, x80, x76, x52] h81)))))
 (obind (lenStr a0) fun x82 =>
 obind (bldK z1 p2 [(0, (.int .i64 6)), (2, x82)]) fun x83 =>
 obind2 (bslK false 3 z1 1 [(0, x83)] h) fun x84 h85 =>
 obind2 (appK 3 32 h85 a4 x84) fun x86 h87 =>
 .ok (.tup [x86, .nilSlice]) h87)
theorem e14_1 {T : Tab} {a0 a4 a5 a6 : IV} {h : H} {r : CRes} (e : t14_1 (CL T) (J14 T) a0 a4 a5 a6 h = r) (hr : r ≠ .fail) : J14 T 1 [a0, a4, a5, a6] h = r := fj_step (fn := Try.f14) (js := js14) (by kernel_rfl) e hr
noncomputable def t14_2 (cf : CallF) (R : Rec) (a0 a4 a5 a6 : IV) (h : H) : CRes :=
 obind (lenS a4) fun x88 =>
 obind (binN .gtr x88 (.int .i64 16384)) fun x89 =>
 condK x89
 (obind (lenS a4) fun x90 =>
 obind (binN .sub x90 (.int .i64 1)) fun x91 =>
 obind (ixS 3 a4 x91) fun x92 =>
 obind (fadK 2 x92) fun x93 =>
 obind (ld0 h x93) fun x94 =>
 callP (cf 26 [x94, (.int .i64 2)] h) .pan fun x95 h96 =>
 .ok (.tup [.nilSlice, x95]) h96)
 (R 1 [a0, a4, a5, a6] h)
theorem e14_2 {T : Tab} {a0 a4 a5 a6 : IV} {h : H} {r : CRes} (e : t14_2 (CL T) (J14 T) a0 a4 a5 a6 h = r) (hr : r ≠ .fail) : J14 T 2 [a0, a4, a5, a6] h = r := fj_step (fn := Try.f14) (js := js14) (by kernel_rfl) e hr
theorem c14 {T : Tab} (hT : OvStep T) (ho : T.ov 14 = none) (hp : T.pol 14 = true) {a0 : IV} {h : H} {r : CRes} (hg : Gd h) (e : t14_0 (CL T) (J14 T) a0 h = r) (hr : r ≠ .fail) : CL T 14 [a0] h = r := call_good ho Try.func14 rfl rfl rfl hp hg hT (e14_0 e hr) hr

-- silkworm/silkwormref04.Parse
def js15 : List Jn := [⟨[], [0]⟩, ⟨[0, 0, 1, 1, 1], [4, 5]⟩, ⟨[1, 0, 0, 0, 0, 1, 1, 1], [4, 5, 27]⟩]
noncomputable def J15 (T : Tab) : Rec := fj Try.prog (CL T) Try.f15 js15
noncomputable def t15_0 (cf : CallF) (R : Rec) (a0 : IV) (h : H) : CRes :=
 obind (bldK z3 p4 [(0, a0)]) fun x1 =>
 obind2 (newI h (IV.cells x1)) fun x2 h3 =>
 callP (cf 30 [x2] h3) .pan fun x4 h5 =>
 obind2 (bslK false 5 z0 1 [(0, x4)] h5) fun x6 h7 =>
 R 1 [x2, x6] h7
theorem e15_0 {T : Tab} {a0 : IV} {h : H} {r : CRes} (e : t15_0 (CL T) (J15 T) a0 h = r) (hr : r ≠ .fail) : J15 T 0 [a0] h = r := fj_step (fn := Try.f15) (js := js15) (by kernel_rfl) e hr
noncomputable def t15_1 (cf : CallF) (R : Rec) (a4 a5 : IV) (h : H) : CRes :=
 callP (cf 31 [a4] h) (fun v8 h9 =>
 .pan v8 h9) fun x10 h11 =>
 guardK x10 (obind (nilI a4) fun x12 =>
 obind (fadK 0 x12) fun x13 =>
 obind (ld0 h11 x13) fun x14 =>
 obind (nilI a4) fun x15 =>
 obind (fadK 1 x15) fun x16 =>
 obind (ld0 h11 x16) fun x17 =>
 obind (ixS 3 x14 x17) fun x18 =>
 obind (fadK 0 x18) fun x19 =>
 obind (ld0 h11 x19) fun x20 =>
 obind (binN .neq x20 (.int .i64 6)) fun x21 =>
 obind (pickI (.bool true) (some x21) (some (.bool false))) fun x22 =>
 R 2 [a4, a5, x22] h11)
 (obind (pickI (.bool false) (some (.tup [])) (some (.bool false))) fun x23 =>
 R 2 [a4, a5, x23] h11)
 (obind (pickI (.tup []) (some (.tup [])) (some (.bool false))) fun x24 =>
 R 2 [a4, a5, x24] h11)
theorem e15_1 {T : Tab} {a4 a5 : IV} {h : H} {r : CRes} (e : t15_1 (CL T) (J15 T) a4 a5 h = r) (hr : r ≠ .fail) : J15 T 1 [a4, a5] h = r := fj_step (fn := Try.f15) (js := js15) (by kernel_rfl) e hr
noncomputable def t15_2 (cf : CallF) (R : Rec) (a4 a5 a27 : IV) (h : H) : CRes :=
 condK a27
 (callP (cf 30 [a4] h) .pan fun x25 h26 =>
 obind2 (bslK false 5 z0 1 [(0, x25)] h26) fun x27 h28 =>
 obind2 (appK 5 96 h28 a5 x27) fun x29 h30 =>
 R 1 [a4, x29] h30)
 (callP (cf 31 [a4] h) .pan fun x31 h32 =>
 obind (unI .not x31) fun x33 =>
 condK x33
 (obind (nilI a4) fun x34 =>
 obind (fadK 2 x34) fun x35 =>
 obind (ldA 2 h32 x35) fun x36 =>
 obind2 (bslK false 2 [(.int .i64 0), (.int .i64 0)] 1 [(0, x36)] h32) fun x37 h38 =>
 .ok (.tup [.nilSlice, x37]) h38)
 (.ok (.tup [a5, .nilSlice]) h32))
theorem e15_2 {T : Tab} {a4 a5 a27 : IV} {h : H} {r : CRes} (e : t15_2 (CL T) (J15 T) a4 a5 a27 h = r) (hr : r ≠ .fail) : J15 T 2 [a4, a5, a27] h = r := fj_step (fn := Try.f15) (js := js15) (by kernel_rfl) e hr
theorem c15 {T : Tab} (hT : OvStep T) (ho : T.ov 15 = none) (hp : T.pol 15 = true) {a0 : IV} {h : H} {r : CRes} (hg : Gd h) (e : t15_0 (CL T) (J15 T) a0 h = r) (hr : r ≠ .fail) : CL T 15 [a0] h = r := call_good ho Try.func15 rfl rfl rfl hp hg hT (e15_0 e hr) hr

-- silkworm/sema.Check$1
def js16 : List Jn := [⟨[1], [0, 4]⟩]
noncomputable def J16 (T : Tab) : Rec := cj Try.prog (CL T) Try.f16 js16
noncomputable def t16_0 (cf : CallF) (R : Rec) (a0 a4 : IV) (h : H) : CRes :=
 obind (eqIf .eql true a4 .nilIface) fun x1 =>
 condK x1
 (.ok (.tup []) h)
 (obind (assertI 58 true (some (.agg [(.int .i64 0), (.int .i64 0)])) a4) fun x2 =>
 obind (extractI x2 1) fun x3 =>
 obind (extractI x2 0) fun x4 =>
 condK x3
 (obind2 (newI h [(.int .i64 0), (.int .i64 0)]) fun x5 h6 =>
 obindH (stA 2 h6 x5 x4) fun h7 =>
 obind (fadK 0 x5) fun x8 =>
 obind (ldA 2 h7 x8) fun x9 =>
 obind2 (bslK false 2 [(.int .i64 0), (.int .i64 0)] 1 [(0, x9)] h7) fun x10 h11 =>
 obindH (stA 1 h11 a0 x10) fun h12 =>
 .ok (.tup []) h12)
 (panK a4 h nop))
theorem e16_0 {T : Tab} {a0 a4 : IV} {h : H} {r : CRes} (e : t16_0 (CL T) (J16 T) a0 a4 h = r) (hr : r ≠ .fail) : J16 T 0 [a0, a4] h = r := cj_step (fn := Try.f16) (js := js16) (by kernel_rfl) e hr
theorem l16 {T : Tab} {a0 : IV} {st : I.Mode} {h h' : H} {v : IV} (hst : st ≠ .done) (e : t16_0 (CL T) (J16 T) a0 (recV st) h = .ok v h') : LV Try.prog (CL T) 16 [a0] st h = some (.ret, h') := LV_of Try.func16 rfl rfl rfl (of_decide_eq_true (by kernel_rfl)) hst rfl rfl (of_decide_eq_true (by kernel_rfl)) (e16_0 e (by simp))

-- silkworm/sema.no
def js17 : List Jn := [⟨[], [0, 1]⟩]
noncomputable def J17 (T : Tab) : Rec := fj Try.prog (CL T) Try.f17 js17
noncomputable def t17_0 (cf : CallF) (R : Rec) (a0 a1 : IV) (h : H) : CRes :=
 obind (bldK [(.int .i64 0), (.int .i64 0)] [(0, 1), (1, 1)] [(0, a0), (1, a1)]) fun x1 =>
 obind (bldK [(.int .i64 0), (.int .i64 0)] [(0, 2)] [(0, x1)]) fun x2 =>
 panK (.iface 58 x2) h .pan
theorem e17_0 {T : Tab} {a0 a1 : IV} {h : H} {r : CRes} (e : t17_0 (CL T) (J17 T) a0 a1 h = r) (hr : r ≠ .fail) : J17 T 0 [a0, a1] h = r := fj_step (fn := Try.f17) (js := js17) (by kernel_rfl) e hr
theorem c17 {T : Tab} (hT : OvStep T) (ho : T.ov 17 = none) (hp : T.pol 17 = true) {a0 a1 : IV} {h : H} {r : CRes} (hg : Gd h) (e : t17_0 (CL T) (J17 T) a0 a1 h = r) (hr : r ≠ .fail) : CL T 17 [a0, a1] h = r := call_good ho Try.func17 rfl rfl rfl hp hg hT (e17_0 e hr) hr

-- silkworm/sema.module
def js18 : List Jn := [⟨[], [0, 1]⟩, ⟨[0, 1, 0, 1, 1], [1, 2, 4, 13, 14, 15]⟩, ⟨[0, 1, 0, 1, 1, 1], [1, 2, 4, 27, 28, 29]⟩, ⟨[1, 1, 1, 0, 0, 1, 0, 1, 1, 1], [1, 2, 4, 27, 28, 29]⟩]
noncomputable def J18 (T : Tab) : Rec := fj Try.prog (CL T) Try.f18 js18
noncomputable def t18_0 (cf : CallF) (R : Rec) (a0 a1 : IV) (h : H) : CRes :=
 obind2 (newI h (IV.cells a0)) fun x1 h2 =>
 mapK h2 fun x4 h3 =>
 obind (bldK [.nilPtr, .nilMap] [(0, 1), (1, 1)] [(1, x4)]) fun x5 =>
 obind2 (newI h3 (IV.cells x5)) fun x6 h7 =>
 obind (fadK 1 x1) fun x8 =>
 obind (ld0 h7 x8) fun x9 =>
 obind (lenS x9) fun x10 =>
 R 1 [a1, x1, x6, x9, x10, (.int .i64 0)] h7
theorem e18_0 {T : Tab} {a0 a1 : IV} {h : H} {r : CRes} (e : t18_0 (CL T) (J18 T) a0 a1 h = r) (hr : r ≠ .fail) : J18 T 0 [a0, a1] h = r := fj_step (fn := Try.f18) (js := js18) (by kernel_rfl) e hr
noncomputable def t18_1 (cf : CallF) (R : Rec) (a1 a2 a4 a13 a14 a15 : IV) (h : H) : CRes :=
 obind (binN .lss a15 a14) fun x11 =>
 condK x11
 (obind (ixS 8 a13 a15) fun x12 =>
 obind (ldA 8 h x12) fun x13 =>
 obind2 (newI h z5) fun x14 h15 =>
 obindH (stA 8 h15 x14 x13) fun h16 =>
 obind (fadK 0 x14) fun x17 =>
 obind (ld0 h16 x17) fun x18 =>
 obind (fadK 7 x14) fun x19 =>
 obind (ld0 h16 x19) fun x20 =>
 callP (cf 32 [a4, x18, (.int .i64 1), x20] h16) .pan fun x21 h22 =>
 obind (binN .add a15 (.int .i64 1)) fun x23 =>
 R 1 [a1, a2, a4, a13, a14, x23] h22)
 (obind (fadK 2 a2) fun x24 =>
 obind (ld0 h x24) fun x25 =>
 obind (lenS x25) fun x26 =>
 R 2 [a1, a2, a4, x25, x26, (.int .i64 0)] h)
theorem e18_1 {T : Tab} {a1 a2 a4 a13 a14 a15 : IV} {h : H} {r : CRes} (e : t18_1 (CL T) (J18 T) a1 a2 a4 a13 a14 a15 h = r) (hr : r ≠ .fail) : J18 T 1 [a1, a2, a4, a13, a14, a15] h = r := fj_step (fn := Try.f18) (js := js18) (by kernel_rfl) e hr
noncomputable def t18_2 (cf : CallF) (R : Rec) (a1 a2 a4 a27 a28 a29 : IV) (h : H) : CRes :=
 obind (binN .lss a29 a28) fun x27 =>
 condK x27
 (obind (ixS 17 a27 a29) fun x28 =>
 obind (ldA 17 h x28) fun x29 =>
 obind2 (newI h z6) fun x30 h31 =>
 obindH (stA 17 h31 x30 x29) fun h32 =>
 obind (fadK 1 x30) fun x33 =>
 obind (ld0 h32 x33) fun x34 =>
 condK x34
 (obind (fadK 15 x30) fun x35 =>
 obind (ld0 h32 x35) fun x36 =>
 obind (fadK 16 x30) fun x37 =>
 obind (ld0 h32 x37) fun x38 =>
 callP (cf 32 [a4, x36, (.int .i64 4), x38] h32) .pan fun x39 h40 =>
 R 3 [a1, a2, a4, a27, a28, a29] h40)
 (obind (fadK 0 x30) fun x41 =>
 obind (ld0 h32 x41) fun x42 =>
 condK x42
 (obind (fadK 15 x30) fun x43 =>
 obind (ld0 h32 x43) fun x44 =>
 obind (fadK 16 x30) fun x45 =>
 obind (ld0 h32 x45) fun x46 =>
 callP (cf 32 [a4, x44, (.int .i64 3), x46] h32) .pan fun x47 h48 =>
 R 3 [a1, a2, a4, a27, a28, a29] h48)
 (obind (fadK 15 x30) fun x49 =>
 obind (ld0 h32 x49) fun x50 =>
 obind (fadK 16 x30) fun x51 =>
 obind (ld0 h32 x51) fun x52 =>
 callP (cf 32 [a4, x50, (.int .i64 2), x52] h32) .pan fun x53 h54 =>
 R 3 [a1, a2, a4, a27, a28, a29] h54)))
 (obind (fadK 3 a2) fun x55 =>
 obind (ld0 h x55) fun x56 =>
 callP (cf 33 [a4, x56] h) .pan fun x57 h58 =>
 obind (fadK 3 a2) fun x59 =>
 obind (ld0 h58 x59) fun x60 =>
 callP (cf 34 [a4, x60, a1] h58) .pan fun x61 h62 =>
 .ok (.tup []) h62)
theorem e18_2 {T : Tab} {a1 a2 a4 a27 a28 a29 : IV} {h : H} {r : CRes} (e : t18_2 (CL T) (J18 T) a1 a2 a4 a27 a28 a29 h = r) (hr : r ≠ .fail) : J18 T 2 [a1, a2, a4, a27, a28, a29] h = r := fj_step (fn := Try.f18) (js := js18) (by kernel_rfl) e hr
noncomputable def t18_3 (cf : CallF) (R : Rec) (a1 a2 a4 a27 a28 a29 : IV) (h : H) : CRes :=
 obind (binN .add a29 (.int .i64 1)) fun x63 =>
 R 2 [a1, a2, a4, a27, a28, x63] h
theorem e18_3 {T : Tab} {a1 a2 a4 a27 a28 a29 : IV} {h : H} {r : CRes} (e : t18_3 (CL T) (J18 T) a1 a2 a4 a27 a28 a29 h = r) (hr : r ≠ .fail) : J18 T 3 [a1, a2, a4, a27, a28, a29] h = r := fj_step (fn := Try.f18) (js := js18) (by kernel_rfl) e hr
theorem c18 {T : Tab} (hT : OvStep T) (ho : T.ov 18 = none) (hp : T.pol 18 = true) {a0 a1 : IV} {h : H} {r : CRes} (hg : Gd h) (e : t18_0 (CL T) (J18 T) a0 a1 h = r) (hr : r ≠ .fail) : CL T 18 [a0, a1] h = r := call_good ho Try.func18 rfl rfl rfl hp hg hT (e18_0 e hr) hr

-- silkworm/silkwormref02.fails
def js26 : List Jn := [⟨[], [0, 1]⟩]
noncomputable def J26 (T : Tab) : Rec := fj Try.prog (CL T) Try.f26 js26
noncomputable def t26_0 (cf : CallF) (R : Rec) (a0 a1 : IV) (h : H) : CRes :=
 obind (bldK [(.int .i64 0), (.int .i64 0)] [(0, 1), (1, 1)] [(0, a0), (1, a1)]) fun x1 =>
 obind2 (bslK false 2 [(.int .i64 0), (.int .i64 0)] 1 [(0, x1)] h) fun x2 h3 =>
 .ok x2 h3
theorem e26_0 {T : Tab} {a0 a1 : IV} {h : H} {r : CRes} (e : t26_0 (CL T) (J26 T) a0 a1 h = r) (hr : r ≠ .fail) : J26 T 0 [a0, a1] h = r := fj_step (fn := Try.f26) (js := js26) (by kernel_rfl) e hr
theorem c26 {T : Tab} (hT : OvStep T) (ho : T.ov 26 = none) (hp : T.pol 26 = true) {a0 a1 : IV} {h : H} {r : CRes} (hg : Gd h) (e : t26_0 (CL T) (J26 T) a0 a1 h = r) (hr : r ≠ .fail) : CL T 26 [a0, a1] h = r := call_good ho Try.func26 rfl rfl rfl hp hg hT (e26_0 e hr) hr

-- silkworm/silkwormref02.begins
def js27 : List Jn := [⟨[], [0, 1, 2]⟩]
noncomputable def J27 (T : Tab) : Rec := fj Try.prog (CL T) Try.f27 js27
noncomputable def t27_0 (cf : CallF) (R : Rec) (a0 a1 a2 : IV) (h : H) : CRes :=
 obind (lenStr a0) fun x1 =>
 obind (binN .sub x1 a1) fun x2 =>
 obind (lenStr a2) fun x3 =>
 obind (binN .geq x2 x3) fun x4 =>
 spanK x4 true h (fun k5 =>
 obind (lenStr a2) fun x8 =>
 obind (binN .add a1 x8) fun x9 =>
 obind (slcStr a0 (some a1) (some x9)) fun x10 =>
 obind (binS .eql x10 a2) fun x11 =>
 k5 x11 h) fun x6 h7 =>
 obind (pickI x4 (some x6) (some (.bool false))) fun x12 =>
 .ok x12 h7
theorem e27_0 {T : Tab} {a0 a1 a2 : IV} {h : H} {r : CRes} (e : t27_0 (CL T) (J27 T) a0 a1 a2 h = r) (hr : r ≠ .fail) : J27 T 0 [a0, a1, a2] h = r := fj_step (fn := Try.f27) (js := js27) (by kernel_rfl) e hr
theorem c27 {T : Tab} (hT : OvStep T) (ho : T.ov 27 = none) (hp : T.pol 27 = true) {a0 a1 a2 : IV} {h : H} {r : CRes} (hg : Gd h) (e : t27_0 (CL T) (J27 T) a0 a1 a2 h = r) (hr : r ≠ .fail) : CL T 27 [a0, a1, a2] h = r := call_good ho Try.func27 rfl rfl rfl hp hg hT (e27_0 e hr) hr

-- silkworm/silkwormref02.behind
def js28 : List Jn := [⟨[], [0, 1]⟩, ⟨[0, 0, 0, 1, 0, 1], [0, 1]⟩, ⟨[0, 1, 0, 1, 1, 1], [0, 5]⟩]
noncomputable def J28 (T : Tab) : Rec := fj Try.prog (CL T) Try.f28 js28
noncomputable def t28_0 (cf : CallF) (R : Rec) (a0 a1 : IV) (h : H) : CRes :=
 callP (cf 27 [a0, a1, (.str ⟨2, 12079⟩)] h) .pan fun x1 h2 =>
 condK x1
 (R 1 [a0, a1] h2)
 (callP (cf 27 [a0, a1, (.str ⟨2, 10799⟩)] h2) .pan fun x3 h4 =>
 obind (unI .not x3) fun x5 =>
 condK x5
 (.ok (.int .i64 (-1)) h4)
 (obind (binN .add a1 (.int .i64 2)) fun x6 =>
 R 2 [a0, x6] h4))
theorem e28_0 {T : Tab} {a0 a1 : IV} {h : H} {r : CRes} (e : t28_0 (CL T) (J28 T) a0 a1 h = r) (hr : r ≠ .fail) : J28 T 0 [a0, a1] h = r := fj_step (fn := Try.f28) (js := js28) (by kernel_rfl) e hr
noncomputable def t28_1 (cf : CallF) (R : Rec) (a0 a1 : IV) (h : H) : CRes :=
 obind (lenStr a0) fun x7 =>
 obind (binN .lss a1 x7) fun x8 =>
 spanK x8 true h (fun k9 =>
 obind (ixStr a0 a1) fun x12 =>
 obind (binN .neq x12 (.int .u8 10)) fun x13 =>
 k9 x13 h) fun x10 h11 =>
 obind (pickI x8 (some x10) (some (.bool false))) fun x14 =>
 condK x14
 (obind (binN .add a1 (.int .i64 1)) fun x15 =>
 R 1 [a0, x15] h11)
 (.ok a1 h11)
theorem e28_1 {T : Tab} {a0 a1 : IV} {h : H} {r : CRes} (e : t28_1 (CL T) (J28 T) a0 a1 h = r) (hr : r ≠ .fail) : J28 T 1 [a0, a1] h = r := fj_step (fn := Try.f28) (js := js28) (by kernel_rfl) e hr
noncomputable def t28_2 (cf : CallF) (R : Rec) (a0 a5 : IV) (h : H) : CRes :=
 obind (lenStr a0) fun x16 =>
 obind (binN .lss a5 x16) fun x17 =>
 condK x17
 (callP (cf 27 [a0, a5, (.str ⟨2, 12074⟩)] h) .pan fun x18 h19 =>
 condK x18
 (obind (binN .add a5 (.int .i64 2)) fun x20 =>
 .ok x20 h19)
 (obind (binN .add a5 (.int .i64 1)) fun x21 =>
 R 2 [a0, x21] h19))
 (.ok (.int .i64 (-1)) h)
theorem e28_2 {T : Tab} {a0 a5 : IV} {h : H} {r : CRes} (e : t28_2 (CL T) (J28 T) a0 a5 h = r) (hr : r ≠ .fail) : J28 T 2 [a0, a5] h = r := fj_step (fn := Try.f28) (js := js28) (by kernel_rfl) e hr
theorem c28 {T : Tab} (hT : OvStep T) (ho : T.ov 28 = none) (hp : T.pol 28 = true) {a0 a1 : IV} {h : H} {r : CRes} (hg : Gd h) (e : t28_0 (CL T) (J28 T) a0 a1 h = r) (hr : r ≠ .fail) : CL T 28 [a0, a1] h = r := call_good ho Try.func28 rfl rfl rfl hp hg hT (e28_0 e hr) hr

-- silkworm/silkwormref02.one
def js29 : List Jn := [⟨[], [0, 1]⟩, ⟨[1, 1, 1], [0, 1, 4, 7]⟩, ⟨[0, 0, 1, 0, 1, 0, 1, 1, 1], [0, 1, 4, 7, 8]⟩, ⟨[1, 1, 1, 1, 1, 0, 1, 0, 1, 1, 1], [0, 1, 4, 7, 8, 9]⟩, ⟨[0, 0, 0, 1, 0, 1, 1, 1, 1], [0, 1, 4, 7]⟩]
noncomputable def J29 (T : Tab) : Rec := fj Try.prog (CL T) Try.f29 js29
noncomputable def t29_0 (cf : CallF) (R : Rec) (a0 a1 : IV) (h : H) : CRes :=
 obind2 (newI h z1) fun x1 h2 =>
 obind (ixStr a0 a1) fun x3 =>
 obind (binN .eql x3 (.int .u8 96)) fun x4 =>
 condK x4
 (obind (binN .add a1 (.int .i64 1)) fun x5 =>
 R 1 [a0, a1, x1, x5] h2)
 (R 1 [a0, a1, x1, a1] h2)
theorem e29_0 {T : Tab} {a0 a1 : IV} {h : H} {r : CRes} (e : t29_0 (CL T) (J29 T) a0 a1 h = r) (hr : r ≠ .fail) : J29 T 0 [a0, a1] h = r := fj_step (fn := Try.f29) (js := js29) (by kernel_rfl) e hr
noncomputable def t29_1 (cf : CallF) (R : Rec) (a0 a1 a4 a7 : IV) (h : H) : CRes :=
 obind (lenStr a0) fun x6 =>
 obind (binN .lss a7 x6) fun x7 =>
 spanK x7 true h (fun k8 =>
 obind (ixStr a0 a7) fun x11 =>
 callP (cf 39 [x11] h) .pan fun x12 h13 =>
 k8 x12 h13) fun x9 h10 =>
 obind (pickI x7 (some x9) (some (.bool false))) fun x14 =>
 condK x14
 (R 2 [a0, a1, a4, a7, a7] h10)
 (obind (ixStr a0 a1) fun x15 =>
 callP (cf 41 [x15] h10) .pan fun x16 h17 =>
 condK x16
 (R 4 [a0, a1, a4, a7] h17)
 (callP (cf 43 [a0, a1] h17) .pan fun x18 h19 =>
 obind (binS .eql x18 (.str ⟨0, 0⟩)) fun x20 =>
 condK x20
 (obind (bldK z1 p2 []) fun x21 =>
 obindH (stA 3 h19 a4 x21) fun h22 =>
 obind (ldA 3 h22 a4) fun x23 =>
 .ok (.tup [x23, (.int .i64 0), (.int .i64 20)]) h22)
 (obind (bldK z1 p2 [(0, (.int .i64 3)), (1, x18), (2, a1)]) fun x24 =>
 obind (lenStr x18) fun x25 =>
 obind (binN .add a1 x25) fun x26 =>
 obindH (stA 3 h19 a4 x24) fun h27 =>
 obind (ldA 3 h27 a4) fun x28 =>
 .ok (.tup [x28, x26, (.int .i64 0)]) h27)))
theorem e29_1 {T : Tab} {a0 a1 a4 a7 : IV} {h : H} {r : CRes} (e : t29_1 (CL T) (J29 T) a0 a1 a4 a7 h = r) (hr : r ≠ .fail) : J29 T 1 [a0, a1, a4, a7] h = r := fj_step (fn := Try.f29) (js := js29) (by kernel_rfl) e hr
noncomputable def t29_2 (cf : CallF) (R : Rec) (a0 a1 a4 a7 a8 : IV) (h : H) : CRes :=
 obind (lenStr a0) fun x29 =>
 obind (binN .lss a7 x29) fun x30 =>
 spanK x30 true h (fun k31 =>
 obind (ixStr a0 a7) fun x34 =>
 callP (cf 40 [x34] h) .pan fun x35 h36 =>
 k31 x35 h36) fun x32 h33 =>
 obind (pickI x30 (some x32) (some (.bool false))) fun x37 =>
 condK x37
 (obind (binN .add a7 (.int .i64 1)) fun x38 =>
 R 2 [a0, a1, a4, x38, a8] h33)
 (obind (binN .sub a7 a8) fun x39 =>
 obind (binN .gtr x39 (.int .i64 64)) fun x40 =>
 condK x40
 (obind (bldK z1 p2 []) fun x41 =>
 obindH (stA 3 h33 a4 x41) fun h42 =>
 obind (ldA 3 h42 a4) fun x43 =>
 .ok (.tup [x43, (.int .i64 0), (.int .i64 4)]) h42)
 (obind (ixStr a0 a1) fun x44 =>
 obind (binN .eql x44 (.int .u8 96)) fun x45 =>
 condK x45
 (R 3 [a0, a1, a4, a7, a8, (.int .i64 4)] h33)
 (R 3 [a0, a1, a4, a7, a8, (.int .i64 1)] h33)))
theorem e29_2 {T : Tab} {a0 a1 a4 a7 a8 : IV} {h : H} {r : CRes} (e : t29_2 (CL T) (J29 T) a0 a1 a4 a7 a8 h = r) (hr : r ≠ .fail) : J29 T 2 [a0, a1, a4, a7, a8] h = r := fj_step (fn := Try.f29) (js := js29) (by kernel_rfl) e hr
noncomputable def t29_4 (cf : CallF) (R : Rec) (a0 a1 a4 a7 : IV) (h : H) : CRes :=
 obind (lenStr a0) fun x46 =>
 obind (binN .lss a7 x46) fun x47 =>
 spanK x47 true h (fun k48 =>
 obind (ixStr a0 a7) fun x51 =>
 callP (cf 40 [x51] h) .pan fun x52 h53 =>
 k48 x52 h53) fun x49 h50 =>
 spanK x49 false h50 (fun k54 =>
 obind (ixStr a0 a7) fun x57 =>
 obind (binN .eql x57 (.int .u8 39)) fun x58 =>
 k54 x58 h50) fun x55 h56 =>
 spanK x47 true h56 (fun k59 =>
 obind (pickI x49 (some (.bool true)) (some x55)) fun x62 =>
 k59 x62 h56) fun x60 h61 =>
 obind (pickI x47 (some x60) (some (.bool false))) fun x63 =>
 condK x63
 (obind (binN .add a7 (.int .i64 1)) fun x64 =>
 R 4 [a0, a1, a4, x64] h61)
 (obind (slcStr a0 (some a1) (some a7)) fun x65 =>
 callP (cf 42 [x65] h61) .pan fun x66 h67 =>
 obind (extractI x66 0) fun x68 =>
 obind (extractI x66 1) fun x69 =>
 obind (extractI x66 2) fun x70 =>
 obind (binN .neq x70 (.int .i64 0)) fun x71 =>
 condK x71
 (obind (bldK z1 p2 []) fun x72 =>
 obindH (stA 3 h67 a4 x72) fun h73 =>
 obind (ldA 3 h73 a4) fun x74 =>
 .ok (.tup [x74, (.int .i64 0), x70]) h73)
 (obind (slcStr a0 (some a1) (some a7)) fun x75 =>
 obind (bldK z1 p2 [(0, (.int .i64 2)), (1, x75), (2, a1)]) fun x76 =>
 obindH (stA 3 h67 a4 x76) fun h77 =>
 obind (ldA 3 h77 a4) fun x78 =>
 .ok (.tup [x78, a7, (.int .i64 0)]) h77))
theorem e29_4 {T : Tab} {a0 a1 a4 a7 : IV} {h : H} {r : CRes} (e : t29_4 (CL T) (J29 T) a0 a1 a4 a7 h = r) (hr : r ≠ .fail) : J29 T 4 [a0, a1, a4, a7] h = r := fj_step (fn := Try.f29) (js := js29) (by kernel_rfl) e hr
noncomputable def t29_3 (cf : CallF) (R : Rec) (a0 a1 a4 a7 a8 a9 : IV) (h : H) : CRes :=
 obind (slcStr a0 (some a8) (some a7)) fun x79 =>
 obind (bldK z1 p2 [(0, a9), (1, x79), (2, a1)]) fun x80 =>
 obindH (stA 3 h a4 x80) fun h81 =>
 obind (ldA 3 h81 a4) fun x82 =>
 .ok (.tup [x82, a7, (.int .i64 0)]) h81
theorem e29_3 {T : Tab} {a0 a1 a4 a7 a8 a9 : IV} {h : H} {r : CRes} (e : t29_3 (CL T) (J29 T) a0 a1 a4 a7 a8 a9 h = r) (hr : r ≠ .fail) : J29 T 3 [a0, a1, a4, a7, a8, a9] h = r := fj_step (fn := Try.f29) (js := js29) (by kernel_rfl) e hr
theorem c29 {T : Tab} (hT : OvStep T) (ho : T.ov 29 = none) (hp : T.pol 29 = true) {a0 a1 : IV} {h : H} {r : CRes} (hg : Gd h) (e : t29_0 (CL T) (J29 T) a0 a1 h = r) (hr : r ≠ .fail) : CL T 29 [a0, a1] h = r := call_good ho Try.func29 rfl rfl rfl hp hg hT (e29_0 e hr) hr

-- (*silkworm/silkwormref04.reader).module
def js30 : List Jn := [⟨[], [0]⟩, ⟨[1, 1, 1, 1, 1], [0, 2, 3]⟩, ⟨[1, 1, 1, 1, 1, 1, 1], [0, 2, 3]⟩, ⟨[1, 0, 1, 0, 1, 1, 1, 1, 1, 1], [0, 2, 3]⟩, ⟨[0, 0, 0, 1, 0, 1, 1, 1, 1, 1, 1], [0, 2, 3]⟩]
noncomputable def J30 (T : Tab) : Rec := fj Try.prog (CL T) Try.f30 js30
noncomputable def t30_0 (cf : CallF) (R : Rec) (a0 : IV) (h : H) : CRes :=
 obind2 (newI h z0) fun x1 h2 =>
 callP (cf 44 [a0] h2) .pan fun x3 h4 =>
 obind (bldK z0 p7 [(4, x3)]) fun x5 =>
 obind2 (newI h4 z0) fun x6 h7 =>
 obindH (stA 5 h7 x6 x5) fun h8 =>
 callP (cf 45 [a0, (.str ⟨6, 111516500389741⟩)] h8) .pan fun x9 h10 =>
 callP (cf 46 [a0] h10) .pan fun x11 h12 =>
 obind (fadK 0 x6) fun x13 =>
 obindH (stA 1 h12 x13 x11) fun h14 =>
 callP (cf 47 [a0, (.str ⟨1, 35⟩)] h14) .pan fun x15 h16 =>
 condK x15
 (callP (cf 48 [a0] h16) .pan fun x17 h18 =>
 obind (fadK 1 x6) fun x19 =>
 obindH (stA 1 h18 x19 x17) fun h20 =>
 R 1 [a0, x1, x6] h20)
 (R 1 [a0, x1, x6] h16)
theorem e30_0 {T : Tab} {a0 : IV} {h : H} {r : CRes} (e : t30_0 (CL T) (J30 T) a0 h = r) (hr : r ≠ .fail) : J30 T 0 [a0] h = r := fj_step (fn := Try.f30) (js := js30) (by kernel_rfl) e hr
noncomputable def t30_1 (cf : CallF) (R : Rec) (a0 a2 a3 : IV) (h : H) : CRes :=
 callP (cf 45 [a0, (.str ⟨1, 40⟩)] h) .pan fun x21 h22 =>
 callP (cf 47 [a0, (.str ⟨1, 41⟩)] h22) .pan fun x23 h24 =>
 obind (unI .not x23) fun x25 =>
 condK x25
 (R 4 [a0, a2, a3] h24)
 (R 2 [a0, a2, a3] h24)
theorem e30_1 {T : Tab} {a0 a2 a3 : IV} {h : H} {r : CRes} (e : t30_1 (CL T) (J30 T) a0 a2 a3 h = r) (hr : r ≠ .fail) : J30 T 1 [a0, a2, a3] h = r := fj_step (fn := Try.f30) (js := js30) (by kernel_rfl) e hr
noncomputable def t30_2 (cf : CallF) (R : Rec) (a0 a2 a3 : IV) (h : H) : CRes :=
 callP (cf 45 [a0, (.str ⟨1, 59⟩)] h) .pan fun x26 h27 =>
 callP (cf 50 [a0, (.str ⟨9, 1870936414602775522917⟩), (.int .i64 1)] h27) .pan fun x28 h29 =>
 obind (fadK 3 a3) fun x30 =>
 obindH (stA 1 h29 x30 x28) fun h31 =>
 obind (ldA 5 h31 a3) fun x32 =>
 obindH (stA 5 h31 a2 x32) fun h33 =>
 obind (ldA 5 h33 a2) fun x34 =>
 .ok x34 h33
theorem e30_2 {T : Tab} {a0 a2 a3 : IV} {h : H} {r : CRes} (e : t30_2 (CL T) (J30 T) a0 a2 a3 h = r) (hr : r ≠ .fail) : J30 T 2 [a0, a2, a3] h = r := fj_step (fn := Try.f30) (js := js30) (by kernel_rfl) e hr
noncomputable def t30_4 (cf : CallF) (R : Rec) (a0 a2 a3 : IV) (h : H) : CRes :=
 callP (cf 31 [a0] h) .pan fun x35 h36 =>
 condK x35
 (obind (fadK 2 a3) fun x37 =>
 obind (ld0 h36 x37) fun x38 =>
 callP (cf 49 [a0] h36) (fun v39 h40 =>
 .pan v39 h40) fun x41 h42 =>
 obind (ld0 h42 x37) fun x43 =>
 bif IV.beq x43 x38 then
 obind2 (bslK false 17 z6 1 [(0, x41)] h42) fun x44 h45 =>
 obind (ld0 h45 x37) fun x46 =>
 bif IV.beq x46 x38 then
 obind2 (appK 17 192 h45 x38 x44) fun x47 h48 =>
 obind (fadK 2 a3) fun x49 =>
 obindH (stA 1 h48 x49 x47) fun h50 =>
 callP (cf 47 [a0, (.str ⟨1, 44⟩)] h50) .pan fun x51 h52 =>
 obind (unI .not x51) fun x53 =>
 condK x53
 (R 3 [a0, a2, a3] h52)
 (R 4 [a0, a2, a3] h52)
 else .fail
 else .fail)
 (R 3 [a0, a2, a3] h36)
theorem e30_4 {T : Tab} {a0 a2 a3 : IV} {h : H} {r : CRes} (e : t30_4 (CL T) (J30 T) a0 a2 a3 h = r) (hr : r ≠ .fail) : J30 T 4 [a0, a2, a3] h = r := fj_step (fn := Try.f30) (js := js30) (by kernel_rfl) e hr
noncomputable def t30_3 (cf : CallF) (R : Rec) (a0 a2 a3 : IV) (h : H) : CRes :=
 callP (cf 45 [a0, (.str ⟨1, 41⟩)] h) .pan fun x54 h55 =>
 R 2 [a0, a2, a3] h55
theorem e30_3 {T : Tab} {a0 a2 a3 : IV} {h : H} {r : CRes} (e : t30_3 (CL T) (J30 T) a0 a2 a3 h = r) (hr : r ≠ .fail) : J30 T 3 [a0, a2, a3] h = r := fj_step (fn := Try.f30) (js := js30) (by kernel_rfl) e hr
theorem c30 {T : Tab} (hT : OvStep T) (ho : T.ov 30 = none) (hp : T.pol 30 = true) {a0 : IV} {h : H} {r : CRes} (hg : Gd h) (e : t30_0 (CL T) (J30 T) a0 h = r) (hr : r ≠ .fail) : CL T 30 [a0] h = r := call_good ho Try.func30 rfl rfl rfl hp hg hT (e30_0 e hr) hr

-- (*silkworm/silkwormref04.reader).going
def js31 : List Jn := [⟨[], [0]⟩]
noncomputable def J31 (T : Tab) : Rec := fj Try.prog (CL T) Try.f31 js31
noncomputable def t31_0 (cf : CallF) (R : Rec) (a0 : IV) (h : H) : CRes :=
 obind (nilI a0) fun x1 =>
 obind (fadK 2 x1) fun x2 =>
 obind (fadK 1 x2) fun x3 =>
 obind (ld0 h x3) fun x4 =>
 obind (binN .eql x4 (.int .i64 0)) fun x5 =>
 .ok x5 h
theorem e31_0 {T : Tab} {a0 : IV} {h : H} {r : CRes} (e : t31_0 (CL T) (J31 T) a0 h = r) (hr : r ≠ .fail) : J31 T 0 [a0] h = r := fj_step (fn := Try.f31) (js := js31) (by kernel_rfl) e hr
theorem c31 {T : Tab} (hT : OvStep T) (ho : T.ov 31 = none) (hp : T.pol 31 = true) {a0 : IV} {h : H} {r : CRes} (hg : Gd h) (e : t31_0 (CL T) (J31 T) a0 h = r) (hr : r ≠ .fail) : CL T 31 [a0] h = r := call_good ho Try.func31 rfl rfl rfl hp hg hT (e31_0 e hr) hr

-- (*silkworm/sema.scope).add
def js32 : List Jn := [⟨[], [0, 1, 2, 3]⟩, ⟨[1], [0, 1, 2]⟩]
noncomputable def J32 (T : Tab) : Rec := fj Try.prog (CL T) Try.f32 js32
noncomputable def t32_0 (cf : CallF) (R : Rec) (a0 a1 a2 a3 : IV) (h : H) : CRes :=
 obind (nilI a0) fun x1 =>
 obind (fadK 1 x1) fun x2 =>
 obind (ld0 h x2) fun x3 =>
 obind (lkK true .nilPtr h x3 a1 true) fun x4 =>
 obind (extractI x4 0) fun x5 =>
 obind (extractI x4 1) fun x6 =>
 condK x6
 (callP (cf 17 [a3, (.int .i64 70)] h) .pan fun x7 h8 =>
 R 1 [a0, a1, a2] h8)
 (R 1 [a0, a1, a2] h)
theorem e32_0 {T : Tab} {a0 a1 a2 a3 : IV} {h : H} {r : CRes} (e : t32_0 (CL T) (J32 T) a0 a1 a2 a3 h = r) (hr : r ≠ .fail) : J32 T 0 [a0, a1, a2, a3] h = r := fj_step (fn := Try.f32) (js := js32) (by kernel_rfl) e hr
noncomputable def t32_1 (cf : CallF) (R : Rec) (a0 a1 a2 : IV) (h : H) : CRes :=
 obind (nilI a0) fun x9 =>
 obind (fadK 1 x9) fun x10 =>
 obind (ld0 h x10) fun x11 =>
 obind (bldK [(.int .i64 0), (.bool false)] [(0, 1), (1, 1)] [(0, a2)]) fun x12 =>
 obind2 (newI h (IV.cells x12)) fun x13 h14 =>
 obindH (mupK true h14 x11 a1 x13) fun h15 =>
 .ok (.tup []) h15
theorem e32_1 {T : Tab} {a0 a1 a2 : IV} {h : H} {r : CRes} (e : t32_1 (CL T) (J32 T) a0 a1 a2 h = r) (hr : r ≠ .fail) : J32 T 1 [a0, a1, a2] h = r := fj_step (fn := Try.f32) (js := js32) (by kernel_rfl) e hr
theorem c32 {T : Tab} (hT : OvStep T) (ho : T.ov 32 = none) (hp : T.pol 32 = true) {a0 a1 a2 a3 : IV} {h : H} {r : CRes} (hg : Gd h) (e : t32_0 (CL T) (J32 T) a0 a1 a2 a3 h = r) (hr : r ≠ .fail) : CL T 32 [a0, a1, a2, a3] h = r := call_good ho Try.func32 rfl rfl rfl hp hg hT (e32_0 e hr) hr

-- (*silkworm/sema.scope).items
def js33 : List Jn := [⟨[], [0, 1]⟩, ⟨[0, 1], [0, 10, 11, 12]⟩, ⟨[1, 1, 1, 0, 0, 1], [0, 10, 11, 12]⟩, ⟨[0, 1, 0, 1, 0, 1, 1, 0, 0, 1, 1, 0, 0, 1], [0, 5, 10, 11, 12, 21, 22, 23]⟩, ⟨[0, 1, 0, 1, 1, 1, 0, 1, 1, 0, 0, 1, 1, 0, 0, 1], [0, 5, 10, 11, 12, 36, 37, 38]⟩, ⟨[1, 1, 1, 1, 1, 1, 1, 0, 1, 1, 0, 0, 1, 1, 0, 0, 1], [0, 5, 10, 11, 12, 56]⟩]
noncomputable def J33 (T : Tab) : Rec := fj Try.prog (CL T) Try.f33 js33
noncomputable def t33_0 (cf : CallF) (R : Rec) (a0 a1 : IV) (h : H) : CRes :=
 obind (lenS a1) fun x1 =>
 R 1 [a0, a1, x1, (.int .i64 0)] h
theorem e33_0 {T : Tab} {a0 a1 : IV} {h : H} {r : CRes} (e : t33_0 (CL T) (J33 T) a0 a1 h = r) (hr : r ≠ .fail) : J33 T 0 [a0, a1] h = r := fj_step (fn := Try.f33) (js := js33) (by kernel_rfl) e hr
noncomputable def t33_1 (cf : CallF) (R : Rec) (a0 a10 a11 a12 : IV) (h : H) : CRes :=
 obind (binN .lss a12 a11) fun x2 =>
 condK x2
 (obind (ixS 48 a10 a12) fun x3 =>
 obind (ldA 48 h x3) fun x4 =>
 obind2 (newI h z8) fun x5 h6 =>
 obindH (stA 48 h6 x5 x4) fun h7 =>
 obind (fadK 0 x5) fun x8 =>
 obind (ld0 h7 x8) fun x9 =>
 obind (binN .eql x9 (.int .i64 1)) fun x10 =>
 condK x10
 (obind (fadK 2 x5) fun x11 =>
 obind (ld0 h7 x11) fun x12 =>
 obind (lenS x12) fun x13 =>
 R 3 [a0, x5, a10, a11, a12, x12, x13, (.int .i64 0)] h7)
 (obind (binN .eql x9 (.int .i64 2)) fun x14 =>
 condK x14
 (obind (fadK 2 x5) fun x15 =>
 obind (ld0 h7 x15) fun x16 =>
 obind (lenS x16) fun x17 =>
 R 4 [a0, x5, a10, a11, a12, x16, x17, (.int .i64 0)] h7)
 (obind (binN .eql x9 (.int .i64 3)) fun x18 =>
 condK x18
 (obind (fadK 1 x5) fun x19 =>
 obind (ld0 h7 x19) fun x20 =>
 obind (fadK 47 x5) fun x21 =>
 obind (ld0 h7 x21) fun x22 =>
 callP (cf 32 [a0, x20, (.int .i64 1), x22] h7) .pan fun x23 h24 =>
 R 2 [a0, a10, a11, a12] h24)
 (obind (binN .eql x9 (.int .i64 7)) fun x25 =>
 condK x25
 (R 5 [a0, x5, a10, a11, a12, x25] h7)
 (obind (binN .eql x9 (.int .i64 8)) fun x26 =>
 R 5 [a0, x5, a10, a11, a12, x26] h7)))))
 (.ok (.tup []) h)
theorem e33_1 {T : Tab} {a0 a10 a11 a12 : IV} {h : H} {r : CRes} (e : t33_1 (CL T) (J33 T) a0 a10 a11 a12 h = r) (hr : r ≠ .fail) : J33 T 1 [a0, a10, a11, a12] h = r := fj_step (fn := Try.f33) (js := js33) (by kernel_rfl) e hr
noncomputable def t33_2 (cf : CallF) (R : Rec) (a0 a10 a11 a12 : IV) (h : H) : CRes :=
 obind (binN .add a12 (.int .i64 1)) fun x27 =>
 R 1 [a0, a10, a11, x27] h
theorem e33_2 {T : Tab} {a0 a10 a11 a12 : IV} {h : H} {r : CRes} (e : t33_2 (CL T) (J33 T) a0 a10 a11 a12 h = r) (hr : r ≠ .fail) : J33 T 2 [a0, a10, a11, a12] h = r := fj_step (fn := Try.f33) (js := js33) (by kernel_rfl) e hr
noncomputable def t33_3 (cf : CallF) (R : Rec) (a0 a5 a10 a11 a12 a21 a22 a23 : IV) (h : H) : CRes :=
 obind (binN .lss a23 a22) fun x28 =>
 condK x28
 (obind (ixS 1 a21 a23) fun x29 =>
 obind (ld0 h x29) fun x30 =>
 obind (fadK 47 a5) fun x31 =>
 obind (ld0 h x31) fun x32 =>
 callP (cf 32 [a0, x30, (.int .i64 3), x32] h) .pan fun x33 h34 =>
 obind (binN .add a23 (.int .i64 1)) fun x35 =>
 R 3 [a0, a5, a10, a11, a12, a21, a22, x35] h34)
 (R 2 [a0, a10, a11, a12] h)
theorem e33_3 {T : Tab} {a0 a5 a10 a11 a12 a21 a22 a23 : IV} {h : H} {r : CRes} (e : t33_3 (CL T) (J33 T) a0 a5 a10 a11 a12 a21 a22 a23 h = r) (hr : r ≠ .fail) : J33 T 3 [a0, a5, a10, a11, a12, a21, a22, a23] h = r := fj_step (fn := Try.f33) (js := js33) (by kernel_rfl) e hr
noncomputable def t33_4 (cf : CallF) (R : Rec) (a0 a5 a10 a11 a12 a36 a37 a38 : IV) (h : H) : CRes :=
 obind (binN .lss a38 a37) fun x36 =>
 condK x36
 (obind (ixS 1 a36 a38) fun x37 =>
 obind (ld0 h x37) fun x38 =>
 obind (fadK 47 a5) fun x39 =>
 obind (ld0 h x39) fun x40 =>
 callP (cf 32 [a0, x38, (.int .i64 4), x40] h) .pan fun x41 h42 =>
 obind (binN .add a38 (.int .i64 1)) fun x43 =>
 R 4 [a0, a5, a10, a11, a12, a36, a37, x43] h42)
 (R 2 [a0, a10, a11, a12] h)
theorem e33_4 {T : Tab} {a0 a5 a10 a11 a12 a36 a37 a38 : IV} {h : H} {r : CRes} (e : t33_4 (CL T) (J33 T) a0 a5 a10 a11 a12 a36 a37 a38 h = r) (hr : r ≠ .fail) : J33 T 4 [a0, a5, a10, a11, a12, a36, a37, a38] h = r := fj_step (fn := Try.f33) (js := js33) (by kernel_rfl) e hr
noncomputable def t33_5 (cf : CallF) (R : Rec) (a0 a5 a10 a11 a12 a56 : IV) (h : H) : CRes :=
 condK a56
 (obind (fadK 1 a5) fun x44 =>
 obind (ld0 h x44) fun x45 =>
 obind (fadK 47 a5) fun x46 =>
 obind (ld0 h x46) fun x47 =>
 callP (cf 32 [a0, x45, (.int .i64 5), x47] h) .pan fun x48 h49 =>
 R 2 [a0, a10, a11, a12] h49)
 (R 2 [a0, a10, a11, a12] h)
theorem e33_5 {T : Tab} {a0 a5 a10 a11 a12 a56 : IV} {h : H} {r : CRes} (e : t33_5 (CL T) (J33 T) a0 a5 a10 a11 a12 a56 h = r) (hr : r ≠ .fail) : J33 T 5 [a0, a5, a10, a11, a12, a56] h = r := fj_step (fn := Try.f33) (js := js33) (by kernel_rfl) e hr
theorem c33 {T : Tab} (hT : OvStep T) (ho : T.ov 33 = none) (hp : T.pol 33 = true) {a0 a1 : IV} {h : H} {r : CRes} (hg : Gd h) (e : t33_0 (CL T) (J33 T) a0 a1 h = r) (hr : r ≠ .fail) : CL T 33 [a0, a1] h = r := call_good ho Try.func33 rfl rfl rfl hp hg hT (e33_0 e hr) hr

-- (*silkworm/sema.scope).scope
def js34 : List Jn := [⟨[], [0, 1, 2]⟩, ⟨[0, 1], [0, 2, 9, 10, 11]⟩, ⟨[1, 1, 1, 0, 0, 1], [0, 2, 9, 10, 11]⟩, ⟨[1, 1, 1, 0, 1, 1, 0, 0, 1, 1, 0, 0, 1], [0, 2, 7, 9, 10, 11, 16, 34]⟩]
noncomputable def J34 (T : Tab) : Rec := fj Try.prog (CL T) Try.f34 js34
noncomputable def t34_0 (cf : CallF) (R : Rec) (a0 a1 a2 : IV) (h : H) : CRes :=
 obind (lenS a1) fun x1 =>
 R 1 [a0, a2, a1, x1, (.int .i64 0)] h
theorem e34_0 {T : Tab} {a0 a1 a2 : IV} {h : H} {r : CRes} (e : t34_0 (CL T) (J34 T) a0 a1 a2 h = r) (hr : r ≠ .fail) : J34 T 0 [a0, a1, a2] h = r := fj_step (fn := Try.f34) (js := js34) (by kernel_rfl) e hr
noncomputable def t34_1 (cf : CallF) (R : Rec) (a0 a2 a9 a10 a11 : IV) (h : H) : CRes :=
 obind (binN .lss a11 a10) fun x2 =>
 condK x2
 (obind (ixS 48 a9 a11) fun x3 =>
 obind (ldA 48 h x3) fun x4 =>
 obind2 (newI h z8) fun x5 h6 =>
 obindH (stA 48 h6 x5 x4) fun h7 =>
 obind (fadK 0 x5) fun x8 =>
 obind (ld0 h7 x8) fun x9 =>
 obind (binN .eql x9 (.int .i64 4)) fun x10 =>
 condK x10
 (obind (fadK 1 x5) fun x11 =>
 obind (ld0 h7 x11) fun x12 =>
 obind (fadK 47 x5) fun x13 =>
 obind (ld0 h7 x13) fun x14 =>
 obind (fadK 47 x5) fun x15 =>
 obind (ld0 h7 x15) fun x16 =>
 callP (cf 51 [a0, x12, (.int .i64 3), x14, x16] h7) (fun v17 h18 =>
 obind (fadK 47 x5) fun x19 =>
 obind (ld0 h7 x19) fun x20 =>
 .pan v17 h18) fun x21 h22 =>
 obind (fadK 47 x5) fun x23 =>
 obind (ld0 h22 x23) fun x24 =>
 obind (ld0 h7 x23) fun x25 =>
 bif IV.beq x25 x24 then
 callP (cf 52 [x21, x24] h22) (fun v26 h27 =>
 .pan v26 h27) fun x28 h29 =>
 obind (fadK 23 x5) fun x30 =>
 obind (ldA 6 h29 x30) fun x31 =>
 callP (cf 53 [a0, x31] h29) .pan fun x32 h33 =>
 R 2 [a0, a2, a9, a10, a11] h33
 else .fail)
 (obind (binN .eql x9 (.int .i64 5)) fun x34 =>
 condK x34
 (R 3 [a0, a2, x5, a9, a10, a11, x9, x34] h7)
 (obind (binN .eql x9 (.int .i64 6)) fun x35 =>
 R 3 [a0, a2, x5, a9, a10, a11, x9, x35] h7)))
 (.ok (.tup []) h)
theorem e34_1 {T : Tab} {a0 a2 a9 a10 a11 : IV} {h : H} {r : CRes} (e : t34_1 (CL T) (J34 T) a0 a2 a9 a10 a11 h = r) (hr : r ≠ .fail) : J34 T 1 [a0, a2, a9, a10, a11] h = r := fj_step (fn := Try.f34) (js := js34) (by kernel_rfl) e hr
noncomputable def t34_2 (cf : CallF) (R : Rec) (a0 a2 a9 a10 a11 : IV) (h : H) : CRes :=
 obind (binN .add a11 (.int .i64 1)) fun x36 =>
 R 1 [a0, a2, a9, a10, x36] h
theorem e34_2 {T : Tab} {a0 a2 a9 a10 a11 : IV} {h : H} {r : CRes} (e : t34_2 (CL T) (J34 T) a0 a2 a9 a10 a11 h = r) (hr : r ≠ .fail) : J34 T 2 [a0, a2, a9, a10, a11] h = r := fj_step (fn := Try.f34) (js := js34) (by kernel_rfl) e hr
noncomputable def t34_3 (cf : CallF) (R : Rec) (a0 a2 a7 a9 a10 a11 a16 a34 : IV) (h : H) : CRes :=
 condK a34
 (obind (ldA 48 h a7) fun x37 =>
 callP (cf 54 [a0, x37] h) .pan fun x38 h39 =>
 R 2 [a0, a2, a9, a10, a11] h39)
 (obind (binN .eql a16 (.int .i64 7)) fun x40 =>
 condK x40
 (obind (ldA 48 h a7) fun x41 =>
 callP (cf 55 [a0, x41, a2] h) .pan fun x42 h43 =>
 R 2 [a0, a2, a9, a10, a11] h43)
 (obind (binN .eql a16 (.int .i64 8)) fun x44 =>
 condK x44
 (mapK h fun x46 h45 =>
 obind (bldK [.nilPtr, .nilMap] [(0, 1), (1, 1)] [(0, a0), (1, x46)]) fun x47 =>
 obind2 (newI h45 (IV.cells x47)) fun x48 h49 =>
 obind (fadK 41 a7) fun x50 =>
 obind (ld0 h49 x50) fun x51 =>
 obind (fadK 47 a7) fun x52 =>
 obind (ld0 h49 x52) fun x53 =>
 callP (cf 32 [x48, x51, (.int .i64 1), x53] h49) .pan fun x54 h55 =>
 obind (fadK 46 a7) fun x56 =>
 obind (ld0 h55 x56) fun x57 =>
 callP (cf 33 [x48, x57] h55) .pan fun x58 h59 =>
 obind (fadK 46 a7) fun x60 =>
 obind (ld0 h59 x60) fun x61 =>
 callP (cf 34 [x48, x61, a2] h59) .pan fun x62 h63 =>
 R 2 [a0, a2, a9, a10, a11] h63)
 (R 2 [a0, a2, a9, a10, a11] h)))
theorem e34_3 {T : Tab} {a0 a2 a7 a9 a10 a11 a16 a34 : IV} {h : H} {r : CRes} (e : t34_3 (CL T) (J34 T) a0 a2 a7 a9 a10 a11 a16 a34 h = r) (hr : r ≠ .fail) : J34 T 3 [a0, a2, a7, a9, a10, a11, a16, a34] h = r := fj_step (fn := Try.f34) (js := js34) (by kernel_rfl) e hr
theorem c34 {T : Tab} (hT : OvStep T) (ho : T.ov 34 = none) (hp : T.pol 34 = true) {a0 a1 a2 : IV} {h : H} {r : CRes} (hg : Gd h) (e : t34_0 (CL T) (J34 T) a0 a1 a2 h = r) (hr : r ≠ .fail) : CL T 34 [a0, a1, a2] h = r := call_good ho Try.func34 rfl rfl rfl hp hg hT (e34_0 e hr) hr

-- silkworm/silkwormref02.Letter
def js39 : List Jn := [⟨[], [0]⟩]
noncomputable def J39 (T : Tab) : Rec := fj Try.prog (CL T) Try.f39 js39
noncomputable def t39_0 (cf : CallF) (R : Rec) (a0 : IV) (h : H) : CRes :=
 obind (binN .geq a0 (.int .u8 97)) fun x1 =>
 spanK x1 true h (fun k2 =>
 obind (binN .leq a0 (.int .u8 122)) fun x5 =>
 k2 x5 h) fun x3 h4 =>
 obind (pickI x1 (some x3) (some (.bool false))) fun x6 =>
 spanK x6 false h4 (fun k7 =>
 obind (binN .geq a0 (.int .u8 65)) fun x10 =>
 k7 x10 h4) fun x8 h9 =>
 spanK x8 true h9 (fun k11 =>
 obind (binN .leq a0 (.int .u8 90)) fun x14 =>
 k11 x14 h9) fun x12 h13 =>
 spanK x6 false h13 (fun k15 =>
 obind (pickI x8 (some x12) (some (.bool false))) fun x18 =>
 k15 x18 h13) fun x16 h17 =>
 obind (pickI x6 (some (.bool true)) (some x16)) fun x19 =>
 spanK x19 false h17 (fun k20 =>
 obind (binN .eql a0 (.int .u8 95)) fun x23 =>
 k20 x23 h17) fun x21 h22 =>
 obind (pickI x19 (some (.bool true)) (some x21)) fun x24 =>
 .ok x24 h22
theorem e39_0 {T : Tab} {a0 : IV} {h : H} {r : CRes} (e : t39_0 (CL T) (J39 T) a0 h = r) (hr : r ≠ .fail) : J39 T 0 [a0] h = r := fj_step (fn := Try.f39) (js := js39) (by kernel_rfl) e hr
theorem c39 {T : Tab} (hT : OvStep T) (ho : T.ov 39 = none) (hp : T.pol 39 = true) {a0 : IV} {h : H} {r : CRes} (hg : Gd h) (e : t39_0 (CL T) (J39 T) a0 h = r) (hr : r ≠ .fail) : CL T 39 [a0] h = r := call_good ho Try.func39 rfl rfl rfl hp hg hT (e39_0 e hr) hr

-- silkworm/silkwormref02.word
def js40 : List Jn := [⟨[], [0]⟩]
noncomputable def J40 (T : Tab) : Rec := fj Try.prog (CL T) Try.f40 js40
noncomputable def t40_0 (cf : CallF) (R : Rec) (a0 : IV) (h : H) : CRes :=
 callP (cf 39 [a0] h) .pan fun x1 h2 =>
 spanK x1 false h2 (fun k3 =>
 callP (cf 41 [a0] h2) .pan fun x6 h7 =>
 k3 x6 h7) fun x4 h5 =>
 obind (pickI x1 (some (.bool true)) (some x4)) fun x8 =>
 .ok x8 h5
theorem e40_0 {T : Tab} {a0 : IV} {h : H} {r : CRes} (e : t40_0 (CL T) (J40 T) a0 h = r) (hr : r ≠ .fail) : J40 T 0 [a0] h = r := fj_step (fn := Try.f40) (js := js40) (by kernel_rfl) e hr
theorem c40 {T : Tab} (hT : OvStep T) (ho : T.ov 40 = none) (hp : T.pol 40 = true) {a0 : IV} {h : H} {r : CRes} (hg : Gd h) (e : t40_0 (CL T) (J40 T) a0 h = r) (hr : r ≠ .fail) : CL T 40 [a0] h = r := call_good ho Try.func40 rfl rfl rfl hp hg hT (e40_0 e hr) hr

-- silkworm/silkwormref02.digit
def js41 : List Jn := [⟨[], [0]⟩]
noncomputable def J41 (T : Tab) : Rec := fj Try.prog (CL T) Try.f41 js41
noncomputable def t41_0 (cf : CallF) (R : Rec) (a0 : IV) (h : H) : CRes :=
 obind (binN .geq a0 (.int .u8 48)) fun x1 =>
 spanK x1 true h (fun k2 =>
 obind (binN .leq a0 (.int .u8 57)) fun x5 =>
 k2 x5 h) fun x3 h4 =>
 obind (pickI x1 (some x3) (some (.bool false))) fun x6 =>
 .ok x6 h4
theorem e41_0 {T : Tab} {a0 : IV} {h : H} {r : CRes} (e : t41_0 (CL T) (J41 T) a0 h = r) (hr : r ≠ .fail) : J41 T 0 [a0] h = r := fj_step (fn := Try.f41) (js := js41) (by kernel_rfl) e hr
theorem c41 {T : Tab} (hT : OvStep T) (ho : T.ov 41 = none) (hp : T.pol 41 = true) {a0 : IV} {h : H} {r : CRes} (hg : Gd h) (e : t41_0 (CL T) (J41 T) a0 h = r) (hr : r ≠ .fail) : CL T 41 [a0] h = r := call_good ho Try.func41 rfl rfl rfl hp hg hT (e41_0 e hr) hr

-- silkworm/silkwormref02.Number
def js42 : List Jn := [⟨[], [0]⟩, ⟨[0, 1, 0, 1, 1], [0, 5, 6]⟩, ⟨[1, 1, 0, 0, 1, 0, 1, 1], [0, 5, 6]⟩]
noncomputable def J42 (T : Tab) : Rec := fj Try.prog (CL T) Try.f42 js42
noncomputable def t42_0 (cf : CallF) (R : Rec) (a0 : IV) (h : H) : CRes :=
 R 1 [a0, (.int .i64 (-1)), (.int .i64 0)] h
theorem e42_0 {T : Tab} {a0 : IV} {h : H} {r : CRes} (e : t42_0 (CL T) (J42 T) a0 h = r) (hr : r ≠ .fail) : J42 T 0 [a0] h = r := fj_step (fn := Try.f42) (js := js42) (by kernel_rfl) e hr
noncomputable def t42_1 (cf : CallF) (R : Rec) (a0 a5 a6 : IV) (h : H) : CRes :=
 obind (lenStr a0) fun x1 =>
 obind (binN .lss a6 x1) fun x2 =>
 condK x2
 (obind (binN .lss a5 (.int .i64 0)) fun x3 =>
 spanK x3 true h (fun k4 =>
 obind (ixStr a0 a6) fun x7 =>
 obind (binN .eql x7 (.int .u8 39)) fun x8 =>
 k4 x8 h) fun x5 h6 =>
 obind (pickI x3 (some x5) (some (.bool false))) fun x9 =>
 condK x9
 (R 2 [a0, a6, a6] h6)
 (R 2 [a0, a5, a6] h6))
 (obind (binN .lss a5 (.int .i64 0)) fun x10 =>
 condK x10
 (callP (cf 62 [a0, (.int .i64 4294967295), (.bool false)] h) .pan fun x11 h12 =>
 obind (binN .lss x11 (.int .i64 0)) fun x13 =>
 condK x13
 (.ok (.tup [(.str ⟨0, 0⟩), (.bool false), (.int .i64 21)]) h12)
 (callP (cf 63 [x11, (.int .i64 32)] h12) .pan fun x14 h15 =>
 .ok (.tup [x14, (.bool true), (.int .i64 0)]) h15))
 (obind (slcStr a0 none (some a5)) fun x16 =>
 callP (cf 62 [x16, (.int .i64 256), (.bool false)] h) .pan fun x17 h18 =>
 obind (binN .lss x17 (.int .i64 1)) fun x19 =>
 spanK x19 false h18 (fun k20 =>
 obind (binN .add a5 (.int .i64 1)) fun x23 =>
 obind (lenStr a0) fun x24 =>
 obind (binN .geq x23 x24) fun x25 =>
 k20 x25 h18) fun x21 h22 =>
 obind (pickI x19 (some (.bool true)) (some x21)) fun x26 =>
 condK x26
 (.ok (.tup [(.str ⟨0, 0⟩), (.bool false), (.int .i64 21)]) h22)
 (obind (binN .add a5 (.int .i64 1)) fun x27 =>
 obind (ixStr a0 x27) fun x28 =>
 obind (binN .add a5 (.int .i64 2)) fun x29 =>
 obind (slcStr a0 (some x29) none) fun x30 =>
 callP (cf 64 [x28, x30] h22) (fun v31 h32 =>
 .pan v31 h32) fun x33 h34 =>
 obind (binS .eql x33 (.str ⟨0, 0⟩)) fun x35 =>
 condK x35
 (.ok (.tup [(.str ⟨0, 0⟩), (.bool false), (.int .i64 21)]) h34)
 (obind (lenStr x33) fun x36 =>
 obind (binN .lss x36 x17) fun x37 =>
 spanK x37 true h34 (fun k38 =>
 obind (ixStr x33 (.int .i64 0)) fun x41 =>
 obind (binN .eql x41 (.int .u8 120)) fun x42 =>
 k38 x42 h34) fun x39 h40 =>
 spanK x39 false h40 (fun k43 =>
 obind (ixStr x33 (.int .i64 0)) fun x46 =>
 obind (binN .eql x46 (.int .u8 122)) fun x47 =>
 k43 x47 h40) fun x44 h45 =>
 spanK x37 true h45 (fun k48 =>
 obind (pickI x39 (some (.bool true)) (some x44)) fun x51 =>
 k48 x51 h45) fun x49 h50 =>
 obind (pickI x37 (some x49) (some (.bool false))) fun x52 =>
 condK x52
 (obind (ixStr x33 (.int .i64 0)) fun x53 =>
 obind (lenStr x33) fun x54 =>
 obind (binN .sub x17 x54) fun x55 =>
 callP (cf 65 [x53, x55] h50) .pan fun x56 h57 =>
 obind (binS .add x56 x33) fun x58 =>
 .ok (.tup [x58, (.bool false), (.int .i64 0)]) h57)
 (callP (cf 66 [x33, x17] h50) .pan fun x59 h60 =>
 .ok (.tup [x59, (.bool false), (.int .i64 0)]) h60)))))
theorem e42_1 {T : Tab} {a0 a5 a6 : IV} {h : H} {r : CRes} (e : t42_1 (CL T) (J42 T) a0 a5 a6 h = r) (hr : r ≠ .fail) : J42 T 1 [a0, a5, a6] h = r := fj_step (fn := Try.f42) (js := js42) (by kernel_rfl) e hr
noncomputable def t42_2 (cf : CallF) (R : Rec) (a0 a5 a6 : IV) (h : H) : CRes :=
 obind (binN .add a6 (.int .i64 1)) fun x61 =>
 R 1 [a0, a5, x61] h
theorem e42_2 {T : Tab} {a0 a5 a6 : IV} {h : H} {r : CRes} (e : t42_2 (CL T) (J42 T) a0 a5 a6 h = r) (hr : r ≠ .fail) : J42 T 2 [a0, a5, a6] h = r := fj_step (fn := Try.f42) (js := js42) (by kernel_rfl) e hr
theorem c42 {T : Tab} (hT : OvStep T) (ho : T.ov 42 = none) (hp : T.pol 42 = true) {a0 : IV} {h : H} {r : CRes} (hg : Gd h) (e : t42_0 (CL T) (J42 T) a0 h = r) (hr : r ≠ .fail) : CL T 42 [a0] h = r := call_good ho Try.func42 rfl rfl rfl hp hg hT (e42_0 e hr) hr

-- silkworm/silkwormref02.sign
def js43 : List Jn := [⟨[], [0, 1]⟩, ⟨[0, 1, 0, 1, 1], [0, 1, 5, 6]⟩, ⟨[0, 1, 0, 1, 1, 1, 1], [0, 1, 7, 8]⟩]
noncomputable def J43 (T : Tab) : Rec := fj Try.prog (CL T) Try.f43 js43
noncomputable def t43_0 (cf : CallF) (R : Rec) (a0 a1 : IV) (h : H) : CRes :=
 obind2 (bslK false 1 [(.str ⟨0, 0⟩)] 8 [(0, (.str ⟨2, 9766⟩)), (1, (.str ⟨2, 31868⟩)), (2, (.str ⟨2, 15677⟩)), (3, (.str ⟨2, 15649⟩)), (4, (.str ⟨2, 15676⟩)), (5, (.str ⟨2, 15678⟩)), (6, (.str ⟨2, 15420⟩)), (7, (.str ⟨2, 15934⟩))] h) fun x1 h2 =>
 R 1 [a0, a1, x1, (.int .i64 0)] h2
theorem e43_0 {T : Tab} {a0 a1 : IV} {h : H} {r : CRes} (e : t43_0 (CL T) (J43 T) a0 a1 h = r) (hr : r ≠ .fail) : J43 T 0 [a0, a1] h = r := fj_step (fn := Try.f43) (js := js43) (by kernel_rfl) e hr
noncomputable def t43_1 (cf : CallF) (R : Rec) (a0 a1 a5 a6 : IV) (h : H) : CRes :=
 obind (lenS a5) fun x3 =>
 obind (binN .lss a6 x3) fun x4 =>
 condK x4
 (obind (ixS 1 a5 a6) fun x5 =>
 obind (ld0 h x5) fun x6 =>
 callP (cf 27 [a0, a1, x6] h) .pan fun x7 h8 =>
 condK x7
 (obind (ixS 1 a5 a6) fun x9 =>
 obind (ld0 h8 x9) fun x10 =>
 .ok x10 h8)
 (obind (binN .add a6 (.int .i64 1)) fun x11 =>
 R 1 [a0, a1, a5, x11] h8))
 (R 2 [a0, a1, (.str ⟨24, 1035797962038895658522808901809198590842054073607314417960⟩), (.int .i64 0)] h)
theorem e43_1 {T : Tab} {a0 a1 a5 a6 : IV} {h : H} {r : CRes} (e : t43_1 (CL T) (J43 T) a0 a1 a5 a6 h = r) (hr : r ≠ .fail) : J43 T 1 [a0, a1, a5, a6] h = r := fj_step (fn := Try.f43) (js := js43) (by kernel_rfl) e hr
noncomputable def t43_2 (cf : CallF) (R : Rec) (a0 a1 a7 a8 : IV) (h : H) : CRes :=
 obind (lenStr a7) fun x12 =>
 obind (binN .lss a8 x12) fun x13 =>
 condK x13
 (obind (ixStr a0 a1) fun x14 =>
 obind (ixStr a7 a8) fun x15 =>
 obind (binN .eql x14 x15) fun x16 =>
 condK x16
 (obind (binN .add a8 (.int .i64 1)) fun x17 =>
 obind (slcStr a7 (some a8) (some x17)) fun x18 =>
 .ok x18 h)
 (obind (binN .add a8 (.int .i64 1)) fun x19 =>
 R 2 [a0, a1, a7, x19] h))
 (.ok (.str ⟨0, 0⟩) h)
theorem e43_2 {T : Tab} {a0 a1 a7 a8 : IV} {h : H} {r : CRes} (e : t43_2 (CL T) (J43 T) a0 a1 a7 a8 h = r) (hr : r ≠ .fail) : J43 T 2 [a0, a1, a7, a8] h = r := fj_step (fn := Try.f43) (js := js43) (by kernel_rfl) e hr
theorem c43 {T : Tab} (hT : OvStep T) (ho : T.ov 43 = none) (hp : T.pol 43 = true) {a0 a1 : IV} {h : H} {r : CRes} (hg : Gd h) (e : t43_0 (CL T) (J43 T) a0 a1 h = r) (hr : r ≠ .fail) : CL T 43 [a0, a1] h = r := call_good ho Try.func43 rfl rfl rfl hp hg hT (e43_0 e hr) hr

-- (*silkworm/silkwormref04.reader).place
def js44 : List Jn := [⟨[], [0]⟩]
noncomputable def J44 (T : Tab) : Rec := fj Try.prog (CL T) Try.f44 js44
noncomputable def t44_0 (cf : CallF) (R : Rec) (a0 : IV) (h : H) : CRes :=
 obind (nilI a0) fun x1 =>
 obind (fadK 0 x1) fun x2 =>
 obind (ld0 h x2) fun x3 =>
 obind (nilI a0) fun x4 =>
 obind (fadK 1 x4) fun x5 =>
 obind (ld0 h x5) fun x6 =>
 obind (ixS 3 x3 x6) fun x7 =>
 obind (fadK 2 x7) fun x8 =>
 obind (ld0 h x8) fun x9 =>
 .ok x9 h
theorem e44_0 {T : Tab} {a0 : IV} {h : H} {r : CRes} (e : t44_0 (CL T) (J44 T) a0 h = r) (hr : r ≠ .fail) : J44 T 0 [a0] h = r := fj_step (fn := Try.f44) (js := js44) (by kernel_rfl) e hr
theorem c44 {T : Tab} (hT : OvStep T) (ho : T.ov 44 = none) (hp : T.pol 44 = true) {a0 : IV} {h : H} {r : CRes} (hg : Gd h) (e : t44_0 (CL T) (J44 T) a0 h = r) (hr : r ≠ .fail) : CL T 44 [a0] h = r := call_good ho Try.func44 rfl rfl rfl hp hg hT (e44_0 e hr) hr

-- (*silkworm/silkwormref04.reader).must
def js45 : List Jn := [⟨[], [0, 1]⟩]
noncomputable def J45 (T : Tab) : Rec := fj Try.prog (CL T) Try.f45 js45
noncomputable def t45_0 (cf : CallF) (R : Rec) (a0 a1 : IV) (h : H) : CRes :=
 callP (cf 47 [a0, a1] h) .pan fun x1 h2 =>
 obind (unI .not x1) fun x3 =>
 condK x3
 (callP (cf 67 [a0, (.int .i64 40)] h2) .pan fun x4 h5 =>
 .ok (.tup []) h5)
 (.ok (.tup []) h2)
theorem e45_0 {T : Tab} {a0 a1 : IV} {h : H} {r : CRes} (e : t45_0 (CL T) (J45 T) a0 a1 h = r) (hr : r ≠ .fail) : J45 T 0 [a0, a1] h = r := fj_step (fn := Try.f45) (js := js45) (by kernel_rfl) e hr
theorem c45 {T : Tab} (hT : OvStep T) (ho : T.ov 45 = none) (hp : T.pol 45 = true) {a0 a1 : IV} {h : H} {r : CRes} (hg : Gd h) (e : t45_0 (CL T) (J45 T) a0 a1 h = r) (hr : r ≠ .fail) : CL T 45 [a0, a1] h = r := call_good ho Try.func45 rfl rfl rfl hp hg hT (e45_0 e hr) hr

-- (*silkworm/silkwormref04.reader).name
def js46 : List Jn := [⟨[], [0]⟩]
noncomputable def J46 (T : Tab) : Rec := fj Try.prog (CL T) Try.f46 js46
noncomputable def t46_0 (cf : CallF) (R : Rec) (a0 : IV) (h : H) : CRes :=
 callP (cf 68 [a0] h) .pan fun x1 h2 =>
 obind (unI .not x1) fun x3 =>
 condK x3
 (callP (cf 67 [a0, (.int .i64 40)] h2) .pan fun x4 h5 =>
 .ok (.str ⟨0, 0⟩) h5)
 (obind (nilI a0) fun x6 =>
 obind (fadK 1 x6) fun x7 =>
 obind (ld0 h2 x7) fun x8 =>
 obind (binN .add x8 (.int .i64 1)) fun x9 =>
 obind (nilI a0) fun x10 =>
 obind (fadK 1 x10) fun x11 =>
 obindH (stA 1 h2 x11 x9) fun h12 =>
 obind (nilI a0) fun x13 =>
 obind (fadK 0 x13) fun x14 =>
 obind (ld0 h12 x14) fun x15 =>
 obind (nilI a0) fun x16 =>
 obind (fadK 1 x16) fun x17 =>
 obind (ld0 h12 x17) fun x18 =>
 obind (binN .sub x18 (.int .i64 1)) fun x19 =>
 obind (ixS 3 x15 x19) fun x20 =>
 obind (fadK 1 x20) fun x21 =>
 obind (ld0 h12 x21) fun x22 =>
 .ok x22 h12)
theorem e46_0 {T : Tab} {a0 : IV} {h : H} {r : CRes} (e : t46_0 (CL T) (J46 T) a0 h = r) (hr : r ≠ .fail) : J46 T 0 [a0] h = r := fj_step (fn := Try.f46) (js := js46) (by kernel_rfl) e hr
theorem c46 {T : Tab} (hT : OvStep T) (ho : T.ov 46 = none) (hp : T.pol 46 = true) {a0 : IV} {h : H} {r : CRes} (hg : Gd h) (e : t46_0 (CL T) (J46 T) a0 h = r) (hr : r ≠ .fail) : CL T 46 [a0] h = r := call_good ho Try.func46 rfl rfl rfl hp hg hT (e46_0 e hr) hr

-- (*silkworm/silkwormref04.reader).takes
def js47 : List Jn := [⟨[], [0, 1]⟩]
noncomputable def J47 (T : Tab) : Rec := fj Try.prog (CL T) Try.f47 js47
noncomputable def t47_0 (cf : CallF) (R : Rec) (a0 a1 : IV) (h : H) : CRes :=
 callP (cf 69 [a0, a1] h) .pan fun x1 h2 =>
 obind (unI .not x1) fun x3 =>
 condK x3
 (.ok (.bool false) h2)
 (obind (nilI a0) fun x4 =>
 obind (fadK 1 x4) fun x5 =>
 obind (ld0 h2 x5) fun x6 =>
 obind (binN .add x6 (.int .i64 1)) fun x7 =>
 obind (nilI a0) fun x8 =>
 obind (fadK 1 x8) fun x9 =>
 obindH (stA 1 h2 x9 x7) fun h10 =>
 .ok (.bool true) h10)
theorem e47_0 {T : Tab} {a0 a1 : IV} {h : H} {r : CRes} (e : t47_0 (CL T) (J47 T) a0 a1 h = r) (hr : r ≠ .fail) : J47 T 0 [a0, a1] h = r := fj_step (fn := Try.f47) (js := js47) (by kernel_rfl) e hr
theorem c47 {T : Tab} (hT : OvStep T) (ho : T.ov 47 = none) (hp : T.pol 47 = true) {a0 a1 : IV} {h : H} {r : CRes} (hg : Gd h) (e : t47_0 (CL T) (J47 T) a0 a1 h = r) (hr : r ≠ .fail) : CL T 47 [a0, a1] h = r := call_good ho Try.func47 rfl rfl rfl hp hg hT (e47_0 e hr) hr

-- (*silkworm/silkwormref04.reader).params
def js48 : List Jn := [⟨[], [0]⟩, ⟨[1, 1, 1, 1], [0, 3]⟩, ⟨[0, 0, 1, 1, 1], [0, 3]⟩]
noncomputable def J48 (T : Tab) : Rec := fj Try.prog (CL T) Try.f48 js48
noncomputable def t48_0 (cf : CallF) (R : Rec) (a0 : IV) (h : H) : CRes :=
 callP (cf 45 [a0, (.str ⟨1, 40⟩)] h) .pan fun x1 h2 =>
 R 2 [a0, .nilSlice] h2
theorem e48_0 {T : Tab} {a0 : IV} {h : H} {r : CRes} (e : t48_0 (CL T) (J48 T) a0 h = r) (hr : r ≠ .fail) : J48 T 0 [a0] h = r := fj_step (fn := Try.f48) (js := js48) (by kernel_rfl) e hr
noncomputable def t48_2 (cf : CallF) (R : Rec) (a0 a3 : IV) (h : H) : CRes :=
 callP (cf 31 [a0] h) .pan fun x3 h4 =>
 condK x3
 (callP (cf 45 [a0, (.str ⟨9, 2110239404018478768496⟩)] h4) .pan fun x5 h6 =>
 callP (cf 44 [a0] h6) .pan fun x7 h8 =>
 obind (bldK z5 p9 [(2, x7)]) fun x9 =>
 obind2 (newI h8 z5) fun x10 h11 =>
 obindH (stA 8 h11 x10 x9) fun h12 =>
 callP (cf 46 [a0] h12) .pan fun x13 h14 =>
 obind (fadK 0 x10) fun x15 =>
 obindH (stA 1 h14 x15 x13) fun h16 =>
 callP (cf 45 [a0, (.str ⟨1, 61⟩)] h16) .pan fun x17 h18 =>
 callP (cf 70 [a0, (.int .i64 1)] h18) .pan fun x19 h20 =>
 obind (fadK 1 x10) fun x21 =>
 obindH (stA 6 h20 x21 x19) fun h22 =>
 obind (ldA 8 h22 x10) fun x23 =>
 obind2 (bslK false 8 z5 1 [(0, x23)] h22) fun x24 h25 =>
 obind2 (appK 8 104 h25 a3 x24) fun x26 h27 =>
 callP (cf 47 [a0, (.str ⟨1, 44⟩)] h27) .pan fun x28 h29 =>
 obind (unI .not x28) fun x30 =>
 condK x30
 (R 1 [a0, x26] h29)
 (R 2 [a0, x26] h29))
 (R 1 [a0, a3] h4)
theorem e48_2 {T : Tab} {a0 a3 : IV} {h : H} {r : CRes} (e : t48_2 (CL T) (J48 T) a0 a3 h = r) (hr : r ≠ .fail) : J48 T 2 [a0, a3] h = r := fj_step (fn := Try.f48) (js := js48) (by kernel_rfl) e hr
noncomputable def t48_1 (cf : CallF) (R : Rec) (a0 a3 : IV) (h : H) : CRes :=
 callP (cf 45 [a0, (.str ⟨1, 41⟩)] h) .pan fun x31 h32 =>
 .ok a3 h32
theorem e48_1 {T : Tab} {a0 a3 : IV} {h : H} {r : CRes} (e : t48_1 (CL T) (J48 T) a0 a3 h = r) (hr : r ≠ .fail) : J48 T 1 [a0, a3] h = r := fj_step (fn := Try.f48) (js := js48) (by kernel_rfl) e hr
theorem c48 {T : Tab} (hT : OvStep T) (ho : T.ov 48 = none) (hp : T.pol 48 = true) {a0 : IV} {h : H} {r : CRes} (hg : Gd h) (e : t48_0 (CL T) (J48 T) a0 h = r) (hr : r ≠ .fail) : CL T 48 [a0] h = r := call_good ho Try.func48 rfl rfl rfl hp hg hT (e48_0 e hr) hr

-- (*silkworm/silkwormref04.reader).port
def js49 : List Jn := [⟨[], [0]⟩, ⟨[1, 1, 1], [0, 2, 3]⟩]
noncomputable def J49 (T : Tab) : Rec := fj Try.prog (CL T) Try.f49 js49
noncomputable def t49_0 (cf : CallF) (R : Rec) (a0 : IV) (h : H) : CRes :=
 obind2 (newI h z6) fun x1 h2 =>
 callP (cf 44 [a0] h2) .pan fun x3 h4 =>
 obind (bldK z6 p10 [(6, x3)]) fun x5 =>
 obind2 (newI h4 z6) fun x6 h7 =>
 obindH (stA 17 h7 x6 x5) fun h8 =>
 callP (cf 47 [a0, (.str ⟨6, 128047746676079⟩)] h8) .pan fun x9 h10 =>
 condK x9
 (obind (fadK 0 x6) fun x11 =>
 obindH (stA 1 h10 x11 (.bool true)) fun h12 =>
 callP (cf 47 [a0, (.str ⟨3, 6776178⟩)] h12) .pan fun x13 h14 =>
 obind (fadK 1 x6) fun x15 =>
 obindH (stA 1 h14 x15 x13) fun h16 =>
 R 1 [a0, x1, x6] h16)
 (callP (cf 45 [a0, (.str ⟨5, 500186508905⟩)] h10) .pan fun x17 h18 =>
 R 1 [a0, x1, x6] h18)
theorem e49_0 {T : Tab} {a0 : IV} {h : H} {r : CRes} (e : t49_0 (CL T) (J49 T) a0 h = r) (hr : r ≠ .fail) : J49 T 0 [a0] h = r := fj_step (fn := Try.f49) (js := js49) (by kernel_rfl) e hr
noncomputable def t49_1 (cf : CallF) (R : Rec) (a0 a2 a3 : IV) (h : H) : CRes :=
 callP (cf 71 [a0] h) .pan fun x19 h20 =>
 obind (extractI x19 0) fun x21 =>
 obind (extractI x19 1) fun x22 =>
 obind (extractI x19 2) fun x23 =>
 obind (fadK 2 a3) fun x24 =>
 obindH (stA 1 h20 x24 x21) fun h25 =>
 obind (fadK 3 a3) fun x26 =>
 obindH (stA 6 h25 x26 x22) fun h27 =>
 obind (fadK 9 a3) fun x28 =>
 obindH (stA 6 h27 x28 x23) fun h29 =>
 callP (cf 46 [a0] h29) .pan fun x30 h31 =>
 obind (fadK 15 a3) fun x32 =>
 obindH (stA 1 h31 x32 x30) fun h33 =>
 obind (ldA 17 h33 a3) fun x34 =>
 obindH (stA 17 h33 a2 x34) fun h35 =>
 obind (ldA 17 h35 a2) fun x36 =>
 .ok x36 h35
theorem e49_1 {T : Tab} {a0 a2 a3 : IV} {h : H} {r : CRes} (e : t49_1 (CL T) (J49 T) a0 a2 a3 h = r) (hr : r ≠ .fail) : J49 T 1 [a0, a2, a3] h = r := fj_step (fn := Try.f49) (js := js49) (by kernel_rfl) e hr
theorem c49 {T : Tab} (hT : OvStep T) (ho : T.ov 49 = none) (hp : T.pol 49 = true) {a0 : IV} {h : H} {r : CRes} (hg : Gd h) (e : t49_0 (CL T) (J49 T) a0 h = r) (hr : r ≠ .fail) : CL T 49 [a0] h = r := call_good ho Try.func49 rfl rfl rfl hp hg hT (e49_0 e hr) hr

-- (*silkworm/silkwormref04.reader).items
def js50 : List Jn := [⟨[], [0, 1, 2]⟩, ⟨[0, 0, 1, 1], [0, 1, 2, 7]⟩]
noncomputable def J50 (T : Tab) : Rec := fj Try.prog (CL T) Try.f50 js50
noncomputable def t50_0 (cf : CallF) (R : Rec) (a0 a1 a2 : IV) (h : H) : CRes :=
 R 1 [a0, a1, a2, .nilSlice] h
theorem e50_0 {T : Tab} {a0 a1 a2 : IV} {h : H} {r : CRes} (e : t50_0 (CL T) (J50 T) a0 a1 a2 h = r) (hr : r ≠ .fail) : J50 T 0 [a0, a1, a2] h = r := fj_step (fn := Try.f50) (js := js50) (by kernel_rfl) e hr
noncomputable def t50_1 (cf : CallF) (R : Rec) (a0 a1 a2 a7 : IV) (h : H) : CRes :=
 callP (cf 31 [a0] h) .pan fun x1 h2 =>
 spanK x1 true h2 (fun k3 =>
 callP (cf 47 [a0, a1] h2) .pan fun x6 h7 =>
 obind (unI .not x6) fun x8 =>
 k3 x8 h7) fun x4 h5 =>
 obind (pickI x1 (some x4) (some (.bool false))) fun x9 =>
 condK x9
 (callP (cf 72 [a0, a2] h5) .pan fun x10 h11 =>
 obind2 (bslK false 48 z8 1 [(0, x10)] h11) fun x12 h13 =>
 obind2 (appK 48 680 h13 a7 x12) fun x14 h15 =>
 R 1 [a0, a1, a2, x14] h15)
 (.ok a7 h5)
theorem e50_1 {T : Tab} {a0 a1 a2 a7 : IV} {h : H} {r : CRes} (e : t50_1 (CL T) (J50 T) a0 a1 a2 a7 h = r) (hr : r ≠ .fail) : J50 T 1 [a0, a1, a2, a7] h = r := fj_step (fn := Try.f50) (js := js50) (by kernel_rfl) e hr
theorem c50 {T : Tab} (hT : OvStep T) (ho : T.ov 50 = none) (hp : T.pol 50 = true) {a0 a1 a2 : IV} {h : H} {r : CRes} (hg : Gd h) (e : t50_0 (CL T) (J50 T) a0 a1 a2 h = r) (hr : r ≠ .fail) : CL T 50 [a0, a1, a2] h = r := call_good ho Try.func50 rfl rfl rfl hp hg hT (e50_0 e hr) hr

-- (*silkworm/sema.scope).target
def js51 : List Jn := [⟨[], [0, 1, 2, 3, 4]⟩, ⟨[1, 1, 1], [0, 2, 4, 11, 12]⟩, ⟨[1, 1, 1, 1], [11]⟩]
noncomputable def J51 (T : Tab) : Rec := fj Try.prog (CL T) Try.f51 js51
noncomputable def t51_0 (cf : CallF) (R : Rec) (a0 a1 a2 a3 a4 : IV) (h : H) : CRes :=
 callP (cf 73 [a0, a1] h) .pan fun x1 h2 =>
 obind (extractI x1 0) fun x3 =>
 obind (extractI x1 1) fun x4 =>
 obind (eqP .eql h2 x3 .nilPtr) fun x5 =>
 condK x5
 (callP (cf 17 [a3, (.int .i64 71)] h2) .pan fun x6 h7 =>
 R 1 [a0, a2, a4, x3, x4] h7)
 (R 1 [a0, a2, a4, x3, x4] h2)
theorem e51_0 {T : Tab} {a0 a1 a2 a3 a4 : IV} {h : H} {r : CRes} (e : t51_0 (CL T) (J51 T) a0 a1 a2 a3 a4 h = r) (hr : r ≠ .fail) : J51 T 0 [a0, a1, a2, a3, a4] h = r := fj_step (fn := Try.f51) (js := js51) (by kernel_rfl) e hr
noncomputable def t51_1 (cf : CallF) (R : Rec) (a0 a2 a4 a11 a12 : IV) (h : H) : CRes :=
 obind (nilI a11) fun x8 =>
 obind (fadK 0 x8) fun x9 =>
 obind (ld0 h x9) fun x10 =>
 obind (binN .neq x10 a2) fun x11 =>
 spanK x11 false h (fun k12 =>
 obind (eqP .neq h a12 a0) fun x15 =>
 k12 x15 h) fun x13 h14 =>
 obind (pickI x11 (some (.bool true)) (some x13)) fun x16 =>
 condK x16
 (callP (cf 17 [a4, (.int .i64 72)] h14) .pan fun x17 h18 =>
 R 2 [a11] h18)
 (R 2 [a11] h14)
theorem e51_1 {T : Tab} {a0 a2 a4 a11 a12 : IV} {h : H} {r : CRes} (e : t51_1 (CL T) (J51 T) a0 a2 a4 a11 a12 h = r) (hr : r ≠ .fail) : J51 T 1 [a0, a2, a4, a11, a12] h = r := fj_step (fn := Try.f51) (js := js51) (by kernel_rfl) e hr
noncomputable def t51_2 (cf : CallF) (R : Rec) (a11 : IV) (h : H) : CRes :=
 .ok a11 h
theorem e51_2 {T : Tab} {a11 : IV} {h : H} {r : CRes} (e : t51_2 (CL T) (J51 T) a11 h = r) (hr : r ≠ .fail) : J51 T 2 [a11] h = r := fj_step (fn := Try.f51) (js := js51) (by kernel_rfl) e hr
theorem c51 {T : Tab} (hT : OvStep T) (ho : T.ov 51 = none) (hp : T.pol 51 = true) {a0 a1 a2 a3 a4 : IV} {h : H} {r : CRes} (hg : Gd h) (e : t51_0 (CL T) (J51 T) a0 a1 a2 a3 a4 h = r) (hr : r ≠ .fail) : CL T 51 [a0, a1, a2, a3, a4] h = r := call_good ho Try.func51 rfl rfl rfl hp hg hT (e51_0 e hr) hr

-- (*silkworm/sema.name).drive
def js52 : List Jn := [⟨[], [0, 1]⟩, ⟨[1], [0]⟩]
noncomputable def J52 (T : Tab) : Rec := fj Try.prog (CL T) Try.f52 js52
noncomputable def t52_0 (cf : CallF) (R : Rec) (a0 a1 : IV) (h : H) : CRes :=
 obind (nilI a0) fun x1 =>
 obind (fadK 1 x1) fun x2 =>
 obind (ld0 h x2) fun x3 =>
 condK x3
 (callP (cf 17 [a1, (.int .i64 73)] h) .pan fun x4 h5 =>
 R 1 [a0] h5)
 (R 1 [a0] h)
theorem e52_0 {T : Tab} {a0 a1 : IV} {h : H} {r : CRes} (e : t52_0 (CL T) (J52 T) a0 a1 h = r) (hr : r ≠ .fail) : J52 T 0 [a0, a1] h = r := fj_step (fn := Try.f52) (js := js52) (by kernel_rfl) e hr
noncomputable def t52_1 (cf : CallF) (R : Rec) (a0 : IV) (h : H) : CRes :=
 obind (nilI a0) fun x6 =>
 obind (fadK 1 x6) fun x7 =>
 obindH (stA 1 h x7 (.bool true)) fun h8 =>
 .ok (.tup []) h8
theorem e52_1 {T : Tab} {a0 : IV} {h : H} {r : CRes} (e : t52_1 (CL T) (J52 T) a0 h = r) (hr : r ≠ .fail) : J52 T 1 [a0] h = r := fj_step (fn := Try.f52) (js := js52) (by kernel_rfl) e hr
theorem c52 {T : Tab} (hT : OvStep T) (ho : T.ov 52 = none) (hp : T.pol 52 = true) {a0 a1 : IV} {h : H} {r : CRes} (hg : Gd h) (e : t52_0 (CL T) (J52 T) a0 a1 h = r) (hr : r ≠ .fail) : CL T 52 [a0, a1] h = r := call_good ho Try.func52 rfl rfl rfl hp hg hT (e52_0 e hr) hr

-- (*silkworm/sema.scope).value
def js53 : List Jn := [⟨[], [0, 1]⟩, ⟨[1, 1], [0, 3]⟩, ⟨[0, 1, 0, 1, 1, 1], [0, 33, 34, 35]⟩]
noncomputable def J53 (T : Tab) : Rec := fj Try.prog (CL T) Try.f53 js53
noncomputable def t53_0 (cf : CallF) (R : Rec) (a0 a1 : IV) (h : H) : CRes :=
 obind2 (newI h (IV.cells a1)) fun x1 h2 =>
 obind (ldA 6 h2 x1) fun x3 =>
 callP (cf 74 [x3] h2) .pan fun x4 h5 =>
 condK x4
 (obind (fadK 1 x1) fun x6 =>
 obind (ld0 h5 x6) fun x7 =>
 callP (cf 73 [a0, x7] h5) .pan fun x8 h9 =>
 obind (extractI x8 0) fun x10 =>
 obind (extractI x8 1) fun x11 =>
 obind (eqP .eql h9 x10 .nilPtr) fun x12 =>
 spanK x12 false h9 (fun k13 =>
 obind (nilI x10) fun x16 =>
 obind (fadK 0 x16) fun x17 =>
 obind (ld0 h9 x17) fun x18 =>
 obind (binN .eql x18 (.int .i64 5)) fun x19 =>
 k13 x19 h9) fun x14 h15 =>
 obind (pickI x12 (some (.bool true)) (some x14)) fun x20 =>
 condK x20
 (obind (fadK 5 x1) fun x21 =>
 obind (ld0 h15 x21) fun x22 =>
 callP (cf 17 [x22, (.int .i64 71)] h15) .pan fun x23 h24 =>
 R 1 [a0, x1] h24)
 (R 1 [a0, x1] h15))
 (R 1 [a0, x1] h5)
theorem e53_0 {T : Tab} {a0 a1 : IV} {h : H} {r : CRes} (e : t53_0 (CL T) (J53 T) a0 a1 h = r) (hr : r ≠ .fail) : J53 T 0 [a0, a1] h = r := fj_step (fn := Try.f53) (js := js53) (by kernel_rfl) e hr
noncomputable def t53_1 (cf : CallF) (R : Rec) (a0 a3 : IV) (h : H) : CRes :=
 obind (fadK 0 a3) fun x25 =>
 obind (ld0 h x25) fun x26 =>
 obind (binN .neq x26 (.int .i64 4)) fun x27 =>
 condK x27
 (obind (fadK 4 a3) fun x28 =>
 obind (ld0 h x28) fun x29 =>
 obind (lenS x29) fun x30 =>
 R 2 [a0, x29, x30, (.int .i64 0)] h)
 (.ok (.tup []) h)
theorem e53_1 {T : Tab} {a0 a3 : IV} {h : H} {r : CRes} (e : t53_1 (CL T) (J53 T) a0 a3 h = r) (hr : r ≠ .fail) : J53 T 1 [a0, a3] h = r := fj_step (fn := Try.f53) (js := js53) (by kernel_rfl) e hr
noncomputable def t53_2 (cf : CallF) (R : Rec) (a0 a33 a34 a35 : IV) (h : H) : CRes :=
 obind (binN .lss a35 a34) fun x31 =>
 condK x31
 (obind (ixS 6 a33 a35) fun x32 =>
 obind (ldA 6 h x32) fun x33 =>
 obind2 (newI h z11) fun x34 h35 =>
 obindH (stA 6 h35 x34 x33) fun h36 =>
 obind (ldA 6 h36 x34) fun x37 =>
 callP (cf 53 [a0, x37] h36) .pan fun x38 h39 =>
 obind (binN .add a35 (.int .i64 1)) fun x40 =>
 R 2 [a0, a33, a34, x40] h39)
 (.ok (.tup []) h)
theorem e53_2 {T : Tab} {a0 a33 a34 a35 : IV} {h : H} {r : CRes} (e : t53_2 (CL T) (J53 T) a0 a33 a34 a35 h = r) (hr : r ≠ .fail) : J53 T 2 [a0, a33, a34, a35] h = r := fj_step (fn := Try.f53) (js := js53) (by kernel_rfl) e hr
theorem c53 {T : Tab} (hT : OvStep T) (ho : T.ov 53 = none) (hp : T.pol 53 = true) {a0 a1 : IV} {h : H} {r : CRes} (hg : Gd h) (e : t53_0 (CL T) (J53 T) a0 a1 h = r) (hr : r ≠ .fail) : CL T 53 [a0, a1] h = r := call_good ho Try.func53 rfl rfl rfl hp hg hT (e53_0 e hr) hr

-- (*silkworm/sema.scope).always
def js54 : List Jn := [⟨[], [0, 1]⟩, ⟨[1, 1, 1], [0, 3, 4]⟩, ⟨[0, 1, 0, 1, 1, 1, 1, 1], [3, 7, 59, 60, 61]⟩]
noncomputable def J54 (T : Tab) : Rec := fj Try.prog (CL T) Try.f54 js54
noncomputable def t54_0 (cf : CallF) (R : Rec) (a0 a1 : IV) (h : H) : CRes :=
 obind2 (newI h (IV.cells a1)) fun x1 h2 =>
 obind (fadK 0 x1) fun x3 =>
 obind (ld0 h2 x3) fun x4 =>
 obind (binN .eql x4 (.int .i64 6)) fun x5 =>
 condK x5
 (obind (fadK 1 x1) fun x6 =>
 obind (ld0 h2 x6) fun x7 =>
 callP (cf 73 [a0, x7] h2) .pan fun x8 h9 =>
 obind (extractI x8 0) fun x10 =>
 obind (extractI x8 1) fun x11 =>
 obind (eqP .eql h9 x10 .nilPtr) fun x12 =>
 spanK x12 false h9 (fun k13 =>
 obind (nilI x10) fun x16 =>
 obind (fadK 0 x16) fun x17 =>
 obind (ld0 h9 x17) fun x18 =>
 obind (binN .neq x18 (.int .i64 2)) fun x19 =>
 k13 x19 h9) fun x14 h15 =>
 spanK x14 true h15 (fun k20 =>
 obind (nilI x10) fun x23 =>
 obind (fadK 0 x23) fun x24 =>
 obind (ld0 h15 x24) fun x25 =>
 obind (binN .neq x25 (.int .i64 3)) fun x26 =>
 k20 x26 h15) fun x21 h22 =>
 spanK x12 false h22 (fun k27 =>
 obind (pickI x14 (some x21) (some (.bool false))) fun x30 =>
 k27 x30 h22) fun x28 h29 =>
 spanK x28 true h29 (fun k31 =>
 obind (nilI x10) fun x34 =>
 obind (fadK 0 x34) fun x35 =>
 obind (ld0 h29 x35) fun x36 =>
 obind (binN .neq x36 (.int .i64 4)) fun x37 =>
 k31 x37 h29) fun x32 h33 =>
 spanK x12 false h33 (fun k38 =>
 obind (pickI x28 (some x32) (some (.bool false))) fun x41 =>
 k38 x41 h33) fun x39 h40 =>
 obind (pickI x12 (some (.bool true)) (some x39)) fun x42 =>
 condK x42
 (obind (fadK 47 x1) fun x43 =>
 obind (ld0 h40 x43) fun x44 =>
 callP (cf 17 [x44, (.int .i64 71)] h40) .pan fun x45 h46 =>
 R 1 [a0, x1, (.int .i64 2)] h46)
 (R 1 [a0, x1, (.int .i64 2)] h40))
 (R 1 [a0, x1, (.int .i64 1)] h2)
theorem e54_0 {T : Tab} {a0 a1 : IV} {h : H} {r : CRes} (e : t54_0 (CL T) (J54 T) a0 a1 h = r) (hr : r ≠ .fail) : J54 T 0 [a0, a1] h = r := fj_step (fn := Try.f54) (js := js54) (by kernel_rfl) e hr
noncomputable def t54_1 (cf : CallF) (R : Rec) (a0 a3 a4 : IV) (h : H) : CRes :=
 mapK h fun x48 h47 =>
 obind (bldK [.nilMap, .nilSlice] [(0, 1), (1, 1)] [(0, x48)]) fun x49 =>
 obind2 (newI h47 (IV.cells x49)) fun x50 h51 =>
 obind (fadK 45 a3) fun x52 =>
 obind (ld0 h51 x52) fun x53 =>
 callP (cf 75 [a0, x53, a4, x50] h51) .pan fun x54 h55 =>
 obind (nilI x50) fun x56 =>
 obind (fadK 1 x56) fun x57 =>
 obind (ld0 h55 x57) fun x58 =>
 obind (lenS x58) fun x59 =>
 R 2 [a3, x50, x58, x59, (.int .i64 0)] h55
theorem e54_1 {T : Tab} {a0 a3 a4 : IV} {h : H} {r : CRes} (e : t54_1 (CL T) (J54 T) a0 a3 a4 h = r) (hr : r ≠ .fail) : J54 T 1 [a0, a3, a4] h = r := fj_step (fn := Try.f54) (js := js54) (by kernel_rfl) e hr
noncomputable def t54_2 (cf : CallF) (R : Rec) (a3 a7 a59 a60 a61 : IV) (h : H) : CRes :=
 obind (binN .lss a61 a60) fun x60 =>
 condK x60
 (obind (ixS 1 a59 a61) fun x61 =>
 obind (ld0 h x61) fun x62 =>
 obind (nilI a7) fun x63 =>
 obind (fadK 0 x63) fun x64 =>
 obind (ld0 h x64) fun x65 =>
 obind (lkK true .nilPtr h x65 x62 false) fun x66 =>
 obind (fadK 47 a3) fun x67 =>
 obind (ld0 h x67) fun x68 =>
 callP (cf 52 [x66, x68] h) (fun v69 h70 =>
 .pan v69 h70) fun x71 h72 =>
 obind (binN .add a61 (.int .i64 1)) fun x73 =>
 R 2 [a3, a7, a59, a60, x73] h72)
 (obind (fadK 0 a3) fun x74 =>
 obind (ld0 h x74) fun x75 =>
 obind (binN .eql x75 (.int .i64 6)) fun x76 =>
 condK x76
 (.ok (.tup []) h)
 (obind (fadK 45 a3) fun x77 =>
 obind (ld0 h x77) fun x78 =>
 mapK h fun x80 h79 =>
 callP (cf 76 [a7, x78, x80] h79) .pan fun x81 h82 =>
 obind (lenM h82 x81) fun x83 =>
 obind (nilI a7) fun x84 =>
 obind (fadK 1 x84) fun x85 =>
 obind (ld0 h82 x85) fun x86 =>
 obind (lenS x86) fun x87 =>
 obind (binN .lss x83 x87) fun x88 =>
 condK x88
 (obind (fadK 47 a3) fun x89 =>
 obind (ld0 h82 x89) fun x90 =>
 callP (cf 17 [x90, (.int .i64 75)] h82) .pan fun x91 h92 =>
 .ok (.tup []) h92)
 (.ok (.tup []) h82)))
theorem e54_2 {T : Tab} {a3 a7 a59 a60 a61 : IV} {h : H} {r : CRes} (e : t54_2 (CL T) (J54 T) a3 a7 a59 a60 a61 h = r) (hr : r ≠ .fail) : J54 T 2 [a3, a7, a59, a60, a61] h = r := fj_step (fn := Try.f54) (js := js54) (by kernel_rfl) e hr
theorem c54 {T : Tab} (hT : OvStep T) (ho : T.ov 54 = none) (hp : T.pol 54 = true) {a0 a1 : IV} {h : H} {r : CRes} (hg : Gd h) (e : t54_0 (CL T) (J54 T) a0 a1 h = r) (hr : r ≠ .fail) : CL T 54 [a0, a1] h = r := call_good ho Try.func54 rfl rfl rfl hp hg hT (e54_0 e hr) hr

-- (*silkworm/sema.scope).inst
def js55 : List Jn := [⟨[], [0, 1, 2]⟩, ⟨[1, 1, 1], [0, 4, 6]⟩, ⟨[0, 1, 0, 1, 1, 1, 1], [0, 4, 6, 8, 9, 33, 34, 35]⟩, ⟨[0, 1, 0, 1, 1, 1, 1, 1], [0, 4, 6, 8, 9, 44, 45, 46]⟩, ⟨[1, 1, 0, 0, 1, 1, 0, 0, 1, 0, 1, 1, 1, 1, 1], [0, 4, 6, 8, 9, 13, 44, 45, 46]⟩, ⟨[0, 1, 0, 1, 1, 1, 1, 1, 1], [0, 4, 6, 9, 64, 65]⟩, ⟨[0, 1, 1, 1, 1, 1, 1, 1, 1], [0, 9, 81, 82, 83]⟩, ⟨[1, 1, 1, 0, 0, 1, 1, 1, 1, 1, 1, 1, 1], [0, 9, 81, 82, 83]⟩, ⟨[1, 1, 1, 0, 0, 1, 1, 0, 0, 1, 1, 1, 1, 1, 1, 1, 1], [0, 9, 16, 17, 81, 82, 83]⟩, ⟨[1, 1, 1, 1, 1, 1, 0, 0, 1, 1, 0, 0, 1, 1, 1, 1, 1, 1, 1, 1], [0, 9, 16, 81, 82, 83]⟩]
noncomputable def J55 (T : Tab) : Rec := fj Try.prog (CL T) Try.f55 js55
noncomputable def t55_0 (cf : CallF) (R : Rec) (a0 a1 a2 : IV) (h : H) : CRes :=
 obind2 (newI h (IV.cells a1)) fun x1 h2 =>
 obind (fadK 42 x1) fun x3 =>
 obind (ld0 h2 x3) fun x4 =>
 obind (lkK true (.agg z0) h2 a2 x4 true) fun x5 =>
 obind (extractI x5 0) fun x6 =>
 obind (extractI x5 1) fun x7 =>
 obind2 (newI h2 z0) fun x8 h9 =>
 obindH (stA 5 h9 x8 x6) fun h10 =>
 obind (unI .not x7) fun x11 =>
 condK x11
 (obind (fadK 47 x1) fun x12 =>
 obind (ld0 h10 x12) fun x13 =>
 callP (cf 17 [x13, (.int .i64 80)] h10) .pan fun x14 h15 =>
 R 1 [a0, x1, x8] h15)
 (R 1 [a0, x1, x8] h10)
theorem e55_0 {T : Tab} {a0 a1 a2 : IV} {h : H} {r : CRes} (e : t55_0 (CL T) (J55 T) a0 a1 a2 h = r) (hr : r ≠ .fail) : J55 T 0 [a0, a1, a2] h = r := fj_step (fn := Try.f55) (js := js55) (by kernel_rfl) e hr
noncomputable def t55_1 (cf : CallF) (R : Rec) (a0 a4 a6 : IV) (h : H) : CRes :=
 mapK h fun x17 h16 =>
 mapK h16 fun x19 h18 =>
 obind (fadK 1 a6) fun x20 =>
 obind (ld0 h18 x20) fun x21 =>
 obind (lenS x21) fun x22 =>
 R 2 [a0, a4, a6, x17, x19, x21, x22, (.int .i64 0)] h18
theorem e55_1 {T : Tab} {a0 a4 a6 : IV} {h : H} {r : CRes} (e : t55_1 (CL T) (J55 T) a0 a4 a6 h = r) (hr : r ≠ .fail) : J55 T 1 [a0, a4, a6] h = r := fj_step (fn := Try.f55) (js := js55) (by kernel_rfl) e hr
noncomputable def t55_2 (cf : CallF) (R : Rec) (a0 a4 a6 a8 a9 a33 a34 a35 : IV) (h : H) : CRes :=
 obind (binN .lss a35 a34) fun x23 =>
 condK x23
 (obind (ixS 8 a33 a35) fun x24 =>
 obind (ldA 8 h x24) fun x25 =>
 obind2 (newI h z5) fun x26 h27 =>
 obindH (stA 8 h27 x26 x25) fun h28 =>
 obind (fadK 0 x26) fun x29 =>
 obind (ld0 h28 x29) fun x30 =>
 obindH (mupK true h28 a8 x30 (.bool true)) fun h31 =>
 obind (binN .add a35 (.int .i64 1)) fun x32 =>
 R 2 [a0, a4, a6, a8, a9, a33, a34, x32] h31)
 (obind (fadK 43 a4) fun x33 =>
 obind (ld0 h x33) fun x34 =>
 obind (lenS x34) fun x35 =>
 R 3 [a0, a4, a6, a8, a9, x34, x35, (.int .i64 0)] h)
theorem e55_2 {T : Tab} {a0 a4 a6 a8 a9 a33 a34 a35 : IV} {h : H} {r : CRes} (e : t55_2 (CL T) (J55 T) a0 a4 a6 a8 a9 a33 a34 a35 h = r) (hr : r ≠ .fail) : J55 T 2 [a0, a4, a6, a8, a9, a33, a34, a35] h = r := fj_step (fn := Try.f55) (js := js55) (by kernel_rfl) e hr
noncomputable def t55_3 (cf : CallF) (R : Rec) (a0 a4 a6 a8 a9 a44 a45 a46 : IV) (h : H) : CRes :=
 obind (binN .lss a46 a45) fun x36 =>
 condK x36
 (obind (ixS 8 a44 a46) fun x37 =>
 obind (ldA 8 h x37) fun x38 =>
 obind2 (newI h z5) fun x39 h40 =>
 obindH (stA 8 h40 x39 x38) fun h41 =>
 obind (fadK 0 x39) fun x42 =>
 obind (ld0 h41 x42) fun x43 =>
 obind (lkK true (.bool false) h41 a8 x43 false) fun x44 =>
 obind (unI .not x44) fun x45 =>
 condK x45
 (obind (fadK 7 x39) fun x46 =>
 obind (ld0 h41 x46) fun x47 =>
 callP (cf 17 [x47, (.int .i64 71)] h41) .pan fun x48 h49 =>
 R 4 [a0, a4, a6, a8, a9, x39, a44, a45, a46] h49)
 (R 4 [a0, a4, a6, a8, a9, x39, a44, a45, a46] h41))
 (obind (fadK 2 a6) fun x50 =>
 obind (ld0 h x50) fun x51 =>
 obind (lenS x51) fun x52 =>
 R 5 [a0, a4, a6, a9, x52, (.int .i64 0)] h)
theorem e55_3 {T : Tab} {a0 a4 a6 a8 a9 a44 a45 a46 : IV} {h : H} {r : CRes} (e : t55_3 (CL T) (J55 T) a0 a4 a6 a8 a9 a44 a45 a46 h = r) (hr : r ≠ .fail) : J55 T 3 [a0, a4, a6, a8, a9, a44, a45, a46] h = r := fj_step (fn := Try.f55) (js := js55) (by kernel_rfl) e hr
noncomputable def t55_4 (cf : CallF) (R : Rec) (a0 a4 a6 a8 a9 a13 a44 a45 a46 : IV) (h : H) : CRes :=
 obind (fadK 0 a13) fun x53 =>
 obind (ld0 h x53) fun x54 =>
 obindH (delK true h a8 x54) fun h55 =>
 obind (binN .add a46 (.int .i64 1)) fun x56 =>
 R 3 [a0, a4, a6, a8, a9, a44, a45, x56] h55
theorem e55_4 {T : Tab} {a0 a4 a6 a8 a9 a13 a44 a45 a46 : IV} {h : H} {r : CRes} (e : t55_4 (CL T) (J55 T) a0 a4 a6 a8 a9 a13 a44 a45 a46 h = r) (hr : r ≠ .fail) : J55 T 4 [a0, a4, a6, a8, a9, a13, a44, a45, a46] h = r := fj_step (fn := Try.f55) (js := js55) (by kernel_rfl) e hr
noncomputable def t55_5 (cf : CallF) (R : Rec) (a0 a4 a6 a9 a64 a65 : IV) (h : H) : CRes :=
 obind (binN .lss a65 a64) fun x57 =>
 condK x57
 (obind (fadK 2 a6) fun x58 =>
 obind (ld0 h x58) fun x59 =>
 obind (ixS 17 x59 a65) fun x60 =>
 obind (fadK 15 x60) fun x61 =>
 obind (ld0 h x61) fun x62 =>
 obind (fadK 2 a6) fun x63 =>
 obind (ld0 h x63) fun x64 =>
 obind (ixS 17 x64 a65) fun x65 =>
 obindH (mupK true h a9 x62 x65) fun h66 =>
 obind (binN .add a65 (.int .i64 1)) fun x67 =>
 R 5 [a0, a4, a6, a9, a64, x67] h66)
 (obind (fadK 44 a4) fun x68 =>
 obind (ld0 h x68) fun x69 =>
 obind (lenS x69) fun x70 =>
 R 6 [a0, a9, x69, x70, (.int .i64 0)] h)
theorem e55_5 {T : Tab} {a0 a4 a6 a9 a64 a65 : IV} {h : H} {r : CRes} (e : t55_5 (CL T) (J55 T) a0 a4 a6 a9 a64 a65 h = r) (hr : r ≠ .fail) : J55 T 5 [a0, a4, a6, a9, a64, a65] h = r := fj_step (fn := Try.f55) (js := js55) (by kernel_rfl) e hr
noncomputable def t55_6 (cf : CallF) (R : Rec) (a0 a9 a81 a82 a83 : IV) (h : H) : CRes :=
 obind (binN .lss a83 a82) fun x71 =>
 condK x71
 (obind (ixS 8 a81 a83) fun x72 =>
 obind (ldA 8 h x72) fun x73 =>
 obind2 (newI h z5) fun x74 h75 =>
 obindH (stA 8 h75 x74 x73) fun h76 =>
 obind (fadK 0 x74) fun x77 =>
 obind (ld0 h76 x77) fun x78 =>
 obind (lkK true .nilPtr h76 a9 x78 false) fun x79 =>
 obind (eqP .eql h76 x79 .nilPtr) fun x80 =>
 condK x80
 (obind (fadK 7 x74) fun x81 =>
 obind (ld0 h76 x81) fun x82 =>
 callP (cf 17 [x82, (.int .i64 81)] h76) .pan fun x83 h84 =>
 R 8 [a0, a9, x74, x79, a81, a82, a83] h84)
 (R 8 [a0, a9, x74, x79, a81, a82, a83] h76))
 (.ok (.tup []) h)
theorem e55_6 {T : Tab} {a0 a9 a81 a82 a83 : IV} {h : H} {r : CRes} (e : t55_6 (CL T) (J55 T) a0 a9 a81 a82 a83 h = r) (hr : r ≠ .fail) : J55 T 6 [a0, a9, a81, a82, a83] h = r := fj_step (fn := Try.f55) (js := js55) (by kernel_rfl) e hr
noncomputable def t55_8 (cf : CallF) (R : Rec) (a0 a9 a16 a17 a81 a82 a83 : IV) (h : H) : CRes :=
 obind (fadK 0 a16) fun x85 =>
 obind (ld0 h x85) fun x86 =>
 obindH (delK true h a9 x86) fun h87 =>
 obind (nilI a17) fun x88 =>
 obind (fadK 0 x88) fun x89 =>
 obind (ld0 h87 x89) fun x90 =>
 obind (unI .not x90) fun x91 =>
 condK x91
 (obind (fadK 1 a16) fun x92 =>
 obind (ldA 6 h87 x92) fun x93 =>
 callP (cf 53 [a0, x93] h87) .pan fun x94 h95 =>
 R 7 [a0, a9, a81, a82, a83] h95)
 (obind (fadK 1 a16) fun x96 =>
 obind (fadK 0 x96) fun x97 =>
 obind (ld0 h87 x97) fun x98 =>
 obind (binN .neq x98 (.int .i64 2)) fun x99 =>
 condK x99
 (obind (fadK 7 a16) fun x100 =>
 obind (ld0 h87 x100) fun x101 =>
 callP (cf 17 [x101, (.int .i64 72)] h87) .pan fun x102 h103 =>
 R 9 [a0, a9, a16, a81, a82, a83] h103)
 (R 9 [a0, a9, a16, a81, a82, a83] h87))
theorem e55_8 {T : Tab} {a0 a9 a16 a17 a81 a82 a83 : IV} {h : H} {r : CRes} (e : t55_8 (CL T) (J55 T) a0 a9 a16 a17 a81 a82 a83 h = r) (hr : r ≠ .fail) : J55 T 8 [a0, a9, a16, a17, a81, a82, a83] h = r := fj_step (fn := Try.f55) (js := js55) (by kernel_rfl) e hr
noncomputable def t55_7 (cf : CallF) (R : Rec) (a0 a9 a81 a82 a83 : IV) (h : H) : CRes :=
 obind (binN .add a83 (.int .i64 1)) fun x104 =>
 R 6 [a0, a9, a81, a82, x104] h
theorem e55_7 {T : Tab} {a0 a9 a81 a82 a83 : IV} {h : H} {r : CRes} (e : t55_7 (CL T) (J55 T) a0 a9 a81 a82 a83 h = r) (hr : r ≠ .fail) : J55 T 7 [a0, a9, a81, a82, a83] h = r := fj_step (fn := Try.f55) (js := js55) (by kernel_rfl) e hr
noncomputable def t55_9 (cf : CallF) (R : Rec) (a0 a9 a16 a81 a82 a83 : IV) (h : H) : CRes :=
 obind (fadK 1 a16) fun x105 =>
 obind (fadK 1 x105) fun x106 =>
 obind (ld0 h x106) fun x107 =>
 obind (fadK 1 a16) fun x108 =>
 obind (fadK 5 x108) fun x109 =>
 obind (ld0 h x109) fun x110 =>
 obind (fadK 7 a16) fun x111 =>
 obind (ld0 h x111) fun x112 =>
 callP (cf 51 [a0, x107, (.int .i64 3), x110, x112] h) (fun v113 h114 =>
 obind (fadK 7 a16) fun x115 =>
 obind (ld0 h x115) fun x116 =>
 .pan v113 h114) fun x117 h118 =>
 obind (fadK 7 a16) fun x119 =>
 obind (ld0 h118 x119) fun x120 =>
 obind (ld0 h x119) fun x121 =>
 bif IV.beq x121 x120 then
 callP (cf 52 [x117, x120] h118) (fun v122 h123 =>
 .pan v122 h123) fun x124 h125 =>
 R 7 [a0, a9, a81, a82, a83] h125
 else .fail
theorem e55_9 {T : Tab} {a0 a9 a16 a81 a82 a83 : IV} {h : H} {r : CRes} (e : t55_9 (CL T) (J55 T) a0 a9 a16 a81 a82 a83 h = r) (hr : r ≠ .fail) : J55 T 9 [a0, a9, a16, a81, a82, a83] h = r := fj_step (fn := Try.f55) (js := js55) (by kernel_rfl) e hr
theorem c55 {T : Tab} (hT : OvStep T) (ho : T.ov 55 = none) (hp : T.pol 55 = true) {a0 a1 a2 : IV} {h : H} {r : CRes} (hg : Gd h) (e : t55_0 (CL T) (J55 T) a0 a1 a2 h = r) (hr : r ≠ .fail) : CL T 55 [a0, a1, a2] h = r := call_good ho Try.func55 rfl rfl rfl hp hg hT (e55_0 e hr) hr

-- silkworm/silkwormref02.decimal
def js62 : List Jn := [⟨[], [0, 1, 2]⟩, ⟨[0, 1, 0, 1, 1, 1], [0, 1, 7, 8]⟩]
noncomputable def J62 (T : Tab) : Rec := fj Try.prog (CL T) Try.f62 js62
noncomputable def t62_0 (cf : CallF) (R : Rec) (a0 a1 a2 : IV) (h : H) : CRes :=
 obind (binS .eql a0 (.str ⟨0, 0⟩)) fun x1 =>
 spanK x1 false h (fun k2 =>
 obind (unI .not a2) fun x5 =>
 k2 x5 h) fun x3 h4 =>
 spanK x3 true h4 (fun k6 =>
 obind (lenStr a0) fun x9 =>
 obind (binN .gtr x9 (.int .i64 10)) fun x10 =>
 k6 x10 h4) fun x7 h8 =>
 spanK x7 false h8 (fun k11 =>
 obind (lenStr a0) fun x14 =>
 obind (binN .gtr x14 (.int .i64 1)) fun x15 =>
 k11 x15 h8) fun x12 h13 =>
 spanK x12 true h13 (fun k16 =>
 obind (ixStr a0 (.int .i64 0)) fun x19 =>
 obind (binN .eql x19 (.int .u8 48)) fun x20 =>
 k16 x20 h13) fun x17 h18 =>
 spanK x7 false h18 (fun k21 =>
 obind (pickI x12 (some x17) (some (.bool false))) fun x24 =>
 k21 x24 h18) fun x22 h23 =>
 spanK x3 true h23 (fun k25 =>
 obind (pickI x7 (some (.bool true)) (some x22)) fun x28 =>
 k25 x28 h23) fun x26 h27 =>
 spanK x1 false h27 (fun k29 =>
 obind (pickI x3 (some x26) (some (.bool false))) fun x32 =>
 k29 x32 h27) fun x30 h31 =>
 obind (pickI x1 (some (.bool true)) (some x30)) fun x33 =>
 condK x33
 (.ok (.int .i64 (-1)) h31)
 (R 1 [a0, a1, (.int .i64 0), (.int .i64 0)] h31)
theorem e62_0 {T : Tab} {a0 a1 a2 : IV} {h : H} {r : CRes} (e : t62_0 (CL T) (J62 T) a0 a1 a2 h = r) (hr : r ≠ .fail) : J62 T 0 [a0, a1, a2] h = r := fj_step (fn := Try.f62) (js := js62) (by kernel_rfl) e hr
noncomputable def t62_1 (cf : CallF) (R : Rec) (a0 a1 a7 a8 : IV) (h : H) : CRes :=
 obind (lenStr a0) fun x34 =>
 obind (binN .lss a8 x34) fun x35 =>
 condK x35
 (obind (ixStr a0 a8) fun x36 =>
 callP (cf 41 [x36] h) .pan fun x37 h38 =>
 obind (unI .not x37) fun x39 =>
 condK x39
 (.ok (.int .i64 (-1)) h38)
 (obind (binN .mul (.int .i64 10) a7) fun x40 =>
 obind (ixStr a0 a8) fun x41 =>
 obind (binN .sub x41 (.int .u8 48)) fun x42 =>
 obind (cvN .i64 x42) fun x43 =>
 obind (binN .add x40 x43) fun x44 =>
 obind (binN .gtr x44 a1) fun x45 =>
 condK x45
 (.ok (.int .i64 (-1)) h38)
 (obind (binN .add a8 (.int .i64 1)) fun x46 =>
 R 1 [a0, a1, x44, x46] h38)))
 (.ok a7 h)
theorem e62_1 {T : Tab} {a0 a1 a7 a8 : IV} {h : H} {r : CRes} (e : t62_1 (CL T) (J62 T) a0 a1 a7 a8 h = r) (hr : r ≠ .fail) : J62 T 1 [a0, a1, a7, a8] h = r := fj_step (fn := Try.f62) (js := js62) (by kernel_rfl) e hr
theorem c62 {T : Tab} (hT : OvStep T) (ho : T.ov 62 = none) (hp : T.pol 62 = true) {a0 a1 a2 : IV} {h : H} {r : CRes} (hg : Gd h) (e : t62_0 (CL T) (J62 T) a0 a1 a2 h = r) (hr : r ≠ .fail) : CL T 62 [a0, a1, a2] h = r := call_good ho Try.func62 rfl rfl rfl hp hg hT (e62_0 e hr) hr

-- silkworm/silkwormref01.Of
def js63 : List Jn := [⟨[], [0, 1]⟩, ⟨[0, 1, 0, 1, 1], [0, 5, 6]⟩]
noncomputable def J63 (T : Tab) : Rec := fj Try.prog (CL T) Try.f63 js63
noncomputable def t63_0 (cf : CallF) (R : Rec) (a0 a1 : IV) (h : H) : CRes :=
 obind2 (mksK 1 1 [(.int .u8 0)] h a1 a1) fun x1 h2 =>
 obind (binN .sub a1 (.int .i64 1)) fun x3 =>
 R 1 [a0, x1, x3] h2
theorem e63_0 {T : Tab} {a0 a1 : IV} {h : H} {r : CRes} (e : t63_0 (CL T) (J63 T) a0 a1 h = r) (hr : r ≠ .fail) : J63 T 0 [a0, a1] h = r := fj_step (fn := Try.f63) (js := js63) (by kernel_rfl) e hr
noncomputable def t63_1 (cf : CallF) (R : Rec) (a0 a5 a6 : IV) (h : H) : CRes :=
 obind (binN .geq a6 (.int .i64 0)) fun x4 =>
 condK x4
 (obind (binN .rem a0 (.int .i64 2)) fun x5 =>
 obind (binN .add (.int .i64 48) x5) fun x6 =>
 obind (cvN .u8 x6) fun x7 =>
 obind (ixS 1 a5 a6) fun x8 =>
 obindH (stA 1 h x8 x7) fun h9 =>
 obind (binN .quo a0 (.int .i64 2)) fun x10 =>
 obind (binN .sub a6 (.int .i64 1)) fun x11 =>
 R 1 [x10, a5, x11] h9)
 (obind (cvS h a5) fun x12 =>
 .ok x12 h)
theorem e63_1 {T : Tab} {a0 a5 a6 : IV} {h : H} {r : CRes} (e : t63_1 (CL T) (J63 T) a0 a5 a6 h = r) (hr : r ≠ .fail) : J63 T 1 [a0, a5, a6] h = r := fj_step (fn := Try.f63) (js := js63) (by kernel_rfl) e hr
theorem c63 {T : Tab} (hT : OvStep T) (ho : T.ov 63 = none) (hp : T.pol 63 = true) {a0 a1 : IV} {h : H} {r : CRes} (hg : Gd h) (e : t63_0 (CL T) (J63 T) a0 a1 h = r) (hr : r ≠ .fail) : CL T 63 [a0, a1] h = r := call_good ho Try.func63 rfl rfl rfl hp hg hT (e63_0 e hr) hr

-- silkworm/silkwormref02.digits
def js64 : List Jn := [⟨[], [0, 1]⟩, ⟨[0, 1, 0, 1, 1, 1, 1], [0, 1, 6, 7]⟩, ⟨[1, 1, 0, 0, 1, 0, 0, 1, 0, 1, 1, 1, 1], [0, 1, 6, 7, 8]⟩]
noncomputable def J64 (T : Tab) : Rec := fj Try.prog (CL T) Try.f64 js64
noncomputable def t64_0 (cf : CallF) (R : Rec) (a0 a1 : IV) (h : H) : CRes :=
 obind (binS .eql a1 (.str ⟨0, 0⟩)) fun x1 =>
 condK x1
 (.ok (.str ⟨0, 0⟩) h)
 (obind (binN .eql a0 (.int .u8 100)) fun x2 =>
 condK x2
 (callP (cf 62 [a1, (.int .i64 2147483647), (.bool true)] h) .pan fun x3 h4 =>
 obind (binN .lss x3 (.int .i64 0)) fun x5 =>
 condK x5
 (.ok (.str ⟨0, 0⟩) h4)
 (callP (cf 63 [x3, (.int .i64 31)] h4) .pan fun x6 h7 =>
 .ok x6 h7))
 (R 1 [a0, a1, .nilSlice, (.int .i64 0)] h))
theorem e64_0 {T : Tab} {a0 a1 : IV} {h : H} {r : CRes} (e : t64_0 (CL T) (J64 T) a0 a1 h = r) (hr : r ≠ .fail) : J64 T 0 [a0, a1] h = r := fj_step (fn := Try.f64) (js := js64) (by kernel_rfl) e hr
noncomputable def t64_1 (cf : CallF) (R : Rec) (a0 a1 a6 a7 : IV) (h : H) : CRes :=
 obind (lenStr a1) fun x8 =>
 obind (binN .lss a7 x8) fun x9 =>
 condK x9
 (obind (ixStr a1 a7) fun x10 =>
 callP (cf 84 [x10] h) .pan fun x11 h12 =>
 obind (binN .eql a0 (.int .u8 98)) fun x13 =>
 condK x13
 (obind (ixStr a1 a7) fun x14 =>
 obind (binN .neq x14 (.int .u8 48)) fun x15 =>
 spanK x15 true h12 (fun k16 =>
 obind (ixStr a1 a7) fun x19 =>
 obind (binN .neq x19 (.int .u8 49)) fun x20 =>
 k16 x20 h12) fun x17 h18 =>
 obind (pickI x15 (some x17) (some (.bool false))) fun x21 =>
 spanK x21 true h18 (fun k22 =>
 obind (ixStr a1 a7) fun x25 =>
 obind (binN .neq x25 (.int .u8 120)) fun x26 =>
 k22 x26 h18) fun x23 h24 =>
 obind (pickI x21 (some x23) (some (.bool false))) fun x27 =>
 spanK x27 true h24 (fun k28 =>
 obind (ixStr a1 a7) fun x31 =>
 obind (binN .neq x31 (.int .u8 122)) fun x32 =>
 k28 x32 h24) fun x29 h30 =>
 obind (pickI x27 (some x29) (some (.bool false))) fun x33 =>
 condK x33
 (.ok (.str ⟨0, 0⟩) h30)
 (obind (binN .add a7 (.int .i64 1)) fun x34 =>
 obind (slcStr a1 (some a7) (some x34)) fun x35 =>
 R 2 [a0, a1, a6, a7, x35] h30))
 (R 2 [a0, a1, a6, a7, x11] h12))
 (obind (cvS h a6) fun x36 =>
 .ok x36 h)
theorem e64_1 {T : Tab} {a0 a1 a6 a7 : IV} {h : H} {r : CRes} (e : t64_1 (CL T) (J64 T) a0 a1 a6 a7 h = r) (hr : r ≠ .fail) : J64 T 1 [a0, a1, a6, a7] h = r := fj_step (fn := Try.f64) (js := js64) (by kernel_rfl) e hr
noncomputable def t64_2 (cf : CallF) (R : Rec) (a0 a1 a6 a7 a8 : IV) (h : H) : CRes :=
 obind (binS .eql a8 (.str ⟨0, 0⟩)) fun x37 =>
 spanK x37 false h (fun k38 =>
 obind (binN .neq a0 (.int .u8 98)) fun x41 =>
 k38 x41 h) fun x39 h40 =>
 spanK x39 true h40 (fun k42 =>
 obind (binN .neq a0 (.int .u8 104)) fun x45 =>
 k42 x45 h40) fun x43 h44 =>
 spanK x37 false h44 (fun k46 =>
 obind (pickI x39 (some x43) (some (.bool false))) fun x49 =>
 k46 x49 h44) fun x47 h48 =>
 obind (pickI x37 (some (.bool true)) (some x47)) fun x50 =>
 condK x50
 (.ok (.str ⟨0, 0⟩) h48)
 (obind2 (appK 1 1 h48 a6 a8) fun x51 h52 =>
 obind (binN .add a7 (.int .i64 1)) fun x53 =>
 R 1 [a0, a1, x51, x53] h52)
theorem e64_2 {T : Tab} {a0 a1 a6 a7 a8 : IV} {h : H} {r : CRes} (e : t64_2 (CL T) (J64 T) a0 a1 a6 a7 a8 h = r) (hr : r ≠ .fail) : J64 T 2 [a0, a1, a6, a7, a8] h = r := fj_step (fn := Try.f64) (js := js64) (by kernel_rfl) e hr
theorem c64 {T : Tab} (hT : OvStep T) (ho : T.ov 64 = none) (hp : T.pol 64 = true) {a0 a1 : IV} {h : H} {r : CRes} (hg : Gd h) (e : t64_0 (CL T) (J64 T) a0 a1 h = r) (hr : r ≠ .fail) : CL T 64 [a0, a1] h = r := call_good ho Try.func64 rfl rfl rfl hp hg hT (e64_0 e hr) hr

-- silkworm/silkwormref01.All
def js65 : List Jn := [⟨[], [0, 1]⟩, ⟨[0, 1, 0, 1, 1], [0, 1, 5, 6]⟩]
noncomputable def J65 (T : Tab) : Rec := fj Try.prog (CL T) Try.f65 js65
noncomputable def t65_0 (cf : CallF) (R : Rec) (a0 a1 : IV) (h : H) : CRes :=
 obind2 (mksK 1 1 [(.int .u8 0)] h a1 a1) fun x1 h2 =>
 R 1 [a0, a1, x1, (.int .i64 0)] h2
theorem e65_0 {T : Tab} {a0 a1 : IV} {h : H} {r : CRes} (e : t65_0 (CL T) (J65 T) a0 a1 h = r) (hr : r ≠ .fail) : J65 T 0 [a0, a1] h = r := fj_step (fn := Try.f65) (js := js65) (by kernel_rfl) e hr
noncomputable def t65_1 (cf : CallF) (R : Rec) (a0 a1 a5 a6 : IV) (h : H) : CRes :=
 obind (binN .lss a6 a1) fun x3 =>
 condK x3
 (obind (ixS 1 a5 a6) fun x4 =>
 obindH (stA 1 h x4 a0) fun h5 =>
 obind (binN .add a6 (.int .i64 1)) fun x6 =>
 R 1 [a0, a1, a5, x6] h5)
 (obind (cvS h a5) fun x7 =>
 .ok x7 h)
theorem e65_1 {T : Tab} {a0 a1 a5 a6 : IV} {h : H} {r : CRes} (e : t65_1 (CL T) (J65 T) a0 a1 a5 a6 h = r) (hr : r ≠ .fail) : J65 T 1 [a0, a1, a5, a6] h = r := fj_step (fn := Try.f65) (js := js65) (by kernel_rfl) e hr
theorem c65 {T : Tab} (hT : OvStep T) (ho : T.ov 65 = none) (hp : T.pol 65 = true) {a0 a1 : IV} {h : H} {r : CRes} (hg : Gd h) (e : t65_0 (CL T) (J65 T) a0 a1 h = r) (hr : r ≠ .fail) : CL T 65 [a0, a1] h = r := call_good ho Try.func65 rfl rfl rfl hp hg hT (e65_0 e hr) hr

-- silkworm/silkwormref01.Fit
def js66 : List Jn := [⟨[], [0, 1]⟩]
noncomputable def J66 (T : Tab) : Rec := fj Try.prog (CL T) Try.f66 js66
noncomputable def t66_0 (cf : CallF) (R : Rec) (a0 a1 : IV) (h : H) : CRes :=
 obind (lenStr a0) fun x1 =>
 obind (binN .geq x1 a1) fun x2 =>
 condK x2
 (obind (lenStr a0) fun x3 =>
 obind (binN .sub x3 a1) fun x4 =>
 obind (slcStr a0 (some x4) none) fun x5 =>
 .ok x5 h)
 (obind (lenStr a0) fun x6 =>
 obind (binN .sub a1 x6) fun x7 =>
 callP (cf 65 [(.int .u8 48), x7] h) .pan fun x8 h9 =>
 obind (binS .add x8 a0) fun x10 =>
 .ok x10 h9)
theorem e66_0 {T : Tab} {a0 a1 : IV} {h : H} {r : CRes} (e : t66_0 (CL T) (J66 T) a0 a1 h = r) (hr : r ≠ .fail) : J66 T 0 [a0, a1] h = r := fj_step (fn := Try.f66) (js := js66) (by kernel_rfl) e hr
theorem c66 {T : Tab} (hT : OvStep T) (ho : T.ov 66 = none) (hp : T.pol 66 = true) {a0 a1 : IV} {h : H} {r : CRes} (hg : Gd h) (e : t66_0 (CL T) (J66 T) a0 a1 h = r) (hr : r ≠ .fail) : CL T 66 [a0, a1] h = r := call_good ho Try.func66 rfl rfl rfl hp hg hT (e66_0 e hr) hr

-- (*silkworm/silkwormref04.reader).fails
def js67 : List Jn := [⟨[], [0, 1]⟩]
noncomputable def J67 (T : Tab) : Rec := fj Try.prog (CL T) Try.f67 js67
noncomputable def t67_0 (cf : CallF) (R : Rec) (a0 a1 : IV) (h : H) : CRes :=
 callP (cf 31 [a0] h) .pan fun x1 h2 =>
 condK x1
 (obind (nilI a0) fun x3 =>
 obind (fadK 0 x3) fun x4 =>
 obind (ld0 h2 x4) fun x5 =>
 obind (nilI a0) fun x6 =>
 obind (fadK 1 x6) fun x7 =>
 obind (ld0 h2 x7) fun x8 =>
 obind (ixS 3 x5 x8) fun x9 =>
 obind (fadK 2 x9) fun x10 =>
 obind (ld0 h2 x10) fun x11 =>
 obind (bldK [(.int .i64 0), (.int .i64 0)] [(0, 1), (1, 1)] [(0, x11), (1, a1)]) fun x12 =>
 obind (nilI a0) fun x13 =>
 obind (fadK 2 x13) fun x14 =>
 obindH (stA 2 h2 x14 x12) fun h15 =>
 .ok (.tup []) h15)
 (.ok (.tup []) h2)
theorem e67_0 {T : Tab} {a0 a1 : IV} {h : H} {r : CRes} (e : t67_0 (CL T) (J67 T) a0 a1 h = r) (hr : r ≠ .fail) : J67 T 0 [a0, a1] h = r := fj_step (fn := Try.f67) (js := js67) (by kernel_rfl) e hr
theorem c67 {T : Tab} (hT : OvStep T) (ho : T.ov 67 = none) (hp : T.pol 67 = true) {a0 a1 : IV} {h : H} {r : CRes} (hg : Gd h) (e : t67_0 (CL T) (J67 T) a0 a1 h = r) (hr : r ≠ .fail) : CL T 67 [a0, a1] h = r := call_good ho Try.func67 rfl rfl rfl hp hg hT (e67_0 e hr) hr

-- (*silkworm/silkwormref04.reader).named
def js68 : List Jn := [⟨[], [0]⟩]
noncomputable def J68 (T : Tab) : Rec := fj Try.prog (CL T) Try.f68 js68
noncomputable def t68_0 (cf : CallF) (R : Rec) (a0 : IV) (h : H) : CRes :=
 obind (nilI a0) fun x1 =>
 obind (fadK 0 x1) fun x2 =>
 obind (ld0 h x2) fun x3 =>
 obind (nilI a0) fun x4 =>
 obind (fadK 1 x4) fun x5 =>
 obind (ld0 h x5) fun x6 =>
 obind (ixS 3 x3 x6) fun x7 =>
 obind (ldA 3 h x7) fun x8 =>
 obind2 (newI h z1) fun x9 h10 =>
 obind (ldA 3 h10 x7) fun x11 =>
 bif IV.beq x11 x8 then
 obind (ld0 h10 x5) fun x12 =>
 bif IV.beq x12 x6 then
 obind (ld0 h10 x2) fun x13 =>
 bif IV.beq x13 x3 then
 obindH (stA 3 h10 x9 x8) fun h14 =>
 callP (cf 31 [a0] h14) .pan fun x15 h16 =>
 spanK x15 true h16 (fun k17 =>
 obind (fadK 0 x9) fun x20 =>
 obind (ld0 h16 x20) fun x21 =>
 obind (binN .eql x21 (.int .i64 1)) fun x22 =>
 k17 x22 h16) fun x18 h19 =>
 obind (pickI x15 (some x18) (some (.bool false))) fun x23 =>
 spanK x23 true h19 (fun k24 =>
 obind (fadK 1 x9) fun x27 =>
 obind (ld0 h19 x27) fun x28 =>
 callP (cf 85 [x28] h19) .pan fun x29 h30 =>
 obind (unI .not x29) fun x31 =>
 k24 x31 h30) fun x25 h26 =>
 obind (pickI x23 (some x25) (some (.bool false))) fun x32 =>
 .ok x32 h26
 else .fail
 else .fail
 else .fail
theorem e68_0 {T : Tab} {a0 : IV} {h : H} {r : CRes} (e : t68_0 (CL T) (J68 T) a0 h = r) (hr : r ≠ .fail) : J68 T 0 [a0] h = r := fj_step (fn := Try.f68) (js := js68) (by kernel_rfl) e hr
theorem c68 {T : Tab} (hT : OvStep T) (ho : T.ov 68 = none) (hp : T.pol 68 = true) {a0 : IV} {h : H} {r : CRes} (hg : Gd h) (e : t68_0 (CL T) (J68 T) a0 h = r) (hr : r ≠ .fail) : CL T 68 [a0] h = r := call_good ho Try.func68 rfl rfl rfl hp hg hT (e68_0 e hr) hr

-- (*silkworm/silkwormref04.reader).sees
def js69 : List Jn := [⟨[], [0, 1]⟩]
noncomputable def J69 (T : Tab) : Rec := fj Try.prog (CL T) Try.f69 js69
noncomputable def t69_0 (cf : CallF) (R : Rec) (a0 a1 : IV) (h : H) : CRes :=
 obind (nilI a0) fun x1 =>
 obind (fadK 0 x1) fun x2 =>
 obind (ld0 h x2) fun x3 =>
 obind (nilI a0) fun x4 =>
 obind (fadK 1 x4) fun x5 =>
 obind (ld0 h x5) fun x6 =>
 obind (ixS 3 x3 x6) fun x7 =>
 obind (ldA 3 h x7) fun x8 =>
 obind2 (newI h z1) fun x9 h10 =>
 obind (ldA 3 h10 x7) fun x11 =>
 bif IV.beq x11 x8 then
 obind (ld0 h10 x5) fun x12 =>
 bif IV.beq x12 x6 then
 obind (ld0 h10 x2) fun x13 =>
 bif IV.beq x13 x3 then
 obindH (stA 3 h10 x9 x8) fun h14 =>
 callP (cf 31 [a0] h14) .pan fun x15 h16 =>
 spanK x15 true h16 (fun k17 =>
 obind (fadK 1 x9) fun x20 =>
 obind (ld0 h16 x20) fun x21 =>
 obind (binS .eql x21 a1) fun x22 =>
 k17 x22 h16) fun x18 h19 =>
 obind (pickI x15 (some x18) (some (.bool false))) fun x23 =>
 spanK x23 true h19 (fun k24 =>
 obind (fadK 0 x9) fun x27 =>
 obind (ld0 h19 x27) fun x28 =>
 obind (binN .eql x28 (.int .i64 3)) fun x29 =>
 k24 x29 h19) fun x25 h26 =>
 spanK x25 false h26 (fun k30 =>
 obind (fadK 0 x9) fun x33 =>
 obind (ld0 h26 x33) fun x34 =>
 obind (binN .eql x34 (.int .i64 1)) fun x35 =>
 k30 x35 h26) fun x31 h32 =>
 spanK x31 true h32 (fun k36 =>
 callP (cf 85 [a1] h32) .pan fun x39 h40 =>
 k36 x39 h40) fun x37 h38 =>
 spanK x25 false h38 (fun k41 =>
 obind (pickI x31 (some x37) (some (.bool false))) fun x44 =>
 k41 x44 h38) fun x42 h43 =>
 spanK x23 true h43 (fun k45 =>
 obind (pickI x25 (some (.bool true)) (some x42)) fun x48 =>
 k45 x48 h43) fun x46 h47 =>
 obind (pickI x23 (some x46) (some (.bool false))) fun x49 =>
 .ok x49 h47
 else .fail
 else .fail
 else .fail
theorem e69_0 {T : Tab} {a0 a1 : IV} {h : H} {r : CRes} (e : t69_0 (CL T) (J69 T) a0 a1 h = r) (hr : r ≠ .fail) : J69 T 0 [a0, a1] h = r := fj_step (fn := Try.f69) (js := js69) (by kernel_rfl) e hr
theorem c69 {T : Tab} (hT : OvStep T) (ho : T.ov 69 = none) (hp : T.pol 69 = true) {a0 a1 : IV} {h : H} {r : CRes} (hg : Gd h) (e : t69_0 (CL T) (J69 T) a0 a1 h = r) (hr : r ≠ .fail) : CL T 69 [a0, a1] h = r := call_good ho Try.func69 rfl rfl rfl hp hg hT (e69_0 e hr) hr

-- (*silkworm/silkwormref04.reader).expr
def js70 : List Jn := [⟨[], [0, 1]⟩, ⟨[1, 1], [0, 1, 4]⟩, ⟨[1, 1, 1], [0, 1, 4]⟩]
noncomputable def J70 (T : Tab) : Rec := fj Try.prog (CL T) Try.f70 js70
noncomputable def t70_0 (cf : CallF) (R : Rec) (a0 a1 : IV) (h : H) : CRes :=
 obind2 (newI h z11) fun x1 h2 =>
 callP (cf 31 [a0] h2) .pan fun x3 h4 =>
 spanK x3 true h4 (fun k5 =>
 callP (cf 86 [a0] h4) .pan fun x8 h9 =>
 obind (unI .not x8) fun x10 =>
 k5 x10 h9) fun x6 h7 =>
 obind (pickI x3 (some x6) (some (.bool false))) fun x11 =>
 condK x11
 (callP (cf 67 [a0, (.int .i64 40)] h7) .pan fun x12 h13 =>
 R 1 [a0, a1, x1] h13)
 (R 1 [a0, a1, x1] h7)
theorem e70_0 {T : Tab} {a0 a1 : IV} {h : H} {r : CRes} (e : t70_0 (CL T) (J70 T) a0 a1 h = r) (hr : r ≠ .fail) : J70 T 0 [a0, a1] h = r := fj_step (fn := Try.f70) (js := js70) (by kernel_rfl) e hr
noncomputable def t70_1 (cf : CallF) (R : Rec) (a0 a1 a4 : IV) (h : H) : CRes :=
 callP (cf 31 [a0] h) .pan fun x14 h15 =>
 spanK x14 true h15 (fun k16 =>
 obind (binN .gtr a1 (.int .i64 32)) fun x19 =>
 k16 x19 h15) fun x17 h18 =>
 obind (pickI x14 (some x17) (some (.bool false))) fun x20 =>
 condK x20
 (callP (cf 67 [a0, (.int .i64 41)] h18) .pan fun x21 h22 =>
 R 2 [a0, a1, a4] h22)
 (R 2 [a0, a1, a4] h18)
theorem e70_1 {T : Tab} {a0 a1 a4 : IV} {h : H} {r : CRes} (e : t70_1 (CL T) (J70 T) a0 a1 a4 h = r) (hr : r ≠ .fail) : J70 T 1 [a0, a1, a4] h = r := fj_step (fn := Try.f70) (js := js70) (by kernel_rfl) e hr
noncomputable def t70_2 (cf : CallF) (R : Rec) (a0 a1 a4 : IV) (h : H) : CRes :=
 callP (cf 31 [a0] h) .pan fun x23 h24 =>
 obind (unI .not x23) fun x25 =>
 condK x25
 (obind (bldK z11 p12 []) fun x26 =>
 obindH (stA 6 h24 a4 x26) fun h27 =>
 obind (ldA 6 h27 a4) fun x28 =>
 .ok x28 h27)
 (callP (cf 87 [a0, (.int .i64 1), a1] h24) .pan fun x29 h30 =>
 obind2 (newI h30 z11) fun x31 h32 =>
 obindH (stA 6 h32 x31 x29) fun h33 =>
 callP (cf 44 [a0] h33) .pan fun x34 h35 =>
 callP (cf 47 [a0, (.str ⟨1, 63⟩)] h35) .pan fun x36 h37 =>
 obind (unI .not x36) fun x38 =>
 condK x38
 (obind (ldA 6 h37 x31) fun x39 =>
 obindH (stA 6 h37 a4 x39) fun h40 =>
 obind (ldA 6 h40 a4) fun x41 =>
 .ok x41 h40)
 (obind (binN .add a1 (.int .i64 1)) fun x42 =>
 callP (cf 70 [a0, x42] h37) .pan fun x43 h44 =>
 obind2 (newI h44 z11) fun x45 h46 =>
 obindH (stA 6 h46 x45 x43) fun h47 =>
 callP (cf 45 [a0, (.str ⟨1, 58⟩)] h47) .pan fun x48 h49 =>
 obind (binN .add a1 (.int .i64 1)) fun x50 =>
 callP (cf 70 [a0, x50] h49) .pan fun x51 h52 =>
 obind2 (newI h52 z11) fun x53 h54 =>
 obindH (stA 6 h54 x53 x51) fun h55 =>
 obind (ldA 6 h55 x31) fun x56 =>
 obind (ldA 6 h55 x45) fun x57 =>
 obind (ldA 6 h55 x53) fun x58 =>
 obind2 (bslK false 6 z11 3 [(0, x56), (1, x57), (2, x58)] h55) fun x59 h60 =>
 obind (bldK z11 p12 [(0, (.int .i64 6)), (4, x59), (5, x34)]) fun x61 =>
 obindH (stA 6 h60 a4 x61) fun h62 =>
 obind (ldA 6 h62 a4) fun x63 =>
 .ok x63 h62))
theorem e70_2 {T : Tab} {a0 a1 a4 : IV} {h : H} {r : CRes} (e : t70_2 (CL T) (J70 T) a0 a1 a4 h = r) (hr : r ≠ .fail) : J70 T 2 [a0, a1, a4] h = r := fj_step (fn := Try.f70) (js := js70) (by kernel_rfl) e hr
theorem c70 {T : Tab} (hT : OvStep T) (ho : T.ov 70 = none) (hp : T.pol 70 = true) {a0 a1 : IV} {h : H} {r : CRes} (hg : Gd h) (e : t70_0 (CL T) (J70 T) a0 a1 h = r) (hr : r ≠ .fail) : CL T 70 [a0, a1] h = r := call_good ho Try.func70 rfl rfl rfl hp hg hT (e70_0 e hr) hr

-- (*silkworm/silkwormref04.reader).span
def js71 : List Jn := [⟨[], [0]⟩]
noncomputable def J71 (T : Tab) : Rec := fj Try.prog (CL T) Try.f71 js71
noncomputable def t71_0 (cf : CallF) (R : Rec) (a0 : IV) (h : H) : CRes :=
 obind2 (newI h z11) fun x1 h2 =>
 obind2 (newI h2 z11) fun x3 h4 =>
 callP (cf 47 [a0, (.str ⟨1, 91⟩)] h4) .pan fun x5 h6 =>
 obind (unI .not x5) fun x7 =>
 condK x7
 (obind (bldK z11 p12 []) fun x8 =>
 obind (bldK z11 p12 []) fun x9 =>
 obindH (stA 6 h6 x1 x8) fun h10 =>
 obindH (stA 6 h10 x3 x9) fun h11 =>
 obind (ldA 6 h11 x1) fun x12 =>
 obind (ldA 6 h11 x3) fun x13 =>
 .ok (.tup [(.bool false), x12, x13]) h11)
 (callP (cf 70 [a0, (.int .i64 1)] h6) .pan fun x14 h15 =>
 obind2 (newI h15 z11) fun x16 h17 =>
 obindH (stA 6 h17 x16 x14) fun h18 =>
 callP (cf 45 [a0, (.str ⟨1, 58⟩)] h18) .pan fun x19 h20 =>
 callP (cf 70 [a0, (.int .i64 1)] h20) .pan fun x21 h22 =>
 obind2 (newI h22 z11) fun x23 h24 =>
 obindH (stA 6 h24 x23 x21) fun h25 =>
 callP (cf 45 [a0, (.str ⟨1, 93⟩)] h25) .pan fun x26 h27 =>
 obind (ldA 6 h27 x16) fun x28 =>
 obind (ldA 6 h27 x23) fun x29 =>
 obindH (stA 6 h27 x1 x28) fun h30 =>
 obind (ldA 6 h30 x23) fun x31 =>
 bif IV.beq x31 x29 then
 obindH (stA 6 h30 x3 x29) fun h32 =>
 obind (ldA 6 h32 x1) fun x33 =>
 obind (ldA 6 h32 x3) fun x34 =>
 .ok (.tup [(.bool true), x33, x34]) h32
 else .fail)
theorem e71_0 {T : Tab} {a0 : IV} {h : H} {r : CRes} (e : t71_0 (CL T) (J71 T) a0 h = r) (hr : r ≠ .fail) : J71 T 0 [a0] h = r := fj_step (fn := Try.f71) (js := js71) (by kernel_rfl) e hr
theorem c71 {T : Tab} (hT : OvStep T) (ho : T.ov 71 = none) (hp : T.pol 71 = true) {a0 : IV} {h : H} {r : CRes} (hg : Gd h) (e : t71_0 (CL T) (J71 T) a0 h = r) (hr : r ≠ .fail) : CL T 71 [a0] h = r := call_good ho Try.func71 rfl rfl rfl hp hg hT (e71_0 e hr) hr

-- (*silkworm/silkwormref04.reader).item
def js72 : List Jn := [⟨[], [0, 1]⟩, ⟨[1, 1], [0, 1, 4]⟩, ⟨[1, 1, 1], [0, 1, 4]⟩, ⟨[1, 1, 1, 1, 1, 1], [4, 5]⟩, ⟨[1, 1, 1, 1, 1, 1, 1, 1, 1, 1, 1, 1, 1, 1, 1, 0, 0, 1, 1, 1, 1, 1], [0, 4, 5]⟩]
noncomputable def J72 (T : Tab) : Rec := fj Try.prog (CL T) Try.f72 js72
noncomputable def t72_0 (cf : CallF) (R : Rec) (a0 a1 : IV) (h : H) : CRes :=
 obind2 (newI h z8) fun x1 h2 =>
 callP (cf 31 [a0] h2) .pan fun x3 h4 =>
 spanK x3 true h4 (fun k5 =>
 callP (cf 88 [a0] h4) .pan fun x8 h9 =>
 obind (unI .not x8) fun x10 =>
 k5 x10 h9) fun x6 h7 =>
 obind (pickI x3 (some x6) (some (.bool false))) fun x11 =>
 condK x11
 (callP (cf 67 [a0, (.int .i64 40)] h7) .pan fun x12 h13 =>
 R 1 [a0, a1, x1] h13)
 (R 1 [a0, a1, x1] h7)
theorem e72_0 {T : Tab} {a0 a1 : IV} {h : H} {r : CRes} (e : t72_0 (CL T) (J72 T) a0 a1 h = r) (hr : r ≠ .fail) : J72 T 0 [a0, a1] h = r := fj_step (fn := Try.f72) (js := js72) (by kernel_rfl) e hr
noncomputable def t72_1 (cf : CallF) (R : Rec) (a0 a1 a4 : IV) (h : H) : CRes :=
 callP (cf 31 [a0] h) .pan fun x14 h15 =>
 spanK x14 true h15 (fun k16 =>
 obind (binN .gtr a1 (.int .i64 32)) fun x19 =>
 k16 x19 h15) fun x17 h18 =>
 obind (pickI x14 (some x17) (some (.bool false))) fun x20 =>
 condK x20
 (callP (cf 67 [a0, (.int .i64 41)] h18) .pan fun x21 h22 =>
 R 2 [a0, a1, a4] h22)
 (R 2 [a0, a1, a4] h18)
theorem e72_1 {T : Tab} {a0 a1 a4 : IV} {h : H} {r : CRes} (e : t72_1 (CL T) (J72 T) a0 a1 a4 h = r) (hr : r ≠ .fail) : J72 T 1 [a0, a1, a4] h = r := fj_step (fn := Try.f72) (js := js72) (by kernel_rfl) e hr
noncomputable def t72_2 (cf : CallF) (R : Rec) (a0 a1 a4 : IV) (h : H) : CRes :=
 callP (cf 31 [a0] h) .pan fun x23 h24 =>
 obind (unI .not x23) fun x25 =>
 condK x25
 (obind (bldK z8 p13 []) fun x26 =>
 obindH (stA 48 h24 a4 x26) fun h27 =>
 obind (ldA 48 h27 a4) fun x28 =>
 .ok x28 h27)
 (callP (cf 44 [a0] h24) .pan fun x29 h30 =>
 obind (bldK z8 p13 [(17, x29)]) fun x31 =>
 obind2 (newI h30 z8) fun x32 h33 =>
 obindH (stA 48 h33 x32 x31) fun h34 =>
 callP (cf 47 [a0, (.str ⟨4, 1701996919⟩)] h34) .pan fun x35 h36 =>
 condK x35
 (obind (ldA 48 h36 x32) fun x37 =>
 callP (cf 89 [a0, x37, (.int .i64 1)] h36) .pan fun x38 h39 =>
 obindH (stA 48 h39 a4 x38) fun h40 =>
 obind (ldA 48 h40 a4) fun x41 =>
 .ok x41 h40)
 (callP (cf 47 [a0, (.str ⟨3, 6776178⟩)] h36) .pan fun x42 h43 =>
 condK x42
 (obind (ldA 48 h43 x32) fun x44 =>
 callP (cf 89 [a0, x44, (.int .i64 2)] h43) .pan fun x45 h46 =>
 obindH (stA 48 h46 a4 x45) fun h47 =>
 obind (ldA 48 h47 a4) fun x48 =>
 .ok x48 h47)
 (callP (cf 47 [a0, (.str ⟨10, 516535522800345012203372⟩)] h43) .pan fun x49 h50 =>
 condK x49
 (obind (fadK 0 x32) fun x51 =>
 obindH (stA 1 h50 x51 (.int .i64 3)) fun h52 =>
 callP (cf 46 [a0] h52) .pan fun x53 h54 =>
 obind (fadK 1 x32) fun x55 =>
 obindH (stA 1 h54 x55 x53) fun h56 =>
 callP (cf 45 [a0, (.str ⟨1, 61⟩)] h56) .pan fun x57 h58 =>
 callP (cf 70 [a0, (.int .i64 1)] h58) .pan fun x59 h60 =>
 obind (fadK 23 x32) fun x61 =>
 obindH (stA 6 h60 x61 x59) fun h62 =>
 callP (cf 45 [a0, (.str ⟨1, 59⟩)] h62) .pan fun x63 h64 =>
 R 3 [a4, x32] h64)
 (callP (cf 47 [a0, (.str ⟨6, 121390429860705⟩)] h50) .pan fun x65 h66 =>
 condK x65
 (obind (ldA 48 h66 x32) fun x67 =>
 callP (cf 90 [a0, x67] h66) .pan fun x68 h69 =>
 obindH (stA 48 h69 a4 x68) fun h70 =>
 obind (ldA 48 h70 a4) fun x71 =>
 .ok x71 h70)
 (callP (cf 47 [a0, (.str ⟨6, 126965163453537⟩)] h66) .pan fun x72 h73 =>
 condK x72
 (obind (ldA 48 h73 x32) fun x74 =>
 callP (cf 91 [a0, x74] h73) .pan fun x75 h76 =>
 obindH (stA 48 h76 a4 x75) fun h77 =>
 obind (ldA 48 h77 a4) fun x78 =>
 .ok x78 h77)
 (callP (cf 47 [a0, (.str ⟨3, 7499622⟩)] h73) .pan fun x79 h80 =>
 condK x79
 (obind (ldA 48 h80 x32) fun x81 =>
 callP (cf 92 [a0, x81, a1] h80) .pan fun x82 h83 =>
 obindH (stA 48 h83 a4 x82) fun h84 =>
 obind (ldA 48 h84 a4) fun x85 =>
 .ok x85 h84)
 (obind (fadK 0 x32) fun x86 =>
 obindH (stA 1 h80 x86 (.int .i64 7)) fun h87 =>
 callP (cf 46 [a0] h87) .pan fun x88 h89 =>
 obind (fadK 42 x32) fun x90 =>
 obindH (stA 1 h89 x90 x88) fun h91 =>
 callP (cf 47 [a0, (.str ⟨1, 35⟩)] h91) .pan fun x92 h93 =>
 condK x92
 (callP (cf 45 [a0, (.str ⟨1, 40⟩)] h93) .pan fun x94 h95 =>
 callP (cf 93 [a0, (.bool true)] h95) .pan fun x96 h97 =>
 obind (fadK 43 x32) fun x98 =>
 obindH (stA 1 h97 x98 x96) fun h99 =>
 R 4 [a0, a4, x32] h99)
 (R 4 [a0, a4, x32] h93))))))))
theorem e72_2 {T : Tab} {a0 a1 a4 : IV} {h : H} {r : CRes} (e : t72_2 (CL T) (J72 T) a0 a1 a4 h = r) (hr : r ≠ .fail) : J72 T 2 [a0, a1, a4] h = r := fj_step (fn := Try.f72) (js := js72) (by kernel_rfl) e hr
noncomputable def t72_3 (cf : CallF) (R : Rec) (a4 a5 : IV) (h : H) : CRes :=
 obind (ldA 48 h a5) fun x100 =>
 obindH (stA 48 h a4 x100) fun h101 =>
 obind (ldA 48 h101 a4) fun x102 =>
 .ok x102 h101
theorem e72_3 {T : Tab} {a4 a5 : IV} {h : H} {r : CRes} (e : t72_3 (CL T) (J72 T) a4 a5 h = r) (hr : r ≠ .fail) : J72 T 3 [a4, a5] h = r := fj_step (fn := Try.f72) (js := js72) (by kernel_rfl) e hr
noncomputable def t72_4 (cf : CallF) (R : Rec) (a0 a4 a5 : IV) (h : H) : CRes :=
 callP (cf 46 [a0] h) .pan fun x103 h104 =>
 obind (fadK 1 a5) fun x105 =>
 obindH (stA 1 h104 x105 x103) fun h106 =>
 callP (cf 45 [a0, (.str ⟨1, 40⟩)] h106) .pan fun x107 h108 =>
 callP (cf 93 [a0, (.bool false)] h108) .pan fun x109 h110 =>
 obind (fadK 44 a5) fun x111 =>
 obindH (stA 1 h110 x111 x109) fun h112 =>
 callP (cf 45 [a0, (.str ⟨1, 59⟩)] h112) .pan fun x113 h114 =>
 R 3 [a4, a5] h114
theorem e72_4 {T : Tab} {a0 a4 a5 : IV} {h : H} {r : CRes} (e : t72_4 (CL T) (J72 T) a0 a4 a5 h = r) (hr : r ≠ .fail) : J72 T 4 [a0, a4, a5] h = r := fj_step (fn := Try.f72) (js := js72) (by kernel_rfl) e hr
theorem c72 {T : Tab} (hT : OvStep T) (ho : T.ov 72 = none) (hp : T.pol 72 = true) {a0 a1 : IV} {h : H} {r : CRes} (hg : Gd h) (e : t72_0 (CL T) (J72 T) a0 a1 h = r) (hr : r ≠ .fail) : CL T 72 [a0, a1] h = r := call_good ho Try.func72 rfl rfl rfl hp hg hT (e72_0 e hr) hr

-- (*silkworm/sema.scope).find
def js73 : List Jn := [⟨[], [0, 1]⟩, ⟨[0, 0, 1], [0, 1]⟩]
noncomputable def J73 (T : Tab) : Rec := fj Try.prog (CL T) Try.f73 js73
noncomputable def t73_0 (cf : CallF) (R : Rec) (a0 a1 : IV) (h : H) : CRes :=
 R 1 [a0, a1] h
theorem e73_0 {T : Tab} {a0 a1 : IV} {h : H} {r : CRes} (e : t73_0 (CL T) (J73 T) a0 a1 h = r) (hr : r ≠ .fail) : J73 T 0 [a0, a1] h = r := fj_step (fn := Try.f73) (js := js73) (by kernel_rfl) e hr
noncomputable def t73_1 (cf : CallF) (R : Rec) (a0 a1 : IV) (h : H) : CRes :=
 obind (eqP .neq h a0 .nilPtr) fun x1 =>
 condK x1
 (obind (nilI a0) fun x2 =>
 obind (fadK 1 x2) fun x3 =>
 obind (ld0 h x3) fun x4 =>
 obind (lkK true .nilPtr h x4 a1 true) fun x5 =>
 obind (extractI x5 0) fun x6 =>
 obind (extractI x5 1) fun x7 =>
 condK x7
 (.ok (.tup [x6, a0]) h)
 (obind (nilI a0) fun x8 =>
 obind (fadK 0 x8) fun x9 =>
 obind (ld0 h x9) fun x10 =>
 R 1 [x10, a1] h))
 (.ok (.tup [.nilPtr, .nilPtr]) h)
theorem e73_1 {T : Tab} {a0 a1 : IV} {h : H} {r : CRes} (e : t73_1 (CL T) (J73 T) a0 a1 h = r) (hr : r ≠ .fail) : J73 T 1 [a0, a1] h = r := fj_step (fn := Try.f73) (js := js73) (by kernel_rfl) e hr
theorem c73 {T : Tab} (hT : OvStep T) (ho : T.ov 73 = none) (hp : T.pol 73 = true) {a0 a1 : IV} {h : H} {r : CRes} (hg : Gd h) (e : t73_0 (CL T) (J73 T) a0 a1 h = r) (hr : r ≠ .fail) : CL T 73 [a0, a1] h = r := call_good ho Try.func73 rfl rfl rfl hp hg hT (e73_0 e hr) hr

-- silkworm/sema.named
def js74 : List Jn := [⟨[], [0]⟩]
noncomputable def J74 (T : Tab) : Rec := fj Try.prog (CL T) Try.f74 js74
noncomputable def t74_0 (cf : CallF) (R : Rec) (a0 : IV) (h : H) : CRes :=
 obind2 (newI h (IV.cells a0)) fun x1 h2 =>
 obind (fadK 0 x1) fun x3 =>
 obind (ld0 h2 x3) fun x4 =>
 obind (binN .eql x4 (.int .i64 2)) fun x5 =>
 spanK x5 false h2 (fun k6 =>
 obind (fadK 0 x1) fun x9 =>
 obind (ld0 h2 x9) fun x10 =>
 obind (binN .eql x10 (.int .i64 3)) fun x11 =>
 k6 x11 h2) fun x7 h8 =>
 obind (pickI x5 (some (.bool true)) (some x7)) fun x12 =>
 spanK x12 false h8 (fun k13 =>
 obind (fadK 0 x1) fun x16 =>
 obind (ld0 h8 x16) fun x17 =>
 obind (binN .eql x17 (.int .i64 4)) fun x18 =>
 k13 x18 h8) fun x14 h15 =>
 obind (pickI x12 (some (.bool true)) (some x14)) fun x19 =>
 .ok x19 h15
theorem e74_0 {T : Tab} {a0 : IV} {h : H} {r : CRes} (e : t74_0 (CL T) (J74 T) a0 h = r) (hr : r ≠ .fail) : J74 T 0 [a0] h = r := fj_step (fn := Try.f74) (js := js74) (by kernel_rfl) e hr
theorem c74 {T : Tab} (hT : OvStep T) (ho : T.ov 74 = none) (hp : T.pol 74 = true) {a0 : IV} {h : H} {r : CRes} (hg : Gd h) (e : t74_0 (CL T) (J74 T) a0 h = r) (hr : r ≠ .fail) : CL T 74 [a0] h = r := call_good ho Try.func74 rfl rfl rfl hp hg hT (e74_0 e hr) hr

-- (*silkworm/sema.scope).stmts
def js75 : List Jn := [⟨[], [0, 1, 2, 3]⟩, ⟨[0, 1], [0, 2, 3, 15, 16, 17]⟩, ⟨[1, 1, 1, 0, 0, 1], [0, 2, 3, 15, 16, 17]⟩, ⟨[1, 0, 1, 0, 1, 0, 0, 1, 1, 0, 0, 1], [0, 2, 3, 9, 15, 16, 17]⟩, ⟨[1, 1, 1, 1, 0, 1, 0, 1, 0, 0, 1, 1, 0, 0, 1], [0, 2, 3, 15, 16, 17]⟩, ⟨[0, 1, 1, 1, 1, 1, 1, 0, 0, 1, 1, 0, 0, 1], [0, 2, 3, 15, 16, 17, 95, 96, 97]⟩, ⟨[1, 1, 0, 0, 1, 1, 0, 0, 1, 1, 1, 1, 1, 1, 0, 0, 1, 1, 0, 0, 1], [0, 2, 3, 14, 15, 16, 17, 95, 96, 97]⟩]
noncomputable def J75 (T : Tab) : Rec := fj Try.prog (CL T) Try.f75 js75
noncomputable def t75_0 (cf : CallF) (R : Rec) (a0 a1 a2 a3 : IV) (h : H) : CRes :=
 obind (lenS a1) fun x1 =>
 R 1 [a0, a2, a3, a1, x1, (.int .i64 0)] h
theorem e75_0 {T : Tab} {a0 a1 a2 a3 : IV} {h : H} {r : CRes} (e : t75_0 (CL T) (J75 T) a0 a1 a2 a3 h = r) (hr : r ≠ .fail) : J75 T 0 [a0, a1, a2, a3] h = r := fj_step (fn := Try.f75) (js := js75) (by kernel_rfl) e hr
noncomputable def t75_1 (cf : CallF) (R : Rec) (a0 a2 a3 a15 a16 a17 : IV) (h : H) : CRes :=
 obind (binN .lss a17 a16) fun x2 =>
 condK x2
 (obind (ixS 12 a15 a17) fun x3 =>
 obind (ldA 12 h x3) fun x4 =>
 obind2 (newI h z14) fun x5 h6 =>
 obindH (stA 12 h6 x5 x4) fun h7 =>
 obind (fadK 0 x5) fun x8 =>
 obind (ld0 h7 x8) fun x9 =>
 obind (binN .eql x9 (.int .i64 1)) fun x10 =>
 spanK x10 false h7 (fun k11 =>
 obind (fadK 0 x5) fun x14 =>
 obind (ld0 h7 x14) fun x15 =>
 obind (binN .eql x15 (.int .i64 2)) fun x16 =>
 k11 x16 h7) fun x12 h13 =>
 obind (pickI x10 (some (.bool true)) (some x12)) fun x17 =>
 condK x17
 (obind (fadK 0 x5) fun x18 =>
 obind (ld0 h13 x18) fun x19 =>
 obind (binN .neq x19 a2) fun x20 =>
 condK x20
 (obind (fadK 11 x5) fun x21 =>
 obind (ld0 h13 x21) fun x22 =>
 callP (cf 17 [x22, (.int .i64 74)] h13) .pan fun x23 h24 =>
 R 3 [a0, a2, a3, x5, a15, a16, a17] h24)
 (R 3 [a0, a2, a3, x5, a15, a16, a17] h13))
 (obind (fadK 2 x5) fun x25 =>
 obind (ldA 6 h13 x25) fun x26 =>
 callP (cf 53 [a0, x26] h13) .pan fun x27 h28 =>
 obind (fadK 8 x5) fun x29 =>
 obind (ld0 h28 x29) fun x30 =>
 callP (cf 75 [a0, x30, a2, a3] h28) .pan fun x31 h32 =>
 obind (fadK 9 x5) fun x33 =>
 obind (ld0 h32 x33) fun x34 =>
 callP (cf 75 [a0, x34, a2, a3] h32) .pan fun x35 h36 =>
 obind (fadK 10 x5) fun x37 =>
 obind (ld0 h36 x37) fun x38 =>
 obind (lenS x38) fun x39 =>
 R 5 [a0, a2, a3, a15, a16, a17, x38, x39, (.int .i64 0)] h36))
 (.ok (.tup []) h)
theorem e75_1 {T : Tab} {a0 a2 a3 a15 a16 a17 : IV} {h : H} {r : CRes} (e : t75_1 (CL T) (J75 T) a0 a2 a3 a15 a16 a17 h = r) (hr : r ≠ .fail) : J75 T 1 [a0, a2, a3, a15, a16, a17] h = r := fj_step (fn := Try.f75) (js := js75) (by kernel_rfl) e hr
noncomputable def t75_3 (cf : CallF) (R : Rec) (a0 a2 a3 a9 a15 a16 a17 : IV) (h : H) : CRes :=
 obind (fadK 1 a9) fun x40 =>
 obind (ld0 h x40) fun x41 =>
 obind (fadK 11 a9) fun x42 =>
 obind (ld0 h x42) fun x43 =>
 obind (fadK 11 a9) fun x44 =>
 obind (ld0 h x44) fun x45 =>
 callP (cf 51 [a0, x41, (.int .i64 4), x43, x45] h) .pan fun x46 h47 =>
 obind (fadK 2 a9) fun x48 =>
 obind (ldA 6 h47 x48) fun x49 =>
 callP (cf 53 [a0, x49] h47) .pan fun x50 h51 =>
 obind (nilI a3) fun x52 =>
 obind (fadK 0 x52) fun x53 =>
 obind (ld0 h51 x53) fun x54 =>
 obind (fadK 1 a9) fun x55 =>
 obind (ld0 h51 x55) fun x56 =>
 obind (lkK true .nilPtr h51 x54 x56 true) fun x57 =>
 obind (extractI x57 0) fun x58 =>
 obind (extractI x57 1) fun x59 =>
 obind (unI .not x59) fun x60 =>
 condK x60
 (obind (nilI a3) fun x61 =>
 obind (fadK 0 x61) fun x62 =>
 obind (ld0 h51 x62) fun x63 =>
 obind (fadK 1 a9) fun x64 =>
 obind (ld0 h51 x64) fun x65 =>
 obindH (mupK true h51 x63 x65 x46) fun h66 =>
 obind (nilI a3) fun x67 =>
 obind (fadK 1 x67) fun x68 =>
 obind (ld0 h66 x68) fun x69 =>
 obind (fadK 1 a9) fun x70 =>
 obind (ld0 h66 x70) fun x71 =>
 obind2 (bslK false 1 [(.str ⟨0, 0⟩)] 1 [(0, x71)] h66) fun x72 h73 =>
 obind (ld0 h73 x68) fun x74 =>
 bif IV.beq x74 x69 then
 obind2 (appK 1 16 h73 x69 x72) fun x75 h76 =>
 obind (nilI a3) fun x77 =>
 obind (fadK 1 x77) fun x78 =>
 obindH (stA 1 h76 x78 x75) fun h79 =>
 R 4 [a0, a2, a3, a15, a16, a17] h79
 else .fail)
 (R 4 [a0, a2, a3, a15, a16, a17] h51)
theorem e75_3 {T : Tab} {a0 a2 a3 a9 a15 a16 a17 : IV} {h : H} {r : CRes} (e : t75_3 (CL T) (J75 T) a0 a2 a3 a9 a15 a16 a17 h = r) (hr : r ≠ .fail) : J75 T 3 [a0, a2, a3, a9, a15, a16, a17] h = r := fj_step (fn := Try.f75) (js := js75) (by kernel_rfl) e hr
noncomputable def t75_5 (cf : CallF) (R : Rec) (a0 a2 a3 a15 a16 a17 a95 a96 a97 : IV) (h : H) : CRes :=
 obind (binN .lss a97 a96) fun x80 =>
 condK x80
 (obind (ixS 8 a95 a97) fun x81 =>
 obind (ldA 8 h x81) fun x82 =>
 obind2 (newI h z15) fun x83 h84 =>
 obindH (stA 8 h84 x83 x82) fun h85 =>
 obind (fadK 0 x83) fun x86 =>
 obind (ld0 h85 x86) fun x87 =>
 obind (unI .not x87) fun x88 =>
 condK x88
 (obind (fadK 1 x83) fun x89 =>
 obind (ldA 6 h85 x89) fun x90 =>
 callP (cf 53 [a0, x90] h85) .pan fun x91 h92 =>
 R 6 [a0, a2, a3, x83, a15, a16, a17, a95, a96, a97] h92)
 (R 6 [a0, a2, a3, x83, a15, a16, a17, a95, a96, a97] h85))
 (R 2 [a0, a2, a3, a15, a16, a17] h)
theorem e75_5 {T : Tab} {a0 a2 a3 a15 a16 a17 a95 a96 a97 : IV} {h : H} {r : CRes} (e : t75_5 (CL T) (J75 T) a0 a2 a3 a15 a16 a17 a95 a96 a97 h = r) (hr : r ≠ .fail) : J75 T 5 [a0, a2, a3, a15, a16, a17, a95, a96, a97] h = r := fj_step (fn := Try.f75) (js := js75) (by kernel_rfl) e hr
noncomputable def t75_4 (cf : CallF) (R : Rec) (a0 a2 a3 a15 a16 a17 : IV) (h : H) : CRes :=
 R 2 [a0, a2, a3, a15, a16, a17] h
theorem e75_4 {T : Tab} {a0 a2 a3 a15 a16 a17 : IV} {h : H} {r : CRes} (e : t75_4 (CL T) (J75 T) a0 a2 a3 a15 a16 a17 h = r) (hr : r ≠ .fail) : J75 T 4 [a0, a2, a3, a15, a16, a17] h = r := fj_step (fn := Try.f75) (js := js75) (by kernel_rfl) e hr
noncomputable def t75_2 (cf : CallF) (R : Rec) (a0 a2 a3 a15 a16 a17 : IV) (h : H) : CRes :=
 obind (binN .add a17 (.int .i64 1)) fun x93 =>
 R 1 [a0, a2, a3, a15, a16, x93] h
theorem e75_2 {T : Tab} {a0 a2 a3 a15 a16 a17 : IV} {h : H} {r : CRes} (e : t75_2 (CL T) (J75 T) a0 a2 a3 a15 a16 a17 h = r) (hr : r ≠ .fail) : J75 T 2 [a0, a2, a3, a15, a16, a17] h = r := fj_step (fn := Try.f75) (js := js75) (by kernel_rfl) e hr
noncomputable def t75_6 (cf : CallF) (R : Rec) (a0 a2 a3 a14 a15 a16 a17 a95 a96 a97 : IV) (h : H) : CRes :=
 obind (fadK 7 a14) fun x94 =>
 obind (ld0 h x94) fun x95 =>
 callP (cf 75 [a0, x95, a2, a3] h) .pan fun x96 h97 =>
 obind (binN .add a97 (.int .i64 1)) fun x98 =>
 R 5 [a0, a2, a3, a15, a16, a17, a95, a96, x98] h97
theorem e75_6 {T : Tab} {a0 a2 a3 a14 a15 a16 a17 a95 a96 a97 : IV} {h : H} {r : CRes} (e : t75_6 (CL T) (J75 T) a0 a2 a3 a14 a15 a16 a17 a95 a96 a97 h = r) (hr : r ≠ .fail) : J75 T 6 [a0, a2, a3, a14, a15, a16, a17, a95, a96, a97] h = r := fj_step (fn := Try.f75) (js := js75) (by kernel_rfl) e hr
theorem c75 {T : Tab} (hT : OvStep T) (ho : T.ov 75 = none) (hp : T.pol 75 = true) {a0 a1 a2 a3 : IV} {h : H} {r : CRes} (hg : Gd h) (e : t75_0 (CL T) (J75 T) a0 a1 a2 a3 h = r) (hr : r ≠ .fail) : CL T 75 [a0, a1, a2, a3] h = r := call_good ho Try.func75 rfl rfl rfl hp hg hT (e75_0 e hr) hr

-- (*silkworm/sema.targets).behind
def js76 : List Jn := [⟨[], [0, 1, 2]⟩, ⟨[0, 1, 0, 1], [0, 2, 15, 16, 17]⟩, ⟨[1, 1, 1, 0, 0, 1, 0, 1], [0, 2, 15, 16, 17]⟩, ⟨[0, 1, 0, 1, 1, 0, 1, 1, 1, 0, 1, 1, 1, 0, 0, 1, 1, 0, 0, 1, 0, 1], [0, 2, 10, 11, 15, 16, 17, 51, 52, 53]⟩, ⟨[1, 1, 1, 0, 0, 1, 0, 1, 1, 0, 1, 1, 1, 0, 1, 1, 1, 0, 0, 1, 1, 0, 0, 1, 0, 1], [0, 2, 10, 11, 15, 16, 17, 51, 52, 53]⟩, ⟨[1, 1, 0, 0, 1, 1, 0, 0, 1, 0, 1, 1, 0, 1, 1, 1, 0, 1, 1, 1, 0, 0, 1, 1, 0, 0, 1, 0, 1], [0, 2, 10, 11, 13, 15, 16, 17, 51, 52, 53]⟩, ⟨[1, 1, 1, 1, 0, 1, 1, 1, 0, 1, 1, 1, 0, 0, 1, 1, 0, 0, 1, 0, 1], [0, 10, 15, 16, 17]⟩, ⟨[1, 0, 1, 0, 1, 1, 1, 0, 1, 1, 1, 0, 1, 1, 1, 0, 0, 1, 1, 0, 0, 1, 0, 1], [0, 2, 10, 15, 16, 17]⟩]
noncomputable def J76 (T : Tab) : Rec := fj Try.prog (CL T) Try.f76 js76
noncomputable def t76_0 (cf : CallF) (R : Rec) (a0 a1 a2 : IV) (h : H) : CRes :=
 obind (lenS a1) fun x1 =>
 R 1 [a0, a2, a1, x1, (.int .i64 0)] h
theorem e76_0 {T : Tab} {a0 a1 a2 : IV} {h : H} {r : CRes} (e : t76_0 (CL T) (J76 T) a0 a1 a2 h = r) (hr : r ≠ .fail) : J76 T 0 [a0, a1, a2] h = r := fj_step (fn := Try.f76) (js := js76) (by kernel_rfl) e hr
noncomputable def t76_1 (cf : CallF) (R : Rec) (a0 a2 a15 a16 a17 : IV) (h : H) : CRes :=
 obind (binN .lss a17 a16) fun x2 =>
 condK x2
 (obind (ixS 12 a15 a17) fun x3 =>
 obind (ldA 12 h x3) fun x4 =>
 obind2 (newI h z14) fun x5 h6 =>
 obindH (stA 12 h6 x5 x4) fun h7 =>
 obind (fadK 2 x5) fun x8 =>
 obind (ldA 6 h7 x8) fun x9 =>
 callP (cf 94 [a0, x9, a2] h7) .pan fun x10 h11 =>
 obind (fadK 0 x5) fun x12 =>
 obind (ld0 h11 x12) fun x13 =>
 obind (binN .eql x13 (.int .i64 3)) fun x14 =>
 condK x14
 (obind (fadK 8 x5) fun x15 =>
 obind (ld0 h11 x15) fun x16 =>
 callP (cf 76 [a0, x16, a2] h11) .pan fun x17 h18 =>
 obind (fadK 9 x5) fun x19 =>
 obind (ld0 h18 x19) fun x20 =>
 callP (cf 76 [a0, x20, a2] h18) .pan fun x21 h22 =>
 callP (cf 95 [x17, x21] h22) .pan fun x23 h24 =>
 R 2 [a0, x23, a15, a16, a17] h24)
 (obind (binN .eql x13 (.int .i64 4)) fun x25 =>
 condK x25
 (obind (fadK 10 x5) fun x26 =>
 obind (ld0 h11 x26) fun x27 =>
 obind (lenS x27) fun x28 =>
 R 3 [a0, a2, .nilMap, (.bool false), a15, a16, a17, x27, x28, (.int .i64 0)] h11)
 (callP (cf 95 [a2, a2] h11) .pan fun x29 h30 =>
 obind (fadK 1 x5) fun x31 =>
 obind (ld0 h30 x31) fun x32 =>
 obindH (mupK true h30 x29 x32 (.bool true)) fun h33 =>
 R 2 [a0, x29, a15, a16, a17] h33)))
 (.ok a2 h)
theorem e76_1 {T : Tab} {a0 a2 a15 a16 a17 : IV} {h : H} {r : CRes} (e : t76_1 (CL T) (J76 T) a0 a2 a15 a16 a17 h = r) (hr : r ≠ .fail) : J76 T 1 [a0, a2, a15, a16, a17] h = r := fj_step (fn := Try.f76) (js := js76) (by kernel_rfl) e hr
noncomputable def t76_2 (cf : CallF) (R : Rec) (a0 a2 a15 a16 a17 : IV) (h : H) : CRes :=
 obind (binN .add a17 (.int .i64 1)) fun x34 =>
 R 1 [a0, a2, a15, a16, x34] h
theorem e76_2 {T : Tab} {a0 a2 a15 a16 a17 : IV} {h : H} {r : CRes} (e : t76_2 (CL T) (J76 T) a0 a2 a15 a16 a17 h = r) (hr : r ≠ .fail) : J76 T 2 [a0, a2, a15, a16, a17] h = r := fj_step (fn := Try.f76) (js := js76) (by kernel_rfl) e hr
noncomputable def t76_3 (cf : CallF) (R : Rec) (a0 a2 a10 a11 a15 a16 a17 a51 a52 a53 : IV) (h : H) : CRes :=
 obind (binN .lss a53 a52) fun x35 =>
 condK x35
 (obind (ixS 8 a51 a53) fun x36 =>
 obind (ldA 8 h x36) fun x37 =>
 obind2 (newI h z15) fun x38 h39 =>
 obindH (stA 8 h39 x38 x37) fun h40 =>
 obind (fadK 0 x38) fun x41 =>
 obind (ld0 h40 x41) fun x42 =>
 obind (unI .not x42) fun x43 =>
 condK x43
 (obind (fadK 1 x38) fun x44 =>
 obind (ldA 6 h40 x44) fun x45 =>
 callP (cf 94 [a0, x45, a2] h40) .pan fun x46 h47 =>
 R 5 [a0, a2, a10, a11, x38, a15, a16, a17, a51, a52, a53] h47)
 (R 5 [a0, a2, a10, a11, x38, a15, a16, a17, a51, a52, a53] h40))
 (obind (unI .not a11) fun x48 =>
 condK x48
 (obind (eqMp .eql a10 .nilMap) fun x49 =>
 condK x49
 (R 7 [a0, a2, a2, a15, a16, a17] h)
 (R 7 [a0, a2, a10, a15, a16, a17] h))
 (R 6 [a0, a10, a15, a16, a17] h))
theorem e76_3 {T : Tab} {a0 a2 a10 a11 a15 a16 a17 a51 a52 a53 : IV} {h : H} {r : CRes} (e : t76_3 (CL T) (J76 T) a0 a2 a10 a11 a15 a16 a17 a51 a52 a53 h = r) (hr : r ≠ .fail) : J76 T 3 [a0, a2, a10, a11, a15, a16, a17, a51, a52, a53] h = r := fj_step (fn := Try.f76) (js := js76) (by kernel_rfl) e hr
noncomputable def t76_5 (cf : CallF) (R : Rec) (a0 a2 a10 a11 a13 a15 a16 a17 a51 a52 a53 : IV) (h : H) : CRes :=
 spanK a11 false h (fun k50 =>
 obind (fadK 0 a13) fun x53 =>
 obind (ld0 h x53) fun x54 =>
 k50 x54 h) fun x51 h52 =>
 obind (pickI a11 (some (.bool true)) (some x51)) fun x55 =>
 obind (fadK 7 a13) fun x56 =>
 obind (ld0 h52 x56) fun x57 =>
 callP (cf 76 [a0, x57, a2] h52) .pan fun x58 h59 =>
 obind (eqMp .eql a10 .nilMap) fun x60 =>
 condK x60
 (R 4 [a0, a2, x58, x55, a15, a16, a17, a51, a52, a53] h59)
 (callP (cf 95 [a10, x58] h59) .pan fun x61 h62 =>
 R 4 [a0, a2, x61, x55, a15, a16, a17, a51, a52, a53] h62)
theorem e76_5 {T : Tab} {a0 a2 a10 a11 a13 a15 a16 a17 a51 a52 a53 : IV} {h : H} {r : CRes} (e : t76_5 (CL T) (J76 T) a0 a2 a10 a11 a13 a15 a16 a17 a51 a52 a53 h = r) (hr : r ≠ .fail) : J76 T 5 [a0, a2, a10, a11, a13, a15, a16, a17, a51, a52, a53] h = r := fj_step (fn := Try.f76) (js := js76) (by kernel_rfl) e hr
noncomputable def t76_6 (cf : CallF) (R : Rec) (a0 a10 a15 a16 a17 : IV) (h : H) : CRes :=
 R 2 [a0, a10, a15, a16, a17] h
theorem e76_6 {T : Tab} {a0 a10 a15 a16 a17 : IV} {h : H} {r : CRes} (e : t76_6 (CL T) (J76 T) a0 a10 a15 a16 a17 h = r) (hr : r ≠ .fail) : J76 T 6 [a0, a10, a15, a16, a17] h = r := fj_step (fn := Try.f76) (js := js76) (by kernel_rfl) e hr
noncomputable def t76_7 (cf : CallF) (R : Rec) (a0 a2 a10 a15 a16 a17 : IV) (h : H) : CRes :=
 callP (cf 95 [a10, a2] h) .pan fun x63 h64 =>
 R 6 [a0, x63, a15, a16, a17] h64
theorem e76_7 {T : Tab} {a0 a2 a10 a15 a16 a17 : IV} {h : H} {r : CRes} (e : t76_7 (CL T) (J76 T) a0 a2 a10 a15 a16 a17 h = r) (hr : r ≠ .fail) : J76 T 7 [a0, a2, a10, a15, a16, a17] h = r := fj_step (fn := Try.f76) (js := js76) (by kernel_rfl) e hr
noncomputable def t76_4 (cf : CallF) (R : Rec) (a0 a2 a10 a11 a15 a16 a17 a51 a52 a53 : IV) (h : H) : CRes :=
 obind (binN .add a53 (.int .i64 1)) fun x65 =>
 R 3 [a0, a2, a10, a11, a15, a16, a17, a51, a52, x65] h
theorem e76_4 {T : Tab} {a0 a2 a10 a11 a15 a16 a17 a51 a52 a53 : IV} {h : H} {r : CRes} (e : t76_4 (CL T) (J76 T) a0 a2 a10 a11 a15 a16 a17 a51 a52 a53 h = r) (hr : r ≠ .fail) : J76 T 4 [a0, a2, a10, a11, a15, a16, a17, a51, a52, a53] h = r := fj_step (fn := Try.f76) (js := js76) (by kernel_rfl) e hr
theorem c76 {T : Tab} (hT : OvStep T) (ho : T.ov 76 = none) (hp : T.pol 76 = true) {a0 a1 a2 : IV} {h : H} {r : CRes} (hg : Gd h) (e : t76_0 (CL T) (J76 T) a0 a1 a2 h = r) (hr : r ≠ .fail) : CL T 76 [a0, a1, a2] h = r := call_good ho Try.func76 rfl rfl rfl hp hg hT (e76_0 e hr) hr

-- silkworm/silkwormref02.four
def js84 : List Jn := [⟨[], [0]⟩, ⟨[1, 1, 1], [3]⟩]
noncomputable def J84 (T : Tab) : Rec := fj Try.prog (CL T) Try.f84 js84
noncomputable def t84_0 (cf : CallF) (R : Rec) (a0 : IV) (h : H) : CRes :=
 callP (cf 41 [a0] h) .pan fun x1 h2 =>
 condK x1
 (obind (binN .sub a0 (.int .u8 48)) fun x3 =>
 obind (cvN .i64 x3) fun x4 =>
 R 1 [x4] h2)
 (obind (binN .geq a0 (.int .u8 97)) fun x5 =>
 spanK x5 true h2 (fun k6 =>
 obind (binN .leq a0 (.int .u8 102)) fun x9 =>
 k6 x9 h2) fun x7 h8 =>
 obind (pickI x5 (some x7) (some (.bool false))) fun x10 =>
 condK x10
 (obind (binN .sub a0 (.int .u8 97)) fun x11 =>
 obind (cvN .i64 x11) fun x12 =>
 obind (binN .add x12 (.int .i64 10)) fun x13 =>
 R 1 [x13] h8)
 (obind (binN .geq a0 (.int .u8 65)) fun x14 =>
 spanK x14 true h8 (fun k15 =>
 obind (binN .leq a0 (.int .u8 70)) fun x18 =>
 k15 x18 h8) fun x16 h17 =>
 obind (pickI x14 (some x16) (some (.bool false))) fun x19 =>
 condK x19
 (obind (binN .sub a0 (.int .u8 65)) fun x20 =>
 obind (cvN .i64 x20) fun x21 =>
 obind (binN .add x21 (.int .i64 10)) fun x22 =>
 R 1 [x22] h17)
 (obind (binN .eql a0 (.int .u8 120)) fun x23 =>
 spanK x23 false h17 (fun k24 =>
 obind (binN .eql a0 (.int .u8 122)) fun x27 =>
 k24 x27 h17) fun x25 h26 =>
 obind (pickI x23 (some (.bool true)) (some x25)) fun x28 =>
 condK x28
 (obind2 (bslK true 1 [(.int .u8 0)] 4 [(0, a0), (1, a0), (2, a0), (3, a0)] h26) fun x29 h30 =>
 obind (cvS h30 x29) fun x31 =>
 .ok x31 h30)
 (R 1 [(.int .i64 (-1))] h26))))
theorem e84_0 {T : Tab} {a0 : IV} {h : H} {r : CRes} (e : t84_0 (CL T) (J84 T) a0 h = r) (hr : r ≠ .fail) : J84 T 0 [a0] h = r := fj_step (fn := Try.f84) (js := js84) (by kernel_rfl) e hr
noncomputable def t84_1 (cf : CallF) (R : Rec) (a3 : IV) (h : H) : CRes :=
 obind (binN .lss a3 (.int .i64 0)) fun x32 =>
 condK x32
 (.ok (.str ⟨0, 0⟩) h)
 (callP (cf 63 [a3, (.int .i64 4)] h) .pan fun x33 h34 =>
 .ok x33 h34)
theorem e84_1 {T : Tab} {a3 : IV} {h : H} {r : CRes} (e : t84_1 (CL T) (J84 T) a3 h = r) (hr : r ≠ .fail) : J84 T 1 [a3] h = r := fj_step (fn := Try.f84) (js := js84) (by kernel_rfl) e hr
theorem c84 {T : Tab} (hT : OvStep T) (ho : T.ov 84 = none) (hp : T.pol 84 = true) {a0 : IV} {h : H} {r : CRes} (hg : Gd h) (e : t84_0 (CL T) (J84 T) a0 h = r) (hr : r ≠ .fail) : CL T 84 [a0] h = r := call_good ho Try.func84 rfl rfl rfl hp hg hT (e84_0 e hr) hr

-- silkworm/silkwormref04.Reserved
def js85 : List Jn := [⟨[], [0]⟩, ⟨[0, 1, 0, 1, 1], [0, 3, 4]⟩]
noncomputable def J85 (T : Tab) : Rec := fj Try.prog (CL T) Try.f85 js85
noncomputable def t85_0 (cf : CallF) (R : Rec) (a0 : IV) (h : H) : CRes :=
 callP (cf 98 [] h) .pan fun x1 h2 =>
 R 1 [a0, x1, (.int .i64 0)] h2
theorem e85_0 {T : Tab} {a0 : IV} {h : H} {r : CRes} (e : t85_0 (CL T) (J85 T) a0 h = r) (hr : r ≠ .fail) : J85 T 0 [a0] h = r := fj_step (fn := Try.f85) (js := js85) (by kernel_rfl) e hr
noncomputable def t85_1 (cf : CallF) (R : Rec) (a0 a3 a4 : IV) (h : H) : CRes :=
 obind (lenS a3) fun x3 =>
 obind (binN .lss a4 x3) fun x4 =>
 condK x4
 (obind (ixS 1 a3 a4) fun x5 =>
 obind (ld0 h x5) fun x6 =>
 obind (binS .eql x6 a0) fun x7 =>
 condK x7
 (.ok (.bool true) h)
 (obind (binN .add a4 (.int .i64 1)) fun x8 =>
 R 1 [a0, a3, x8] h))
 (.ok (.bool false) h)
theorem e85_1 {T : Tab} {a0 a3 a4 : IV} {h : H} {r : CRes} (e : t85_1 (CL T) (J85 T) a0 a3 a4 h = r) (hr : r ≠ .fail) : J85 T 1 [a0, a3, a4] h = r := fj_step (fn := Try.f85) (js := js85) (by kernel_rfl) e hr
theorem c85 {T : Tab} (hT : OvStep T) (ho : T.ov 85 = none) (hp : T.pol 85 = true) {a0 : IV} {h : H} {r : CRes} (hg : Gd h) (e : t85_0 (CL T) (J85 T) a0 h = r) (hr : r ≠ .fail) : CL T 85 [a0] h = r := call_good ho Try.func85 rfl rfl rfl hp hg hT (e85_0 e hr) hr

-- (*silkworm/silkwormref04.reader).begins
def js86 : List Jn := [⟨[], [0]⟩]
noncomputable def J86 (T : Tab) : Rec := fj Try.prog (CL T) Try.f86 js86
noncomputable def t86_0 (cf : CallF) (R : Rec) (a0 : IV) (h : H) : CRes :=
 obind (nilI a0) fun x1 =>
 obind (fadK 0 x1) fun x2 =>
 obind (ld0 h x2) fun x3 =>
 obind (nilI a0) fun x4 =>
 obind (fadK 1 x4) fun x5 =>
 obind (ld0 h x5) fun x6 =>
 obind (ixS 3 x3 x6) fun x7 =>
 obind (ldA 3 h x7) fun x8 =>
 obind2 (newI h z1) fun x9 h10 =>
 obind (ldA 3 h10 x7) fun x11 =>
 bif IV.beq x11 x8 then
 obind (ld0 h10 x5) fun x12 =>
 bif IV.beq x12 x6 then
 obind (ld0 h10 x2) fun x13 =>
 bif IV.beq x13 x3 then
 obindH (stA 3 h10 x9 x8) fun h14 =>
 obind (fadK 0 x9) fun x15 =>
 obind (ld0 h14 x15) fun x16 =>
 obind (binN .eql x16 (.int .i64 3)) fun x17 =>
 condK x17
 (obind (fadK 1 x9) fun x18 =>
 obind (ld0 h14 x18) fun x19 =>
 callP (cf 99 [x19] h14) .pan fun x20 h21 =>
 obind (binN .gtr x20 (.int .i64 0)) fun x22 =>
 spanK x22 false h21 (fun k23 =>
 obind (fadK 1 x9) fun x26 =>
 obind (ld0 h21 x26) fun x27 =>
 obind (binS .eql x27 (.str ⟨1, 40⟩)) fun x28 =>
 k23 x28 h21) fun x24 h25 =>
 obind (pickI x22 (some (.bool true)) (some x24)) fun x29 =>
 spanK x29 false h25 (fun k30 =>
 obind (fadK 1 x9) fun x33 =>
 obind (ld0 h25 x33) fun x34 =>
 obind (binS .eql x34 (.str ⟨1, 123⟩)) fun x35 =>
 k30 x35 h25) fun x31 h32 =>
 obind (pickI x29 (some (.bool true)) (some x31)) fun x36 =>
 .ok x36 h32)
 (obind (fadK 0 x9) fun x37 =>
 obind (ld0 h14 x37) fun x38 =>
 obind (binN .eql x38 (.int .i64 2)) fun x39 =>
 spanK x39 false h14 (fun k40 =>
 callP (cf 68 [a0] h14) .pan fun x43 h44 =>
 k40 x43 h44) fun x41 h42 =>
 obind (pickI x39 (some (.bool true)) (some x41)) fun x45 =>
 .ok x45 h42)
 else .fail
 else .fail
 else .fail
theorem e86_0 {T : Tab} {a0 : IV} {h : H} {r : CRes} (e : t86_0 (CL T) (J86 T) a0 h = r) (hr : r ≠ .fail) : J86 T 0 [a0] h = r := fj_step (fn := Try.f86) (js := js86) (by kernel_rfl) e hr
theorem c86 {T : Tab} (hT : OvStep T) (ho : T.ov 86 = none) (hp : T.pol 86 = true) {a0 : IV} {h : H} {r : CRes} (hg : Gd h) (e : t86_0 (CL T) (J86 T) a0 h = r) (hr : r ≠ .fail) : CL T 86 [a0] h = r := call_good ho Try.func86 rfl rfl rfl hp hg hT (e86_0 e hr) hr

-- (*silkworm/silkwormref04.reader).binary
def js87 : List Jn := [⟨[], [0, 1, 2]⟩, ⟨[1, 1, 1, 1], [6, 7]⟩, ⟨[0, 0, 1, 1, 1], [0, 1, 2, 6, 7]⟩, ⟨[1, 0, 0, 0, 0, 1, 1, 1], [0, 1, 2, 6, 7, 37]⟩]
noncomputable def J87 (T : Tab) : Rec := fj Try.prog (CL T) Try.f87 js87
noncomputable def t87_0 (cf : CallF) (R : Rec) (a0 a1 a2 : IV) (h : H) : CRes :=
 obind2 (newI h z11) fun x1 h2 =>
 obind (binN .gtr a1 (.int .i64 9)) fun x3 =>
 condK x3
 (callP (cf 100 [a0, a2] h2) .pan fun x4 h5 =>
 obindH (stA 6 h5 x1 x4) fun h6 =>
 obind (ldA 6 h6 x1) fun x7 =>
 .ok x7 h6)
 (obind (binN .add a1 (.int .i64 1)) fun x8 =>
 callP (cf 87 [a0, x8, a2] h2) .pan fun x9 h10 =>
 obind2 (newI h10 z11) fun x11 h12 =>
 obindH (stA 6 h12 x11 x9) fun h13 =>
 R 2 [a0, a1, a2, x1, x11] h13)
theorem e87_0 {T : Tab} {a0 a1 a2 : IV} {h : H} {r : CRes} (e : t87_0 (CL T) (J87 T) a0 a1 a2 h = r) (hr : r ≠ .fail) : J87 T 0 [a0, a1, a2] h = r := fj_step (fn := Try.f87) (js := js87) (by kernel_rfl) e hr
noncomputable def t87_2 (cf : CallF) (R : Rec) (a0 a1 a2 a6 a7 : IV) (h : H) : CRes :=
 callP (cf 31 [a0] h) (fun v14 h15 =>
 .pan v14 h15) fun x16 h17 =>
 guardK x16 (obind (nilI a0) fun x18 =>
 obind (fadK 0 x18) fun x19 =>
 obind (ld0 h17 x19) fun x20 =>
 obind (nilI a0) fun x21 =>
 obind (fadK 1 x21) fun x22 =>
 obind (ld0 h17 x22) fun x23 =>
 obind (ixS 3 x20 x23) fun x24 =>
 obind (fadK 0 x24) fun x25 =>
 obind (ld0 h17 x25) fun x26 =>
 obind (binN .eql x26 (.int .i64 3)) fun x27 =>
 obind (pickI (.bool true) (some x27) (some (.bool false))) fun x28 =>
 R 3 [a0, a1, a2, a6, a7, x28] h17)
 (obind (pickI (.bool false) (some (.tup [])) (some (.bool false))) fun x29 =>
 R 3 [a0, a1, a2, a6, a7, x29] h17)
 (obind (pickI (.tup []) (some (.tup [])) (some (.bool false))) fun x30 =>
 R 3 [a0, a1, a2, a6, a7, x30] h17)
theorem e87_2 {T : Tab} {a0 a1 a2 a6 a7 : IV} {h : H} {r : CRes} (e : t87_2 (CL T) (J87 T) a0 a1 a2 a6 a7 h = r) (hr : r ≠ .fail) : J87 T 2 [a0, a1, a2, a6, a7] h = r := fj_step (fn := Try.f87) (js := js87) (by kernel_rfl) e hr
noncomputable def t87_3 (cf : CallF) (R : Rec) (a0 a1 a2 a6 a7 a37 : IV) (h : H) : CRes :=
 condK a37
 (obind (nilI a0) fun x31 =>
 obind (fadK 0 x31) fun x32 =>
 obind (ld0 h x32) fun x33 =>
 obind (nilI a0) fun x34 =>
 obind (fadK 1 x34) fun x35 =>
 obind (ld0 h x35) fun x36 =>
 obind (ixS 3 x33 x36) fun x37 =>
 obind (fadK 1 x37) fun x38 =>
 obind (ld0 h x38) fun x39 =>
 callP (cf 101 [x39] h) (fun v40 h41 =>
 .pan v40 h41) fun x42 h43 =>
 obind (extractI x42 0) fun x44 =>
 obind (extractI x42 1) fun x45 =>
 obind (binN .neq x44 a1) fun x46 =>
 condK x46
 (R 1 [a6, a7] h43)
 (callP (cf 44 [a0] h43) .pan fun x47 h48 =>
 obind (nilI a0) fun x49 =>
 obind (fadK 1 x49) fun x50 =>
 obind (ld0 h48 x50) fun x51 =>
 obind (binN .add x51 (.int .i64 1)) fun x52 =>
 obind (nilI a0) fun x53 =>
 obind (fadK 1 x53) fun x54 =>
 obindH (stA 1 h48 x54 x52) fun h55 =>
 obind (binN .add a1 (.int .i64 1)) fun x56 =>
 callP (cf 87 [a0, x56, a2] h55) .pan fun x57 h58 =>
 obind2 (newI h58 z11) fun x59 h60 =>
 obindH (stA 6 h60 x59 x57) fun h61 =>
 obind (ldA 6 h61 a7) fun x62 =>
 obind (ldA 6 h61 x59) fun x63 =>
 obind2 (bslK false 6 z11 2 [(0, x62), (1, x63)] h61) fun x64 h65 =>
 obind (bldK z11 p12 [(0, x45), (4, x64), (5, x47)]) fun x66 =>
 obindH (stA 6 h65 a7 x66) fun h67 =>
 R 2 [a0, a1, a2, a6, a7] h67))
 (R 1 [a6, a7] h)
theorem e87_3 {T : Tab} {a0 a1 a2 a6 a7 a37 : IV} {h : H} {r : CRes} (e : t87_3 (CL T) (J87 T) a0 a1 a2 a6 a7 a37 h = r) (hr : r ≠ .fail) : J87 T 3 [a0, a1, a2, a6, a7, a37] h = r := fj_step (fn := Try.f87) (js := js87) (by kernel_rfl) e hr
noncomputable def t87_1 (cf : CallF) (R : Rec) (a6 a7 : IV) (h : H) : CRes :=
 obind (ldA 6 h a7) fun x68 =>
 obindH (stA 6 h a6 x68) fun h69 =>
 obind (ldA 6 h69 a6) fun x70 =>
 .ok x70 h69
theorem e87_1 {T : Tab} {a6 a7 : IV} {h : H} {r : CRes} (e : t87_1 (CL T) (J87 T) a6 a7 h = r) (hr : r ≠ .fail) : J87 T 1 [a6, a7] h = r := fj_step (fn := Try.f87) (js := js87) (by kernel_rfl) e hr
theorem c87 {T : Tab} (hT : OvStep T) (ho : T.ov 87 = none) (hp : T.pol 87 = true) {a0 a1 a2 : IV} {h : H} {r : CRes} (hg : Gd h) (e : t87_0 (CL T) (J87 T) a0 a1 a2 h = r) (hr : r ≠ .fail) : CL T 87 [a0, a1, a2] h = r := call_good ho Try.func87 rfl rfl rfl hp hg hT (e87_0 e hr) hr

-- (*silkworm/silkwormref04.reader).starts
def js88 : List Jn := [⟨[], [0]⟩]
noncomputable def J88 (T : Tab) : Rec := fj Try.prog (CL T) Try.f88 js88
noncomputable def t88_0 (cf : CallF) (R : Rec) (a0 : IV) (h : H) : CRes :=
 callP (cf 68 [a0] h) .pan fun x1 h2 =>
 spanK x1 false h2 (fun k3 =>
 callP (cf 69 [a0, (.str ⟨4, 1701996919⟩)] h2) .pan fun x6 h7 =>
 k3 x6 h7) fun x4 h5 =>
 obind (pickI x1 (some (.bool true)) (some x4)) fun x8 =>
 spanK x8 false h5 (fun k9 =>
 callP (cf 69 [a0, (.str ⟨3, 6776178⟩)] h5) .pan fun x12 h13 =>
 k9 x12 h13) fun x10 h11 =>
 obind (pickI x8 (some (.bool true)) (some x10)) fun x14 =>
 spanK x14 false h11 (fun k15 =>
 callP (cf 69 [a0, (.str ⟨10, 516535522800345012203372⟩)] h11) .pan fun x18 h19 =>
 k15 x18 h19) fun x16 h17 =>
 obind (pickI x14 (some (.bool true)) (some x16)) fun x20 =>
 spanK x20 false h17 (fun k21 =>
 callP (cf 69 [a0, (.str ⟨6, 121390429860705⟩)] h17) .pan fun x24 h25 =>
 k21 x24 h25) fun x22 h23 =>
 obind (pickI x20 (some (.bool true)) (some x22)) fun x26 =>
 spanK x26 false h23 (fun k27 =>
 callP (cf 69 [a0, (.str ⟨6, 126965163453537⟩)] h23) .pan fun x30 h31 =>
 k27 x30 h31) fun x28 h29 =>
 obind (pickI x26 (some (.bool true)) (some x28)) fun x32 =>
 spanK x32 false h29 (fun k33 =>
 callP (cf 69 [a0, (.str ⟨3, 7499622⟩)] h29) .pan fun x36 h37 =>
 k33 x36 h37) fun x34 h35 =>
 obind (pickI x32 (some (.bool true)) (some x34)) fun x38 =>
 .ok x38 h35
theorem e88_0 {T : Tab} {a0 : IV} {h : H} {r : CRes} (e : t88_0 (CL T) (J88 T) a0 h = r) (hr : r ≠ .fail) : J88 T 0 [a0] h = r := fj_step (fn := Try.f88) (js := js88) (by kernel_rfl) e hr
theorem c88 {T : Tab} (hT : OvStep T) (ho : T.ov 88 = none) (hp : T.pol 88 = true) {a0 : IV} {h : H} {r : CRes} (hg : Gd h) (e : t88_0 (CL T) (J88 T) a0 h = r) (hr : r ≠ .fail) : CL T 88 [a0] h = r := call_good ho Try.func88 rfl rfl rfl hp hg hT (e88_0 e hr) hr

-- (*silkworm/silkwormref04.reader).declared
def js89 : List Jn := [⟨[], [0, 1, 2]⟩, ⟨[0, 0, 1, 1, 1, 1], [0, 4, 6]⟩]
noncomputable def J89 (T : Tab) : Rec := fj Try.prog (CL T) Try.f89 js89
noncomputable def t89_0 (cf : CallF) (R : Rec) (a0 a1 a2 : IV) (h : H) : CRes :=
 obind2 (newI h (IV.cells a1)) fun x1 h2 =>
 obind2 (newI h2 z8) fun x3 h4 =>
 obind (fadK 0 x1) fun x5 =>
 obindH (stA 1 h4 x5 a2) fun h6 =>
 callP (cf 71 [a0] h6) .pan fun x7 h8 =>
 obind (extractI x7 0) fun x9 =>
 obind (extractI x7 1) fun x10 =>
 obind (extractI x7 2) fun x11 =>
 obind (fadK 3 x1) fun x12 =>
 obindH (stA 1 h8 x12 x9) fun h13 =>
 obind (fadK 4 x1) fun x14 =>
 obindH (stA 6 h13 x14 x10) fun h15 =>
 obind (fadK 10 x1) fun x16 =>
 obindH (stA 6 h15 x16 x11) fun h17 =>
 callP (cf 46 [a0] h17) .pan fun x18 h19 =>
 obind2 (bslK false 1 [(.str ⟨0, 0⟩)] 1 [(0, x18)] h19) fun x20 h21 =>
 obind (fadK 2 x1) fun x22 =>
 obindH (stA 1 h21 x22 x20) fun h23 =>
 R 1 [a0, x1, x3] h23
theorem e89_0 {T : Tab} {a0 a1 a2 : IV} {h : H} {r : CRes} (e : t89_0 (CL T) (J89 T) a0 a1 a2 h = r) (hr : r ≠ .fail) : J89 T 0 [a0, a1, a2] h = r := fj_step (fn := Try.f89) (js := js89) (by kernel_rfl) e hr
noncomputable def t89_1 (cf : CallF) (R : Rec) (a0 a4 a6 : IV) (h : H) : CRes :=
 callP (cf 47 [a0, (.str ⟨1, 44⟩)] h) .pan fun x24 h25 =>
 condK x24
 (obind (fadK 2 a4) fun x26 =>
 obind (ld0 h25 x26) fun x27 =>
 callP (cf 46 [a0] h25) (fun v28 h29 =>
 .pan v28 h29) fun x30 h31 =>
 obind (ld0 h31 x26) fun x32 =>
 bif IV.beq x32 x27 then
 obind2 (bslK false 1 [(.str ⟨0, 0⟩)] 1 [(0, x30)] h31) fun x33 h34 =>
 obind (ld0 h34 x26) fun x35 =>
 bif IV.beq x35 x27 then
 obind2 (appK 1 16 h34 x27 x33) fun x36 h37 =>
 obind (fadK 2 a4) fun x38 =>
 obindH (stA 1 h37 x38 x36) fun h39 =>
 R 1 [a0, a4, a6] h39
 else .fail
 else .fail)
 (callP (cf 45 [a0, (.str ⟨1, 59⟩)] h25) .pan fun x40 h41 =>
 obind (ldA 48 h41 a4) fun x42 =>
 obindH (stA 48 h41 a6 x42) fun h43 =>
 obind (ldA 48 h43 a6) fun x44 =>
 .ok x44 h43)
theorem e89_1 {T : Tab} {a0 a4 a6 : IV} {h : H} {r : CRes} (e : t89_1 (CL T) (J89 T) a0 a4 a6 h = r) (hr : r ≠ .fail) : J89 T 1 [a0, a4, a6] h = r := fj_step (fn := Try.f89) (js := js89) (by kernel_rfl) e hr
theorem c89 {T : Tab} (hT : OvStep T) (ho : T.ov 89 = none) (hp : T.pol 89 = true) {a0 a1 a2 : IV} {h : H} {r : CRes} (hg : Gd h) (e : t89_0 (CL T) (J89 T) a0 a1 a2 h = r) (hr : r ≠ .fail) : CL T 89 [a0, a1, a2] h = r := call_good ho Try.func89 rfl rfl rfl hp hg hT (e89_0 e hr) hr

-- (*silkworm/silkwormref04.reader).assign
def js90 : List Jn := [⟨[], [0, 1]⟩, ⟨[1, 1, 1], [0, 3, 4]⟩, ⟨[1, 1, 0, 1, 0, 1, 1], [0, 3, 4, 29]⟩]
noncomputable def J90 (T : Tab) : Rec := fj Try.prog (CL T) Try.f90 js90
noncomputable def t90_0 (cf : CallF) (R : Rec) (a0 a1 : IV) (h : H) : CRes :=
 obind2 (newI h (IV.cells a1)) fun x1 h2 =>
 obind2 (newI h2 z8) fun x3 h4 =>
 obind (fadK 0 x1) fun x5 =>
 obindH (stA 1 h4 x5 (.int .i64 4)) fun h6 =>
 callP (cf 47 [a0, (.str ⟨1, 35⟩)] h6) .pan fun x7 h8 =>
 condK x7
 (obind (fadK 16 x1) fun x9 =>
 obindH (stA 1 h8 x9 (.bool true)) fun h10 =>
 callP (cf 31 [a0] h10) (fun v11 h12 =>
 .pan v11 h12) fun x13 h14 =>
 guardK x13 (callP (cf 86 [a0] h14) (fun v15 h16 =>
 .pan v15 h16) fun x17 h18 =>
 obind (pickI (.bool true) (some x17) (some (.bool false))) fun x19 =>
 guardK x19 (obind (nilI a0) fun x20 =>
 obind (fadK 0 x20) fun x21 =>
 obind (ld0 h18 x21) fun x22 =>
 obind (nilI a0) fun x23 =>
 obind (fadK 1 x23) fun x24 =>
 obind (ld0 h18 x24) fun x25 =>
 obind (ixS 3 x22 x25) fun x26 =>
 obind (fadK 1 x26) fun x27 =>
 obind (ld0 h18 x27) fun x28 =>
 callP (cf 99 [x28] h18) (fun v29 h30 =>
 .pan v29 h30) fun x31 h32 =>
 obind (binN .eql x31 (.int .i64 0)) fun x33 =>
 obind (pickI (.bool true) (some x33) (some (.bool false))) fun x34 =>
 R 2 [a0, x1, x3, x34] h32)
 (obind (pickI (.bool false) (some (.tup [])) (some (.bool false))) fun x35 =>
 R 2 [a0, x1, x3, x35] h18)
 (obind (pickI (.tup []) (some (.tup [])) (some (.bool false))) fun x36 =>
 R 2 [a0, x1, x3, x36] h18))
 (obind (pickI (.bool false) (some (.tup [])) (some (.bool false))) fun x37 =>
 guardK x37 (obind (nilI a0) fun x38 =>
 obind (fadK 0 x38) fun x39 =>
 obind (ld0 h14 x39) fun x40 =>
 obind (nilI a0) fun x41 =>
 obind (fadK 1 x41) fun x42 =>
 obind (ld0 h14 x42) fun x43 =>
 obind (ixS 3 x40 x43) fun x44 =>
 obind (fadK 1 x44) fun x45 =>
 obind (ld0 h14 x45) fun x46 =>
 callP (cf 99 [x46] h14) (fun v47 h48 =>
 .pan v47 h48) fun x49 h50 =>
 obind (binN .eql x49 (.int .i64 0)) fun x51 =>
 obind (pickI (.bool true) (some x51) (some (.bool false))) fun x52 =>
 R 2 [a0, x1, x3, x52] h50)
 (obind (pickI (.bool false) (some (.tup [])) (some (.bool false))) fun x53 =>
 R 2 [a0, x1, x3, x53] h14)
 (obind (pickI (.tup []) (some (.tup [])) (some (.bool false))) fun x54 =>
 R 2 [a0, x1, x3, x54] h14))
 (obind (pickI (.tup []) (some (.tup [])) (some (.bool false))) fun x55 =>
 guardK x55 (obind (nilI a0) fun x56 =>
 obind (fadK 0 x56) fun x57 =>
 obind (ld0 h14 x57) fun x58 =>
 obind (nilI a0) fun x59 =>
 obind (fadK 1 x59) fun x60 =>
 obind (ld0 h14 x60) fun x61 =>
 obind (ixS 3 x58 x61) fun x62 =>
 obind (fadK 1 x62) fun x63 =>
 obind (ld0 h14 x63) fun x64 =>
 callP (cf 99 [x64] h14) (fun v65 h66 =>
 .pan v65 h66) fun x67 h68 =>
 obind (binN .eql x67 (.int .i64 0)) fun x69 =>
 obind (pickI (.bool true) (some x69) (some (.bool false))) fun x70 =>
 R 2 [a0, x1, x3, x70] h68)
 (obind (pickI (.bool false) (some (.tup [])) (some (.bool false))) fun x71 =>
 R 2 [a0, x1, x3, x71] h14)
 (obind (pickI (.tup []) (some (.tup [])) (some (.bool false))) fun x72 =>
 R 2 [a0, x1, x3, x72] h14)))
 (R 1 [a0, x1, x3] h8)
theorem e90_0 {T : Tab} {a0 a1 : IV} {h : H} {r : CRes} (e : t90_0 (CL T) (J90 T) a0 a1 h = r) (hr : r ≠ .fail) : J90 T 0 [a0, a1] h = r := fj_step (fn := Try.f90) (js := js90) (by kernel_rfl) e hr
noncomputable def t90_1 (cf : CallF) (R : Rec) (a0 a3 a4 : IV) (h : H) : CRes :=
 callP (cf 46 [a0] h) .pan fun x73 h74 =>
 obind (fadK 1 a3) fun x75 =>
 obindH (stA 1 h74 x75 x73) fun h76 =>
 callP (cf 45 [a0, (.str ⟨1, 61⟩)] h76) .pan fun x77 h78 =>
 callP (cf 70 [a0, (.int .i64 1)] h78) .pan fun x79 h80 =>
 obind (fadK 23 a3) fun x81 =>
 obindH (stA 6 h80 x81 x79) fun h82 =>
 callP (cf 45 [a0, (.str ⟨1, 59⟩)] h82) .pan fun x83 h84 =>
 obind (ldA 48 h84 a3) fun x85 =>
 obindH (stA 48 h84 a4 x85) fun h86 =>
 obind (ldA 48 h86 a4) fun x87 =>
 .ok x87 h86
theorem e90_1 {T : Tab} {a0 a3 a4 : IV} {h : H} {r : CRes} (e : t90_1 (CL T) (J90 T) a0 a3 a4 h = r) (hr : r ≠ .fail) : J90 T 1 [a0, a3, a4] h = r := fj_step (fn := Try.f90) (js := js90) (by kernel_rfl) e hr
noncomputable def t90_2 (cf : CallF) (R : Rec) (a0 a3 a4 a29 : IV) (h : H) : CRes :=
 condK a29
 (callP (cf 102 [a0, (.int .i64 1)] h) .pan fun x88 h89 =>
 obind (fadK 17 a3) fun x90 =>
 obindH (stA 6 h89 x90 x88) fun h91 =>
 R 1 [a0, a3, a4] h91)
 (callP (cf 67 [a0, (.int .i64 40)] h) .pan fun x92 h93 =>
 R 1 [a0, a3, a4] h93)
theorem e90_2 {T : Tab} {a0 a3 a4 a29 : IV} {h : H} {r : CRes} (e : t90_2 (CL T) (J90 T) a0 a3 a4 a29 h = r) (hr : r ≠ .fail) : J90 T 2 [a0, a3, a4, a29] h = r := fj_step (fn := Try.f90) (js := js90) (by kernel_rfl) e hr
theorem c90 {T : Tab} (hT : OvStep T) (ho : T.ov 90 = none) (hp : T.pol 90 = true) {a0 a1 : IV} {h : H} {r : CRes} (hg : Gd h) (e : t90_0 (CL T) (J90 T) a0 a1 h = r) (hr : r ≠ .fail) : CL T 90 [a0, a1] h = r := call_good ho Try.func90 rfl rfl rfl hp hg hT (e90_0 e hr) hr

-- (*silkworm/silkwormref04.reader).always
def js91 : List Jn := [⟨[], [0, 1]⟩, ⟨[1, 1, 1, 1, 1], [0, 3, 4]⟩]
noncomputable def J91 (T : Tab) : Rec := fj Try.prog (CL T) Try.f91 js91
noncomputable def t91_0 (cf : CallF) (R : Rec) (a0 a1 : IV) (h : H) : CRes :=
 obind2 (newI h (IV.cells a1)) fun x1 h2 =>
 obind2 (newI h2 z8) fun x3 h4 =>
 callP (cf 45 [a0, (.str ⟨1, 64⟩)] h4) .pan fun x5 h6 =>
 callP (cf 45 [a0, (.str ⟨1, 40⟩)] h6) .pan fun x7 h8 =>
 obind (fadK 0 x1) fun x9 =>
 obindH (stA 1 h8 x9 (.int .i64 5)) fun h10 =>
 callP (cf 47 [a0, (.str ⟨1, 42⟩)] h10) .pan fun x11 h12 =>
 obind (unI .not x11) fun x13 =>
 condK x13
 (callP (cf 45 [a0, (.str ⟨7, 28542653544230768⟩)] h12) .pan fun x14 h15 =>
 obind (fadK 0 x1) fun x16 =>
 obindH (stA 1 h15 x16 (.int .i64 6)) fun h17 =>
 callP (cf 46 [a0] h17) .pan fun x18 h19 =>
 obind (fadK 1 x1) fun x20 =>
 obindH (stA 1 h19 x20 x18) fun h21 =>
 R 1 [a0, x1, x3] h21)
 (R 1 [a0, x1, x3] h12)
theorem e91_0 {T : Tab} {a0 a1 : IV} {h : H} {r : CRes} (e : t91_0 (CL T) (J91 T) a0 a1 h = r) (hr : r ≠ .fail) : J91 T 0 [a0, a1] h = r := fj_step (fn := Try.f91) (js := js91) (by kernel_rfl) e hr
noncomputable def t91_1 (cf : CallF) (R : Rec) (a0 a3 a4 : IV) (h : H) : CRes :=
 callP (cf 45 [a0, (.str ⟨1, 41⟩)] h) .pan fun x22 h23 =>
 callP (cf 103 [a0, (.int .i64 1)] h23) .pan fun x24 h25 =>
 obind (fadK 45 a3) fun x26 =>
 obindH (stA 1 h25 x26 x24) fun h27 =>
 obind (ldA 48 h27 a3) fun x28 =>
 obindH (stA 48 h27 a4 x28) fun h29 =>
 obind (ldA 48 h29 a4) fun x30 =>
 .ok x30 h29
theorem e91_1 {T : Tab} {a0 a3 a4 : IV} {h : H} {r : CRes} (e : t91_1 (CL T) (J91 T) a0 a3 a4 h = r) (hr : r ≠ .fail) : J91 T 1 [a0, a3, a4] h = r := fj_step (fn := Try.f91) (js := js91) (by kernel_rfl) e hr
theorem c91 {T : Tab} (hT : OvStep T) (ho : T.ov 91 = none) (hp : T.pol 91 = true) {a0 a1 : IV} {h : H} {r : CRes} (hg : Gd h) (e : t91_0 (CL T) (J91 T) a0 a1 h = r) (hr : r ≠ .fail) : CL T 91 [a0, a1] h = r := call_good ho Try.func91 rfl rfl rfl hp hg hT (e91_0 e hr) hr

-- (*silkworm/silkwormref04.reader).loop
def js92 : List Jn := [⟨[], [0, 1, 2]⟩, ⟨[1, 1, 1, 1, 1, 1, 1, 1, 1, 1], [0, 2, 4, 6]⟩, ⟨[1, 0, 1, 1, 1, 1, 1, 1, 1, 1, 1], [0, 2, 4, 6, 47]⟩]
noncomputable def J92 (T : Tab) : Rec := fj Try.prog (CL T) Try.f92 js92
noncomputable def t92_0 (cf : CallF) (R : Rec) (a0 a1 a2 : IV) (h : H) : CRes :=
 obind2 (newI h (IV.cells a1)) fun x1 h2 =>
 obind2 (newI h2 z8) fun x3 h4 =>
 obind (fadK 0 x1) fun x5 =>
 obindH (stA 1 h4 x5 (.int .i64 8)) fun h6 =>
 callP (cf 45 [a0, (.str ⟨1, 40⟩)] h6) .pan fun x7 h8 =>
 callP (cf 46 [a0] h8) .pan fun x9 h10 =>
 obind (fadK 41 x1) fun x11 =>
 obindH (stA 1 h10 x11 x9) fun h12 =>
 callP (cf 45 [a0, (.str ⟨1, 61⟩)] h12) .pan fun x13 h14 =>
 callP (cf 70 [a0, (.int .i64 1)] h14) .pan fun x15 h16 =>
 obind (fadK 23 x1) fun x17 =>
 obindH (stA 6 h16 x17 x15) fun h18 =>
 callP (cf 45 [a0, (.str ⟨1, 59⟩)] h18) .pan fun x19 h20 =>
 callP (cf 70 [a0, (.int .i64 1)] h20) .pan fun x21 h22 =>
 obind (fadK 29 x1) fun x23 =>
 obindH (stA 6 h22 x23 x21) fun h24 =>
 callP (cf 45 [a0, (.str ⟨1, 59⟩)] h24) .pan fun x25 h26 =>
 callP (cf 31 [a0] h26) (fun v27 h28 =>
 .pan v27 h28) fun x29 h30 =>
 guardK x29 (callP (cf 68 [a0] h30) (fun v31 h32 =>
 .pan v31 h32) fun x33 h34 =>
 obind (unI .not x33) fun x35 =>
 guardK x35 (obind (pickI (.bool true) (some (.bool true)) (some (.tup []))) fun x36 =>
 obind (pickI (.bool true) (some x36) (some (.bool false))) fun x37 =>
 R 2 [a0, a2, x1, x3, x37] h34)
 (obind (nilI a0) fun x38 =>
 obind (fadK 0 x38) fun x39 =>
 obind (ld0 h34 x39) fun x40 =>
 obind (nilI a0) fun x41 =>
 obind (fadK 1 x41) fun x42 =>
 obind (ld0 h34 x42) fun x43 =>
 obind (ixS 3 x40 x43) fun x44 =>
 obind (fadK 1 x44) fun x45 =>
 obind (ld0 h34 x45) fun x46 =>
 obind (fadK 41 x1) fun x47 =>
 obind (ld0 h34 x47) fun x48 =>
 obind (binS .neq x46 x48) fun x49 =>
 obind (pickI (.bool false) (some (.bool true)) (some x49)) fun x50 =>
 obind (pickI (.bool true) (some x50) (some (.bool false))) fun x51 =>
 R 2 [a0, a2, x1, x3, x51] h34)
 (obind (pickI (.tup []) (some (.bool true)) (some (.tup []))) fun x52 =>
 obind (pickI (.bool true) (some x52) (some (.bool false))) fun x53 =>
 R 2 [a0, a2, x1, x3, x53] h34))
 (obind (pickI (.bool false) (some (.tup [])) (some (.bool false))) fun x54 =>
 R 2 [a0, a2, x1, x3, x54] h30)
 (obind (pickI (.tup []) (some (.tup [])) (some (.bool false))) fun x55 =>
 R 2 [a0, a2, x1, x3, x55] h30)
theorem e92_0 {T : Tab} {a0 a1 a2 : IV} {h : H} {r : CRes} (e : t92_0 (CL T) (J92 T) a0 a1 a2 h = r) (hr : r ≠ .fail) : J92 T 0 [a0, a1, a2] h = r := fj_step (fn := Try.f92) (js := js92) (by kernel_rfl) e hr
noncomputable def t92_2 (cf : CallF) (R : Rec) (a0 a2 a4 a6 a47 : IV) (h : H) : CRes :=
 condK a47
 (callP (cf 67 [a0, (.int .i64 40)] h) .pan fun x56 h57 =>
 R 1 [a0, a2, a4, a6] h57)
 (R 1 [a0, a2, a4, a6] h)
theorem e92_2 {T : Tab} {a0 a2 a4 a6 a47 : IV} {h : H} {r : CRes} (e : t92_2 (CL T) (J92 T) a0 a2 a4 a6 a47 h = r) (hr : r ≠ .fail) : J92 T 2 [a0, a2, a4, a6, a47] h = r := fj_step (fn := Try.f92) (js := js92) (by kernel_rfl) e hr
noncomputable def t92_1 (cf : CallF) (R : Rec) (a0 a2 a4 a6 : IV) (h : H) : CRes :=
 callP (cf 46 [a0] h) .pan fun x58 h59 =>
 callP (cf 45 [a0, (.str ⟨1, 61⟩)] h59) .pan fun x60 h61 =>
 callP (cf 70 [a0, (.int .i64 1)] h61) .pan fun x62 h63 =>
 obind (fadK 35 a4) fun x64 =>
 obindH (stA 6 h63 x64 x62) fun h65 =>
 callP (cf 45 [a0, (.str ⟨1, 41⟩)] h65) .pan fun x66 h67 =>
 callP (cf 45 [a0, (.str ⟨5, 474214786402⟩)] h67) .pan fun x68 h69 =>
 callP (cf 45 [a0, (.str ⟨1, 58⟩)] h69) .pan fun x70 h71 =>
 callP (cf 46 [a0] h71) .pan fun x72 h73 =>
 obind (fadK 1 a4) fun x74 =>
 obindH (stA 1 h73 x74 x72) fun h75 =>
 obind (binN .add a2 (.int .i64 1)) fun x76 =>
 callP (cf 50 [a0, (.str ⟨3, 6581861⟩), x76] h75) .pan fun x77 h78 =>
 obind (fadK 46 a4) fun x79 =>
 obindH (stA 1 h78 x79 x77) fun h80 =>
 obind (ldA 48 h80 a4) fun x81 =>
 obindH (stA 48 h80 a6 x81) fun h82 =>
 obind (ldA 48 h82 a6) fun x83 =>
 .ok x83 h82
theorem e92_1 {T : Tab} {a0 a2 a4 a6 : IV} {h : H} {r : CRes} (e : t92_1 (CL T) (J92 T) a0 a2 a4 a6 h = r) (hr : r ≠ .fail) : J92 T 1 [a0, a2, a4, a6] h = r := fj_step (fn := Try.f92) (js := js92) (by kernel_rfl) e hr
theorem c92 {T : Tab} (hT : OvStep T) (ho : T.ov 92 = none) (hp : T.pol 92 = true) {a0 a1 a2 : IV} {h : H} {r : CRes} (hg : Gd h) (e : t92_0 (CL T) (J92 T) a0 a1 a2 h = r) (hr : r ≠ .fail) : CL T 92 [a0, a1, a2] h = r := call_good ho Try.func92 rfl rfl rfl hp hg hT (e92_0 e hr) hr

-- (*silkworm/silkwormref04.reader).binds
def js93 : List Jn := [⟨[], [0, 1]⟩, ⟨[1, 1, 1, 1], [0, 5]⟩, ⟨[0, 0, 1, 1, 1], [0, 5]⟩]
noncomputable def J93 (T : Tab) : Rec := fj Try.prog (CL T) Try.f93 js93
noncomputable def t93_0 (cf : CallF) (R : Rec) (a0 a1 : IV) (h : H) : CRes :=
 obind (unI .not a1) fun x1 =>
 spanK x1 true h (fun k2 =>
 callP (cf 47 [a0, (.str ⟨1, 41⟩)] h) .pan fun x5 h6 =>
 k2 x5 h6) fun x3 h4 =>
 obind (pickI x1 (some x3) (some (.bool false))) fun x7 =>
 condK x7
 (.ok .nilSlice h4)
 (R 2 [a0, .nilSlice] h4)
theorem e93_0 {T : Tab} {a0 a1 : IV} {h : H} {r : CRes} (e : t93_0 (CL T) (J93 T) a0 a1 h = r) (hr : r ≠ .fail) : J93 T 0 [a0, a1] h = r := fj_step (fn := Try.f93) (js := js93) (by kernel_rfl) e hr
noncomputable def t93_2 (cf : CallF) (R : Rec) (a0 a5 : IV) (h : H) : CRes :=
 callP (cf 31 [a0] h) .pan fun x8 h9 =>
 condK x8
 (callP (cf 44 [a0] h9) .pan fun x10 h11 =>
 obind (bldK z5 p9 [(2, x10)]) fun x12 =>
 obind2 (newI h11 z5) fun x13 h14 =>
 obindH (stA 8 h14 x13 x12) fun h15 =>
 callP (cf 45 [a0, (.str ⟨1, 46⟩)] h15) .pan fun x16 h17 =>
 callP (cf 46 [a0] h17) .pan fun x18 h19 =>
 obind (fadK 0 x13) fun x20 =>
 obindH (stA 1 h19 x20 x18) fun h21 =>
 callP (cf 45 [a0, (.str ⟨1, 40⟩)] h21) .pan fun x22 h23 =>
 callP (cf 70 [a0, (.int .i64 1)] h23) .pan fun x24 h25 =>
 obind (fadK 1 x13) fun x26 =>
 obindH (stA 6 h25 x26 x24) fun h27 =>
 callP (cf 45 [a0, (.str ⟨1, 41⟩)] h27) .pan fun x28 h29 =>
 obind (ldA 8 h29 x13) fun x30 =>
 obind2 (bslK false 8 z5 1 [(0, x30)] h29) fun x31 h32 =>
 obind2 (appK 8 104 h32 a5 x31) fun x33 h34 =>
 callP (cf 47 [a0, (.str ⟨1, 44⟩)] h34) .pan fun x35 h36 =>
 obind (unI .not x35) fun x37 =>
 condK x37
 (R 1 [a0, x33] h36)
 (R 2 [a0, x33] h36))
 (R 1 [a0, a5] h9)
theorem e93_2 {T : Tab} {a0 a5 : IV} {h : H} {r : CRes} (e : t93_2 (CL T) (J93 T) a0 a5 h = r) (hr : r ≠ .fail) : J93 T 2 [a0, a5] h = r := fj_step (fn := Try.f93) (js := js93) (by kernel_rfl) e hr
noncomputable def t93_1 (cf : CallF) (R : Rec) (a0 a5 : IV) (h : H) : CRes :=
 callP (cf 45 [a0, (.str ⟨1, 41⟩)] h) .pan fun x38 h39 =>
 .ok a5 h39
theorem e93_1 {T : Tab} {a0 a5 : IV} {h : H} {r : CRes} (e : t93_1 (CL T) (J93 T) a0 a5 h = r) (hr : r ≠ .fail) : J93 T 1 [a0, a5] h = r := fj_step (fn := Try.f93) (js := js93) (by kernel_rfl) e hr
theorem c93 {T : Tab} (hT : OvStep T) (ho : T.ov 93 = none) (hp : T.pol 93 = true) {a0 a1 : IV} {h : H} {r : CRes} (hg : Gd h) (e : t93_0 (CL T) (J93 T) a0 a1 h = r) (hr : r ≠ .fail) : CL T 93 [a0, a1] h = r := call_good ho Try.func93 rfl rfl rfl hp hg hT (e93_0 e hr) hr

-- (*silkworm/sema.targets).reads
def js94 : List Jn := [⟨[], [0, 1, 2]⟩, ⟨[1, 1], [0, 2, 4]⟩, ⟨[1, 0, 1], [0, 2, 4, 26]⟩, ⟨[0, 1, 0, 1, 1, 1], [0, 2, 34, 35, 36]⟩]
noncomputable def J94 (T : Tab) : Rec := fj Try.prog (CL T) Try.f94 js94
noncomputable def t94_0 (cf : CallF) (R : Rec) (a0 a1 a2 : IV) (h : H) : CRes :=
 obind2 (newI h (IV.cells a1)) fun x1 h2 =>
 obind (ldA 6 h2 x1) fun x3 =>
 callP (cf 74 [x3] h2) (fun v4 h5 =>
 .pan v4 h5) fun x6 h7 =>
 guardK x6 (obind (nilI a0) fun x8 =>
 obind (fadK 0 x8) fun x9 =>
 obind (ld0 h7 x9) fun x10 =>
 obind (fadK 1 x1) fun x11 =>
 obind (ld0 h7 x11) fun x12 =>
 obind (lkK true .nilPtr h7 x10 x12 false) fun x13 =>
 obind (eqP .neq h7 x13 .nilPtr) fun x14 =>
 obind (pickI (.bool true) (some x14) (some (.bool false))) fun x15 =>
 guardK x15 (obind (fadK 1 x1) fun x16 =>
 obind (ld0 h7 x16) fun x17 =>
 obind (lkK true (.bool false) h7 a2 x17 false) fun x18 =>
 obind (unI .not x18) fun x19 =>
 obind (pickI (.bool true) (some x19) (some (.bool false))) fun x20 =>
 R 2 [a0, a2, x1, x20] h7)
 (obind (pickI (.bool false) (some (.tup [])) (some (.bool false))) fun x21 =>
 R 2 [a0, a2, x1, x21] h7)
 (obind (pickI (.tup []) (some (.tup [])) (some (.bool false))) fun x22 =>
 R 2 [a0, a2, x1, x22] h7))
 (obind (pickI (.bool false) (some (.tup [])) (some (.bool false))) fun x23 =>
 guardK x23 (obind (fadK 1 x1) fun x24 =>
 obind (ld0 h7 x24) fun x25 =>
 obind (lkK true (.bool false) h7 a2 x25 false) fun x26 =>
 obind (unI .not x26) fun x27 =>
 obind (pickI (.bool true) (some x27) (some (.bool false))) fun x28 =>
 R 2 [a0, a2, x1, x28] h7)
 (obind (pickI (.bool false) (some (.tup [])) (some (.bool false))) fun x29 =>
 R 2 [a0, a2, x1, x29] h7)
 (obind (pickI (.tup []) (some (.tup [])) (some (.bool false))) fun x30 =>
 R 2 [a0, a2, x1, x30] h7))
 (obind (pickI (.tup []) (some (.tup [])) (some (.bool false))) fun x31 =>
 guardK x31 (obind (fadK 1 x1) fun x32 =>
 obind (ld0 h7 x32) fun x33 =>
 obind (lkK true (.bool false) h7 a2 x33 false) fun x34 =>
 obind (unI .not x34) fun x35 =>
 obind (pickI (.bool true) (some x35) (some (.bool false))) fun x36 =>
 R 2 [a0, a2, x1, x36] h7)
 (obind (pickI (.bool false) (some (.tup [])) (some (.bool false))) fun x37 =>
 R 2 [a0, a2, x1, x37] h7)
 (obind (pickI (.tup []) (some (.tup [])) (some (.bool false))) fun x38 =>
 R 2 [a0, a2, x1, x38] h7))
theorem e94_0 {T : Tab} {a0 a1 a2 : IV} {h : H} {r : CRes} (e : t94_0 (CL T) (J94 T) a0 a1 a2 h = r) (hr : r ≠ .fail) : J94 T 0 [a0, a1, a2] h = r := fj_step (fn := Try.f94) (js := js94) (by kernel_rfl) e hr
noncomputable def t94_2 (cf : CallF) (R : Rec) (a0 a2 a4 a26 : IV) (h : H) : CRes :=
 condK a26
 (obind (fadK 5 a4) fun x39 =>
 obind (ld0 h x39) fun x40 =>
 callP (cf 17 [x40, (.int .i64 75)] h) .pan fun x41 h42 =>
 R 1 [a0, a2, a4] h42)
 (R 1 [a0, a2, a4] h)
theorem e94_2 {T : Tab} {a0 a2 a4 a26 : IV} {h : H} {r : CRes} (e : t94_2 (CL T) (J94 T) a0 a2 a4 a26 h = r) (hr : r ≠ .fail) : J94 T 2 [a0, a2, a4, a26] h = r := fj_step (fn := Try.f94) (js := js94) (by kernel_rfl) e hr
noncomputable def t94_1 (cf : CallF) (R : Rec) (a0 a2 a4 : IV) (h : H) : CRes :=
 obind (fadK 0 a4) fun x43 =>
 obind (ld0 h x43) fun x44 =>
 obind (binN .neq x44 (.int .i64 4)) fun x45 =>
 condK x45
 (obind (fadK 4 a4) fun x46 =>
 obind (ld0 h x46) fun x47 =>
 obind (lenS x47) fun x48 =>
 R 3 [a0, a2, x47, x48, (.int .i64 0)] h)
 (.ok (.tup []) h)
theorem e94_1 {T : Tab} {a0 a2 a4 : IV} {h : H} {r : CRes} (e : t94_1 (CL T) (J94 T) a0 a2 a4 h = r) (hr : r ≠ .fail) : J94 T 1 [a0, a2, a4] h = r := fj_step (fn := Try.f94) (js := js94) (by kernel_rfl) e hr
noncomputable def t94_3 (cf : CallF) (R : Rec) (a0 a2 a34 a35 a36 : IV) (h : H) : CRes :=
 obind (binN .lss a36 a35) fun x49 =>
 condK x49
 (obind (ixS 6 a34 a36) fun x50 =>
 obind (ldA 6 h x50) fun x51 =>
 obind2 (newI h z11) fun x52 h53 =>
 obindH (stA 6 h53 x52 x51) fun h54 =>
 obind (ldA 6 h54 x52) fun x55 =>
 callP (cf 94 [a0, x55, a2] h54) .pan fun x56 h57 =>
 obind (binN .add a36 (.int .i64 1)) fun x58 =>
 R 3 [a0, a2, a34, a35, x58] h57)
 (.ok (.tup []) h)
theorem e94_3 {T : Tab} {a0 a2 a34 a35 a36 : IV} {h : H} {r : CRes} (e : t94_3 (CL T) (J94 T) a0 a2 a34 a35 a36 h = r) (hr : r ≠ .fail) : J94 T 3 [a0, a2, a34, a35, a36] h = r := fj_step (fn := Try.f94) (js := js94) (by kernel_rfl) e hr
theorem c94 {T : Tab} (hT : OvStep T) (ho : T.ov 94 = none) (hp : T.pol 94 = true) {a0 a1 a2 : IV} {h : H} {r : CRes} (hg : Gd h) (e : t94_0 (CL T) (J94 T) a0 a1 a2 h = r) (hr : r ≠ .fail) : CL T 94 [a0, a1, a2] h = r := call_good ho Try.func94 rfl rfl rfl hp hg hT (e94_0 e hr) hr

-- silkworm/sema.both
def js95 : List Jn := [⟨[], [0, 1]⟩, ⟨[0, 1, 0, 1, 1], [1, 5, 9]⟩]
noncomputable def J95 (T : Tab) : Rec := fj Try.prog (CL T) Try.f95 js95
noncomputable def t95_0 (cf : CallF) (R : Rec) (a0 a1 : IV) (h : H) : CRes :=
 mapK h fun x2 h1 =>
 obind2 (rngM h1 a0) fun x3 h4 =>
 R 1 [a1, x2, x3] h4
theorem e95_0 {T : Tab} {a0 a1 : IV} {h : H} {r : CRes} (e : t95_0 (CL T) (J95 T) a0 a1 h = r) (hr : r ≠ .fail) : J95 T 0 [a0, a1] h = r := fj_step (fn := Try.f95) (js := js95) (by kernel_rfl) e hr
noncomputable def t95_1 (cf : CallF) (R : Rec) (a1 a5 a9 : IV) (h : H) : CRes :=
 obind2 (nextI h a9 false) fun x5 h6 =>
 obind (extractI x5 0) fun x7 =>
 condK x7
 (obind (entryI h6 a9) fun x8 =>
 obind (extractI x8 0) fun x9 =>
 obind (lkK true (.bool false) h6 a1 x9 false) fun x10 =>
 condK x10
 (obindH (mupK true h6 a5 x9 (.bool true)) fun h11 =>
 R 1 [a1, a5, a9] h11)
 (R 1 [a1, a5, a9] h6))
 (.ok a5 h6)
theorem e95_1 {T : Tab} {a1 a5 a9 : IV} {h : H} {r : CRes} (e : t95_1 (CL T) (J95 T) a1 a5 a9 h = r) (hr : r ≠ .fail) : J95 T 1 [a1, a5, a9] h = r := fj_step (fn := Try.f95) (js := js95) (by kernel_rfl) e hr
theorem c95 {T : Tab} (hT : OvStep T) (ho : T.ov 95 = none) (hp : T.pol 95 = true) {a0 a1 : IV} {h : H} {r : CRes} (hg : Gd h) (e : t95_0 (CL T) (J95 T) a0 a1 h = r) (hr : r ≠ .fail) : CL T 95 [a0, a1] h = r := call_good ho Try.func95 rfl rfl rfl hp hg hT (e95_0 e hr) hr

-- silkworm/silkwormref04.Words
def js98 : List Jn := [⟨[], []⟩]
noncomputable def J98 (T : Tab) : Rec := fj Try.prog (CL T) Try.f98 js98
noncomputable def t98_0 (cf : CallF) (R : Rec) (h : H) : CRes :=
 obind2 (bslK false 1 [(.str ⟨0, 0⟩)] 19 [(0, (.str ⟨6, 111516500389741⟩)), (1, (.str ⟨9, 1870936414602775522917⟩)), (2, (.str ⟨5, 500186508905⟩)), (3, (.str ⟨6, 128047746676079⟩)), (4, (.str ⟨3, 6776178⟩)), (5, (.str ⟨4, 1701996919⟩)), (6, (.str ⟨9, 2110239404018478768496⟩)), (7, (.str ⟨10, 516535522800345012203372⟩)), (8, (.str ⟨6, 121390429860705⟩)), (9, (.str ⟨6, 126965163453537⟩)), (10, (.str ⟨7, 28542653544230768⟩)), (11, (.str ⟨5, 474214786402⟩)), (12, (.str ⟨3, 6581861⟩)), (13, (.str ⟨2, 26217⟩)), (14, (.str ⟨4, 1702063205⟩)), (15, (.str ⟨4, 1702060387⟩)), (16, (.str ⟨7, 28555834764324453⟩)), (17, (.str ⟨7, 32770348699510116⟩)), (18, (.str ⟨3, 7499622⟩))] h) fun x1 h2 =>
 .ok x1 h2
theorem e98_0 {T : Tab} {h : H} {r : CRes} (e : t98_0 (CL T) (J98 T) h = r) (hr : r ≠ .fail) : J98 T 0 [] h = r := fj_step (fn := Try.f98) (js := js98) (by kernel_rfl) e hr
theorem c98 {T : Tab} (hT : OvStep T) (ho : T.ov 98 = none) (hp : T.pol 98 = true) {h : H} {r : CRes} (hg : Gd h) (e : t98_0 (CL T) (J98 T) h = r) (hr : r ≠ .fail) : CL T 98 [] h = r := call_good ho Try.func98 rfl rfl rfl hp hg hT (e98_0 e hr) hr

-- silkworm/silkwormref04.unary
def js99 : List Jn := [⟨[], [0]⟩, ⟨[0, 1, 0, 1, 1], [0, 3, 4]⟩]
noncomputable def J99 (T : Tab) : Rec := fj Try.prog (CL T) Try.f99 js99
noncomputable def t99_0 (cf : CallF) (R : Rec) (a0 : IV) (h : H) : CRes :=
 obind2 (bslK false 1 [(.str ⟨0, 0⟩)] 6 [(0, (.str ⟨1, 126⟩)), (1, (.str ⟨1, 33⟩)), (2, (.str ⟨1, 45⟩)), (3, (.str ⟨1, 38⟩)), (4, (.str ⟨1, 124⟩)), (5, (.str ⟨1, 94⟩))] h) fun x1 h2 =>
 R 1 [a0, x1, (.int .i64 0)] h2
theorem e99_0 {T : Tab} {a0 : IV} {h : H} {r : CRes} (e : t99_0 (CL T) (J99 T) a0 h = r) (hr : r ≠ .fail) : J99 T 0 [a0] h = r := fj_step (fn := Try.f99) (js := js99) (by kernel_rfl) e hr
noncomputable def t99_1 (cf : CallF) (R : Rec) (a0 a3 a4 : IV) (h : H) : CRes :=
 obind (lenS a3) fun x3 =>
 obind (binN .lss a4 x3) fun x4 =>
 condK x4
 (obind (ixS 1 a3 a4) fun x5 =>
 obind (ld0 h x5) fun x6 =>
 obind (binS .eql x6 a0) fun x7 =>
 condK x7
 (obind (binN .add (.int .i64 7) a4) fun x8 =>
 .ok x8 h)
 (obind (binN .add a4 (.int .i64 1)) fun x9 =>
 R 1 [a0, a3, x9] h))
 (.ok (.int .i64 0) h)
theorem e99_1 {T : Tab} {a0 a3 a4 : IV} {h : H} {r : CRes} (e : t99_1 (CL T) (J99 T) a0 a3 a4 h = r) (hr : r ≠ .fail) : J99 T 1 [a0, a3, a4] h = r := fj_step (fn := Try.f99) (js := js99) (by kernel_rfl) e hr
theorem c99 {T : Tab} (hT : OvStep T) (ho : T.ov 99 = none) (hp : T.pol 99 = true) {a0 : IV} {h : H} {r : CRes} (hg : Gd h) (e : t99_0 (CL T) (J99 T) a0 h = r) (hr : r ≠ .fail) : CL T 99 [a0] h = r := call_good ho Try.func99 rfl rfl rfl hp hg hT (e99_0 e hr) hr

-- (*silkworm/silkwormref04.reader).unary
def js100 : List Jn := [⟨[], [0, 1]⟩, ⟨[1, 1], [0, 1, 4]⟩]
noncomputable def J100 (T : Tab) : Rec := fj Try.prog (CL T) Try.f100 js100
noncomputable def t100_0 (cf : CallF) (R : Rec) (a0 a1 : IV) (h : H) : CRes :=
 obind2 (newI h z11) fun x1 h2 =>
 callP (cf 31 [a0] h2) .pan fun x3 h4 =>
 spanK x3 true h4 (fun k5 =>
 callP (cf 86 [a0] h4) .pan fun x8 h9 =>
 obind (unI .not x8) fun x10 =>
 k5 x10 h9) fun x6 h7 =>
 obind (pickI x3 (some x6) (some (.bool false))) fun x11 =>
 condK x11
 (callP (cf 67 [a0, (.int .i64 40)] h7) .pan fun x12 h13 =>
 R 1 [a0, a1, x1] h13)
 (R 1 [a0, a1, x1] h7)
theorem e100_0 {T : Tab} {a0 a1 : IV} {h : H} {r : CRes} (e : t100_0 (CL T) (J100 T) a0 a1 h = r) (hr : r ≠ .fail) : J100 T 0 [a0, a1] h = r := fj_step (fn := Try.f100) (js := js100) (by kernel_rfl) e hr
noncomputable def t100_1 (cf : CallF) (R : Rec) (a0 a1 a4 : IV) (h : H) : CRes :=
 callP (cf 31 [a0] h) .pan fun x14 h15 =>
 obind (unI .not x14) fun x16 =>
 condK x16
 (obind (bldK z11 p12 []) fun x17 =>
 obindH (stA 6 h15 a4 x17) fun h18 =>
 obind (ldA 6 h18 a4) fun x19 =>
 .ok x19 h18)
 (obind (nilI a0) fun x20 =>
 obind (fadK 0 x20) fun x21 =>
 obind (ld0 h15 x21) fun x22 =>
 obind (nilI a0) fun x23 =>
 obind (fadK 1 x23) fun x24 =>
 obind (ld0 h15 x24) fun x25 =>
 obind (ixS 3 x22 x25) fun x26 =>
 obind (ldA 3 h15 x26) fun x27 =>
 obind2 (newI h15 z1) fun x28 h29 =>
 obind (ldA 3 h29 x26) fun x30 =>
 bif IV.beq x30 x27 then
 obind (ld0 h29 x24) fun x31 =>
 bif IV.beq x31 x25 then
 obind (ld0 h29 x21) fun x32 =>
 bif IV.beq x32 x22 then
 obindH (stA 3 h29 x28 x27) fun h33 =>
 obind (fadK 1 x28) fun x34 =>
 obind (ld0 h33 x34) fun x35 =>
 callP (cf 99 [x35] h33) .pan fun x36 h37 =>
 obind (fadK 0 x28) fun x38 =>
 obind (ld0 h37 x38) fun x39 =>
 obind (binN .eql x39 (.int .i64 3)) fun x40 =>
 spanK x40 true h37 (fun k41 =>
 obind (binN .gtr x36 (.int .i64 0)) fun x44 =>
 k41 x44 h37) fun x42 h43 =>
 obind (pickI x40 (some x42) (some (.bool false))) fun x45 =>
 condK x45
 (obind (nilI a0) fun x46 =>
 obind (fadK 1 x46) fun x47 =>
 obind (ld0 h43 x47) fun x48 =>
 obind (binN .add x48 (.int .i64 1)) fun x49 =>
 obind (nilI a0) fun x50 =>
 obind (fadK 1 x50) fun x51 =>
 obindH (stA 1 h43 x51 x49) fun h52 =>
 obind (binN .add a1 (.int .i64 1)) fun x53 =>
 callP (cf 104 [a0, x53] h52) (fun v54 h55 =>
 obind (fadK 2 x28) fun x56 =>
 obind (ld0 h52 x56) fun x57 =>
 .pan v54 h55) fun x58 h59 =>
 obind2 (bslK false 6 z11 1 [(0, x58)] h59) fun x60 h61 =>
 obind (fadK 2 x28) fun x62 =>
 obind (ld0 h61 x62) fun x63 =>
 obind (ld0 h52 x62) fun x64 =>
 bif IV.beq x64 x63 then
 obind (ld0 h59 x62) fun x65 =>
 bif IV.beq x65 x63 then
 obind (bldK z11 p12 [(0, x36), (4, x60), (5, x63)]) fun x66 =>
 obindH (stA 6 h61 a4 x66) fun h67 =>
 obind (ldA 6 h67 a4) fun x68 =>
 .ok x68 h67
 else .fail
 else .fail)
 (callP (cf 102 [a0, a1] h43) .pan fun x69 h70 =>
 obindH (stA 6 h70 a4 x69) fun h71 =>
 obind (ldA 6 h71 a4) fun x72 =>
 .ok x72 h71)
 else .fail
 else .fail
 else .fail)
theorem e100_1 {T : Tab} {a0 a1 a4 : IV} {h : H} {r : CRes} (e : t100_1 (CL T) (J100 T) a0 a1 a4 h = r) (hr : r ≠ .fail) : J100 T 1 [a0, a1, a4] h = r := fj_step (fn := Try.f100) (js := js100) (by kernel_rfl) e hr
theorem c100 {T : Tab} (hT : OvStep T) (ho : T.ov 100 = none) (hp : T.pol 100 = true) {a0 a1 : IV} {h : H} {r : CRes} (hg : Gd h) (e : t100_0 (CL T) (J100 T) a0 a1 h = r) (hr : r ≠ .fail) : CL T 100 [a0, a1] h = r := call_good ho Try.func100 rfl rfl rfl hp hg hT (e100_0 e hr) hr

-- silkworm/silkwormref04.level
def js101 : List Jn := [⟨[], [0]⟩, ⟨[0, 1, 0, 1, 1, 1, 1], [0, 4, 5, 6, 7]⟩]
noncomputable def J101 (T : Tab) : Rec := fj Try.prog (CL T) Try.f101 js101
noncomputable def t101_0 (cf : CallF) (R : Rec) (a0 : IV) (h : H) : CRes :=
 obind2 (bslK false 1 [(.str ⟨0, 0⟩)] 15 [(0, (.str ⟨2, 31868⟩)), (1, (.str ⟨2, 9766⟩)), (2, (.str ⟨1, 124⟩)), (3, (.str ⟨1, 94⟩)), (4, (.str ⟨1, 38⟩)), (5, (.str ⟨2, 15677⟩)), (6, (.str ⟨2, 15649⟩)), (7, (.str ⟨1, 60⟩)), (8, (.str ⟨2, 15676⟩)), (9, (.str ⟨1, 62⟩)), (10, (.str ⟨2, 15678⟩)), (11, (.str ⟨2, 15420⟩)), (12, (.str ⟨2, 15934⟩)), (13, (.str ⟨1, 43⟩)), (14, (.str ⟨1, 45⟩))] h) fun x1 h2 =>
 obind2 (bslK true 1 [(.int .i64 0)] 15 [(0, (.int .i64 1)), (1, (.int .i64 2)), (2, (.int .i64 3)), (3, (.int .i64 4)), (4, (.int .i64 5)), (5, (.int .i64 6)), (6, (.int .i64 6)), (7, (.int .i64 7)), (8, (.int .i64 7)), (9, (.int .i64 7)), (10, (.int .i64 7)), (11, (.int .i64 8)), (12, (.int .i64 8)), (13, (.int .i64 9)), (14, (.int .i64 9))] h2) fun x3 h4 =>
 obind2 (bslK true 1 [(.int .i64 0)] 15 [(0, (.int .i64 27)), (1, (.int .i64 26)), (2, (.int .i64 25)), (3, (.int .i64 24)), (4, (.int .i64 23)), (5, (.int .i64 21)), (6, (.int .i64 22)), (7, (.int .i64 17)), (8, (.int .i64 18)), (9, (.int .i64 19)), (10, (.int .i64 20)), (11, (.int .i64 15)), (12, (.int .i64 16)), (13, (.int .i64 13)), (14, (.int .i64 14))] h4) fun x5 h6 =>
 R 1 [a0, x1, x3, x5, (.int .i64 0)] h6
theorem e101_0 {T : Tab} {a0 : IV} {h : H} {r : CRes} (e : t101_0 (CL T) (J101 T) a0 h = r) (hr : r ≠ .fail) : J101 T 0 [a0] h = r := fj_step (fn := Try.f101) (js := js101) (by kernel_rfl) e hr
noncomputable def t101_1 (cf : CallF) (R : Rec) (a0 a4 a5 a6 a7 : IV) (h : H) : CRes :=
 obind (lenS a4) fun x7 =>
 obind (binN .lss a7 x7) fun x8 =>
 condK x8
 (obind (ixS 1 a4 a7) fun x9 =>
 obind (ld0 h x9) fun x10 =>
 obind (binS .eql x10 a0) fun x11 =>
 condK x11
 (obind (ixS 1 a5 a7) fun x12 =>
 obind (ld0 h x12) fun x13 =>
 obind (ixS 1 a6 a7) fun x14 =>
 obind (ld0 h x14) fun x15 =>
 .ok (.tup [x13, x15]) h)
 (obind (binN .add a7 (.int .i64 1)) fun x16 =>
 R 1 [a0, a4, a5, a6, x16] h))
 (.ok (.tup [(.int .i64 0), (.int .i64 0)]) h)
theorem e101_1 {T : Tab} {a0 a4 a5 a6 a7 : IV} {h : H} {r : CRes} (e : t101_1 (CL T) (J101 T) a0 a4 a5 a6 a7 h = r) (hr : r ≠ .fail) : J101 T 1 [a0, a4, a5, a6, a7] h = r := fj_step (fn := Try.f101) (js := js101) (by kernel_rfl) e hr
theorem c101 {T : Tab} (hT : OvStep T) (ho : T.ov 101 = none) (hp : T.pol 101 = true) {a0 : IV} {h : H} {r : CRes} (hg : Gd h) (e : t101_0 (CL T) (J101 T) a0 h = r) (hr : r ≠ .fail) : CL T 101 [a0] h = r := call_good ho Try.func101 rfl rfl rfl hp hg hT (e101_0 e hr) hr

-- (*silkworm/silkwormref04.reader).primary
def js102 : List Jn := [⟨[], [0, 1]⟩, ⟨[0, 0, 1, 0, 1, 0, 1, 1, 1, 1], [0, 1, 4, 10]⟩, ⟨[1, 1, 1, 1, 1, 1, 1, 1, 1, 1], [0, 4, 11]⟩]
noncomputable def J102 (T : Tab) : Rec := fj Try.prog (CL T) Try.f102 js102
noncomputable def t102_0 (cf : CallF) (R : Rec) (a0 a1 : IV) (h : H) : CRes :=
 obind2 (newI h z11) fun x1 h2 =>
 obind (nilI a0) fun x3 =>
 obind (fadK 0 x3) fun x4 =>
 obind (ld0 h2 x4) fun x5 =>
 obind (nilI a0) fun x6 =>
 obind (fadK 1 x6) fun x7 =>
 obind (ld0 h2 x7) fun x8 =>
 obind (ixS 3 x5 x8) fun x9 =>
 obind (ldA 3 h2 x9) fun x10 =>
 obind2 (newI h2 z1) fun x11 h12 =>
 obind (ldA 3 h12 x9) fun x13 =>
 bif IV.beq x13 x10 then
 obind (ld0 h12 x7) fun x14 =>
 bif IV.beq x14 x8 then
 obind (ld0 h12 x4) fun x15 =>
 bif IV.beq x15 x5 then
 obindH (stA 3 h12 x11 x10) fun h16 =>
 obind (fadK 0 x11) fun x17 =>
 obind (ld0 h16 x17) fun x18 =>
 obind (binN .eql x18 (.int .i64 2)) fun x19 =>
 condK x19
 (obind (nilI a0) fun x20 =>
 obind (fadK 1 x20) fun x21 =>
 obind (ld0 h16 x21) fun x22 =>
 obind (binN .add x22 (.int .i64 1)) fun x23 =>
 obind (nilI a0) fun x24 =>
 obind (fadK 1 x24) fun x25 =>
 obindH (stA 1 h16 x25 x23) fun h26 =>
 obind (fadK 1 x11) fun x27 =>
 obind (ld0 h26 x27) fun x28 =>
 callP (cf 42 [x28] h26) .pan fun x29 h30 =>
 obind (extractI x29 0) fun x31 =>
 obind (extractI x29 1) fun x32 =>
 obind (extractI x29 2) fun x33 =>
 obind (fadK 2 x11) fun x34 =>
 obind (ld0 h30 x34) fun x35 =>
 obind (bldK z11 p12 [(0, (.int .i64 1)), (2, x31), (3, x32), (5, x35)]) fun x36 =>
 obindH (stA 6 h30 x1 x36) fun h37 =>
 obind (ldA 6 h37 x1) fun x38 =>
 .ok x38 h37)
 (callP (cf 47 [a0, (.str ⟨1, 40⟩)] h16) .pan fun x39 h40 =>
 condK x39
 (obind (binN .add a1 (.int .i64 1)) fun x41 =>
 callP (cf 70 [a0, x41] h40) .pan fun x42 h43 =>
 obind2 (newI h43 z11) fun x44 h45 =>
 obindH (stA 6 h45 x44 x42) fun h46 =>
 callP (cf 45 [a0, (.str ⟨1, 41⟩)] h46) .pan fun x47 h48 =>
 obind (ldA 6 h48 x44) fun x49 =>
 obindH (stA 6 h48 x1 x49) fun h50 =>
 obind (ldA 6 h50 x1) fun x51 =>
 .ok x51 h50)
 (callP (cf 47 [a0, (.str ⟨1, 123⟩)] h40) .pan fun x52 h53 =>
 condK x52
 (obind (binN .add a1 (.int .i64 1)) fun x54 =>
 callP (cf 70 [a0, x54] h53) (fun v55 h56 =>
 obind (fadK 2 x11) fun x57 =>
 obind (ld0 h53 x57) fun x58 =>
 .pan v55 h56) fun x59 h60 =>
 obind2 (bslK false 6 z11 1 [(0, x59)] h60) fun x61 h62 =>
 obind (fadK 2 x11) fun x63 =>
 obind (ld0 h62 x63) fun x64 =>
 obind (ld0 h53 x63) fun x65 =>
 bif IV.beq x65 x64 then
 obind (ld0 h60 x63) fun x66 =>
 bif IV.beq x66 x64 then
 obind (bldK z11 p12 [(0, (.int .i64 5)), (4, x61), (5, x64)]) fun x67 =>
 obind2 (newI h62 z11) fun x68 h69 =>
 obind (ld0 h69 x63) fun x70 =>
 bif IV.beq x70 x64 then
 obindH (stA 6 h69 x68 x67) fun h71 =>
 R 1 [a0, a1, x1, x68] h71
 else .fail
 else .fail
 else .fail)
 (callP (cf 46 [a0] h53) (fun v72 h73 =>
 obind (fadK 2 x11) fun x74 =>
 obind (ld0 h53 x74) fun x75 =>
 .pan v72 h73) fun x76 h77 =>
 obind (fadK 2 x11) fun x78 =>
 obind (ld0 h77 x78) fun x79 =>
 obind (ld0 h53 x78) fun x80 =>
 bif IV.beq x80 x79 then
 obind (bldK z11 p12 [(0, (.int .i64 2)), (1, x76), (5, x79)]) fun x81 =>
 obind2 (newI h77 z11) fun x82 h83 =>
 obind (ld0 h83 x78) fun x84 =>
 bif IV.beq x84 x79 then
 obindH (stA 6 h83 x82 x81) fun h85 =>
 callP (cf 47 [a0, (.str ⟨1, 91⟩)] h85) .pan fun x86 h87 =>
 obind (unI .not x86) fun x88 =>
 condK x88
 (obind (ldA 6 h87 x82) fun x89 =>
 obindH (stA 6 h87 x1 x89) fun h90 =>
 obind (ldA 6 h90 x1) fun x91 =>
 .ok x91 h90)
 (obind (fadK 0 x82) fun x92 =>
 obindH (stA 1 h87 x92 (.int .i64 3)) fun h93 =>
 obind (binN .add a1 (.int .i64 1)) fun x94 =>
 callP (cf 70 [a0, x94] h93) .pan fun x95 h96 =>
 obind2 (bslK false 6 z11 1 [(0, x95)] h96) fun x97 h98 =>
 obind (fadK 4 x82) fun x99 =>
 obindH (stA 1 h98 x99 x97) fun h100 =>
 callP (cf 47 [a0, (.str ⟨1, 58⟩)] h100) .pan fun x101 h102 =>
 condK x101
 (obind (fadK 0 x82) fun x103 =>
 obindH (stA 1 h102 x103 (.int .i64 4)) fun h104 =>
 obind (fadK 4 x82) fun x105 =>
 obind (ld0 h104 x105) fun x106 =>
 obind (binN .add a1 (.int .i64 1)) fun x107 =>
 callP (cf 70 [a0, x107] h104) (fun v108 h109 =>
 .pan v108 h109) fun x110 h111 =>
 obind (ld0 h111 x105) fun x112 =>
 bif IV.beq x112 x106 then
 obind2 (bslK false 6 z11 1 [(0, x110)] h111) fun x113 h114 =>
 obind (ld0 h114 x105) fun x115 =>
 bif IV.beq x115 x106 then
 obind2 (appK 6 80 h114 x106 x113) fun x116 h117 =>
 obind (fadK 4 x82) fun x118 =>
 obindH (stA 1 h117 x118 x116) fun h119 =>
 R 2 [a0, x1, x82] h119
 else .fail
 else .fail)
 (R 2 [a0, x1, x82] h102))
 else .fail
 else .fail)))
 else .fail
 else .fail
 else .fail
theorem e102_0 {T : Tab} {a0 a1 : IV} {h : H} {r : CRes} (e : t102_0 (CL T) (J102 T) a0 a1 h = r) (hr : r ≠ .fail) : J102 T 0 [a0, a1] h = r := fj_step (fn := Try.f102) (js := js102) (by kernel_rfl) e hr
noncomputable def t102_1 (cf : CallF) (R : Rec) (a0 a1 a4 a10 : IV) (h : H) : CRes :=
 callP (cf 47 [a0, (.str ⟨1, 44⟩)] h) .pan fun x120 h121 =>
 condK x120
 (obind (fadK 4 a10) fun x122 =>
 obind (ld0 h121 x122) fun x123 =>
 obind (binN .add a1 (.int .i64 1)) fun x124 =>
 callP (cf 70 [a0, x124] h121) (fun v125 h126 =>
 .pan v125 h126) fun x127 h128 =>
 obind (ld0 h128 x122) fun x129 =>
 bif IV.beq x129 x123 then
 obind2 (bslK false 6 z11 1 [(0, x127)] h128) fun x130 h131 =>
 obind (ld0 h131 x122) fun x132 =>
 bif IV.beq x132 x123 then
 obind2 (appK 6 80 h131 x123 x130) fun x133 h134 =>
 obind (fadK 4 a10) fun x135 =>
 obindH (stA 1 h134 x135 x133) fun h136 =>
 R 1 [a0, a1, a4, a10] h136
 else .fail
 else .fail)
 (callP (cf 45 [a0, (.str ⟨1, 125⟩)] h121) .pan fun x137 h138 =>
 obind (ldA 6 h138 a10) fun x139 =>
 obindH (stA 6 h138 a4 x139) fun h140 =>
 obind (ldA 6 h140 a4) fun x141 =>
 .ok x141 h140)
theorem e102_1 {T : Tab} {a0 a1 a4 a10 : IV} {h : H} {r : CRes} (e : t102_1 (CL T) (J102 T) a0 a1 a4 a10 h = r) (hr : r ≠ .fail) : J102 T 1 [a0, a1, a4, a10] h = r := fj_step (fn := Try.f102) (js := js102) (by kernel_rfl) e hr
noncomputable def t102_2 (cf : CallF) (R : Rec) (a0 a4 a11 : IV) (h : H) : CRes :=
 callP (cf 45 [a0, (.str ⟨1, 93⟩)] h) .pan fun x142 h143 =>
 obind (ldA 6 h143 a11) fun x144 =>
 obindH (stA 6 h143 a4 x144) fun h145 =>
 obind (ldA 6 h145 a4) fun x146 =>
 .ok x146 h145
theorem e102_2 {T : Tab} {a0 a4 a11 : IV} {h : H} {r : CRes} (e : t102_2 (CL T) (J102 T) a0 a4 a11 h = r) (hr : r ≠ .fail) : J102 T 2 [a0, a4, a11] h = r := fj_step (fn := Try.f102) (js := js102) (by kernel_rfl) e hr
theorem c102 {T : Tab} (hT : OvStep T) (ho : T.ov 102 = none) (hp : T.pol 102 = true) {a0 a1 : IV} {h : H} {r : CRes} (hg : Gd h) (e : t102_0 (CL T) (J102 T) a0 a1 h = r) (hr : r ≠ .fail) : CL T 102 [a0, a1] h = r := call_good ho Try.func102 rfl rfl rfl hp hg hT (e102_0 e hr) hr

-- (*silkworm/silkwormref04.reader).stmt
def js103 : List Jn := [⟨[], [0, 1]⟩, ⟨[1, 1], [0, 1]⟩, ⟨[1, 1, 1], [0, 1]⟩, ⟨[0, 0, 1, 0, 1, 0, 1, 1, 1, 1, 1], [0, 1, 6]⟩, ⟨[1, 1, 1, 1, 1, 1, 0, 1, 0, 1, 1, 1, 1, 1, 1], [7]⟩, ⟨[1, 1, 1, 1, 1, 1, 1, 1, 1, 1], [0, 8]⟩]
noncomputable def J103 (T : Tab) : Rec := fj Try.prog (CL T) Try.f103 js103
noncomputable def t103_0 (cf : CallF) (R : Rec) (a0 a1 : IV) (h : H) : CRes :=
 callP (cf 31 [a0] h) .pan fun x1 h2 =>
 spanK x1 true h2 (fun k3 =>
 callP (cf 68 [a0] h2) .pan fun x6 h7 =>
 obind (unI .not x6) fun x8 =>
 k3 x8 h7) fun x4 h5 =>
 obind (pickI x1 (some x4) (some (.bool false))) fun x9 =>
 spanK x9 true h5 (fun k10 =>
 callP (cf 69 [a0, (.str ⟨5, 474214786402⟩)] h5) .pan fun x13 h14 =>
 obind (unI .not x13) fun x15 =>
 k10 x15 h14) fun x11 h12 =>
 obind (pickI x9 (some x11) (some (.bool false))) fun x16 =>
 spanK x16 true h12 (fun k17 =>
 callP (cf 69 [a0, (.str ⟨2, 26217⟩)] h12) .pan fun x20 h21 =>
 obind (unI .not x20) fun x22 =>
 k17 x22 h21) fun x18 h19 =>
 obind (pickI x16 (some x18) (some (.bool false))) fun x23 =>
 spanK x23 true h19 (fun k24 =>
 callP (cf 69 [a0, (.str ⟨4, 1702060387⟩)] h19) .pan fun x27 h28 =>
 obind (unI .not x27) fun x29 =>
 k24 x29 h28) fun x25 h26 =>
 obind (pickI x23 (some x25) (some (.bool false))) fun x30 =>
 condK x30
 (callP (cf 67 [a0, (.int .i64 40)] h26) .pan fun x31 h32 =>
 R 1 [a0, a1] h32)
 (R 1 [a0, a1] h26)
theorem e103_0 {T : Tab} {a0 a1 : IV} {h : H} {r : CRes} (e : t103_0 (CL T) (J103 T) a0 a1 h = r) (hr : r ≠ .fail) : J103 T 0 [a0, a1] h = r := fj_step (fn := Try.f103) (js := js103) (by kernel_rfl) e hr
noncomputable def t103_1 (cf : CallF) (R : Rec) (a0 a1 : IV) (h : H) : CRes :=
 callP (cf 31 [a0] h) .pan fun x33 h34 =>
 spanK x33 true h34 (fun k35 =>
 obind (binN .gtr a1 (.int .i64 32)) fun x38 =>
 k35 x38 h34) fun x36 h37 =>
 obind (pickI x33 (some x36) (some (.bool false))) fun x39 =>
 condK x39
 (callP (cf 67 [a0, (.int .i64 41)] h37) .pan fun x40 h41 =>
 R 2 [a0, a1] h41)
 (R 2 [a0, a1] h37)
theorem e103_1 {T : Tab} {a0 a1 : IV} {h : H} {r : CRes} (e : t103_1 (CL T) (J103 T) a0 a1 h = r) (hr : r ≠ .fail) : J103 T 1 [a0, a1] h = r := fj_step (fn := Try.f103) (js := js103) (by kernel_rfl) e hr
noncomputable def t103_2 (cf : CallF) (R : Rec) (a0 a1 : IV) (h : H) : CRes :=
 callP (cf 31 [a0] h) .pan fun x42 h43 =>
 obind (unI .not x42) fun x44 =>
 condK x44
 (.ok .nilSlice h43)
 (callP (cf 44 [a0] h43) .pan fun x45 h46 =>
 callP (cf 47 [a0, (.str ⟨5, 474214786402⟩)] h46) .pan fun x47 h48 =>
 condK x47
 (R 3 [a0, a1, .nilSlice] h48)
 (callP (cf 47 [a0, (.str ⟨2, 26217⟩)] h48) .pan fun x49 h50 =>
 condK x49
 (obind (bldK z14 p16 [(0, (.int .i64 3)), (6, x45)]) fun x51 =>
 obind2 (newI h50 z14) fun x52 h53 =>
 obindH (stA 12 h53 x52 x51) fun h54 =>
 callP (cf 45 [a0, (.str ⟨1, 40⟩)] h54) .pan fun x55 h56 =>
 callP (cf 70 [a0, (.int .i64 1)] h56) .pan fun x57 h58 =>
 obind (fadK 2 x52) fun x59 =>
 obindH (stA 6 h58 x59 x57) fun h60 =>
 callP (cf 45 [a0, (.str ⟨1, 41⟩)] h60) .pan fun x61 h62 =>
 obind (binN .add a1 (.int .i64 1)) fun x63 =>
 callP (cf 103 [a0, x63] h62) .pan fun x64 h65 =>
 obind (fadK 8 x52) fun x66 =>
 obindH (stA 1 h65 x66 x64) fun h67 =>
 callP (cf 47 [a0, (.str ⟨4, 1702063205⟩)] h67) .pan fun x68 h69 =>
 condK x68
 (obind (binN .add a1 (.int .i64 1)) fun x70 =>
 callP (cf 103 [a0, x70] h69) .pan fun x71 h72 =>
 obind (fadK 9 x52) fun x73 =>
 obindH (stA 1 h72 x73 x71) fun h74 =>
 R 4 [x52] h74)
 (R 4 [x52] h69))
 (callP (cf 47 [a0, (.str ⟨4, 1702060387⟩)] h50) .pan fun x75 h76 =>
 condK x75
 (callP (cf 105 [a0, a1, x45] h76) .pan fun x77 h78 =>
 .ok x77 h78)
 (callP (cf 46 [a0] h76) .pan fun x79 h80 =>
 obind (bldK z14 p16 [(0, (.int .i64 1)), (1, x79), (6, x45)]) fun x81 =>
 obind2 (newI h80 z14) fun x82 h83 =>
 obindH (stA 12 h83 x82 x81) fun h84 =>
 callP (cf 47 [a0, (.str ⟨2, 15676⟩)] h84) .pan fun x85 h86 =>
 condK x85
 (obind (fadK 0 x82) fun x87 =>
 obindH (stA 1 h86 x87 (.int .i64 2)) fun h88 =>
 R 5 [a0, x82] h88)
 (callP (cf 45 [a0, (.str ⟨1, 61⟩)] h86) .pan fun x89 h90 =>
 R 5 [a0, x82] h90)))))
theorem e103_2 {T : Tab} {a0 a1 : IV} {h : H} {r : CRes} (e : t103_2 (CL T) (J103 T) a0 a1 h = r) (hr : r ≠ .fail) : J103 T 2 [a0, a1] h = r := fj_step (fn := Try.f103) (js := js103) (by kernel_rfl) e hr
noncomputable def t103_3 (cf : CallF) (R : Rec) (a0 a1 a6 : IV) (h : H) : CRes :=
 callP (cf 31 [a0] h) .pan fun x91 h92 =>
 spanK x91 true h92 (fun k93 =>
 callP (cf 47 [a0, (.str ⟨3, 6581861⟩)] h92) .pan fun x96 h97 =>
 obind (unI .not x96) fun x98 =>
 k93 x98 h97) fun x94 h95 =>
 obind (pickI x91 (some x94) (some (.bool false))) fun x99 =>
 condK x99
 (obind (binN .add a1 (.int .i64 1)) fun x100 =>
 callP (cf 103 [a0, x100] h95) .pan fun x101 h102 =>
 obind2 (appK 12 184 h102 a6 x101) fun x103 h104 =>
 R 3 [a0, a1, x103] h104)
 (.ok a6 h95)
theorem e103_3 {T : Tab} {a0 a1 a6 : IV} {h : H} {r : CRes} (e : t103_3 (CL T) (J103 T) a0 a1 a6 h = r) (hr : r ≠ .fail) : J103 T 3 [a0, a1, a6] h = r := fj_step (fn := Try.f103) (js := js103) (by kernel_rfl) e hr
noncomputable def t103_4 (cf : CallF) (R : Rec) (a7 : IV) (h : H) : CRes :=
 obind (ldA 12 h a7) fun x105 =>
 obind2 (bslK false 12 z14 1 [(0, x105)] h) fun x106 h107 =>
 .ok x106 h107
theorem e103_4 {T : Tab} {a7 : IV} {h : H} {r : CRes} (e : t103_4 (CL T) (J103 T) a7 h = r) (hr : r ≠ .fail) : J103 T 4 [a7] h = r := fj_step (fn := Try.f103) (js := js103) (by kernel_rfl) e hr
noncomputable def t103_5 (cf : CallF) (R : Rec) (a0 a8 : IV) (h : H) : CRes :=
 callP (cf 70 [a0, (.int .i64 1)] h) .pan fun x108 h109 =>
 obind (fadK 2 a8) fun x110 =>
 obindH (stA 6 h109 x110 x108) fun h111 =>
 callP (cf 45 [a0, (.str ⟨1, 59⟩)] h111) .pan fun x112 h113 =>
 obind (ldA 12 h113 a8) fun x114 =>
 obind2 (bslK false 12 z14 1 [(0, x114)] h113) fun x115 h116 =>
 .ok x115 h116
theorem e103_5 {T : Tab} {a0 a8 : IV} {h : H} {r : CRes} (e : t103_5 (CL T) (J103 T) a0 a8 h = r) (hr : r ≠ .fail) : J103 T 5 [a0, a8] h = r := fj_step (fn := Try.f103) (js := js103) (by kernel_rfl) e hr
theorem c103 {T : Tab} (hT : OvStep T) (ho : T.ov 103 = none) (hp : T.pol 103 = true) {a0 a1 : IV} {h : H} {r : CRes} (hg : Gd h) (e : t103_0 (CL T) (J103 T) a0 a1 h = r) (hr : r ≠ .fail) : CL T 103 [a0, a1] h = r := call_good ho Try.func103 rfl rfl rfl hp hg hT (e103_0 e hr) hr

-- (*silkworm/silkwormref04.reader).operand
def js104 : List Jn := [⟨[], [0, 1]⟩, ⟨[1, 1], [0, 1, 4]⟩]
noncomputable def J104 (T : Tab) : Rec := fj Try.prog (CL T) Try.f104 js104
noncomputable def t104_0 (cf : CallF) (R : Rec) (a0 a1 : IV) (h : H) : CRes :=
 obind2 (newI h z11) fun x1 h2 =>
 callP (cf 31 [a0] h2) .pan fun x3 h4 =>
 spanK x3 true h4 (fun k5 =>
 callP (cf 86 [a0] h4) .pan fun x8 h9 =>
 k5 x8 h9) fun x6 h7 =>
 obind (pickI x3 (some x6) (some (.bool false))) fun x10 =>
 spanK x10 true h7 (fun k11 =>
 obind (binN .gtr a1 (.int .i64 32)) fun x14 =>
 k11 x14 h7) fun x12 h13 =>
 obind (pickI x10 (some x12) (some (.bool false))) fun x15 =>
 condK x15
 (callP (cf 67 [a0, (.int .i64 41)] h13) .pan fun x16 h17 =>
 R 1 [a0, a1, x1] h17)
 (R 1 [a0, a1, x1] h13)
theorem e104_0 {T : Tab} {a0 a1 : IV} {h : H} {r : CRes} (e : t104_0 (CL T) (J104 T) a0 a1 h = r) (hr : r ≠ .fail) : J104 T 0 [a0, a1] h = r := fj_step (fn := Try.f104) (js := js104) (by kernel_rfl) e hr
noncomputable def t104_1 (cf : CallF) (R : Rec) (a0 a1 a4 : IV) (h : H) : CRes :=
 callP (cf 100 [a0, a1] h) .pan fun x18 h19 =>
 obindH (stA 6 h19 a4 x18) fun h20 =>
 obind (ldA 6 h20 a4) fun x21 =>
 .ok x21 h20
theorem e104_1 {T : Tab} {a0 a1 a4 : IV} {h : H} {r : CRes} (e : t104_1 (CL T) (J104 T) a0 a1 a4 h = r) (hr : r ≠ .fail) : J104 T 1 [a0, a1, a4] h = r := fj_step (fn := Try.f104) (js := js104) (by kernel_rfl) e hr
theorem c104 {T : Tab} (hT : OvStep T) (ho : T.ov 104 = none) (hp : T.pol 104 = true) {a0 a1 : IV} {h : H} {r : CRes} (hg : Gd h) (e : t104_0 (CL T) (J104 T) a0 a1 h = r) (hr : r ≠ .fail) : CL T 104 [a0, a1] h = r := call_good ho Try.func104 rfl rfl rfl hp hg hT (e104_0 e hr) hr

-- (*silkworm/silkwormref04.reader).arms
def js105 : List Jn := [⟨[], [0, 1, 2]⟩, ⟨[0, 0, 1, 1, 1, 1, 1], [0, 1, 7]⟩, ⟨[1, 1, 1, 1, 1, 1, 1], [0, 7]⟩]
noncomputable def J105 (T : Tab) : Rec := fj Try.prog (CL T) Try.f105 js105
noncomputable def t105_0 (cf : CallF) (R : Rec) (a0 a1 a2 : IV) (h : H) : CRes :=
 obind (bldK z14 p16 [(0, (.int .i64 4)), (6, a2)]) fun x1 =>
 obind2 (newI h z14) fun x2 h3 =>
 obindH (stA 12 h3 x2 x1) fun h4 =>
 callP (cf 45 [a0, (.str ⟨1, 40⟩)] h4) .pan fun x5 h6 =>
 callP (cf 70 [a0, (.int .i64 1)] h6) .pan fun x7 h8 =>
 obind (fadK 2 x2) fun x9 =>
 obindH (stA 6 h8 x9 x7) fun h10 =>
 callP (cf 45 [a0, (.str ⟨1, 41⟩)] h10) .pan fun x11 h12 =>
 R 1 [a0, a1, x2] h12
theorem e105_0 {T : Tab} {a0 a1 a2 : IV} {h : H} {r : CRes} (e : t105_0 (CL T) (J105 T) a0 a1 a2 h = r) (hr : r ≠ .fail) : J105 T 0 [a0, a1, a2] h = r := fj_step (fn := Try.f105) (js := js105) (by kernel_rfl) e hr
noncomputable def t105_1 (cf : CallF) (R : Rec) (a0 a1 a7 : IV) (h : H) : CRes :=
 callP (cf 31 [a0] h) .pan fun x13 h14 =>
 spanK x13 true h14 (fun k15 =>
 callP (cf 86 [a0] h14) .pan fun x18 h19 =>
 k15 x18 h19) fun x16 h17 =>
 obind (pickI x13 (some x16) (some (.bool false))) fun x20 =>
 condK x20
 (callP (cf 70 [a0, (.int .i64 1)] h17) .pan fun x21 h22 =>
 obind (bldK z15 p9 [(1, x21)]) fun x23 =>
 obind2 (newI h22 z15) fun x24 h25 =>
 obindH (stA 8 h25 x24 x23) fun h26 =>
 callP (cf 45 [a0, (.str ⟨1, 58⟩)] h26) .pan fun x27 h28 =>
 obind (binN .add a1 (.int .i64 1)) fun x29 =>
 callP (cf 103 [a0, x29] h28) .pan fun x30 h31 =>
 obind (fadK 7 x24) fun x32 =>
 obindH (stA 1 h31 x32 x30) fun h33 =>
 obind (fadK 10 a7) fun x34 =>
 obind (ld0 h33 x34) fun x35 =>
 obind (ldA 8 h33 x24) fun x36 =>
 obind2 (bslK false 8 z15 1 [(0, x36)] h33) fun x37 h38 =>
 obind2 (appK 8 112 h38 x35 x37) fun x39 h40 =>
 obind (fadK 10 a7) fun x41 =>
 obindH (stA 1 h40 x41 x39) fun h42 =>
 R 1 [a0, a1, a7] h42)
 (callP (cf 47 [a0, (.str ⟨7, 32770348699510116⟩)] h17) .pan fun x43 h44 =>
 condK x43
 (callP (cf 45 [a0, (.str ⟨1, 58⟩)] h44) .pan fun x45 h46 =>
 obind (fadK 10 a7) fun x47 =>
 obind (ld0 h46 x47) fun x48 =>
 obind (binN .add a1 (.int .i64 1)) fun x49 =>
 callP (cf 103 [a0, x49] h46) (fun v50 h51 =>
 .pan v50 h51) fun x52 h53 =>
 obind (ld0 h53 x47) fun x54 =>
 bif IV.beq x54 x48 then
 obind (bldK z15 p9 [(0, (.bool true)), (2, x52)]) fun x55 =>
 obind2 (bslK false 8 z15 1 [(0, x55)] h53) fun x56 h57 =>
 obind (ld0 h57 x47) fun x58 =>
 bif IV.beq x58 x48 then
 obind2 (appK 8 112 h57 x48 x56) fun x59 h60 =>
 obind (fadK 10 a7) fun x61 =>
 obindH (stA 1 h60 x61 x59) fun h62 =>
 R 2 [a0, a7] h62
 else .fail
 else .fail)
 (R 2 [a0, a7] h44))
theorem e105_1 {T : Tab} {a0 a1 a7 : IV} {h : H} {r : CRes} (e : t105_1 (CL T) (J105 T) a0 a1 a7 h = r) (hr : r ≠ .fail) : J105 T 1 [a0, a1, a7] h = r := fj_step (fn := Try.f105) (js := js105) (by kernel_rfl) e hr
noncomputable def t105_2 (cf : CallF) (R : Rec) (a0 a7 : IV) (h : H) : CRes :=
 callP (cf 45 [a0, (.str ⟨7, 28555834764324453⟩)] h) .pan fun x63 h64 =>
 obind (ldA 12 h64 a7) fun x65 =>
 obind2 (bslK false 12 z14 1 [(0, x65)] h64) fun x66 h67 =>
 .ok x66 h67
theorem e105_2 {T : Tab} {a0 a7 : IV} {h : H} {r : CRes} (e : t105_2 (CL T) (J105 T) a0 a7 h = r) (hr : r ≠ .fail) : J105 T 2 [a0, a7] h = r := fj_step (fn := Try.f105) (js := js105) (by kernel_rfl) e hr
theorem c105 {T : Tab} (hT : OvStep T) (ho : T.ov 105 = none) (hp : T.pol 105 = true) {a0 a1 a2 : IV} {h : H} {r : CRes} (hg : Gd h) (e : t105_0 (CL T) (J105 T) a0 a1 a2 h = r) (hr : r ≠ .fail) : CL T 105 [a0, a1, a2] h = r := call_good ho Try.func105 rfl rfl rfl hp hg hT (e105_0 e hr) hr

end Go.Proofs.Ytgmajopnflfcdaa
