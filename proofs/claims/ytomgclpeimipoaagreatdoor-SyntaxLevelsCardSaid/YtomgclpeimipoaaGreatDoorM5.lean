/- M5: Printed by run.py (own tool): the runs of closed calls, by each function's words. -/
import Derived.Test.YtomgclpeimipoaaGreatDoorM3
import Derived.Test.YtomgclpeimipoaaGreatDoorM4
namespace Go.Proofs.YtomgclpeimipoaaGreatDoor
open Go I
set_option linter.unusedVariables false
set_option maxRecDepth 100000

-- 16
theorem m16 {cf cf' : CallF} {R R' : Rec} (hc : ∀ f l h, le (cf f l h) (cf' f l h)) (hR : ∀ i l h, le (R i l h) (R' i l h)) : (∀ (a0 a1 a5 : IV) (h : H), le (t16_0 cf R a0 a1 a5 h) (t16_0 cf' R' a0 a1 a5 h)) := by
  intros
  unfold t16_0
  with_reducible repeat' first
    | refine le_obind fun _ => ?_
    | refine le_callP ?_ (fun _ _ => ?_) (fun _ _ => ?_)
    | refine le_condK ?_ ?_
    | exact hR _ _ _
    | refine le_obind2 fun _ _ => ?_
    | refine le_obindH fun _ => ?_
    | refine le_spanK (fun _ _ _ => ?_) (fun _ _ => ?_)
    | exact hc _ _ _
    | refine le_bif ?_ ?_
    | refine le_guardK ?_ ?_ ?_
    | refine le_mapK fun _ _ => ?_
    | refine le_panK fun _ _ => ?_
    | refine le_funK fun _ _ => ?_
    | exact le_refl _
    | apply_assumption
noncomputable def q16_0p1 (cf : CallF) (R : Rec) (h7 : H) (x9 : IV) (h8 : H) (x5 : IV) (a0 : IV) (a1 : IV) : CRes :=
 Qo (QlA 2 h7 x9) fun x10 =>
 Qo (QlA 2 h8 x9) fun x11 =>
 bif IV.beq x11 x10 then
 Qo (Qfad 0 x5) fun x12 =>
 Qo (QlA 2 h7 x12) fun x13 =>
 Qo2 (Qbsl false 2 [(.int .i64 0), (.int .i64 0)] 1 [(0, x13)] h7) fun x14 h15 =>
 QoH (QsA 1 h15 a0 .nilSlice) fun h16 =>
 QoH (QsA 1 h16 a1 x14) fun h17 =>
 .ok (.tup []) h17
 else .fail
noncomputable def q16_0 (cf : CallF) (R : Rec) (a0 : IV) (a1 : IV) (a5 : IV) (h : H) : CRes :=
 Qo (eqIf .eql true a5 .nilIface) fun x1 =>
 Qif x1
 (.ok (.tup []) h)
 (Qo (assertI 58 true (some (.agg [(.int .i64 0), (.int .i64 0)])) a5) fun x2 =>
 Qo (Qext x2 1) fun x3 =>
 Qo (Qext x2 0) fun x4 =>
 Qif x3
 (Qo2 (QnI h [(.int .i64 0), (.int .i64 0)]) fun x5 h6 =>
 QoH (QsA 2 h6 x5 x4) fun h7 =>
 QoH (QsA 1 h7 a0 .nilSlice) fun h8 =>
 Qo (Qfad 0 x5) fun x9 =>
 q16_0p1 cf R h7 x9 h8 x5 a0 a1)
 (panK a5 h nop))
theorem qe16_0 : q16_0 = t16_0 := by
  unfold q16_0 q16_0p1
  try simp only [QE]
  try rfl
noncomputable def bt16 (cf : CallF) (R : Rec) : Rec := fun i l h =>
 br3 i 0 l (fun a0 a1 a5 => t16_0 cf R a0 a1 a5 h) <|
 .fail
noncomputable def b16 (cf : CallF) (R : Rec) : Rec := fun i l h =>
 brQ3 i 0 l (fun a0 a1 a5 => q16_0 cf R a0 a1 a5 h) <|
 .fail
theorem be16 : b16 = bt16 := by
  unfold b16 bt16
  simp only [qe16_0, brQ3_eq]
theorem r16 {T : Tab} {cf : CallF} (hc : leC cf (CL T)) (n : Nat) : leR (recN (b16 cf) n) (J16 T) := be16 ▸ recN_le (fun R hR i l h => by
  unfold bt16
  refine le_br3 (J := fun i l => J16 T i l h) (fun _ a0 a1 a5 => le_e (fun hn => e16_0 rfl hn) ((m16 hc hR) a0 a1 a5 h)) ?_
  exact le_fail _) n
noncomputable def L16 (cf : CallF) (l : List IV) (st : I.Mode) (h : H) : Option (I.Mode × H) :=
 match l with
 | [a0, a1] => lvM st (lvK (t16_0 cf (recN (b16 cf) 1000000) a0 a1 (recV st) h))
 | _ => none
theorem lle16 {T : Tab} {cf : CallF} (hc : leC cf (CL T)) (l : List IV) (st : I.Mode) (h : H) : leO (L16 cf l st h) (LV Tryz.prog (CL T) 16 l st h) := by
  unfold L16
  split
  · exact lvM_le fun hst => lvK_le ((m16 hc (r16 hc _)) _ _ _ h) fun v h' e => l16 hst e
  · intro z hz; cases hz
-- 5
theorem m5 {cf cf' : CallF} {R R' : Rec} (hc : ∀ f l h, le (cf f l h) (cf' f l h)) (hR : ∀ i l h, le (R i l h) (R' i l h)) : (∀ (a0 a1 : IV) (h : H), le (t5_0 cf R a0 a1 h) (t5_0 cf' R' a0 a1 h)) := by
  intros
  unfold t5_0
  with_reducible repeat' first
    | refine le_obind fun _ => ?_
    | refine le_callP ?_ (fun _ _ => ?_) (fun _ _ => ?_)
    | refine le_condK ?_ ?_
    | exact hR _ _ _
    | refine le_obind2 fun _ _ => ?_
    | refine le_obindH fun _ => ?_
    | refine le_spanK (fun _ _ _ => ?_) (fun _ _ => ?_)
    | exact hc _ _ _
    | refine le_bif ?_ ?_
    | refine le_guardK ?_ ?_ ?_
    | refine le_mapK fun _ _ => ?_
    | refine le_panK fun _ _ => ?_
    | refine le_funK fun _ _ => ?_
    | exact le_refl _
    | apply_assumption
noncomputable def q5_0p12 (cf : CallF) (R : Rec) (h52 : H) (x74 : IV) (k68 : IV → H → CRes) : CRes :=
 Qo (Ql0 h52 x74) fun x75 =>
 Qo (Qle x75) fun x76 =>
 Qo (Qeql x76 (.int .i64 2)) fun x77 =>
 k68 x77 h52
noncomputable def q5_0p14 (cf : CallF) (R : Rec) (h70 : H) (x85 : IV) (k79 : IV → H → CRes) : CRes :=
 Qo (Ql0 h70 x85) fun x86 =>
 Qo (Qix 6 x86 (.int .i64 0)) fun x87 =>
 Qo (Qfad 1 x87) fun x88 =>
 Qo (Ql0 h70 x88) fun x89 =>
 Qo (Qse x89 (.str ⟨1, 98⟩)) fun x90 =>
 k79 x90 h70
noncomputable def q5_0p15 (cf : CallF) (R : Rec) (h81 : H) (x98 : IV) (k92 : IV → H → CRes) : CRes :=
 Qo (Ql0 h81 x98) fun x99 =>
 Qo (Qix 6 x99 (.int .i64 1)) fun x100 =>
 Qo (Qfad 1 x100) fun x101 =>
 Qo (Ql0 h81 x101) fun x102 =>
 Qo (Qse x102 (.str ⟨1, 99⟩)) fun x103 =>
 k92 x103 h81
noncomputable def q5_0p16 (cf : CallF) (R : Rec) (x104 : IV) (h94 : H) : CRes :=
 Qsp x104 true h94 (fun k105 =>
 Qc (cf 8 [] h94) .pan fun x108 h109 =>
 k105 x108 h109) fun x106 h107 =>
 Qo (Qpk x104 (some x106) (some (.bool false))) fun x110 =>
 .ok x110 h107
noncomputable def q5_0p13 (cf : CallF) (R : Rec) (x78 : IV) (h70 : H) (x50 : IV) : CRes :=
 Qsp x78 true h70 (fun k79 =>
 Qo (Qfad 4 x50) fun x82 =>
 Qo (Ql0 h70 x82) fun x83 =>
 Qo (Qix 6 x83 (.int .i64 1)) fun x84 =>
 Qo (Qfad 4 x84) fun x85 =>
 q5_0p14 cf R h70 x85 k79) fun x80 h81 =>
 Qo (Qpk x78 (some x80) (some (.bool false))) fun x91 =>
 Qsp x91 true h81 (fun k92 =>
 Qo (Qfad 4 x50) fun x95 =>
 Qo (Ql0 h81 x95) fun x96 =>
 Qo (Qix 6 x96 (.int .i64 1)) fun x97 =>
 Qo (Qfad 4 x97) fun x98 =>
 q5_0p15 cf R h81 x98 k92) fun x93 h94 =>
 Qo (Qpk x91 (some x93) (some (.bool false))) fun x104 =>
 q5_0p16 cf R x104 h94
noncomputable def q5_0p11 (cf : CallF) (R : Rec) (h52 : H) (x65 : IV) (x50 : IV) : CRes :=
 Qo (Ql0 h52 x65) fun x66 =>
 Qo (Qse x66 (.str ⟨1, 97⟩)) fun x67 =>
 Qsp x67 true h52 (fun k68 =>
 Qo (Qfad 4 x50) fun x71 =>
 Qo (Ql0 h52 x71) fun x72 =>
 Qo (Qix 6 x72 (.int .i64 1)) fun x73 =>
 Qo (Qfad 4 x73) fun x74 =>
 q5_0p12 cf R h52 x74 k68) fun x69 h70 =>
 Qo (Qpk x67 (some x69) (some (.bool false))) fun x78 =>
 q5_0p13 cf R x78 h70 x50
noncomputable def q5_0p18 (cf : CallF) (R : Rec) (h52 : H) (x123 : IV) (k117 : IV → H → CRes) : CRes :=
 Qo (Ql0 h52 x123) fun x124 =>
 Qo (Qle x124) fun x125 =>
 Qo (Qeql x125 (.int .i64 2)) fun x126 =>
 k117 x126 h52
noncomputable def q5_0p20 (cf : CallF) (R : Rec) (h119 : H) (x134 : IV) (k128 : IV → H → CRes) : CRes :=
 Qo (Ql0 h119 x134) fun x135 =>
 Qo (Qix 6 x135 (.int .i64 0)) fun x136 =>
 Qo (Qfad 1 x136) fun x137 =>
 Qo (Ql0 h119 x137) fun x138 =>
 Qo (Qse x138 (.str ⟨1, 97⟩)) fun x139 =>
 k128 x139 h119
noncomputable def q5_0p21 (cf : CallF) (R : Rec) (h130 : H) (x147 : IV) (k141 : IV → H → CRes) : CRes :=
 Qo (Ql0 h130 x147) fun x148 =>
 Qo (Qix 6 x148 (.int .i64 1)) fun x149 =>
 Qo (Qfad 1 x149) fun x150 =>
 Qo (Ql0 h130 x150) fun x151 =>
 Qo (Qse x151 (.str ⟨1, 98⟩)) fun x152 =>
 k141 x152 h130
noncomputable def q5_0p22 (cf : CallF) (R : Rec) (x153 : IV) (h143 : H) : CRes :=
 Qsp x153 true h143 (fun k154 =>
 Qc (cf 8 [] h143) .pan fun x157 h158 =>
 k154 x157 h158) fun x155 h156 =>
 Qo (Qpk x153 (some x155) (some (.bool false))) fun x159 =>
 .ok x159 h156
noncomputable def q5_0p19 (cf : CallF) (R : Rec) (x127 : IV) (h119 : H) (x50 : IV) : CRes :=
 Qsp x127 true h119 (fun k128 =>
 Qo (Qfad 4 x50) fun x131 =>
 Qo (Ql0 h119 x131) fun x132 =>
 Qo (Qix 6 x132 (.int .i64 0)) fun x133 =>
 Qo (Qfad 4 x133) fun x134 =>
 q5_0p20 cf R h119 x134 k128) fun x129 h130 =>
 Qo (Qpk x127 (some x129) (some (.bool false))) fun x140 =>
 Qsp x140 true h130 (fun k141 =>
 Qo (Qfad 4 x50) fun x144 =>
 Qo (Ql0 h130 x144) fun x145 =>
 Qo (Qix 6 x145 (.int .i64 0)) fun x146 =>
 Qo (Qfad 4 x146) fun x147 =>
 q5_0p21 cf R h130 x147 k141) fun x142 h143 =>
 Qo (Qpk x140 (some x142) (some (.bool false))) fun x153 =>
 q5_0p22 cf R x153 h143
noncomputable def q5_0p17 (cf : CallF) (R : Rec) (h52 : H) (x114 : IV) (x50 : IV) : CRes :=
 Qo (Ql0 h52 x114) fun x115 =>
 Qo (Qse x115 (.str ⟨1, 99⟩)) fun x116 =>
 Qsp x116 true h52 (fun k117 =>
 Qo (Qfad 4 x50) fun x120 =>
 Qo (Ql0 h52 x120) fun x121 =>
 Qo (Qix 6 x121 (.int .i64 0)) fun x122 =>
 Qo (Qfad 4 x122) fun x123 =>
 q5_0p18 cf R h52 x123 k117) fun x118 h119 =>
 Qo (Qpk x116 (some x118) (some (.bool false))) fun x127 =>
 q5_0p19 cf R x127 h119 x50
noncomputable def q5_0p10 (cf : CallF) (R : Rec) (x58 : IV) (x60 : IV) (x50 : IV) (h52 : H) : CRes :=
 Qo (Qgtr x58 x60) fun x61 =>
 Qif x61
 (Qo (Qfad 4 x50) fun x62 =>
 Qo (Ql0 h52 x62) fun x63 =>
 Qo (Qix 6 x63 (.int .i64 0)) fun x64 =>
 Qo (Qfad 1 x64) fun x65 =>
 q5_0p11 cf R h52 x65 x50)
 (Qo (Qfad 4 x50) fun x111 =>
 Qo (Ql0 h52 x111) fun x112 =>
 Qo (Qix 6 x112 (.int .i64 1)) fun x113 =>
 Qo (Qfad 1 x113) fun x114 =>
 q5_0p17 cf R h52 x114 x50)
noncomputable def q5_0p9 (cf : CallF) (R : Rec) (x56 : IV) (h52 : H) (x3 : IV) (x8 : IV) (x6 : IV) (x50 : IV) : CRes :=
 Qif x56
 (.ok (.bool false) h52)
 (Qo (Qix 1 x3 x8) fun x57 =>
 Qo (Ql0 h52 x57) fun x58 =>
 Qo (Qix 1 x3 x6) fun x59 =>
 Qo (Ql0 h52 x59) fun x60 =>
 q5_0p10 cf R x58 x60 x50 h52)
noncomputable def q5_0p8 (cf : CallF) (R : Rec) (x50 : IV) (h52 : H) (x3 : IV) (x8 : IV) (x6 : IV) : CRes :=
 Qo (Qfad 4 x50) fun x53 =>
 Qo (Ql0 h52 x53) fun x54 =>
 Qo (Qle x54) fun x55 =>
 Qo (Qneq x55 (.int .i64 2)) fun x56 =>
 q5_0p9 cf R x56 h52 x3 x8 x6 x50
noncomputable def q5_0p7 (cf : CallF) (R : Rec) (x47 : IV) (h37 : H) (x3 : IV) (x8 : IV) (x6 : IV) : CRes :=
 Qo (Qfad 23 x47) fun x48 =>
 Qo (QlA 6 h37 x48) fun x49 =>
 Qo2 (QnI h37 z0) fun x50 h51 =>
 QoH (QsA 6 h51 x50 x49) fun h52 =>
 q5_0p8 cf R x50 h52 x3 x8 x6
noncomputable def q5_0p6 (cf : CallF) (R : Rec) (x43 : IV) (h37 : H) (x25 : IV) (x3 : IV) (x8 : IV) (x6 : IV) : CRes :=
 Qif x43
 (.ok (.bool false) h37)
 (Qo (Qix 5 x25 (.int .i64 0)) fun x44 =>
 Qo (Qfad 3 x44) fun x45 =>
 Qo (Ql0 h37 x45) fun x46 =>
 Qo (Qix 48 x46 (.int .i64 0)) fun x47 =>
 q5_0p7 cf R x47 h37 x3 x8 x6)
noncomputable def q5_0p5 (cf : CallF) (R : Rec) (x28 : IV) (h24 : H) (x25 : IV) (x3 : IV) (x8 : IV) (x6 : IV) : CRes :=
 Qsp x28 false h24 (fun k29 =>
 Qo (Qle x25) fun x32 =>
 Qo (Qneq x32 (.int .i64 1)) fun x33 =>
 k29 x33 h24) fun x30 h31 =>
 Qo (Qpk x28 (some (.bool true)) (some x30)) fun x34 =>
 Qsp x34 false h31 (fun k35 =>
 Qo (Qix 5 x25 (.int .i64 0)) fun x38 =>
 Qo (Qfad 3 x38) fun x39 =>
 Qo (Ql0 h31 x39) fun x40 =>
 Qo (Qle x40) fun x41 =>
 Qo (Qneq x41 (.int .i64 1)) fun x42 =>
 k35 x42 h31) fun x36 h37 =>
 Qo (Qpk x34 (some (.bool true)) (some x36)) fun x43 =>
 q5_0p6 cf R x43 h37 x25 x3 x8 x6
noncomputable def q5_0p4 (cf : CallF) (R : Rec) (x23 : IV) (h24 : H) (x3 : IV) (x8 : IV) (x6 : IV) : CRes :=
 Qo (Qext x23 0) fun x25 =>
 Qo (Qext x23 1) fun x26 =>
 Qo (Qle x26) fun x27 =>
 Qo (Qgtr x27 (.int .i64 0)) fun x28 =>
 q5_0p5 cf R x28 h24 x25 x3 x8 x6
noncomputable def q5_0p3 (cf : CallF) (R : Rec) (x12 : IV) (x14 : IV) (h4 : H) (x3 : IV) (x8 : IV) (x6 : IV) : CRes :=
 Qo (binS .add x12 x14) fun x15 =>
 Qo (binS .add x15 (.str ⟨13, 8035610713614417701758354285344⟩)) fun x16 =>
 Qc (cf 7 [x16] h4) (fun v17 h18 =>
 .pan v17 h18) fun x19 h20 =>
 Qc (cf 9 [x19] h20) (fun v21 h22 =>
 .pan v21 h22) fun x23 h24 =>
 q5_0p4 cf R x23 h24 x3 x8 x6
noncomputable def q5_0p2 (cf : CallF) (R : Rec) (x10 : IV) (x1 : IV) (x8 : IV) (h4 : H) (x3 : IV) (x6 : IV) : CRes :=
 Qo (binS .add (.str ⟨25, 203248776473148507807259739116822059445528716143702439128941⟩) x10) fun x11 =>
 Qo (binS .add x11 (.str ⟨3, 2122272⟩)) fun x12 =>
 Qo (Qix 1 x1 x8) fun x13 =>
 Qo (Ql0 h4 x13) fun x14 =>
 q5_0p3 cf R x12 x14 h4 x3 x8 x6
noncomputable def q5_0p1 (cf : CallF) (R : Rec) (a1 : IV) (x1 : IV) (x6 : IV) (h4 : H) (x3 : IV) : CRes :=
 Qo (binN .and a1 (.int .i64 65535)) fun x7 =>
 Qo (binN .rem x7 (.int .i64 15)) fun x8 =>
 Qo (Qix 1 x1 x6) fun x9 =>
 Qo (Ql0 h4 x9) fun x10 =>
 q5_0p2 cf R x10 x1 x8 h4 x3 x6
noncomputable def q5_0 (cf : CallF) (R : Rec) (a0 : IV) (a1 : IV) (h : H) : CRes :=
 Qo2 (Qbsl false 1 [(.str ⟨0, 0⟩)] 15 [(0, (.str ⟨2, 31868⟩)), (1, (.str ⟨2, 9766⟩)), (2, (.str ⟨1, 124⟩)), (3, (.str ⟨1, 94⟩)), (4, (.str ⟨1, 38⟩)), (5, (.str ⟨2, 15677⟩)), (6, (.str ⟨2, 15649⟩)), (7, (.str ⟨1, 60⟩)), (8, (.str ⟨2, 15676⟩)), (9, (.str ⟨1, 62⟩)), (10, (.str ⟨2, 15678⟩)), (11, (.str ⟨2, 15420⟩)), (12, (.str ⟨2, 15934⟩)), (13, (.str ⟨1, 43⟩)), (14, (.str ⟨1, 45⟩))] h) fun x1 h2 =>
 Qo2 (Qbsl true 1 [(.int .i64 0)] 15 [(0, (.int .i64 1)), (1, (.int .i64 2)), (2, (.int .i64 3)), (3, (.int .i64 4)), (4, (.int .i64 5)), (5, (.int .i64 6)), (6, (.int .i64 6)), (7, (.int .i64 7)), (8, (.int .i64 7)), (9, (.int .i64 7)), (10, (.int .i64 7)), (11, (.int .i64 8)), (12, (.int .i64 8)), (13, (.int .i64 9)), (14, (.int .i64 9))] h2) fun x3 h4 =>
 Qo (binN .and a0 (.int .i64 65535)) fun x5 =>
 Qo (binN .rem x5 (.int .i64 15)) fun x6 =>
 q5_0p1 cf R a1 x1 x6 h4 x3
theorem qe5_0 : q5_0 = t5_0 := by
  unfold q5_0 q5_0p1 q5_0p2 q5_0p3 q5_0p4 q5_0p5 q5_0p6 q5_0p7 q5_0p8 q5_0p9 q5_0p10 q5_0p17 q5_0p19 q5_0p22 q5_0p21 q5_0p20 q5_0p18 q5_0p11 q5_0p13 q5_0p16 q5_0p15 q5_0p14 q5_0p12
  try simp only [QE]
  try rfl
noncomputable def bt5 (cf : CallF) (R : Rec) : Rec := fun i l h =>
 br2 i 0 l (fun a0 a1 => t5_0 cf R a0 a1 h) <|
 .fail
noncomputable def b5 (cf : CallF) (R : Rec) : Rec := fun i l h =>
 brQ2 i 0 l (fun a0 a1 => q5_0 cf R a0 a1 h) <|
 .fail
theorem be5 : b5 = bt5 := by
  unfold b5 bt5
  simp only [qe5_0, brQ2_eq]
theorem r5 {T : Tab} {cf : CallF} (hc : leC cf (CL T)) (n : Nat) : leR (recN (b5 cf) n) (J5 T) := be5 ▸ recN_le (fun R hR i l h => by
  unfold bt5
  refine le_br2 (J := fun i l => J5 T i l h) (fun _ a0 a1 => le_e (fun hn => e5_0 rfl hn) ((m5 hc hR) a0 a1 h)) ?_
  exact le_fail _) n
-- 7
theorem m7 {cf cf' : CallF} {R R' : Rec} (hc : ∀ f l h, le (cf f l h) (cf' f l h)) (hR : ∀ i l h, le (R i l h) (R' i l h)) : (∀ (a0 : IV) (h : H), le (t7_0 cf R a0 h) (t7_0 cf' R' a0 h)) := by
  intros
  unfold t7_0
  with_reducible repeat' first
    | refine le_obind fun _ => ?_
    | refine le_callP ?_ (fun _ _ => ?_) (fun _ _ => ?_)
    | refine le_condK ?_ ?_
    | exact hR _ _ _
    | refine le_obind2 fun _ _ => ?_
    | refine le_obindH fun _ => ?_
    | refine le_spanK (fun _ _ _ => ?_) (fun _ _ => ?_)
    | exact hc _ _ _
    | refine le_bif ?_ ?_
    | refine le_guardK ?_ ?_ ?_
    | refine le_mapK fun _ _ => ?_
    | refine le_panK fun _ _ => ?_
    | refine le_funK fun _ _ => ?_
    | exact le_refl _
    | apply_assumption
noncomputable def q7_0p1 (cf : CallF) (R : Rec) (x5 : IV) (h2 : H) (x3 : IV) : CRes :=
 Qo (Qgtr x5 (.int .i64 0)) fun x6 =>
 Qif x6
 (.ok .nilSlice h2)
 (Qc (cf 15 [x3] h2) .pan fun x7 h8 =>
 Qo (Qext x7 0) fun x9 =>
 Qo (Qext x7 1) fun x10 =>
 .ok x9 h8)
noncomputable def q7_0 (cf : CallF) (R : Rec) (a0 : IV) (h : H) : CRes :=
 Qc (cf 14 [a0] h) .pan fun x1 h2 =>
 Qo (Qext x1 0) fun x3 =>
 Qo (Qext x1 1) fun x4 =>
 Qo (Qle x4) fun x5 =>
 q7_0p1 cf R x5 h2 x3
theorem qe7_0 : q7_0 = t7_0 := by
  unfold q7_0 q7_0p1
  try simp only [QE]
  try rfl
noncomputable def bt7 (cf : CallF) (R : Rec) : Rec := fun i l h =>
 br1 i 0 l (fun a0 => t7_0 cf R a0 h) <|
 .fail
noncomputable def b7 (cf : CallF) (R : Rec) : Rec := fun i l h =>
 brQ1 i 0 l (fun a0 => q7_0 cf R a0 h) <|
 .fail
theorem be7 : b7 = bt7 := by
  unfold b7 bt7
  simp only [qe7_0, brQ1_eq]
theorem r7 {T : Tab} {cf : CallF} (hc : leC cf (CL T)) (n : Nat) : leR (recN (b7 cf) n) (J7 T) := be7 ▸ recN_le (fun R hR i l h => by
  unfold bt7
  refine le_br1 (J := fun i l => J7 T i l h) (fun _ a0 => le_e (fun hn => e7_0 rfl hn) ((m7 hc hR) a0 h)) ?_
  exact le_fail _) n
-- 8
theorem m8 {cf cf' : CallF} {R R' : Rec} (hc : ∀ f l h, le (cf f l h) (cf' f l h)) (hR : ∀ i l h, le (R i l h) (R' i l h)) : (∀ (h : H), le (t8_0 cf R h) (t8_0 cf' R' h)) := by
  intros
  unfold t8_0
  with_reducible repeat' first
    | refine le_obind fun _ => ?_
    | refine le_callP ?_ (fun _ _ => ?_) (fun _ _ => ?_)
    | refine le_condK ?_ ?_
    | exact hR _ _ _
    | refine le_obind2 fun _ _ => ?_
    | refine le_obindH fun _ => ?_
    | refine le_spanK (fun _ _ _ => ?_) (fun _ _ => ?_)
    | exact hc _ _ _
    | refine le_bif ?_ ?_
    | refine le_guardK ?_ ?_ ?_
    | refine le_mapK fun _ _ => ?_
    | refine le_panK fun _ _ => ?_
    | refine le_funK fun _ _ => ?_
    | exact le_refl _
    | apply_assumption
noncomputable def q8_0p5 (cf : CallF) (R : Rec) (x45 : IV) (h32 : H) (k39 : IV → H → CRes) : CRes :=
 Qo (Qfad 23 x45) fun x46 =>
 Qo (Qfad 0 x46) fun x47 =>
 Qo (Ql0 h32 x47) fun x48 =>
 Qo (Qeql x48 (.int .i64 7)) fun x49 =>
 k39 x49 h32
noncomputable def q8_0p6 (cf : CallF) (R : Rec) (x56 : IV) (h53 : H) (x12 : IV) : CRes :=
 Qsp x56 true h53 (fun k57 =>
 Qo (Qix 2 x12 (.int .i64 0)) fun x60 =>
 Qo (QlA 2 h53 x60) fun x61 =>
 Qo (Qbld [(.int .i64 0), (.int .i64 0)] [(0, 1), (1, 1)] [(0, (.int .i64 25)), (1, (.int .i64 40))]) fun x62 =>
 Qo (binK Tryz.prog h53 .eql 36 false false x61 x62) fun x63 =>
 k57 x63 h53) fun x58 h59 =>
 Qo (Qpk x56 (some x58) (some (.bool false))) fun x64 =>
 .ok x64 h59
noncomputable def q8_0p4 (cf : CallF) (R : Rec) (x38 : IV) (h32 : H) (x5 : IV) (x12 : IV) : CRes :=
 Qsp x38 true h32 (fun k39 =>
 Qo (Qix 5 x5 (.int .i64 0)) fun x42 =>
 Qo (Qfad 3 x42) fun x43 =>
 Qo (Ql0 h32 x43) fun x44 =>
 Qo (Qix 48 x44 (.int .i64 0)) fun x45 =>
 q8_0p5 cf R x45 h32 k39) fun x40 h41 =>
 Qo (Qpk x38 (some x40) (some (.bool false))) fun x50 =>
 Qsp x50 true h41 (fun k51 =>
 Qo (Qle x12) fun x54 =>
 Qo (Qeql x54 (.int .i64 1)) fun x55 =>
 k51 x55 h41) fun x52 h53 =>
 Qo (Qpk x50 (some x52) (some (.bool false))) fun x56 =>
 q8_0p6 cf R x56 h53 x12
noncomputable def q8_0p3 (cf : CallF) (R : Rec) (x20 : IV) (h17 : H) (x5 : IV) (x12 : IV) : CRes :=
 Qsp x20 true h17 (fun k21 =>
 Qo (Qix 5 x5 (.int .i64 0)) fun x24 =>
 Qo (Qfad 2 x24) fun x25 =>
 Qo (Ql0 h17 x25) fun x26 =>
 Qo (Qle x26) fun x27 =>
 Qo (Qeql x27 (.int .i64 2)) fun x28 =>
 k21 x28 h17) fun x22 h23 =>
 Qo (Qpk x20 (some x22) (some (.bool false))) fun x29 =>
 Qsp x29 true h23 (fun k30 =>
 Qo (Qix 5 x5 (.int .i64 0)) fun x33 =>
 Qo (Qfad 3 x33) fun x34 =>
 Qo (Ql0 h23 x34) fun x35 =>
 Qo (Qle x35) fun x36 =>
 Qo (Qeql x36 (.int .i64 1)) fun x37 =>
 k30 x37 h23) fun x31 h32 =>
 Qo (Qpk x29 (some x31) (some (.bool false))) fun x38 =>
 q8_0p4 cf R x38 h32 x5 x12
noncomputable def q8_0p2 (cf : CallF) (R : Rec) (x6 : IV) (h10 : H) (x5 : IV) (x12 : IV) : CRes :=
 Qo (Qle x6) fun x13 =>
 Qo (Qeql x13 (.int .i64 0)) fun x14 =>
 Qsp x14 true h10 (fun k15 =>
 Qo (Qle x5) fun x18 =>
 Qo (Qeql x18 (.int .i64 1)) fun x19 =>
 k15 x19 h10) fun x16 h17 =>
 Qo (Qpk x14 (some x16) (some (.bool false))) fun x20 =>
 q8_0p3 cf R x20 h17 x5 x12
noncomputable def q8_0p1 (cf : CallF) (R : Rec) (h4 : H) (x6 : IV) (x5 : IV) : CRes :=
 Qc (cf 7 [(.str ⟨34, 3006478903014711473306987865463408888448740812806205076923340402637275678128762733⟩)] h4) .pan fun x7 h8 =>
 Qc (cf 9 [x7] h8) .pan fun x9 h10 =>
 Qo (Qext x9 0) fun x11 =>
 Qo (Qext x9 1) fun x12 =>
 q8_0p2 cf R x6 h10 x5 x12
noncomputable def q8_0 (cf : CallF) (R : Rec) (h : H) : CRes :=
 Qc (cf 7 [(.str ⟨53, 17163960309987569124399314031853738009149824436224791404141469678991163436868356090137537126711834568925267493767973721652621165⟩)] h) .pan fun x1 h2 =>
 Qc (cf 9 [x1] h2) .pan fun x3 h4 =>
 Qo (Qext x3 0) fun x5 =>
 Qo (Qext x3 1) fun x6 =>
 q8_0p1 cf R h4 x6 x5
theorem qe8_0 : q8_0 = t8_0 := by
  unfold q8_0 q8_0p1 q8_0p2 q8_0p3 q8_0p4 q8_0p6 q8_0p5
  try simp only [QE]
  try rfl
noncomputable def bt8 (cf : CallF) (R : Rec) : Rec := fun i l h =>
 br0 i 0 l (t8_0 cf R h) <|
 .fail
noncomputable def b8 (cf : CallF) (R : Rec) : Rec := fun i l h =>
 brQ0 i 0 l (q8_0 cf R h) <|
 .fail
theorem be8 : b8 = bt8 := by
  unfold b8 bt8
  simp only [qe8_0, brQ0_eq]
theorem r8 {T : Tab} {cf : CallF} (hc : leC cf (CL T)) (n : Nat) : leR (recN (b8 cf) n) (J8 T) := be8 ▸ recN_le (fun R hR i l h => by
  unfold bt8
  refine le_br0 (J := fun i l => J8 T i l h) (fun _ => le_e (fun hn => e8_0 rfl hn) ((m8 hc hR) h)) ?_
  exact le_fail _) n
-- 9
noncomputable def u9_0 (cf : CallF) (L : List IV → I.Mode → H → Option (I.Mode × H)) (D : List IV → Rec) (R : Rec) (a0 : IV) (h : H) : CRes :=
 obind2 (newI h [.nilSlice]) fun x1 h2 =>
 obind2 (newI h2 [.nilSlice]) fun x3 h4 =>
 obind (lenS a0) fun x5 =>
 obind (binN .eql x5 (.int .i64 0)) fun x6 =>
 spanK x6 false h4 (fun k7 =>
 obind (lenS a0) fun x10 =>
 obind (binN .sub x10 (.int .i64 1)) fun x11 =>
 obind (ixS 3 a0 x11) fun x12 =>
 obind (fadK 0 x12) fun x13 =>
 obind (ld0 h4 x13) fun x14 =>
 obind (binN .neq x14 (.int .i64 6)) fun x15 =>
 k7 x15 h4) fun x8 h9 =>
 obind (pickI x6 (some (.bool true)) (some x8)) fun x16 =>
 condK x16
 (obind (bldK [(.int .i64 0), (.int .i64 0)] [(0, 1), (1, 1)] [(1, (.int .i64 1))]) fun x17 =>
 obind2 (bslK false 2 [(.int .i64 0), (.int .i64 0)] 1 [(0, x17)] h9) fun x18 h19 =>
 obindH (stA 1 h19 x1 .nilSlice) fun h20 =>
 obindH (stA 1 h20 x3 x18) fun h21 =>
 obind (ld0 h21 x1) fun x22 =>
 obind (ld0 h21 x3) fun x23 =>
 .ok (.tup [x22, x23]) h21)
 (obind (bldK [.nilSlice] [(0, 1)] [(0, a0)]) fun x24 =>
 obind2 (newI h9 (IV.cells x24)) fun x25 h26 =>
 D [x1, x3] 1 [x1, x3, x25, (.bool true)] h26)
noncomputable def u9_1d (cf : CallF) (L : List IV → I.Mode → H → Option (I.Mode × H)) (D : List IV → Rec) (R : Rec) (d0 d1 a2 a3 a4 a5 : IV) (h : H) : CRes :=
 spanK a5 false h (fun k27 =>
 obind2 (bslK false 1 [(.str ⟨0, 0⟩)] 1 [(0, (.str ⟨0, 0⟩))] h) fun x30 h31 =>
 callP (cf 17 [a4, x30] h31) (dfP (L [d0, d1]) fun h32 =>
 obind (ld0 h32 a2) fun x33 =>
 obind (ld0 h32 a3) fun x34 =>
 .ok (.tup [x33, x34]) h32) fun x35 h36 =>
 obind (unI .not x35) fun x37 =>
 k27 x37 h36) fun x28 h29 =>
 obind (pickI a5 (some (.bool true)) (some x28)) fun x38 =>
 condK x38
 (obind (ld0 h29 a2) fun x39 =>
 callP (cf 18 [a4] h29) (fun v40 h41 =>
 (dfP (L [d0, d1]) fun h42 =>
 obind (ld0 h42 a2) fun x43 =>
 obind (ld0 h42 a3) fun x44 =>
 .ok (.tup [x43, x44]) h42) v40 h41) fun x45 h46 =>
 obind (ld0 h46 a2) fun x47 =>
 bif IV.beq x47 x39 then
 obind2 (bslK false 5 z1 1 [(0, x45)] h46) fun x48 h49 =>
 obind (ld0 h49 a2) fun x50 =>
 bif IV.beq x50 x39 then
 obind2 (appK 5 96 h49 x39 x48) fun x51 h52 =>
 obindH (stA 1 h52 a2 x51) fun h53 =>
 R 1 [a2, a3, a4, (.bool false)] h53
 else .fail
 else .fail)
 (obind (ld0 h29 a2) fun x54 =>
 obindH (stA 1 h29 a2 x54) fun h55 =>
 obindH (stA 1 h55 a3 .nilSlice) fun h56 =>
 dfK (L [d0, d1] .ret h56) fun h57 =>
 obind (ld0 h57 a2) fun x58 =>
 obind (ld0 h57 a3) fun x59 =>
 .ok (.tup [x58, x59]) h57)
theorem m9 {cf cf' : CallF} {L L' : List IV → I.Mode → H → Option (I.Mode × H)} {D D' : List IV → Rec} {R R' : Rec} (hc : ∀ f l h, le (cf f l h) (cf' f l h)) (hL : ∀ l st h, leO (L l st h) (L' l st h)) (hD : ∀ l i x h, le (D l i x h) (D' l i x h)) (hR : ∀ i l h, le (R i l h) (R' i l h)) :
  (∀ (a0 : IV) (h : H), le (u9_0 cf L D R a0 h) (u9_0 cf' L' D' R' a0 h)) ∧
  (∀ (d0 d1 a2 a3 a4 a5 : IV) (h : H), le (u9_1d cf L D R d0 d1 a2 a3 a4 a5 h) (u9_1d cf' L' D' R' d0 d1 a2 a3 a4 a5 h)) := by
  refine ⟨?_, ?_⟩
  all_goals intros
  all_goals first | unfold u9_0 | unfold u9_1d
  all_goals
  with_reducible repeat' first
    | refine le_obind fun _ => ?_
    | refine le_callP ?_ (fun _ _ => ?_) (fun _ _ => ?_)
    | refine le_condK ?_ ?_
    | exact hR _ _ _
    | refine le_obind2 fun _ _ => ?_
    | refine le_obindH fun _ => ?_
    | refine le_spanK (fun _ _ _ => ?_) (fun _ _ => ?_)
    | exact hc _ _ _
    | refine le_bif ?_ ?_
    | refine le_guardK ?_ ?_ ?_
    | refine le_mapK fun _ _ => ?_
    | refine le_panK fun _ _ => ?_
    | refine le_funK fun _ _ => ?_
    | exact hD _ _ _ _
    | refine le_dfP (hL _) (fun _ => ?_)
    | refine le_dfK (hL _ _ _) (fun _ => ?_)
    | exact le_refl _
    | apply_assumption
noncomputable def bd9 (cf : CallF) (d0 d1 : IV) (R : Rec) : Rec := fun i l h =>
 br4 i 1 l (fun a2 a3 a4 a5 => u9_1d cf (L16 cf) (fun _ _ _ _ => .fail) R d0 d1 a2 a3 a4 a5 h) <|
 .fail
theorem rd9 {T : Tab} {cf : CallF} (hc : leC cf (CL T)) (d0 d1 : IV) (n : Nat) : leR (recN (bd9 cf d0 d1) n) (J9d T d0 d1) := recN_le (fun R hR i l h => by
  unfold bd9
  refine le_br4 (J := fun i l => J9d T d0 d1 i l h) (fun _ a2 a3 a4 a5 => le_e (fun hn => e9_1d (r := u9_1d (CL T) (fun l => LV Tryz.prog (CL T) 16 l) (fun l => fj1 Tryz.prog (CL T) Tryz.f9 js9 16 l) (J9d T d0 d1) d0 d1 a2 a3 a4 a5 h) rfl hn) ((m9 hc (lle16 hc) (fun _ _ _ _ => le_fail _) hR).2 d0 d1 a2 a3 a4 a5 h)) ?_
  exact le_fail _) n
noncomputable def D9 (cf : CallF) (l : List IV) : Rec :=
 match l with
 | [d0, d1] => recN (bd9 cf d0 d1) 1000000
 | _ => fun _ _ _ => .fail
theorem dle9 {T : Tab} {cf : CallF} (hc : leC cf (CL T)) (l : List IV) (i : Nat) (x : List IV) (h : H) : le (D9 cf l i x h) (fj1 Tryz.prog (CL T) Tryz.f9 js9 16 l i x h) := by
  unfold D9
  split
  · exact rd9 hc _ _ _ i x h
  · exact le_fail _
noncomputable def b9 (cf : CallF) (R : Rec) : Rec := fun i l h =>
 br1 i 0 l (fun a0 => u9_0 cf (L16 cf) (D9 cf) R a0 h) <|
 .fail
theorem r9 {T : Tab} {cf : CallF} (hc : leC cf (CL T)) (n : Nat) : leR (recN (b9 cf) n) (J9 T) := recN_le (fun R hR i l h => by
  unfold b9
  refine le_br1 (J := fun i l => J9 T i l h) (fun _ a0 => le_e (fun hn => e9_0 (r := u9_0 (CL T) (fun l => LV Tryz.prog (CL T) 16 l) (fun l => fj1 Tryz.prog (CL T) Tryz.f9 js9 16 l) (J9 T) a0 h) rfl hn) ((m9 hc (lle16 hc) (dle9 hc) hR).1 a0 h)) ?_
  exact le_fail _) n
-- 12
theorem m12 {cf cf' : CallF} {R R' : Rec} (hc : ∀ f l h, le (cf f l h) (cf' f l h)) (hR : ∀ i l h, le (R i l h) (R' i l h)) :
  (∀ (a0 a1 : IV) (h : H), le (t12_0 cf R a0 a1 h) (t12_0 cf' R' a0 a1 h)) ∧
  (∀ (a0 a1 a5 : IV) (h : H), le (t12_1 cf R a0 a1 a5 h) (t12_1 cf' R' a0 a1 a5 h)) := by
  refine ⟨?_, ?_⟩
  all_goals intros
  all_goals first | unfold t12_0 | unfold t12_1
  all_goals
  with_reducible repeat' first
    | refine le_obind fun _ => ?_
    | refine le_callP ?_ (fun _ _ => ?_) (fun _ _ => ?_)
    | refine le_condK ?_ ?_
    | exact hR _ _ _
    | refine le_obind2 fun _ _ => ?_
    | refine le_obindH fun _ => ?_
    | refine le_spanK (fun _ _ _ => ?_) (fun _ _ => ?_)
    | exact hc _ _ _
    | refine le_bif ?_ ?_
    | refine le_guardK ?_ ?_ ?_
    | refine le_mapK fun _ _ => ?_
    | refine le_panK fun _ _ => ?_
    | refine le_funK fun _ _ => ?_
    | exact le_refl _
    | apply_assumption
noncomputable def q12_0 (cf : CallF) (R : Rec) (a0 : IV) (a1 : IV) (h : H) : CRes :=
 Qo (Qle a0) fun x1 =>
 Qo (Qle a1) fun x2 =>
 Qo (Qneq x1 x2) fun x3 =>
 Qif x3
 (.ok (.bool false) h)
 (R 1 [a0, a1, (.int .i64 0)] h)
theorem qe12_0 : q12_0 = t12_0 := by
  unfold q12_0
  try simp only [QE]
  try rfl
noncomputable def q12_1p1 (cf : CallF) (R : Rec) (h : H) (x7 : IV) (x9 : IV) (a5 : IV) (a0 : IV) (a1 : IV) : CRes :=
 Qo (binK Tryz.prog h .neq 36 false false x7 x9) fun x10 =>
 Qif x10
 (.ok (.bool false) h)
 (Qo (Qadd a5 (.int .i64 1)) fun x11 =>
 R 1 [a0, a1, x11] h)
noncomputable def q12_1 (cf : CallF) (R : Rec) (a0 : IV) (a1 : IV) (a5 : IV) (h : H) : CRes :=
 Qo (Qle a0) fun x4 =>
 Qo (Qlss a5 x4) fun x5 =>
 Qif x5
 (Qo (Qix 2 a0 a5) fun x6 =>
 Qo (QlA 2 h x6) fun x7 =>
 Qo (Qix 2 a1 a5) fun x8 =>
 Qo (QlA 2 h x8) fun x9 =>
 q12_1p1 cf R h x7 x9 a5 a0 a1)
 (.ok (.bool true) h)
theorem qe12_1 : q12_1 = t12_1 := by
  unfold q12_1 q12_1p1
  try simp only [QE]
  try rfl
noncomputable def bt12 (cf : CallF) (R : Rec) : Rec := fun i l h =>
 br2 i 0 l (fun a0 a1 => t12_0 cf R a0 a1 h) <|
 br3 i 1 l (fun a0 a1 a5 => t12_1 cf R a0 a1 a5 h) <|
 .fail
noncomputable def b12 (cf : CallF) (R : Rec) : Rec := fun i l h =>
 brQ2 i 0 l (fun a0 a1 => q12_0 cf R a0 a1 h) <|
 brQ3 i 1 l (fun a0 a1 a5 => q12_1 cf R a0 a1 a5 h) <|
 .fail
theorem be12 : b12 = bt12 := by
  unfold b12 bt12
  simp only [qe12_0, qe12_1, brQ2_eq, brQ3_eq]
theorem r12 {T : Tab} {cf : CallF} (hc : leC cf (CL T)) (n : Nat) : leR (recN (b12 cf) n) (J12 T) := be12 ▸ recN_le (fun R hR i l h => by
  unfold bt12
  refine le_br2 (J := fun i l => J12 T i l h) (fun _ a0 a1 => le_e (fun hn => e12_0 rfl hn) ((m12 hc hR).1 a0 a1 h)) ?_
  refine le_br3 (J := fun i l => J12 T i l h) (fun _ a0 a1 a5 => le_e (fun hn => e12_1 rfl hn) ((m12 hc hR).2 a0 a1 a5 h)) ?_
  exact le_fail _) n
-- 14
theorem m14 {cf cf' : CallF} {R R' : Rec} (hc : ∀ f l h, le (cf f l h) (cf' f l h)) (hR : ∀ i l h, le (R i l h) (R' i l h)) :
  (∀ (a0 : IV) (h : H), le (t14_0 cf R a0 h) (t14_0 cf' R' a0 h)) ∧
  (∀ (a0 a4 a5 a6 : IV) (h : H), le (t14_1 cf R a0 a4 a5 a6 h) (t14_1 cf' R' a0 a4 a5 a6 h)) ∧
  (∀ (a0 a4 a5 a6 : IV) (h : H), le (t14_2 cf R a0 a4 a5 a6 h) (t14_2 cf' R' a0 a4 a5 a6 h)) := by
  refine ⟨?_, ?_, ?_⟩
  all_goals intros
  all_goals first | unfold t14_0 | unfold t14_1 | unfold t14_2
  all_goals
  with_reducible repeat' first
    | refine le_obind fun _ => ?_
    | refine le_callP ?_ (fun _ _ => ?_) (fun _ _ => ?_)
    | refine le_condK ?_ ?_
    | exact hR _ _ _
    | refine le_obind2 fun _ _ => ?_
    | refine le_obindH fun _ => ?_
    | refine le_spanK (fun _ _ _ => ?_) (fun _ _ => ?_)
    | exact hc _ _ _
    | refine le_bif ?_ ?_
    | refine le_guardK ?_ ?_ ?_
    | refine le_mapK fun _ _ => ?_
    | refine le_panK fun _ _ => ?_
    | refine le_funK fun _ _ => ?_
    | exact le_refl _
    | apply_assumption
noncomputable def q14_0 (cf : CallF) (R : Rec) (a0 : IV) (h : H) : CRes :=
 Qo (Qls a0) fun x1 =>
 Qo (Qgtr x1 (.int .i64 65536)) fun x2 =>
 Qif x2
 (Qc (cf 24 [(.int .i64 0), (.int .i64 4)] h) .pan fun x3 h4 =>
 .ok (.tup [.nilSlice, x3]) h4)
 (R 1 [a0, .nilSlice, (.bool false), (.int .i64 0)] h)
theorem qe14_0 : q14_0 = t14_0 := by
  unfold q14_0
  try simp only [QE]
  try rfl
noncomputable def q14_1p4 (cf : CallF) (R : Rec) (h74 : H) (x54 : IV) (a4 : IV) (a0 : IV) (x76 : IV) (x52 : IV) : CRes :=
 Qo (QlA 3 h74 x54) fun x77 =>
 Qo2 (Qbsl false 3 z2 1 [(0, x77)] h74) fun x78 h79 =>
 Qo2 (appK 3 32 h79 a4 x78) fun x80 h81 =>
 R 2 [a0, x80, x76, x52] h81
noncomputable def q14_1p3 (cf : CallF) (R : Rec) (h50 : H) (x51 : IV) (x53 : IV) (a6 : IV) (a5 : IV) (a4 : IV) (a0 : IV) (x52 : IV) : CRes :=
 Qo2 (QnI h50 z2) fun x54 h55 =>
 QoH (QsA 3 h55 x54 x51) fun h56 =>
 Qo (Qneq x53 (.int .i64 0)) fun x57 =>
 Qif x57
 (Qc (cf 24 [a6, x53] h56) .pan fun x58 h59 =>
 .ok (.tup [.nilSlice, x58]) h59)
 (Qsp a5 false h56 (fun k60 =>
 Qo (Qfad 0 x54) fun x63 =>
 Qo (Ql0 h56 x63) fun x64 =>
 Qo (Qeql x64 (.int .i64 4)) fun x65 =>
 k60 x65 h56) fun x61 h62 =>
 Qsp x61 true h62 (fun k66 =>
 Qo (Qfad 1 x54) fun x69 =>
 Qo (Ql0 h62 x69) fun x70 =>
 Qo (Qse x70 (.str ⟨6, 111524889126244⟩)) fun x71 =>
 k66 x71 h62) fun x67 h68 =>
 Qsp a5 false h68 (fun k72 =>
 Qo (Qpk x61 (some x67) (some (.bool false))) fun x75 =>
 k72 x75 h68) fun x73 h74 =>
 Qo (Qpk a5 (some (.bool true)) (some x73)) fun x76 =>
 q14_1p4 cf R h74 x54 a4 a0 x76 x52)
noncomputable def q14_1p2 (cf : CallF) (R : Rec) (x24 : IV) (x26 : IV) (h27 : H) (x7 : IV) (a6 : IV) (a0 : IV) (a4 : IV) (a5 : IV) : CRes :=
 Qo (Qpk x24 (some (.bool true)) (some x26)) fun x29 =>
 Qsp x29 false h27 (fun k30 =>
 Qo (Qeql x7 (.int .u8 13)) fun x33 =>
 k30 x33 h27) fun x31 h32 =>
 Qo (Qpk x29 (some (.bool true)) (some x31)) fun x34 =>
 Qif x34
 (Qo (Qadd a6 (.int .i64 1)) fun x35 =>
 R 1 [a0, a4, a5, x35] h32)
 (Qc (cf 25 [a0, a6, (.str ⟨2, 12079⟩)] h32) .pan fun x36 h37 =>
 Qsp x36 false h37 (fun k38 =>
 Qc (cf 25 [a0, a6, (.str ⟨2, 10799⟩)] h37) .pan fun x41 h42 =>
 k38 x41 h42) fun x39 h40 =>
 Qo (Qpk x36 (some (.bool true)) (some x39)) fun x43 =>
 Qif x43
 (Qc (cf 26 [a0, a6] h40) .pan fun x44 h45 =>
 Qo (Qlss x44 (.int .i64 0)) fun x46 =>
 Qif x46
 (Qc (cf 24 [a6, (.int .i64 20)] h45) .pan fun x47 h48 =>
 .ok (.tup [.nilSlice, x47]) h48)
 (R 1 [a0, a4, a5, x44] h45))
 (Qc (cf 27 [a0, a6] h40) .pan fun x49 h50 =>
 Qo (Qext x49 0) fun x51 =>
 Qo (Qext x49 1) fun x52 =>
 Qo (Qext x49 2) fun x53 =>
 q14_1p3 cf R h50 x51 x53 a6 a5 a4 a0 x52))
noncomputable def q14_1p1 (cf : CallF) (R : Rec) (x12 : IV) (a6 : IV) (h11 : H) (a4 : IV) (a0 : IV) (x7 : IV) (a5 : IV) : CRes :=
 Qif x12
 (Qo (Qbld z2 p3 [(0, (.int .i64 5)), (2, a6)]) fun x13 =>
 Qo2 (Qbsl false 3 z2 1 [(0, x13)] h11) fun x14 h15 =>
 Qo2 (appK 3 32 h15 a4 x14) fun x16 h17 =>
 Qo (Qadd a6 (.int .i64 1)) fun x18 =>
 R 2 [a0, x16, (.bool false), x18] h17)
 (Qo (Qeql x7 (.int .u8 32)) fun x19 =>
 Qsp x19 false h11 (fun k20 =>
 Qo (Qeql x7 (.int .u8 9)) fun x23 =>
 k20 x23 h11) fun x21 h22 =>
 Qo (Qpk x19 (some (.bool true)) (some x21)) fun x24 =>
 Qsp x24 false h22 (fun k25 =>
 Qo (Qeql x7 (.int .u8 10)) fun x28 =>
 k25 x28 h22) fun x26 h27 =>
 q14_1p2 cf R x24 x26 h27 x7 a6 a0 a4 a5)
noncomputable def q14_1 (cf : CallF) (R : Rec) (a0 : IV) (a4 : IV) (a5 : IV) (a6 : IV) (h : H) : CRes :=
 Qo (Qls a0) fun x5 =>
 Qo (Qlss a6 x5) fun x6 =>
 Qif x6
 (Qo (Qis a0 a6) fun x7 =>
 Qo (Qeql x7 (.int .u8 10)) fun x8 =>
 Qsp x8 true h (fun k9 =>
 k9 a5 h) fun x10 h11 =>
 Qo (Qpk x8 (some x10) (some (.bool false))) fun x12 =>
 q14_1p1 cf R x12 a6 h11 a4 a0 x7 a5)
 (Qo (Qls a0) fun x82 =>
 Qo (Qbld z2 p3 [(0, (.int .i64 6)), (2, x82)]) fun x83 =>
 Qo2 (Qbsl false 3 z2 1 [(0, x83)] h) fun x84 h85 =>
 Qo2 (appK 3 32 h85 a4 x84) fun x86 h87 =>
 .ok (.tup [x86, .nilSlice]) h87)
theorem qe14_1 : q14_1 = t14_1 := by
  unfold q14_1 q14_1p1 q14_1p2 q14_1p3 q14_1p4
  try simp only [QE]
  try rfl
noncomputable def q14_2 (cf : CallF) (R : Rec) (a0 : IV) (a4 : IV) (a5 : IV) (a6 : IV) (h : H) : CRes :=
 Qo (Qle a4) fun x88 =>
 Qo (Qgtr x88 (.int .i64 16384)) fun x89 =>
 Qif x89
 (Qo (Qle a4) fun x90 =>
 Qo (Qsub x90 (.int .i64 1)) fun x91 =>
 Qo (Qix 3 a4 x91) fun x92 =>
 Qo (Qfad 2 x92) fun x93 =>
 Qo (Ql0 h x93) fun x94 =>
 Qc (cf 24 [x94, (.int .i64 2)] h) .pan fun x95 h96 =>
 .ok (.tup [.nilSlice, x95]) h96)
 (R 1 [a0, a4, a5, a6] h)
theorem qe14_2 : q14_2 = t14_2 := by
  unfold q14_2
  try simp only [QE]
  try rfl
noncomputable def bt14 (cf : CallF) (R : Rec) : Rec := fun i l h =>
 br1 i 0 l (fun a0 => t14_0 cf R a0 h) <|
 br4 i 1 l (fun a0 a4 a5 a6 => t14_1 cf R a0 a4 a5 a6 h) <|
 br4 i 2 l (fun a0 a4 a5 a6 => t14_2 cf R a0 a4 a5 a6 h) <|
 .fail
noncomputable def b14 (cf : CallF) (R : Rec) : Rec := fun i l h =>
 brQ1 i 0 l (fun a0 => q14_0 cf R a0 h) <|
 brQ4 i 1 l (fun a0 a4 a5 a6 => q14_1 cf R a0 a4 a5 a6 h) <|
 brQ4 i 2 l (fun a0 a4 a5 a6 => q14_2 cf R a0 a4 a5 a6 h) <|
 .fail
theorem be14 : b14 = bt14 := by
  unfold b14 bt14
  simp only [qe14_0, qe14_1, qe14_2, brQ1_eq, brQ4_eq]
theorem r14 {T : Tab} {cf : CallF} (hc : leC cf (CL T)) (n : Nat) : leR (recN (b14 cf) n) (J14 T) := be14 ▸ recN_le (fun R hR i l h => by
  unfold bt14
  refine le_br1 (J := fun i l => J14 T i l h) (fun _ a0 => le_e (fun hn => e14_0 rfl hn) ((m14 hc hR).1 a0 h)) ?_
  refine le_br4 (J := fun i l => J14 T i l h) (fun _ a0 a4 a5 a6 => le_e (fun hn => e14_1 rfl hn) ((m14 hc hR).2.1 a0 a4 a5 a6 h)) ?_
  refine le_br4 (J := fun i l => J14 T i l h) (fun _ a0 a4 a5 a6 => le_e (fun hn => e14_2 rfl hn) ((m14 hc hR).2.2 a0 a4 a5 a6 h)) ?_
  exact le_fail _) n
-- 15
theorem m15 {cf cf' : CallF} {R R' : Rec} (hc : ∀ f l h, le (cf f l h) (cf' f l h)) (hR : ∀ i l h, le (R i l h) (R' i l h)) :
  (∀ (a0 : IV) (h : H), le (t15_0 cf R a0 h) (t15_0 cf' R' a0 h)) ∧
  (∀ (a0 a4 : IV) (h : H), le (t15_1 cf R a0 a4 h) (t15_1 cf' R' a0 a4 h)) ∧
  (∀ (a0 a4 : IV) (h : H), le (t15_2 cf R a0 a4 h) (t15_2 cf' R' a0 a4 h)) := by
  refine ⟨?_, ?_, ?_⟩
  all_goals intros
  all_goals first | unfold t15_0 | unfold t15_1 | unfold t15_2
  all_goals
  with_reducible repeat' first
    | refine le_obind fun _ => ?_
    | refine le_callP ?_ (fun _ _ => ?_) (fun _ _ => ?_)
    | refine le_condK ?_ ?_
    | exact hR _ _ _
    | refine le_obind2 fun _ _ => ?_
    | refine le_obindH fun _ => ?_
    | refine le_spanK (fun _ _ _ => ?_) (fun _ _ => ?_)
    | exact hc _ _ _
    | refine le_bif ?_ ?_
    | refine le_guardK ?_ ?_ ?_
    | refine le_mapK fun _ _ => ?_
    | refine le_panK fun _ _ => ?_
    | refine le_funK fun _ _ => ?_
    | exact le_refl _
    | apply_assumption
noncomputable def q15_0 (cf : CallF) (R : Rec) (a0 : IV) (h : H) : CRes :=
 Qo (Qbld z4 p5 [(0, a0)]) fun x1 =>
 Qo2 (QnI h (Qcells x1)) fun x2 h3 =>
 Qo (Qnil x2) fun x4 =>
 Qo (Qfad 1 x4) fun x5 =>
 QoH (QsA 1 h3 x5 (.int .i64 0)) fun h6 =>
 R 1 [a0, x2] h6
theorem qe15_0 : q15_0 = t15_0 := by
  unfold q15_0
  try simp only [QE]
  try rfl
noncomputable def q15_1p6 (cf : CallF) (R : Rec) (x57 : IV) (h37 : H) (a4 : IV) (a0 : IV) : CRes :=
 Qo (Qfad 0 x57) fun x58 =>
 Qo (Ql0 h37 x58) fun x59 =>
 Qc (cf 30 [a4, x59, (.int .i64 30)] h37) .pan fun x60 h61 =>
 R 2 [a0, a4] h61
noncomputable def q15_1p5 (cf : CallF) (R : Rec) (x52 : IV) (a4 : IV) (h37 : H) (a0 : IV) : CRes :=
 Qo (Qgtr x52 (.int .i64 0)) fun x53 =>
 Qif x53
 (Qo (Qnil a4) fun x54 =>
 Qo (Qfad 3 x54) fun x55 =>
 Qo (Ql0 h37 x55) fun x56 =>
 Qo (Qix 4 x56 (.int .i64 0)) fun x57 =>
 q15_1p6 cf R x57 h37 a4 a0)
 (R 2 [a0, a4] h37)
noncomputable def q15_1p7 (cf : CallF) (R : Rec) (h76 : H) (x77 : IV) (x26 : IV) (a4 : IV) (a0 : IV) : CRes :=
 Qo (Ql0 h76 x77) fun x78 =>
 Qo (Qfad 2 x26) fun x79 =>
 Qo (Ql0 h76 x79) fun x80 =>
 Qc (cf 34 [a4, x78, x80] h76) .pan fun x81 h82 =>
 R 2 [a0, a4] h82
noncomputable def q15_1p4 (cf : CallF) (R : Rec) (x34 : IV) (x36 : IV) (h37 : H) (x26 : IV) (a4 : IV) (a0 : IV) : CRes :=
 Qo (Qpk x34 (some x36) (some (.bool false))) fun x42 =>
 Qif x42
 (Qo (QlA 3 h37 x26) fun x43 =>
 Qc (cf 29 [a4, x43] h37) .pan fun x44 h45 =>
 R 2 [a0, a4] h45)
 (Qo (Qfad 0 x26) fun x46 =>
 Qo (Ql0 h37 x46) fun x47 =>
 Qo (Qeql x47 (.int .i64 6)) fun x48 =>
 Qif x48
 (Qo (Qnil a4) fun x49 =>
 Qo (Qfad 3 x49) fun x50 =>
 Qo (Ql0 h37 x50) fun x51 =>
 Qo (Qle x51) fun x52 =>
 q15_1p5 cf R x52 a4 h37 a0)
 (Qc (cf 31 [a4] h37) .pan fun x62 h63 =>
 Qo (Qnot x62) fun x64 =>
 Qif x64
 (R 2 [a0, a4] h63)
 (Qo (QlA 3 h63 x26) fun x65 =>
 Qc (cf 32 [x65] h63) .pan fun x66 h67 =>
 Qif x66
 (Qo (QlA 3 h67 x26) fun x68 =>
 Qc (cf 33 [a4, x68] h67) .pan fun x69 h70 =>
 R 2 [a0, a4] h70)
 (Qo (Qfad 0 x26) fun x71 =>
 Qo (Ql0 h67 x71) fun x72 =>
 Qo (Qeql x72 (.int .i64 4)) fun x73 =>
 Qif x73
 (Qo (Qnil a4) fun x74 =>
 Qo (Qfad 5 x74) fun x75 =>
 QoH (QsA 1 h67 x75 (.int .i64 0)) fun h76 =>
 Qo (Qfad 1 x26) fun x77 =>
 q15_1p7 cf R h76 x77 x26 a4 a0)
 (Qo (QlA 3 h67 x26) fun x83 =>
 Qc (cf 35 [a4, x83] h67) .pan fun x84 h85 =>
 R 2 [a0, a4] h85)))))
noncomputable def q15_1p3 (cf : CallF) (R : Rec) (h28 : H) (x29 : IV) (a0 : IV) (a4 : IV) (x26 : IV) : CRes :=
 Qo (Ql0 h28 x29) fun x30 =>
 Qo (Qeql x30 (.int .i64 5)) fun x31 =>
 Qif x31
 (R 2 [a0, a4] h28)
 (Qo (Qfad 0 x26) fun x32 =>
 Qo (Ql0 h28 x32) fun x33 =>
 Qo (Qeql x33 (.int .i64 4)) fun x34 =>
 Qsp x34 true h28 (fun k35 =>
 Qo (Qfad 1 x26) fun x38 =>
 Qo (Ql0 h28 x38) fun x39 =>
 Qc (cf 28 [x39] h28) .pan fun x40 h41 =>
 k35 x40 h41) fun x36 h37 =>
 q15_1p4 cf R x34 x36 h37 x26 a4 a0)
noncomputable def q15_1p2 (cf : CallF) (R : Rec) (h14 : H) (x24 : IV) (a0 : IV) (a4 : IV) : CRes :=
 Qo (QlA 3 h14 x24) fun x25 =>
 Qo2 (QnI h14 z2) fun x26 h27 =>
 QoH (QsA 3 h27 x26 x25) fun h28 =>
 Qo (Qfad 0 x26) fun x29 =>
 q15_1p3 cf R h28 x29 a0 a4 x26
noncomputable def q15_1p10 (cf : CallF) (R : Rec) (x103 : IV) (h14 : H) (x97 : IV) (x98 : IV) : CRes :=
 Qo (Qbld z2 p3 [(0, (.int .i64 6)), (2, x103)]) fun x104 =>
 Qo2 (Qbsl false 3 z2 1 [(0, x104)] h14) fun x105 h106 =>
 Qo (Ql0 h106 x97) fun x107 =>
 bif IV.beq x107 x98 then
 Qo2 (appK 3 32 h106 x98 x105) fun x108 h109 =>
 .ok (.tup [x108, .nilSlice]) h109
 else .fail
noncomputable def q15_1p9 (cf : CallF) (R : Rec) (x99 : IV) (a0 : IV) (h14 : H) (x97 : IV) (x98 : IV) : CRes :=
 Qo (Qsub x99 (.int .i64 1)) fun x100 =>
 Qo (Qix 3 a0 x100) fun x101 =>
 Qo (Qfad 2 x101) fun x102 =>
 Qo (Ql0 h14 x102) fun x103 =>
 q15_1p10 cf R x103 h14 x97 x98
noncomputable def q15_1p8 (cf : CallF) (R : Rec) (x89 : IV) (a4 : IV) (h14 : H) (a0 : IV) : CRes :=
 Qo (Qneq x89 (.int .i64 0)) fun x90 =>
 Qif x90
 (Qo (Qnil a4) fun x91 =>
 Qo (Qfad 6 x91) fun x92 =>
 Qo (QlA 2 h14 x92) fun x93 =>
 Qo2 (Qbsl false 2 [(.int .i64 0), (.int .i64 0)] 1 [(0, x93)] h14) fun x94 h95 =>
 .ok (.tup [.nilSlice, x94]) h95)
 (Qo (Qnil a4) fun x96 =>
 Qo (Qfad 4 x96) fun x97 =>
 Qo (Ql0 h14 x97) fun x98 =>
 Qo (Qle a0) fun x99 =>
 q15_1p9 cf R x99 a0 h14 x97 x98)
noncomputable def q15_1p1 (cf : CallF) (R : Rec) (x9 : IV) (x10 : IV) (h : H) (a4 : IV) (a0 : IV) : CRes :=
 Qo (Qlss x9 x10) fun x11 =>
 Qsp x11 true h (fun k12 =>
 Qo (Qnil a4) fun x15 =>
 Qo (Qfad 6 x15) fun x16 =>
 Qo (Qfad 1 x16) fun x17 =>
 Qo (Ql0 h x17) fun x18 =>
 Qo (Qeql x18 (.int .i64 0)) fun x19 =>
 k12 x19 h) fun x13 h14 =>
 Qo (Qpk x11 (some x13) (some (.bool false))) fun x20 =>
 Qif x20
 (Qo (Qnil a4) fun x21 =>
 Qo (Qfad 1 x21) fun x22 =>
 Qo (Ql0 h14 x22) fun x23 =>
 Qo (Qix 3 a0 x23) fun x24 =>
 q15_1p2 cf R h14 x24 a0 a4)
 (Qo (Qnil a4) fun x86 =>
 Qo (Qfad 6 x86) fun x87 =>
 Qo (Qfad 1 x87) fun x88 =>
 Qo (Ql0 h14 x88) fun x89 =>
 q15_1p8 cf R x89 a4 h14 a0)
noncomputable def q15_1 (cf : CallF) (R : Rec) (a0 : IV) (a4 : IV) (h : H) : CRes :=
 Qo (Qnil a4) fun x7 =>
 Qo (Qfad 1 x7) fun x8 =>
 Qo (Ql0 h x8) fun x9 =>
 Qo (Qle a0) fun x10 =>
 q15_1p1 cf R x9 x10 h a4 a0
theorem qe15_1 : q15_1 = t15_1 := by
  unfold q15_1 q15_1p1 q15_1p8 q15_1p9 q15_1p10 q15_1p2 q15_1p3 q15_1p4 q15_1p7 q15_1p5 q15_1p6
  try simp only [QE]
  try rfl
noncomputable def q15_2p1 (cf : CallF) (R : Rec) (a4 : IV) (h : H) (x113 : IV) (a0 : IV) : CRes :=
 Qo (Qnil a4) fun x114 =>
 Qo (Qfad 1 x114) fun x115 =>
 QoH (QsA 1 h x115 x113) fun h116 =>
 R 1 [a0, a4] h116
noncomputable def q15_2 (cf : CallF) (R : Rec) (a0 : IV) (a4 : IV) (h : H) : CRes :=
 Qo (Qnil a4) fun x110 =>
 Qo (Qfad 1 x110) fun x111 =>
 Qo (Ql0 h x111) fun x112 =>
 Qo (Qadd x112 (.int .i64 1)) fun x113 =>
 q15_2p1 cf R a4 h x113 a0
theorem qe15_2 : q15_2 = t15_2 := by
  unfold q15_2 q15_2p1
  try simp only [QE]
  try rfl
noncomputable def bt15 (cf : CallF) (R : Rec) : Rec := fun i l h =>
 br1 i 0 l (fun a0 => t15_0 cf R a0 h) <|
 br2 i 1 l (fun a0 a4 => t15_1 cf R a0 a4 h) <|
 br2 i 2 l (fun a0 a4 => t15_2 cf R a0 a4 h) <|
 .fail
noncomputable def b15 (cf : CallF) (R : Rec) : Rec := fun i l h =>
 brQ1 i 0 l (fun a0 => q15_0 cf R a0 h) <|
 brQ2 i 1 l (fun a0 a4 => q15_1 cf R a0 a4 h) <|
 brQ2 i 2 l (fun a0 a4 => q15_2 cf R a0 a4 h) <|
 .fail
theorem be15 : b15 = bt15 := by
  unfold b15 bt15
  simp only [qe15_0, qe15_1, qe15_2, brQ1_eq, brQ2_eq]
theorem r15 {T : Tab} {cf : CallF} (hc : leC cf (CL T)) (n : Nat) : leR (recN (b15 cf) n) (J15 T) := be15 ▸ recN_le (fun R hR i l h => by
  unfold bt15
  refine le_br1 (J := fun i l => J15 T i l h) (fun _ a0 => le_e (fun hn => e15_0 rfl hn) ((m15 hc hR).1 a0 h)) ?_
  refine le_br2 (J := fun i l => J15 T i l h) (fun _ a0 a4 => le_e (fun hn => e15_1 rfl hn) ((m15 hc hR).2.1 a0 a4 h)) ?_
  refine le_br2 (J := fun i l => J15 T i l h) (fun _ a0 a4 => le_e (fun hn => e15_2 rfl hn) ((m15 hc hR).2.2 a0 a4 h)) ?_
  exact le_fail _) n
-- 17
theorem m17 {cf cf' : CallF} {R R' : Rec} (hc : ∀ f l h, le (cf f l h) (cf' f l h)) (hR : ∀ i l h, le (R i l h) (R' i l h)) :
  (∀ (a0 a1 : IV) (h : H), le (t17_0 cf R a0 a1 h) (t17_0 cf' R' a0 a1 h)) ∧
  (∀ (a5 a14 a15 a16 : IV) (h : H), le (t17_1 cf R a5 a14 a15 a16 h) (t17_1 cf' R' a5 a14 a15 a16 h)) := by
  refine ⟨?_, ?_⟩
  all_goals intros
  all_goals first | unfold t17_0 | unfold t17_1
  all_goals
  with_reducible repeat' first
    | refine le_obind fun _ => ?_
    | refine le_callP ?_ (fun _ _ => ?_) (fun _ _ => ?_)
    | refine le_condK ?_ ?_
    | exact hR _ _ _
    | refine le_obind2 fun _ _ => ?_
    | refine le_obindH fun _ => ?_
    | refine le_spanK (fun _ _ _ => ?_) (fun _ _ => ?_)
    | exact hc _ _ _
    | refine le_bif ?_ ?_
    | refine le_guardK ?_ ?_ ?_
    | refine le_mapK fun _ _ => ?_
    | refine le_panK fun _ _ => ?_
    | refine le_funK fun _ _ => ?_
    | exact le_refl _
    | apply_assumption
noncomputable def q17_0 (cf : CallF) (R : Rec) (a0 : IV) (a1 : IV) (h : H) : CRes :=
 Qc (cf 36 [a0] h) .pan fun x1 h2 =>
 Qo (Qext x1 0) fun x3 =>
 Qo (Qext x1 1) fun x4 =>
 Qo (Qle a1) fun x5 =>
 R 1 [x3, a1, x5, (.int .i64 0)] h2
theorem qe17_0 : q17_0 = t17_0 := by
  unfold q17_0
  try simp only [QE]
  try rfl
noncomputable def q17_1 (cf : CallF) (R : Rec) (a5 : IV) (a14 : IV) (a15 : IV) (a16 : IV) (h : H) : CRes :=
 Qo (Qlss a16 a15) fun x6 =>
 Qif x6
 (Qo (Qix 1 a14 a16) fun x7 =>
 Qo (Ql0 h x7) fun x8 =>
 Qo (Qse a5 x8) fun x9 =>
 Qif x9
 (.ok (.bool true) h)
 (Qo (Qadd a16 (.int .i64 1)) fun x10 =>
 R 1 [a5, a14, a15, x10] h))
 (.ok (.bool false) h)
theorem qe17_1 : q17_1 = t17_1 := by
  unfold q17_1
  try simp only [QE]
  try rfl
noncomputable def bt17 (cf : CallF) (R : Rec) : Rec := fun i l h =>
 br2 i 0 l (fun a0 a1 => t17_0 cf R a0 a1 h) <|
 br4 i 1 l (fun a5 a14 a15 a16 => t17_1 cf R a5 a14 a15 a16 h) <|
 .fail
noncomputable def b17 (cf : CallF) (R : Rec) : Rec := fun i l h =>
 brQ2 i 0 l (fun a0 a1 => q17_0 cf R a0 a1 h) <|
 brQ4 i 1 l (fun a5 a14 a15 a16 => q17_1 cf R a5 a14 a15 a16 h) <|
 .fail
theorem be17 : b17 = bt17 := by
  unfold b17 bt17
  simp only [qe17_0, qe17_1, brQ2_eq, brQ4_eq]
theorem r17 {T : Tab} {cf : CallF} (hc : leC cf (CL T)) (n : Nat) : leR (recN (b17 cf) n) (J17 T) := be17 ▸ recN_le (fun R hR i l h => by
  unfold bt17
  refine le_br2 (J := fun i l => J17 T i l h) (fun _ a0 a1 => le_e (fun hn => e17_0 rfl hn) ((m17 hc hR).1 a0 a1 h)) ?_
  refine le_br4 (J := fun i l => J17 T i l h) (fun _ a5 a14 a15 a16 => le_e (fun hn => e17_1 rfl hn) ((m17 hc hR).2 a5 a14 a15 a16 h)) ?_
  exact le_fail _) n
-- 18
theorem m18 {cf cf' : CallF} {R R' : Rec} (hc : ∀ f l h, le (cf f l h) (cf' f l h)) (hR : ∀ i l h, le (R i l h) (R' i l h)) :
  (∀ (a0 : IV) (h : H), le (t18_0 cf R a0 h) (t18_0 cf' R' a0 h)) ∧
  (∀ (a0 a2 a3 : IV) (h : H), le (t18_1 cf R a0 a2 a3 h) (t18_1 cf' R' a0 a2 a3 h)) ∧
  (∀ (a0 a2 a3 a4 : IV) (h : H), le (t18_2 cf R a0 a2 a3 a4 h) (t18_2 cf' R' a0 a2 a3 a4 h)) ∧
  (∀ (a0 a2 a3 : IV) (h : H), le (t18_3 cf R a0 a2 a3 h) (t18_3 cf' R' a0 a2 a3 h)) ∧
  (∀ (a0 a2 a3 a6 : IV) (h : H), le (t18_4 cf R a0 a2 a3 a6 h) (t18_4 cf' R' a0 a2 a3 a6 h)) := by
  refine ⟨?_, ?_, ?_, ?_, ?_⟩
  all_goals intros
  all_goals first | unfold t18_0 | unfold t18_1 | unfold t18_2 | unfold t18_3 | unfold t18_4
  all_goals
  with_reducible repeat' first
    | refine le_obind fun _ => ?_
    | refine le_callP ?_ (fun _ _ => ?_) (fun _ _ => ?_)
    | refine le_condK ?_ ?_
    | exact hR _ _ _
    | refine le_obind2 fun _ _ => ?_
    | refine le_obindH fun _ => ?_
    | refine le_spanK (fun _ _ _ => ?_) (fun _ _ => ?_)
    | exact hc _ _ _
    | refine le_bif ?_ ?_
    | refine le_guardK ?_ ?_ ?_
    | refine le_mapK fun _ _ => ?_
    | refine le_panK fun _ _ => ?_
    | refine le_funK fun _ _ => ?_
    | exact le_refl _
    | apply_assumption
noncomputable def q18_0p2 (cf : CallF) (R : Rec) (x6 : IV) (h14 : H) (x13 : IV) (a0 : IV) (x1 : IV) : CRes :=
 Qo (Qfad 0 x6) fun x15 =>
 QoH (QsA 1 h14 x15 x13) fun h16 =>
 Qc (cf 40 [a0, (.str ⟨1, 35⟩)] h16) .pan fun x17 h18 =>
 Qif x17
 (Qo2 (Qbsl false 1 [(.str ⟨0, 0⟩)] 1 [(0, (.str ⟨1, 40⟩))] h18) fun x19 h20 =>
 Qc (cf 38 [a0, x19] h20) .pan fun x21 h22 =>
 R 2 [a0, x1, x6, (.bool true)] h22)
 (R 1 [a0, x1, x6] h18)
noncomputable def q18_0p1 (cf : CallF) (R : Rec) (h7 : H) (x6 : IV) (x5 : IV) (a0 : IV) (x1 : IV) : CRes :=
 QoH (QsA 5 h7 x6 x5) fun h8 =>
 Qo2 (Qbsl false 1 [(.str ⟨0, 0⟩)] 1 [(0, (.str ⟨6, 111516500389741⟩))] h8) fun x9 h10 =>
 Qc (cf 38 [a0, x9] h10) .pan fun x11 h12 =>
 Qc (cf 39 [a0] h12) .pan fun x13 h14 =>
 q18_0p2 cf R x6 h14 x13 a0 x1
noncomputable def q18_0 (cf : CallF) (R : Rec) (a0 : IV) (h : H) : CRes :=
 Qo2 (QnI h z1) fun x1 h2 =>
 Qc (cf 37 [a0] h2) .pan fun x3 h4 =>
 Qo (Qbld z1 p6 [(4, x3)]) fun x5 =>
 Qo2 (QnI h4 z1) fun x6 h7 =>
 q18_0p1 cf R h7 x6 x5 a0 x1
theorem qe18_0 : q18_0 = t18_0 := by
  unfold q18_0 q18_0p1 q18_0p2
  try simp only [QE]
  try rfl
noncomputable def q18_1 (cf : CallF) (R : Rec) (a0 : IV) (a2 : IV) (a3 : IV) (h : H) : CRes :=
 Qo2 (Qbsl false 1 [(.str ⟨0, 0⟩)] 1 [(0, (.str ⟨1, 40⟩))] h) fun x23 h24 =>
 Qc (cf 38 [a0, x23] h24) .pan fun x25 h26 =>
 Qc (cf 40 [a0, (.str ⟨1, 41⟩)] h26) .pan fun x27 h28 =>
 Qo (Qnot x27) fun x29 =>
 Qif x29
 (R 4 [a0, a2, a3, (.bool true)] h28)
 (R 3 [a0, a2, a3] h28)
theorem qe18_1 : q18_1 = t18_1 := by
  unfold q18_1
  try simp only [QE]
  try rfl
noncomputable def q18_2p4 (cf : CallF) (R : Rec) (h54 : H) (x51 : IV) (x53 : IV) (a3 : IV) (a0 : IV) (a2 : IV) : CRes :=
 Qo2 (appK 8 104 h54 x51 x53) fun x55 h56 =>
 Qo (Qfad 1 a3) fun x57 =>
 QoH (QsA 1 h56 x57 x55) fun h58 =>
 Qc (cf 40 [a0, (.str ⟨1, 44⟩)] h58) .pan fun x59 h60 =>
 R 2 [a0, a2, a3, x59] h60
noncomputable def q18_2p3 (cf : CallF) (R : Rec) (a3 : IV) (h49 : H) (x39 : IV) (a0 : IV) (a2 : IV) : CRes :=
 Qo (Qfad 1 a3) fun x50 =>
 Qo (Ql0 h49 x50) fun x51 =>
 Qo (QlA 8 h49 x39) fun x52 =>
 Qo2 (Qbsl false 8 z7 1 [(0, x52)] h49) fun x53 h54 =>
 q18_2p4 cf R h54 x51 x53 a3 a0 a2
noncomputable def q18_2p2 (cf : CallF) (R : Rec) (a0 : IV) (x42 : IV) (h43 : H) (x39 : IV) (a3 : IV) (a2 : IV) : CRes :=
 Qc (cf 38 [a0, x42] h43) .pan fun x44 h45 =>
 Qc (cf 41 [a0, (.int .i64 1)] h45) .pan fun x46 h47 =>
 Qo (Qfad 1 x39) fun x48 =>
 QoH (QsA 6 h47 x48 x46) fun h49 =>
 q18_2p3 cf R a3 h49 x39 a0 a2
noncomputable def q18_2p1 (cf : CallF) (R : Rec) (x34 : IV) (x36 : IV) (h37 : H) (a0 : IV) (a3 : IV) (a2 : IV) : CRes :=
 Qo (Qbld z7 p8 [(2, x34), (0, x36)]) fun x38 =>
 Qo2 (QnI h37 z7) fun x39 h40 =>
 QoH (QsA 8 h40 x39 x38) fun h41 =>
 Qo2 (Qbsl false 1 [(.str ⟨0, 0⟩)] 1 [(0, (.str ⟨1, 61⟩))] h41) fun x42 h43 =>
 q18_2p2 cf R a0 x42 h43 x39 a3 a2
noncomputable def q18_2 (cf : CallF) (R : Rec) (a0 : IV) (a2 : IV) (a3 : IV) (a4 : IV) (h : H) : CRes :=
 Qif a4
 (Qo2 (Qbsl false 1 [(.str ⟨0, 0⟩)] 1 [(0, (.str ⟨9, 2110239404018478768496⟩))] h) fun x30 h31 =>
 Qc (cf 38 [a0, x30] h31) .pan fun x32 h33 =>
 Qc (cf 37 [a0] h33) .pan fun x34 h35 =>
 Qc (cf 39 [a0] h35) .pan fun x36 h37 =>
 q18_2p1 cf R x34 x36 h37 a0 a3 a2)
 (Qo2 (Qbsl false 1 [(.str ⟨0, 0⟩)] 1 [(0, (.str ⟨1, 41⟩))] h) fun x61 h62 =>
 Qc (cf 38 [a0, x61] h62) .pan fun x63 h64 =>
 R 1 [a0, a2, a3] h64)
theorem qe18_2 : q18_2 = t18_2 := by
  unfold q18_2 q18_2p1 q18_2p2 q18_2p3 q18_2p4
  try simp only [QE]
  try rfl
noncomputable def q18_3p1 (cf : CallF) (R : Rec) (h70 : H) (x71 : IV) (x69 : IV) (a3 : IV) (a2 : IV) : CRes :=
 QoH (QsA 1 h70 x71 x69) fun h72 =>
 Qo (QlA 5 h72 a3) fun x73 =>
 QoH (QsA 5 h72 a2 x73) fun h74 =>
 Qo (QlA 5 h74 a2) fun x75 =>
 .ok x75 h74
noncomputable def q18_3 (cf : CallF) (R : Rec) (a0 : IV) (a2 : IV) (a3 : IV) (h : H) : CRes :=
 Qo2 (Qbsl false 1 [(.str ⟨0, 0⟩)] 1 [(0, (.str ⟨1, 59⟩))] h) fun x65 h66 =>
 Qc (cf 38 [a0, x65] h66) .pan fun x67 h68 =>
 Qc (cf 43 [a0, (.str ⟨9, 1870936414602775522917⟩), (.int .i64 1)] h68) .pan fun x69 h70 =>
 Qo (Qfad 3 a3) fun x71 =>
 q18_3p1 cf R h70 x71 x69 a3 a2
theorem qe18_3 : q18_3 = t18_3 := by
  unfold q18_3 q18_3p1
  try simp only [QE]
  try rfl
noncomputable def q18_4p1 (cf : CallF) (R : Rec) (x82 : IV) (x77 : IV) (x80 : IV) (h81 : H) (x76 : IV) (a3 : IV) (a0 : IV) (a2 : IV) : CRes :=
 bif IV.beq x82 x77 then
 Qo2 (Qbsl false 17 z9 1 [(0, x80)] h81) fun x83 h84 =>
 Qo (Ql0 h84 x76) fun x85 =>
 bif IV.beq x85 x77 then
 Qo2 (appK 17 192 h84 x77 x83) fun x86 h87 =>
 Qo (Qfad 2 a3) fun x88 =>
 QoH (QsA 1 h87 x88 x86) fun h89 =>
 Qc (cf 40 [a0, (.str ⟨1, 44⟩)] h89) .pan fun x90 h91 =>
 R 4 [a0, a2, a3, x90] h91
 else .fail
 else .fail
noncomputable def q18_4 (cf : CallF) (R : Rec) (a0 : IV) (a2 : IV) (a3 : IV) (a6 : IV) (h : H) : CRes :=
 Qif a6
 (Qo (Qfad 2 a3) fun x76 =>
 Qo (Ql0 h x76) fun x77 =>
 Qc (cf 42 [a0] h) (fun v78 h79 =>
 .pan v78 h79) fun x80 h81 =>
 Qo (Ql0 h81 x76) fun x82 =>
 q18_4p1 cf R x82 x77 x80 h81 x76 a3 a0 a2)
 (Qo2 (Qbsl false 1 [(.str ⟨0, 0⟩)] 1 [(0, (.str ⟨1, 41⟩))] h) fun x92 h93 =>
 Qc (cf 38 [a0, x92] h93) .pan fun x94 h95 =>
 R 3 [a0, a2, a3] h95)
theorem qe18_4 : q18_4 = t18_4 := by
  unfold q18_4 q18_4p1
  try simp only [QE]
  try rfl
noncomputable def bt18 (cf : CallF) (R : Rec) : Rec := fun i l h =>
 br1 i 0 l (fun a0 => t18_0 cf R a0 h) <|
 br3 i 1 l (fun a0 a2 a3 => t18_1 cf R a0 a2 a3 h) <|
 br4 i 2 l (fun a0 a2 a3 a4 => t18_2 cf R a0 a2 a3 a4 h) <|
 br3 i 3 l (fun a0 a2 a3 => t18_3 cf R a0 a2 a3 h) <|
 br4 i 4 l (fun a0 a2 a3 a6 => t18_4 cf R a0 a2 a3 a6 h) <|
 .fail
noncomputable def b18 (cf : CallF) (R : Rec) : Rec := fun i l h =>
 brQ1 i 0 l (fun a0 => q18_0 cf R a0 h) <|
 brQ3 i 1 l (fun a0 a2 a3 => q18_1 cf R a0 a2 a3 h) <|
 brQ4 i 2 l (fun a0 a2 a3 a4 => q18_2 cf R a0 a2 a3 a4 h) <|
 brQ3 i 3 l (fun a0 a2 a3 => q18_3 cf R a0 a2 a3 h) <|
 brQ4 i 4 l (fun a0 a2 a3 a6 => q18_4 cf R a0 a2 a3 a6 h) <|
 .fail
theorem be18 : b18 = bt18 := by
  unfold b18 bt18
  simp only [qe18_0, qe18_1, qe18_2, qe18_3, qe18_4, brQ1_eq, brQ3_eq, brQ4_eq]
theorem r18 {T : Tab} {cf : CallF} (hc : leC cf (CL T)) (n : Nat) : leR (recN (b18 cf) n) (J18 T) := be18 ▸ recN_le (fun R hR i l h => by
  unfold bt18
  refine le_br1 (J := fun i l => J18 T i l h) (fun _ a0 => le_e (fun hn => e18_0 rfl hn) ((m18 hc hR).1 a0 h)) ?_
  refine le_br3 (J := fun i l => J18 T i l h) (fun _ a0 a2 a3 => le_e (fun hn => e18_1 rfl hn) ((m18 hc hR).2.1 a0 a2 a3 h)) ?_
  refine le_br4 (J := fun i l => J18 T i l h) (fun _ a0 a2 a3 a4 => le_e (fun hn => e18_2 rfl hn) ((m18 hc hR).2.2.1 a0 a2 a3 a4 h)) ?_
  refine le_br3 (J := fun i l => J18 T i l h) (fun _ a0 a2 a3 => le_e (fun hn => e18_3 rfl hn) ((m18 hc hR).2.2.2.1 a0 a2 a3 h)) ?_
  refine le_br4 (J := fun i l => J18 T i l h) (fun _ a0 a2 a3 a6 => le_e (fun hn => e18_4 rfl hn) ((m18 hc hR).2.2.2.2 a0 a2 a3 a6 h)) ?_
  exact le_fail _) n
-- 24
theorem m24 {cf cf' : CallF} {R R' : Rec} (hc : ∀ f l h, le (cf f l h) (cf' f l h)) (hR : ∀ i l h, le (R i l h) (R' i l h)) : (∀ (a0 a1 : IV) (h : H), le (t24_0 cf R a0 a1 h) (t24_0 cf' R' a0 a1 h)) := by
  intros
  unfold t24_0
  with_reducible repeat' first
    | refine le_obind fun _ => ?_
    | refine le_callP ?_ (fun _ _ => ?_) (fun _ _ => ?_)
    | refine le_condK ?_ ?_
    | exact hR _ _ _
    | refine le_obind2 fun _ _ => ?_
    | refine le_obindH fun _ => ?_
    | refine le_spanK (fun _ _ _ => ?_) (fun _ _ => ?_)
    | exact hc _ _ _
    | refine le_bif ?_ ?_
    | refine le_guardK ?_ ?_ ?_
    | refine le_mapK fun _ _ => ?_
    | refine le_panK fun _ _ => ?_
    | refine le_funK fun _ _ => ?_
    | exact le_refl _
    | apply_assumption
noncomputable def q24_0 (cf : CallF) (R : Rec) (a0 : IV) (a1 : IV) (h : H) : CRes :=
 Qo (Qbld [(.int .i64 0), (.int .i64 0)] [(0, 1), (1, 1)] [(0, a0), (1, a1)]) fun x1 =>
 Qo2 (Qbsl false 2 [(.int .i64 0), (.int .i64 0)] 1 [(0, x1)] h) fun x2 h3 =>
 .ok x2 h3
theorem qe24_0 : q24_0 = t24_0 := by
  unfold q24_0
  try simp only [QE]
  try rfl
noncomputable def bt24 (cf : CallF) (R : Rec) : Rec := fun i l h =>
 br2 i 0 l (fun a0 a1 => t24_0 cf R a0 a1 h) <|
 .fail
noncomputable def b24 (cf : CallF) (R : Rec) : Rec := fun i l h =>
 brQ2 i 0 l (fun a0 a1 => q24_0 cf R a0 a1 h) <|
 .fail
theorem be24 : b24 = bt24 := by
  unfold b24 bt24
  simp only [qe24_0, brQ2_eq]
theorem r24 {T : Tab} {cf : CallF} (hc : leC cf (CL T)) (n : Nat) : leR (recN (b24 cf) n) (J24 T) := be24 ▸ recN_le (fun R hR i l h => by
  unfold bt24
  refine le_br2 (J := fun i l => J24 T i l h) (fun _ a0 a1 => le_e (fun hn => e24_0 rfl hn) ((m24 hc hR) a0 a1 h)) ?_
  exact le_fail _) n
-- 25
theorem m25 {cf cf' : CallF} {R R' : Rec} (hc : ∀ f l h, le (cf f l h) (cf' f l h)) (hR : ∀ i l h, le (R i l h) (R' i l h)) : (∀ (a0 a1 a2 : IV) (h : H), le (t25_0 cf R a0 a1 a2 h) (t25_0 cf' R' a0 a1 a2 h)) := by
  intros
  unfold t25_0
  with_reducible repeat' first
    | refine le_obind fun _ => ?_
    | refine le_callP ?_ (fun _ _ => ?_) (fun _ _ => ?_)
    | refine le_condK ?_ ?_
    | exact hR _ _ _
    | refine le_obind2 fun _ _ => ?_
    | refine le_obindH fun _ => ?_
    | refine le_spanK (fun _ _ _ => ?_) (fun _ _ => ?_)
    | exact hc _ _ _
    | refine le_bif ?_ ?_
    | refine le_guardK ?_ ?_ ?_
    | refine le_mapK fun _ _ => ?_
    | refine le_panK fun _ _ => ?_
    | refine le_funK fun _ _ => ?_
    | exact le_refl _
    | apply_assumption
noncomputable def q25_0p1 (cf : CallF) (R : Rec) (x4 : IV) (h : H) (a2 : IV) (a1 : IV) (a0 : IV) : CRes :=
 Qsp x4 true h (fun k5 =>
 Qo (Qls a2) fun x8 =>
 Qo (Qadd a1 x8) fun x9 =>
 Qo (slcStr a0 (some a1) (some x9)) fun x10 =>
 Qo (Qse x10 a2) fun x11 =>
 k5 x11 h) fun x6 h7 =>
 Qo (Qpk x4 (some x6) (some (.bool false))) fun x12 =>
 .ok x12 h7
noncomputable def q25_0 (cf : CallF) (R : Rec) (a0 : IV) (a1 : IV) (a2 : IV) (h : H) : CRes :=
 Qo (Qls a0) fun x1 =>
 Qo (Qsub x1 a1) fun x2 =>
 Qo (Qls a2) fun x3 =>
 Qo (Qgeq x2 x3) fun x4 =>
 q25_0p1 cf R x4 h a2 a1 a0
theorem qe25_0 : q25_0 = t25_0 := by
  unfold q25_0 q25_0p1
  try simp only [QE]
  try rfl
noncomputable def bt25 (cf : CallF) (R : Rec) : Rec := fun i l h =>
 br3 i 0 l (fun a0 a1 a2 => t25_0 cf R a0 a1 a2 h) <|
 .fail
noncomputable def b25 (cf : CallF) (R : Rec) : Rec := fun i l h =>
 brQ3 i 0 l (fun a0 a1 a2 => q25_0 cf R a0 a1 a2 h) <|
 .fail
theorem be25 : b25 = bt25 := by
  unfold b25 bt25
  simp only [qe25_0, brQ3_eq]
theorem r25 {T : Tab} {cf : CallF} (hc : leC cf (CL T)) (n : Nat) : leR (recN (b25 cf) n) (J25 T) := be25 ▸ recN_le (fun R hR i l h => by
  unfold bt25
  refine le_br3 (J := fun i l => J25 T i l h) (fun _ a0 a1 a2 => le_e (fun hn => e25_0 rfl hn) ((m25 hc hR) a0 a1 a2 h)) ?_
  exact le_fail _) n
-- 26
theorem m26 {cf cf' : CallF} {R R' : Rec} (hc : ∀ f l h, le (cf f l h) (cf' f l h)) (hR : ∀ i l h, le (R i l h) (R' i l h)) :
  (∀ (a0 a1 : IV) (h : H), le (t26_0 cf R a0 a1 h) (t26_0 cf' R' a0 a1 h)) ∧
  (∀ (a0 a1 : IV) (h : H), le (t26_1 cf R a0 a1 h) (t26_1 cf' R' a0 a1 h)) ∧
  (∀ (a0 a5 : IV) (h : H), le (t26_2 cf R a0 a5 h) (t26_2 cf' R' a0 a5 h)) := by
  refine ⟨?_, ?_, ?_⟩
  all_goals intros
  all_goals first | unfold t26_0 | unfold t26_1 | unfold t26_2
  all_goals
  with_reducible repeat' first
    | refine le_obind fun _ => ?_
    | refine le_callP ?_ (fun _ _ => ?_) (fun _ _ => ?_)
    | refine le_condK ?_ ?_
    | exact hR _ _ _
    | refine le_obind2 fun _ _ => ?_
    | refine le_obindH fun _ => ?_
    | refine le_spanK (fun _ _ _ => ?_) (fun _ _ => ?_)
    | exact hc _ _ _
    | refine le_bif ?_ ?_
    | refine le_guardK ?_ ?_ ?_
    | refine le_mapK fun _ _ => ?_
    | refine le_panK fun _ _ => ?_
    | refine le_funK fun _ _ => ?_
    | exact le_refl _
    | apply_assumption
noncomputable def q26_0 (cf : CallF) (R : Rec) (a0 : IV) (a1 : IV) (h : H) : CRes :=
 Qc (cf 25 [a0, a1, (.str ⟨2, 12079⟩)] h) .pan fun x1 h2 =>
 Qif x1
 (R 1 [a0, a1] h2)
 (Qc (cf 25 [a0, a1, (.str ⟨2, 10799⟩)] h2) .pan fun x3 h4 =>
 Qo (Qnot x3) fun x5 =>
 Qif x5
 (.ok (.int .i64 (-1)) h4)
 (Qo (Qadd a1 (.int .i64 2)) fun x6 =>
 R 2 [a0, x6] h4))
theorem qe26_0 : q26_0 = t26_0 := by
  unfold q26_0
  try simp only [QE]
  try rfl
noncomputable def q26_1p1 (cf : CallF) (R : Rec) (x14 : IV) (a1 : IV) (a0 : IV) (h11 : H) : CRes :=
 Qif x14
 (Qo (Qadd a1 (.int .i64 1)) fun x15 =>
 R 1 [a0, x15] h11)
 (.ok a1 h11)
noncomputable def q26_1 (cf : CallF) (R : Rec) (a0 : IV) (a1 : IV) (h : H) : CRes :=
 Qo (Qls a0) fun x7 =>
 Qo (Qlss a1 x7) fun x8 =>
 Qsp x8 true h (fun k9 =>
 Qo (Qis a0 a1) fun x12 =>
 Qo (Qneq x12 (.int .u8 10)) fun x13 =>
 k9 x13 h) fun x10 h11 =>
 Qo (Qpk x8 (some x10) (some (.bool false))) fun x14 =>
 q26_1p1 cf R x14 a1 a0 h11
theorem qe26_1 : q26_1 = t26_1 := by
  unfold q26_1 q26_1p1
  try simp only [QE]
  try rfl
noncomputable def q26_2 (cf : CallF) (R : Rec) (a0 : IV) (a5 : IV) (h : H) : CRes :=
 Qo (Qls a0) fun x16 =>
 Qo (Qlss a5 x16) fun x17 =>
 Qif x17
 (Qc (cf 25 [a0, a5, (.str ⟨2, 12074⟩)] h) .pan fun x18 h19 =>
 Qif x18
 (Qo (Qadd a5 (.int .i64 2)) fun x20 =>
 .ok x20 h19)
 (Qo (Qadd a5 (.int .i64 1)) fun x21 =>
 R 2 [a0, x21] h19))
 (.ok (.int .i64 (-1)) h)
theorem qe26_2 : q26_2 = t26_2 := by
  unfold q26_2
  try simp only [QE]
  try rfl
noncomputable def bt26 (cf : CallF) (R : Rec) : Rec := fun i l h =>
 br2 i 0 l (fun a0 a1 => t26_0 cf R a0 a1 h) <|
 br2 i 1 l (fun a0 a1 => t26_1 cf R a0 a1 h) <|
 br2 i 2 l (fun a0 a5 => t26_2 cf R a0 a5 h) <|
 .fail
noncomputable def b26 (cf : CallF) (R : Rec) : Rec := fun i l h =>
 brQ2 i 0 l (fun a0 a1 => q26_0 cf R a0 a1 h) <|
 brQ2 i 1 l (fun a0 a1 => q26_1 cf R a0 a1 h) <|
 brQ2 i 2 l (fun a0 a5 => q26_2 cf R a0 a5 h) <|
 .fail
theorem be26 : b26 = bt26 := by
  unfold b26 bt26
  simp only [qe26_0, qe26_1, qe26_2, brQ2_eq]
theorem r26 {T : Tab} {cf : CallF} (hc : leC cf (CL T)) (n : Nat) : leR (recN (b26 cf) n) (J26 T) := be26 ▸ recN_le (fun R hR i l h => by
  unfold bt26
  refine le_br2 (J := fun i l => J26 T i l h) (fun _ a0 a1 => le_e (fun hn => e26_0 rfl hn) ((m26 hc hR).1 a0 a1 h)) ?_
  refine le_br2 (J := fun i l => J26 T i l h) (fun _ a0 a1 => le_e (fun hn => e26_1 rfl hn) ((m26 hc hR).2.1 a0 a1 h)) ?_
  refine le_br2 (J := fun i l => J26 T i l h) (fun _ a0 a5 => le_e (fun hn => e26_2 rfl hn) ((m26 hc hR).2.2 a0 a5 h)) ?_
  exact le_fail _) n
-- 27
theorem m27 {cf cf' : CallF} {R R' : Rec} (hc : ∀ f l h, le (cf f l h) (cf' f l h)) (hR : ∀ i l h, le (R i l h) (R' i l h)) :
  (∀ (a0 a1 : IV) (h : H), le (t27_0 cf R a0 a1 h) (t27_0 cf' R' a0 a1 h)) ∧
  (∀ (a0 a1 a4 a7 : IV) (h : H), le (t27_1 cf R a0 a1 a4 a7 h) (t27_1 cf' R' a0 a1 a4 a7 h)) ∧
  (∀ (a0 a1 a4 a7 a8 : IV) (h : H), le (t27_2 cf R a0 a1 a4 a7 a8 h) (t27_2 cf' R' a0 a1 a4 a7 a8 h)) ∧
  (∀ (a0 a1 a4 a7 : IV) (h : H), le (t27_4 cf R a0 a1 a4 a7 h) (t27_4 cf' R' a0 a1 a4 a7 h)) ∧
  (∀ (a0 a1 a4 a7 a8 a9 : IV) (h : H), le (t27_3 cf R a0 a1 a4 a7 a8 a9 h) (t27_3 cf' R' a0 a1 a4 a7 a8 a9 h)) := by
  refine ⟨?_, ?_, ?_, ?_, ?_⟩
  all_goals intros
  all_goals first | unfold t27_0 | unfold t27_1 | unfold t27_2 | unfold t27_4 | unfold t27_3
  all_goals
  with_reducible repeat' first
    | refine le_obind fun _ => ?_
    | refine le_callP ?_ (fun _ _ => ?_) (fun _ _ => ?_)
    | refine le_condK ?_ ?_
    | exact hR _ _ _
    | refine le_obind2 fun _ _ => ?_
    | refine le_obindH fun _ => ?_
    | refine le_spanK (fun _ _ _ => ?_) (fun _ _ => ?_)
    | exact hc _ _ _
    | refine le_bif ?_ ?_
    | refine le_guardK ?_ ?_ ?_
    | refine le_mapK fun _ _ => ?_
    | refine le_panK fun _ _ => ?_
    | refine le_funK fun _ _ => ?_
    | exact le_refl _
    | apply_assumption
noncomputable def q27_0 (cf : CallF) (R : Rec) (a0 : IV) (a1 : IV) (h : H) : CRes :=
 Qo2 (QnI h z2) fun x1 h2 =>
 Qo (Qis a0 a1) fun x3 =>
 Qo (Qeql x3 (.int .u8 96)) fun x4 =>
 Qif x4
 (Qo (Qadd a1 (.int .i64 1)) fun x5 =>
 R 1 [a0, a1, x1, x5] h2)
 (R 1 [a0, a1, x1, a1] h2)
theorem qe27_0 : q27_0 = t27_0 := by
  unfold q27_0
  try simp only [QE]
  try rfl
noncomputable def q27_1p1 (cf : CallF) (R : Rec) (x14 : IV) (a0 : IV) (a1 : IV) (a4 : IV) (a7 : IV) (h10 : H) : CRes :=
 Qif x14
 (R 2 [a0, a1, a4, a7, a7] h10)
 (Qo (Qis a0 a1) fun x15 =>
 Qc (cf 54 [x15] h10) .pan fun x16 h17 =>
 Qif x16
 (R 4 [a0, a1, a4, a7] h17)
 (Qc (cf 56 [a0, a1] h17) .pan fun x18 h19 =>
 Qo (Qse x18 (.str ⟨0, 0⟩)) fun x20 =>
 Qif x20
 (Qo (Qbld z2 p3 []) fun x21 =>
 QoH (QsA 3 h19 a4 x21) fun h22 =>
 Qo (QlA 3 h22 a4) fun x23 =>
 .ok (.tup [x23, (.int .i64 0), (.int .i64 20)]) h22)
 (Qo (Qbld z2 p3 [(0, (.int .i64 3)), (1, x18), (2, a1)]) fun x24 =>
 Qo (Qls x18) fun x25 =>
 Qo (Qadd a1 x25) fun x26 =>
 QoH (QsA 3 h19 a4 x24) fun h27 =>
 Qo (QlA 3 h27 a4) fun x28 =>
 .ok (.tup [x28, x26, (.int .i64 0)]) h27)))
noncomputable def q27_1 (cf : CallF) (R : Rec) (a0 : IV) (a1 : IV) (a4 : IV) (a7 : IV) (h : H) : CRes :=
 Qo (Qls a0) fun x6 =>
 Qo (Qlss a7 x6) fun x7 =>
 Qsp x7 true h (fun k8 =>
 Qo (Qis a0 a7) fun x11 =>
 Qc (cf 52 [x11] h) .pan fun x12 h13 =>
 k8 x12 h13) fun x9 h10 =>
 Qo (Qpk x7 (some x9) (some (.bool false))) fun x14 =>
 q27_1p1 cf R x14 a0 a1 a4 a7 h10
theorem qe27_1 : q27_1 = t27_1 := by
  unfold q27_1 q27_1p1
  try simp only [QE]
  try rfl
noncomputable def q27_2p1 (cf : CallF) (R : Rec) (x37 : IV) (a7 : IV) (a0 : IV) (a1 : IV) (a4 : IV) (a8 : IV) (h33 : H) : CRes :=
 Qif x37
 (Qo (Qadd a7 (.int .i64 1)) fun x38 =>
 R 2 [a0, a1, a4, x38, a8] h33)
 (Qo (Qsub a7 a8) fun x39 =>
 Qo (Qgtr x39 (.int .i64 64)) fun x40 =>
 Qif x40
 (Qo (Qbld z2 p3 []) fun x41 =>
 QoH (QsA 3 h33 a4 x41) fun h42 =>
 Qo (QlA 3 h42 a4) fun x43 =>
 .ok (.tup [x43, (.int .i64 0), (.int .i64 4)]) h42)
 (Qo (Qis a0 a1) fun x44 =>
 Qo (Qeql x44 (.int .u8 96)) fun x45 =>
 Qif x45
 (R 3 [a0, a1, a4, a7, a8, (.int .i64 4)] h33)
 (R 3 [a0, a1, a4, a7, a8, (.int .i64 1)] h33)))
noncomputable def q27_2 (cf : CallF) (R : Rec) (a0 : IV) (a1 : IV) (a4 : IV) (a7 : IV) (a8 : IV) (h : H) : CRes :=
 Qo (Qls a0) fun x29 =>
 Qo (Qlss a7 x29) fun x30 =>
 Qsp x30 true h (fun k31 =>
 Qo (Qis a0 a7) fun x34 =>
 Qc (cf 53 [x34] h) .pan fun x35 h36 =>
 k31 x35 h36) fun x32 h33 =>
 Qo (Qpk x30 (some x32) (some (.bool false))) fun x37 =>
 q27_2p1 cf R x37 a7 a0 a1 a4 a8 h33
theorem qe27_2 : q27_2 = t27_2 := by
  unfold q27_2 q27_2p1
  try simp only [QE]
  try rfl
noncomputable def q27_4p2 (cf : CallF) (R : Rec) (x66 : IV) (h67 : H) (a4 : IV) (a0 : IV) (a1 : IV) (a7 : IV) : CRes :=
 Qo (Qext x66 2) fun x70 =>
 Qo (Qneq x70 (.int .i64 0)) fun x71 =>
 Qif x71
 (Qo (Qbld z2 p3 []) fun x72 =>
 QoH (QsA 3 h67 a4 x72) fun h73 =>
 Qo (QlA 3 h73 a4) fun x74 =>
 .ok (.tup [x74, (.int .i64 0), x70]) h73)
 (Qo (slcStr a0 (some a1) (some a7)) fun x75 =>
 Qo (Qbld z2 p3 [(0, (.int .i64 2)), (1, x75), (2, a1)]) fun x76 =>
 QoH (QsA 3 h67 a4 x76) fun h77 =>
 Qo (QlA 3 h77 a4) fun x78 =>
 .ok (.tup [x78, a7, (.int .i64 0)]) h77)
noncomputable def q27_4p1 (cf : CallF) (R : Rec) (x47 : IV) (h56 : H) (x49 : IV) (x55 : IV) (a7 : IV) (a0 : IV) (a1 : IV) (a4 : IV) : CRes :=
 Qsp x47 true h56 (fun k59 =>
 Qo (Qpk x49 (some (.bool true)) (some x55)) fun x62 =>
 k59 x62 h56) fun x60 h61 =>
 Qo (Qpk x47 (some x60) (some (.bool false))) fun x63 =>
 Qif x63
 (Qo (Qadd a7 (.int .i64 1)) fun x64 =>
 R 4 [a0, a1, a4, x64] h61)
 (Qo (slcStr a0 (some a1) (some a7)) fun x65 =>
 Qc (cf 55 [x65] h61) .pan fun x66 h67 =>
 Qo (Qext x66 0) fun x68 =>
 Qo (Qext x66 1) fun x69 =>
 q27_4p2 cf R x66 h67 a4 a0 a1 a7)
noncomputable def q27_4 (cf : CallF) (R : Rec) (a0 : IV) (a1 : IV) (a4 : IV) (a7 : IV) (h : H) : CRes :=
 Qo (Qls a0) fun x46 =>
 Qo (Qlss a7 x46) fun x47 =>
 Qsp x47 true h (fun k48 =>
 Qo (Qis a0 a7) fun x51 =>
 Qc (cf 53 [x51] h) .pan fun x52 h53 =>
 k48 x52 h53) fun x49 h50 =>
 Qsp x49 false h50 (fun k54 =>
 Qo (Qis a0 a7) fun x57 =>
 Qo (Qeql x57 (.int .u8 39)) fun x58 =>
 k54 x58 h50) fun x55 h56 =>
 q27_4p1 cf R x47 h56 x49 x55 a7 a0 a1 a4
theorem qe27_4 : q27_4 = t27_4 := by
  unfold q27_4 q27_4p1 q27_4p2
  try simp only [QE]
  try rfl
noncomputable def q27_3 (cf : CallF) (R : Rec) (a0 : IV) (a1 : IV) (a4 : IV) (a7 : IV) (a8 : IV) (a9 : IV) (h : H) : CRes :=
 Qo (slcStr a0 (some a8) (some a7)) fun x79 =>
 Qo (Qbld z2 p3 [(0, a9), (1, x79), (2, a1)]) fun x80 =>
 QoH (QsA 3 h a4 x80) fun h81 =>
 Qo (QlA 3 h81 a4) fun x82 =>
 .ok (.tup [x82, a7, (.int .i64 0)]) h81
theorem qe27_3 : q27_3 = t27_3 := by
  unfold q27_3
  try simp only [QE]
  try rfl
noncomputable def bt27 (cf : CallF) (R : Rec) : Rec := fun i l h =>
 br2 i 0 l (fun a0 a1 => t27_0 cf R a0 a1 h) <|
 br4 i 1 l (fun a0 a1 a4 a7 => t27_1 cf R a0 a1 a4 a7 h) <|
 br5 i 2 l (fun a0 a1 a4 a7 a8 => t27_2 cf R a0 a1 a4 a7 a8 h) <|
 br4 i 4 l (fun a0 a1 a4 a7 => t27_4 cf R a0 a1 a4 a7 h) <|
 br6 i 3 l (fun a0 a1 a4 a7 a8 a9 => t27_3 cf R a0 a1 a4 a7 a8 a9 h) <|
 .fail
noncomputable def b27 (cf : CallF) (R : Rec) : Rec := fun i l h =>
 brQ2 i 0 l (fun a0 a1 => q27_0 cf R a0 a1 h) <|
 brQ4 i 1 l (fun a0 a1 a4 a7 => q27_1 cf R a0 a1 a4 a7 h) <|
 brQ5 i 2 l (fun a0 a1 a4 a7 a8 => q27_2 cf R a0 a1 a4 a7 a8 h) <|
 brQ4 i 4 l (fun a0 a1 a4 a7 => q27_4 cf R a0 a1 a4 a7 h) <|
 brQ6 i 3 l (fun a0 a1 a4 a7 a8 a9 => q27_3 cf R a0 a1 a4 a7 a8 a9 h) <|
 .fail
theorem be27 : b27 = bt27 := by
  unfold b27 bt27
  simp only [qe27_0, qe27_1, qe27_2, qe27_4, qe27_3, brQ2_eq, brQ4_eq, brQ5_eq, brQ6_eq]
theorem r27 {T : Tab} {cf : CallF} (hc : leC cf (CL T)) (n : Nat) : leR (recN (b27 cf) n) (J27 T) := be27 ▸ recN_le (fun R hR i l h => by
  unfold bt27
  refine le_br2 (J := fun i l => J27 T i l h) (fun _ a0 a1 => le_e (fun hn => e27_0 rfl hn) ((m27 hc hR).1 a0 a1 h)) ?_
  refine le_br4 (J := fun i l => J27 T i l h) (fun _ a0 a1 a4 a7 => le_e (fun hn => e27_1 rfl hn) ((m27 hc hR).2.1 a0 a1 a4 a7 h)) ?_
  refine le_br5 (J := fun i l => J27 T i l h) (fun _ a0 a1 a4 a7 a8 => le_e (fun hn => e27_2 rfl hn) ((m27 hc hR).2.2.1 a0 a1 a4 a7 a8 h)) ?_
  refine le_br4 (J := fun i l => J27 T i l h) (fun _ a0 a1 a4 a7 => le_e (fun hn => e27_4 rfl hn) ((m27 hc hR).2.2.2.1 a0 a1 a4 a7 h)) ?_
  refine le_br6 (J := fun i l => J27 T i l h) (fun _ a0 a1 a4 a7 a8 a9 => le_e (fun hn => e27_3 rfl hn) ((m27 hc hR).2.2.2.2 a0 a1 a4 a7 a8 a9 h)) ?_
  exact le_fail _) n
-- 28
theorem m28 {cf cf' : CallF} {R R' : Rec} (hc : ∀ f l h, le (cf f l h) (cf' f l h)) (hR : ∀ i l h, le (R i l h) (R' i l h)) : (∀ (a0 : IV) (h : H), le (t28_0 cf R a0 h) (t28_0 cf' R' a0 h)) := by
  intros
  unfold t28_0
  with_reducible repeat' first
    | refine le_obind fun _ => ?_
    | refine le_callP ?_ (fun _ _ => ?_) (fun _ _ => ?_)
    | refine le_condK ?_ ?_
    | exact hR _ _ _
    | refine le_obind2 fun _ _ => ?_
    | refine le_obindH fun _ => ?_
    | refine le_spanK (fun _ _ _ => ?_) (fun _ _ => ?_)
    | exact hc _ _ _
    | refine le_bif ?_ ?_
    | refine le_guardK ?_ ?_ ?_
    | refine le_mapK fun _ _ => ?_
    | refine le_panK fun _ _ => ?_
    | refine le_funK fun _ _ => ?_
    | exact le_refl _
    | apply_assumption
noncomputable def q28_0p1 (cf : CallF) (R : Rec) (x6 : IV) (x8 : IV) (h9 : H) (a0 : IV) : CRes :=
 Qo (Qpk x6 (some (.bool true)) (some x8)) fun x11 =>
 Qsp x11 false h9 (fun k12 =>
 Qo (Qse a0 (.str ⟨5, 439854853733⟩)) fun x15 =>
 k12 x15 h9) fun x13 h14 =>
 Qo (Qpk x11 (some (.bool true)) (some x13)) fun x16 =>
 .ok x16 h14
noncomputable def q28_0 (cf : CallF) (R : Rec) (a0 : IV) (h : H) : CRes :=
 Qo (Qse a0 (.str ⟨5, 439787742825⟩)) fun x1 =>
 Qsp x1 false h (fun k2 =>
 Qo (Qse a0 (.str ⟨6, 112585662686825⟩)) fun x5 =>
 k2 x5 h) fun x3 h4 =>
 Qo (Qpk x1 (some (.bool true)) (some x3)) fun x6 =>
 Qsp x6 false h4 (fun k7 =>
 Qo (Qse a0 (.str ⟨4, 1702063205⟩)) fun x10 =>
 k7 x10 h4) fun x8 h9 =>
 q28_0p1 cf R x6 x8 h9 a0
theorem qe28_0 : q28_0 = t28_0 := by
  unfold q28_0 q28_0p1
  try simp only [QE]
  try rfl
noncomputable def bt28 (cf : CallF) (R : Rec) : Rec := fun i l h =>
 br1 i 0 l (fun a0 => t28_0 cf R a0 h) <|
 .fail
noncomputable def b28 (cf : CallF) (R : Rec) : Rec := fun i l h =>
 brQ1 i 0 l (fun a0 => q28_0 cf R a0 h) <|
 .fail
theorem be28 : b28 = bt28 := by
  unfold b28 bt28
  simp only [qe28_0, brQ1_eq]
theorem r28 {T : Tab} {cf : CallF} (hc : leC cf (CL T)) (n : Nat) : leR (recN (b28 cf) n) (J28 T) := be28 ▸ recN_le (fun R hR i l h => by
  unfold bt28
  refine le_br1 (J := fun i l => J28 T i l h) (fun _ a0 => le_e (fun hn => e28_0 rfl hn) ((m28 hc hR) a0 h)) ?_
  exact le_fail _) n
-- 29
theorem m29 {cf cf' : CallF} {R R' : Rec} (hc : ∀ f l h, le (cf f l h) (cf' f l h)) (hR : ∀ i l h, le (R i l h) (R' i l h)) :
  (∀ (a0 a1 : IV) (h : H), le (t29_0 cf R a0 a1 h) (t29_0 cf' R' a0 a1 h)) ∧
  (∀ (a0 a3 a4 a14 a31 : IV) (h : H), le (t29_1 cf R a0 a3 a4 a14 a31 h) (t29_1 cf' R' a0 a3 a4 a14 a31 h)) ∧
  (∀ (a0 : IV) (h : H), le (t29_2 cf R a0 h) (t29_2 cf' R' a0 h)) := by
  refine ⟨?_, ?_, ?_⟩
  all_goals intros
  all_goals first | unfold t29_0 | unfold t29_1 | unfold t29_2
  all_goals
  with_reducible repeat' first
    | refine le_obind fun _ => ?_
    | refine le_callP ?_ (fun _ _ => ?_) (fun _ _ => ?_)
    | refine le_condK ?_ ?_
    | exact hR _ _ _
    | refine le_obind2 fun _ _ => ?_
    | refine le_obindH fun _ => ?_
    | refine le_spanK (fun _ _ _ => ?_) (fun _ _ => ?_)
    | exact hc _ _ _
    | refine le_bif ?_ ?_
    | refine le_guardK ?_ ?_ ?_
    | refine le_mapK fun _ _ => ?_
    | refine le_panK fun _ _ => ?_
    | refine le_funK fun _ _ => ?_
    | exact le_refl _
    | apply_assumption
noncomputable def q29_0p2 (cf : CallF) (R : Rec) (x9 : IV) (a0 : IV) (x1 : IV) (x6 : IV) (x8 : IV) (h2 : H) : CRes :=
 Qif x9
 (R 1 [a0, x1, x6, x8, x9] h2)
 (Qo (Qse x8 (.str ⟨6, 112585662686825⟩)) fun x10 =>
 R 1 [a0, x1, x6, x8, x10] h2)
noncomputable def q29_0p1 (cf : CallF) (R : Rec) (x5 : IV) (x1 : IV) (h2 : H) (a0 : IV) : CRes :=
 Qo (Qle x5) fun x6 =>
 Qo (Qfad 1 x1) fun x7 =>
 Qo (Ql0 h2 x7) fun x8 =>
 Qo (Qse x8 (.str ⟨5, 439787742825⟩)) fun x9 =>
 q29_0p2 cf R x9 a0 x1 x6 x8 h2
noncomputable def q29_0 (cf : CallF) (R : Rec) (a0 : IV) (a1 : IV) (h : H) : CRes :=
 Qo2 (QnI h (Qcells a1)) fun x1 h2 =>
 Qo (Qnil a0) fun x3 =>
 Qo (Qfad 3 x3) fun x4 =>
 Qo (Ql0 h2 x4) fun x5 =>
 q29_0p1 cf R x5 x1 h2 a0
theorem qe29_0 : q29_0 = t29_0 := by
  unfold q29_0 q29_0p1 q29_0p2
  try simp only [QE]
  try rfl
noncomputable def q29_1p3 (cf : CallF) (R : Rec) (x38 : IV) (x31 : IV) (h37 : H) (x36 : IV) (a0 : IV) : CRes :=
 bif IV.beq x38 x31 then
 Qo2 (appK 4 16 h37 x31 x36) fun x39 h40 =>
 Qo (Qnil a0) fun x41 =>
 Qo (Qfad 3 x41) fun x42 =>
 QoH (QsA 1 h40 x42 x39) fun h43 =>
 R 2 [a0] h43
 else .fail
noncomputable def q29_1p4 (cf : CallF) (R : Rec) (x48 : IV) (x31 : IV) (h47 : H) (x46 : IV) (a0 : IV) : CRes :=
 bif IV.beq x48 x31 then
 Qo2 (appK 4 16 h47 x31 x46) fun x49 h50 =>
 Qo (Qnil a0) fun x51 =>
 Qo (Qfad 3 x51) fun x52 =>
 QoH (QsA 1 h50 x52 x49) fun h53 =>
 R 2 [a0] h53
 else .fail
noncomputable def q29_1p5 (cf : CallF) (R : Rec) (x58 : IV) (x31 : IV) (h57 : H) (x56 : IV) (a0 : IV) : CRes :=
 bif IV.beq x58 x31 then
 Qo2 (appK 4 16 h57 x31 x56) fun x59 h60 =>
 Qo (Qnil a0) fun x61 =>
 Qo (Qfad 3 x61) fun x62 =>
 QoH (QsA 1 h60 x62 x59) fun h63 =>
 R 2 [a0] h63
 else .fail
noncomputable def q29_1p2 (cf : CallF) (R : Rec) (a3 : IV) (h21 : H) (x11 : IV) (x28 : IV) (x30 : IV) (x31 : IV) (a0 : IV) : CRes :=
 Qo (Qfad 2 a3) fun x32 =>
 Qo (Ql0 h21 x32) fun x33 =>
 guardK x11 (Qo (Qpk (.bool true) (some x28) (some (.bool false))) fun x34 =>
 Qo (Qbld z10 p11 [(0, x33), (1, x34), (3, x11)]) fun x35 =>
 Qo2 (Qbsl false 4 z10 1 [(0, x35)] h21) fun x36 h37 =>
 Qo (Ql0 h37 x30) fun x38 =>
 q29_1p3 cf R x38 x31 h37 x36 a0)
 (Qo (Qpk (.bool false) (some (.tup [])) (some (.bool false))) fun x44 =>
 Qo (Qbld z10 p11 [(0, x33), (1, x44), (3, x11)]) fun x45 =>
 Qo2 (Qbsl false 4 z10 1 [(0, x45)] h21) fun x46 h47 =>
 Qo (Ql0 h47 x30) fun x48 =>
 q29_1p4 cf R x48 x31 h47 x46 a0)
 (Qo (Qpk (.tup []) (some (.tup [])) (some (.bool false))) fun x54 =>
 Qo (Qbld z10 p11 [(0, x33), (1, x54), (3, x11)]) fun x55 =>
 Qo2 (Qbsl false 4 z10 1 [(0, x55)] h21) fun x56 h57 =>
 Qo (Ql0 h57 x30) fun x58 =>
 q29_1p5 cf R x58 x31 h57 x56 a0)
noncomputable def q29_1p1 (cf : CallF) (R : Rec) (a3 : IV) (h21 : H) (h14 : H) (x22 : IV) (a0 : IV) (x11 : IV) : CRes :=
 Qo (Qfad 1 a3) fun x23 =>
 Qo (Ql0 h21 x23) fun x24 =>
 Qo (Ql0 h14 x23) fun x25 =>
 bif IV.beq x25 x24 then
 Qo (Qse x24 (.str ⟨5, 439787742825⟩)) fun x26 =>
 Qo (Qse x24 (.str ⟨5, 439787742825⟩)) fun x27 =>
 bif IV.beq x27 x26 then
 Qo (eqB .eql x22 x26) fun x28 =>
 Qo (Qnil a0) fun x29 =>
 Qo (Qfad 3 x29) fun x30 =>
 Qo (Ql0 h21 x30) fun x31 =>
 q29_1p2 cf R a3 h21 x11 x28 x30 x31 a0
 else .fail
 else .fail
noncomputable def q29_1p6 (cf : CallF) (R : Rec) (x71 : IV) (x72 : IV) (h : H) (k66 : IV → H → CRes) : CRes :=
 Qo (Qix 4 x71 x72) fun x73 =>
 Qo (Qfad 2 x73) fun x74 =>
 Qo (Ql0 h x74) fun x75 =>
 k66 x75 h
noncomputable def q29_1p12 (cf : CallF) (R : Rec) (x106 : IV) (x90 : IV) (x91 : IV) (h87 : H) : CRes :=
 Qo (Qpk (.bool true) (some x106) (some (.bool false))) fun x107 =>
 Qo (Qix 4 x90 x91) fun x108 =>
 Qo (Qfad 1 x108) fun x109 =>
 QoH (QsA 1 h87 x109 x107) fun h110 =>
 .ok (.tup []) h110
noncomputable def q29_1p11 (cf : CallF) (R : Rec) (x101 : IV) (x102 : IV) (h87 : H) (x90 : IV) (x91 : IV) : CRes :=
 Qo (Qix 4 x101 x102) fun x103 =>
 Qo (Qfad 1 x103) fun x104 =>
 Qo (Ql0 h87 x104) fun x105 =>
 Qo (Qnot x105) fun x106 =>
 q29_1p12 cf R x106 x90 x91 h87
noncomputable def q29_1p10 (cf : CallF) (R : Rec) (x96 : IV) (h87 : H) (a0 : IV) (a4 : IV) (x90 : IV) (x91 : IV) : CRes :=
 Qo (Qfad 3 x96) fun x97 =>
 Qo (Ql0 h87 x97) fun x98 =>
 guardK x98 (Qo (Qnil a0) fun x99 =>
 Qo (Qfad 3 x99) fun x100 =>
 Qo (Ql0 h87 x100) fun x101 =>
 Qo (Qsub a4 (.int .i64 1)) fun x102 =>
 q29_1p11 cf R x101 x102 h87 x90 x91)
 (Qo (Qpk (.bool false) (some (.tup [])) (some (.bool false))) fun x111 =>
 Qo (Qix 4 x90 x91) fun x112 =>
 Qo (Qfad 1 x112) fun x113 =>
 QoH (QsA 1 h87 x113 x111) fun h114 =>
 .ok (.tup []) h114)
 (Qo (Qpk (.tup []) (some (.tup [])) (some (.bool false))) fun x115 =>
 Qo (Qix 4 x90 x91) fun x116 =>
 Qo (Qfad 1 x116) fun x117 =>
 QoH (QsA 1 h87 x117 x115) fun h118 =>
 .ok (.tup []) h118)
noncomputable def q29_1p9 (cf : CallF) (R : Rec) (x92 : IV) (h87 : H) (a4 : IV) (a0 : IV) (x90 : IV) (x91 : IV) : CRes :=
 Qo (Qfad 3 x92) fun x93 =>
 Qo (Ql0 h87 x93) fun x94 =>
 Qo (Qsub a4 (.int .i64 1)) fun x95 =>
 Qo (Qix 4 x94 x95) fun x96 =>
 q29_1p10 cf R x96 h87 a0 a4 x90 x91
noncomputable def q29_1p8 (cf : CallF) (R : Rec) (x88 : IV) (h87 : H) (a4 : IV) (a0 : IV) : CRes :=
 Qo (Qfad 3 x88) fun x89 =>
 Qo (Ql0 h87 x89) fun x90 =>
 Qo (Qsub a4 (.int .i64 1)) fun x91 =>
 Qo (Qnil a0) fun x92 =>
 q29_1p9 cf R x92 h87 a4 a0 x90 x91
noncomputable def q29_1p7 (cf : CallF) (R : Rec) (x83 : IV) (x84 : IV) (h68 : H) (a0 : IV) (a4 : IV) : CRes :=
 Qo (Qix 4 x83 x84) fun x85 =>
 Qo (Qfad 2 x85) fun x86 =>
 QoH (QsA 1 h68 x86 (.bool true)) fun h87 =>
 Qo (Qnil a0) fun x88 =>
 q29_1p8 cf R x88 h87 a4 a0
noncomputable def q29_1p13 (cf : CallF) (R : Rec) (x126 : IV) (x127 : IV) (a0 : IV) (h : H) : CRes :=
 Qo (slcS 4 x126 none (some x127) none) fun x128 =>
 Qo (Qnil a0) fun x129 =>
 Qo (Qfad 3 x129) fun x130 =>
 QoH (QsA 1 h x130 x128) fun h131 =>
 .ok (.tup []) h131
noncomputable def q29_1 (cf : CallF) (R : Rec) (a0 : IV) (a3 : IV) (a4 : IV) (a14 : IV) (a31 : IV) (h : H) : CRes :=
 Qif a31
 (Qc (cf 31 [a0] h) .pan fun x11 h12 =>
 Qc (cf 57 [a0] h12) .pan fun x13 h14 =>
 Qc (cf 58 [a0, x13] h14) (fun v15 h16 =>
 Qo (Qfad 1 a3) fun x17 =>
 Qo (Ql0 h14 x17) fun x18 =>
 Qo (Qse x18 (.str ⟨5, 439787742825⟩)) fun x19 =>
 .pan v15 h16) fun x20 h21 =>
 Qo (Qgeq x20 (.int .i64 0)) fun x22 =>
 q29_1p1 cf R a3 h21 h14 x22 a0 x11)
 (Qo (Qse a14 (.str ⟨4, 1702063205⟩)) fun x64 =>
 Qif x64
 (Qo (Qeql a4 (.int .i64 0)) fun x65 =>
 Qsp x65 false h (fun k66 =>
 Qo (Qnil a0) fun x69 =>
 Qo (Qfad 3 x69) fun x70 =>
 Qo (Ql0 h x70) fun x71 =>
 Qo (Qsub a4 (.int .i64 1)) fun x72 =>
 q29_1p6 cf R x71 x72 h k66) fun x67 h68 =>
 Qo (Qpk x65 (some (.bool true)) (some x67)) fun x76 =>
 Qif x76
 (Qo (Qfad 2 a3) fun x77 =>
 Qo (Ql0 h68 x77) fun x78 =>
 Qc (cf 30 [a0, x78, (.int .i64 30)] h68) .pan fun x79 h80 =>
 .ok (.tup []) h80)
 (Qo (Qnil a0) fun x81 =>
 Qo (Qfad 3 x81) fun x82 =>
 Qo (Ql0 h68 x82) fun x83 =>
 Qo (Qsub a4 (.int .i64 1)) fun x84 =>
 q29_1p7 cf R x83 x84 h68 a0 a4))
 (Qo (Qeql a4 (.int .i64 0)) fun x119 =>
 Qif x119
 (Qo (Qfad 2 a3) fun x120 =>
 Qo (Ql0 h x120) fun x121 =>
 Qc (cf 30 [a0, x121, (.int .i64 30)] h) .pan fun x122 h123 =>
 .ok (.tup []) h123)
 (Qo (Qnil a0) fun x124 =>
 Qo (Qfad 3 x124) fun x125 =>
 Qo (Ql0 h x125) fun x126 =>
 Qo (Qsub a4 (.int .i64 1)) fun x127 =>
 q29_1p13 cf R x126 x127 a0 h)))
theorem qe29_1 : q29_1 = t29_1 := by
  unfold q29_1 q29_1p13 q29_1p7 q29_1p8 q29_1p9 q29_1p10 q29_1p11 q29_1p12 q29_1p6 q29_1p1 q29_1p2 q29_1p5 q29_1p4 q29_1p3
  try simp only [QE]
  try rfl
noncomputable def q29_2p1 (cf : CallF) (R : Rec) (a0 : IV) (h : H) (x135 : IV) : CRes :=
 Qo (Qnil a0) fun x136 =>
 Qo (Qfad 1 x136) fun x137 =>
 QoH (QsA 1 h x137 x135) fun h138 =>
 .ok (.tup []) h138
noncomputable def q29_2 (cf : CallF) (R : Rec) (a0 : IV) (h : H) : CRes :=
 Qo (Qnil a0) fun x132 =>
 Qo (Qfad 1 x132) fun x133 =>
 Qo (Ql0 h x133) fun x134 =>
 Qo (Qadd x134 (.int .i64 1)) fun x135 =>
 q29_2p1 cf R a0 h x135
theorem qe29_2 : q29_2 = t29_2 := by
  unfold q29_2 q29_2p1
  try simp only [QE]
  try rfl
noncomputable def bt29 (cf : CallF) (R : Rec) : Rec := fun i l h =>
 br2 i 0 l (fun a0 a1 => t29_0 cf R a0 a1 h) <|
 br5 i 1 l (fun a0 a3 a4 a14 a31 => t29_1 cf R a0 a3 a4 a14 a31 h) <|
 br1 i 2 l (fun a0 => t29_2 cf R a0 h) <|
 .fail
noncomputable def b29 (cf : CallF) (R : Rec) : Rec := fun i l h =>
 brQ2 i 0 l (fun a0 a1 => q29_0 cf R a0 a1 h) <|
 brQ5 i 1 l (fun a0 a3 a4 a14 a31 => q29_1 cf R a0 a3 a4 a14 a31 h) <|
 brQ1 i 2 l (fun a0 => q29_2 cf R a0 h) <|
 .fail
theorem be29 : b29 = bt29 := by
  unfold b29 bt29
  simp only [qe29_0, qe29_1, qe29_2, brQ1_eq, brQ2_eq, brQ5_eq]
theorem r29 {T : Tab} {cf : CallF} (hc : leC cf (CL T)) (n : Nat) : leR (recN (b29 cf) n) (J29 T) := be29 ▸ recN_le (fun R hR i l h => by
  unfold bt29
  refine le_br2 (J := fun i l => J29 T i l h) (fun _ a0 a1 => le_e (fun hn => e29_0 rfl hn) ((m29 hc hR).1 a0 a1 h)) ?_
  refine le_br5 (J := fun i l => J29 T i l h) (fun _ a0 a3 a4 a14 a31 => le_e (fun hn => e29_1 rfl hn) ((m29 hc hR).2.1 a0 a3 a4 a14 a31 h)) ?_
  refine le_br1 (J := fun i l => J29 T i l h) (fun _ a0 => le_e (fun hn => e29_2 rfl hn) ((m29 hc hR).2.2 a0 h)) ?_
  exact le_fail _) n
-- 30
theorem m30 {cf cf' : CallF} {R R' : Rec} (hc : ∀ f l h, le (cf f l h) (cf' f l h)) (hR : ∀ i l h, le (R i l h) (R' i l h)) : (∀ (a0 a1 a2 : IV) (h : H), le (t30_0 cf R a0 a1 a2 h) (t30_0 cf' R' a0 a1 a2 h)) := by
  intros
  unfold t30_0
  with_reducible repeat' first
    | refine le_obind fun _ => ?_
    | refine le_callP ?_ (fun _ _ => ?_) (fun _ _ => ?_)
    | refine le_condK ?_ ?_
    | exact hR _ _ _
    | refine le_obind2 fun _ _ => ?_
    | refine le_obindH fun _ => ?_
    | refine le_spanK (fun _ _ _ => ?_) (fun _ _ => ?_)
    | exact hc _ _ _
    | refine le_bif ?_ ?_
    | refine le_guardK ?_ ?_ ?_
    | refine le_mapK fun _ _ => ?_
    | refine le_panK fun _ _ => ?_
    | refine le_funK fun _ _ => ?_
    | exact le_refl _
    | apply_assumption
noncomputable def q30_0p1 (cf : CallF) (R : Rec) (x4 : IV) (a1 : IV) (a2 : IV) (a0 : IV) (h : H) : CRes :=
 Qo (Qeql x4 (.int .i64 0)) fun x5 =>
 Qif x5
 (Qo (Qbld [(.int .i64 0), (.int .i64 0)] [(0, 1), (1, 1)] [(0, a1), (1, a2)]) fun x6 =>
 Qo (Qnil a0) fun x7 =>
 Qo (Qfad 6 x7) fun x8 =>
 QoH (QsA 2 h x8 x6) fun h9 =>
 .ok (.tup []) h9)
 (.ok (.tup []) h)
noncomputable def q30_0 (cf : CallF) (R : Rec) (a0 : IV) (a1 : IV) (a2 : IV) (h : H) : CRes :=
 Qo (Qnil a0) fun x1 =>
 Qo (Qfad 6 x1) fun x2 =>
 Qo (Qfad 1 x2) fun x3 =>
 Qo (Ql0 h x3) fun x4 =>
 q30_0p1 cf R x4 a1 a2 a0 h
theorem qe30_0 : q30_0 = t30_0 := by
  unfold q30_0 q30_0p1
  try simp only [QE]
  try rfl
noncomputable def bt30 (cf : CallF) (R : Rec) : Rec := fun i l h =>
 br3 i 0 l (fun a0 a1 a2 => t30_0 cf R a0 a1 a2 h) <|
 .fail
noncomputable def b30 (cf : CallF) (R : Rec) : Rec := fun i l h =>
 brQ3 i 0 l (fun a0 a1 a2 => q30_0 cf R a0 a1 a2 h) <|
 .fail
theorem be30 : b30 = bt30 := by
  unfold b30 bt30
  simp only [qe30_0, brQ3_eq]
theorem r30 {T : Tab} {cf : CallF} (hc : leC cf (CL T)) (n : Nat) : leR (recN (b30 cf) n) (J30 T) := be30 ▸ recN_le (fun R hR i l h => by
  unfold bt30
  refine le_br3 (J := fun i l => J30 T i l h) (fun _ a0 a1 a2 => le_e (fun hn => e30_0 rfl hn) ((m30 hc hR) a0 a1 a2 h)) ?_
  exact le_fail _) n
-- 31
theorem m31 {cf cf' : CallF} {R R' : Rec} (hc : ∀ f l h, le (cf f l h) (cf' f l h)) (hR : ∀ i l h, le (R i l h) (R' i l h)) :
  (∀ (a0 : IV) (h : H), le (t31_0 cf R a0 h) (t31_0 cf' R' a0 h)) ∧
  (∀ (a2 : IV) (h : H), le (t31_1 cf R a2 h) (t31_1 cf' R' a2 h)) := by
  refine ⟨?_, ?_⟩
  all_goals intros
  all_goals first | unfold t31_0 | unfold t31_1
  all_goals
  with_reducible repeat' first
    | refine le_obind fun _ => ?_
    | refine le_callP ?_ (fun _ _ => ?_) (fun _ _ => ?_)
    | refine le_condK ?_ ?_
    | exact hR _ _ _
    | refine le_obind2 fun _ _ => ?_
    | refine le_obindH fun _ => ?_
    | refine le_spanK (fun _ _ _ => ?_) (fun _ _ => ?_)
    | exact hc _ _ _
    | refine le_bif ?_ ?_
    | refine le_guardK ?_ ?_ ?_
    | refine le_mapK fun _ _ => ?_
    | refine le_panK fun _ _ => ?_
    | refine le_funK fun _ _ => ?_
    | exact le_refl _
    | apply_assumption
noncomputable def q31_0p3 (cf : CallF) (R : Rec) (x9 : IV) (x14 : IV) (h : H) : CRes :=
 Qo (Qix 4 x9 x14) fun x15 =>
 Qo (Qfad 1 x15) fun x16 =>
 Qo (Ql0 h x16) fun x17 =>
 Qo (Qpk (.bool false) (some (.bool true)) (some x17)) fun x18 =>
 R 1 [x18] h
noncomputable def q31_0p2 (cf : CallF) (R : Rec) (x10 : IV) (h : H) (x9 : IV) : CRes :=
 Qo (Qfad 3 x10) fun x11 =>
 Qo (Ql0 h x11) fun x12 =>
 Qo (Qle x12) fun x13 =>
 Qo (Qsub x13 (.int .i64 1)) fun x14 =>
 q31_0p3 cf R x9 x14 h
noncomputable def q31_0p1 (cf : CallF) (R : Rec) (x4 : IV) (h : H) (a0 : IV) : CRes :=
 Qo (Qeql x4 (.int .i64 0)) fun x5 =>
 guardK x5 (Qo (Qpk (.bool true) (some (.bool true)) (some (.tup []))) fun x6 =>
 R 1 [x6] h)
 (Qo (Qnil a0) fun x7 =>
 Qo (Qfad 3 x7) fun x8 =>
 Qo (Ql0 h x8) fun x9 =>
 Qo (Qnil a0) fun x10 =>
 q31_0p2 cf R x10 h x9)
 (Qo (Qpk (.tup []) (some (.bool true)) (some (.tup []))) fun x19 =>
 R 1 [x19] h)
noncomputable def q31_0 (cf : CallF) (R : Rec) (a0 : IV) (h : H) : CRes :=
 Qo (Qnil a0) fun x1 =>
 Qo (Qfad 3 x1) fun x2 =>
 Qo (Ql0 h x2) fun x3 =>
 Qo (Qle x3) fun x4 =>
 q31_0p1 cf R x4 h a0
theorem qe31_0 : q31_0 = t31_0 := by
  unfold q31_0 q31_0p1 q31_0p2 q31_0p3
  try simp only [QE]
  try rfl
noncomputable def q31_1 (cf : CallF) (R : Rec) (a2 : IV) (h : H) : CRes :=
 .ok a2 h
theorem qe31_1 : q31_1 = t31_1 := by
  unfold q31_1
  try simp only [QE]
  try rfl
noncomputable def bt31 (cf : CallF) (R : Rec) : Rec := fun i l h =>
 br1 i 0 l (fun a0 => t31_0 cf R a0 h) <|
 br1 i 1 l (fun a2 => t31_1 cf R a2 h) <|
 .fail
noncomputable def b31 (cf : CallF) (R : Rec) : Rec := fun i l h =>
 brQ1 i 0 l (fun a0 => q31_0 cf R a0 h) <|
 brQ1 i 1 l (fun a2 => q31_1 cf R a2 h) <|
 .fail
theorem be31 : b31 = bt31 := by
  unfold b31 bt31
  simp only [qe31_0, qe31_1, brQ1_eq]
theorem r31 {T : Tab} {cf : CallF} (hc : leC cf (CL T)) (n : Nat) : leR (recN (b31 cf) n) (J31 T) := be31 ▸ recN_le (fun R hR i l h => by
  unfold bt31
  refine le_br1 (J := fun i l => J31 T i l h) (fun _ a0 => le_e (fun hn => e31_0 rfl hn) ((m31 hc hR).1 a0 h)) ?_
  refine le_br1 (J := fun i l => J31 T i l h) (fun _ a2 => le_e (fun hn => e31_1 rfl hn) ((m31 hc hR).2 a2 h)) ?_
  exact le_fail _) n
-- 32
theorem m32 {cf cf' : CallF} {R R' : Rec} (hc : ∀ f l h, le (cf f l h) (cf' f l h)) (hR : ∀ i l h, le (R i l h) (R' i l h)) : (∀ (a0 : IV) (h : H), le (t32_0 cf R a0 h) (t32_0 cf' R' a0 h)) := by
  intros
  unfold t32_0
  with_reducible repeat' first
    | refine le_obind fun _ => ?_
    | refine le_callP ?_ (fun _ _ => ?_) (fun _ _ => ?_)
    | refine le_condK ?_ ?_
    | exact hR _ _ _
    | refine le_obind2 fun _ _ => ?_
    | refine le_obindH fun _ => ?_
    | refine le_spanK (fun _ _ _ => ?_) (fun _ _ => ?_)
    | exact hc _ _ _
    | refine le_bif ?_ ?_
    | refine le_guardK ?_ ?_ ?_
    | refine le_mapK fun _ _ => ?_
    | refine le_panK fun _ _ => ?_
    | refine le_funK fun _ _ => ?_
    | exact le_refl _
    | apply_assumption
noncomputable def q32_0p2 (cf : CallF) (R : Rec) (x5 : IV) (h24 : H) (x19 : IV) (x23 : IV) : CRes :=
 Qsp x5 true h24 (fun k29 =>
 Qo (Qpk x19 (some (.bool true)) (some x23)) fun x32 =>
 k29 x32 h24) fun x30 h31 =>
 Qo (Qpk x5 (some x30) (some (.bool false))) fun x33 =>
 .ok x33 h31
noncomputable def q32_0p1 (cf : CallF) (R : Rec) (x5 : IV) (h2 : H) (x1 : IV) : CRes :=
 Qsp x5 true h2 (fun k6 =>
 Qo (Qfad 1 x1) fun x9 =>
 Qo (Ql0 h2 x9) fun x10 =>
 Qo (Qse x10 (.str ⟨6, 111524889126244⟩)) fun x11 =>
 k6 x11 h2) fun x7 h8 =>
 Qsp x7 false h8 (fun k12 =>
 Qo (Qfad 1 x1) fun x15 =>
 Qo (Ql0 h8 x15) fun x16 =>
 Qo (Qse x16 (.str ⟨5, 439787744885⟩)) fun x17 =>
 k12 x17 h8) fun x13 h14 =>
 Qsp x5 true h14 (fun k18 =>
 Qo (Qpk x7 (some (.bool true)) (some x13)) fun x21 =>
 k18 x21 h14) fun x19 h20 =>
 Qsp x19 false h20 (fun k22 =>
 Qo (Qfad 1 x1) fun x25 =>
 Qo (Ql0 h20 x25) fun x26 =>
 Qc (cf 28 [x26] h20) .pan fun x27 h28 =>
 k22 x27 h28) fun x23 h24 =>
 q32_0p2 cf R x5 h24 x19 x23
noncomputable def q32_0 (cf : CallF) (R : Rec) (a0 : IV) (h : H) : CRes :=
 Qo2 (QnI h (Qcells a0)) fun x1 h2 =>
 Qo (Qfad 0 x1) fun x3 =>
 Qo (Ql0 h2 x3) fun x4 =>
 Qo (Qeql x4 (.int .i64 4)) fun x5 =>
 q32_0p1 cf R x5 h2 x1
theorem qe32_0 : q32_0 = t32_0 := by
  unfold q32_0 q32_0p1 q32_0p2
  try simp only [QE]
  try rfl
noncomputable def bt32 (cf : CallF) (R : Rec) : Rec := fun i l h =>
 br1 i 0 l (fun a0 => t32_0 cf R a0 h) <|
 .fail
noncomputable def b32 (cf : CallF) (R : Rec) : Rec := fun i l h =>
 brQ1 i 0 l (fun a0 => q32_0 cf R a0 h) <|
 .fail
theorem be32 : b32 = bt32 := by
  unfold b32 bt32
  simp only [qe32_0, brQ1_eq]
theorem r32 {T : Tab} {cf : CallF} (hc : leC cf (CL T)) (n : Nat) : leR (recN (b32 cf) n) (J32 T) := be32 ▸ recN_le (fun R hR i l h => by
  unfold bt32
  refine le_br1 (J := fun i l => J32 T i l h) (fun _ a0 => le_e (fun hn => e32_0 rfl hn) ((m32 hc hR) a0 h)) ?_
  exact le_fail _) n
-- 33
theorem m33 {cf cf' : CallF} {R R' : Rec} (hc : ∀ f l h, le (cf f l h) (cf' f l h)) (hR : ∀ i l h, le (R i l h) (R' i l h)) :
  (∀ (a0 a1 : IV) (h : H), le (t33_0 cf R a0 a1 h) (t33_0 cf' R' a0 a1 h)) ∧
  (∀ (a0 a4 a5 : IV) (h : H), le (t33_1 cf R a0 a4 a5 h) (t33_1 cf' R' a0 a4 a5 h)) ∧
  (∀ (a0 a4 a5 a73 : IV) (h : H), le (t33_2 cf R a0 a4 a5 a73 h) (t33_2 cf' R' a0 a4 a5 a73 h)) := by
  refine ⟨?_, ?_, ?_⟩
  all_goals intros
  all_goals first | unfold t33_0 | unfold t33_1 | unfold t33_2
  all_goals
  with_reducible repeat' first
    | refine le_obind fun _ => ?_
    | refine le_callP ?_ (fun _ _ => ?_) (fun _ _ => ?_)
    | refine le_condK ?_ ?_
    | exact hR _ _ _
    | refine le_obind2 fun _ _ => ?_
    | refine le_obindH fun _ => ?_
    | refine le_spanK (fun _ _ _ => ?_) (fun _ _ => ?_)
    | exact hc _ _ _
    | refine le_bif ?_ ?_
    | refine le_guardK ?_ ?_ ?_
    | refine le_mapK fun _ _ => ?_
    | refine le_panK fun _ _ => ?_
    | refine le_funK fun _ _ => ?_
    | exact le_refl _
    | apply_assumption
noncomputable def q33_0p5 (cf : CallF) (R : Rec) (x26 : IV) (h24 : H) (a0 : IV) (x3 : IV) : CRes :=
 Qo (Qse x26 (.str ⟨5, 439787744885⟩)) fun x27 =>
 Qif x27
 (.ok (.tup []) h24)
 (R 1 [a0, x3, .nilSlice] h24)
noncomputable def q33_0p4 (cf : CallF) (R : Rec) (x22 : IV) (h17 : H) (x21 : IV) (x1 : IV) (a0 : IV) (x3 : IV) : CRes :=
 Qo (Qfad 1 x22) fun x23 =>
 QoH (QsA 1 h17 x23 x21) fun h24 =>
 Qo (Qfad 1 x1) fun x25 =>
 Qo (Ql0 h24 x25) fun x26 =>
 q33_0p5 cf R x26 h24 a0 x3
noncomputable def q33_0p3 (cf : CallF) (R : Rec) (x18 : IV) (h17 : H) (a0 : IV) (x1 : IV) (x3 : IV) : CRes :=
 Qo (Qfad 1 x18) fun x19 =>
 Qo (Ql0 h17 x19) fun x20 =>
 Qo (Qadd x20 (.int .i64 1)) fun x21 =>
 Qo (Qnil a0) fun x22 =>
 q33_0p4 cf R x22 h17 x21 x1 a0 x3
noncomputable def q33_0p2 (cf : CallF) (R : Rec) (a0 : IV) (h14 : H) (x13 : IV) (x1 : IV) (x3 : IV) : CRes :=
 Qo (Qnil a0) fun x15 =>
 Qo (Qfad 2 x15) fun x16 =>
 QoH (QsA 1 h14 x16 x13) fun h17 =>
 Qo (Qnil a0) fun x18 =>
 q33_0p3 cf R x18 h17 a0 x1 x3
noncomputable def q33_0p1 (cf : CallF) (R : Rec) (x6 : IV) (h4 : H) (a0 : IV) (x3 : IV) (x1 : IV) : CRes :=
 Qo (Qfad 1 x6) fun x7 =>
 Qo (Ql0 h4 x7) fun x8 =>
 Qo (Qneq x8 (.int .i64 0)) fun x9 =>
 Qif x9
 (.ok (.tup []) h4)
 (Qo (Qnil a0) fun x10 =>
 Qo (Qfad 2 x10) fun x11 =>
 Qo (Ql0 h4 x11) fun x12 =>
 Qc (cf 59 [x12, x3] h4) .pan fun x13 h14 =>
 q33_0p2 cf R a0 h14 x13 x1 x3)
noncomputable def q33_0 (cf : CallF) (R : Rec) (a0 : IV) (a1 : IV) (h : H) : CRes :=
 Qo2 (QnI h (Qcells a1)) fun x1 h2 =>
 Qc (cf 57 [a0] h2) .pan fun x3 h4 =>
 Qo (Qnil a0) fun x5 =>
 Qo (Qfad 6 x5) fun x6 =>
 q33_0p1 cf R x6 h4 a0 x3 x1
theorem qe33_0 : q33_0 = t33_0 := by
  unfold q33_0 q33_0p1 q33_0p2 q33_0p3 q33_0p4 q33_0p5
  try simp only [QE]
  try rfl
noncomputable def q33_1p6 (cf : CallF) (R : Rec) (x56 : IV) (h : H) (a0 : IV) (a4 : IV) (a5 : IV) : CRes :=
 Qo (Qfad 0 x56) fun x57 =>
 Qo (Ql0 h x57) fun x58 =>
 Qo (Qneq x58 (.int .i64 6)) fun x59 =>
 Qo (Qpk (.bool true) (some x59) (some (.bool false))) fun x60 =>
 R 2 [a0, a4, a5, x60] h
noncomputable def q33_1p5 (cf : CallF) (R : Rec) (x52 : IV) (h : H) (x51 : IV) (a0 : IV) (a4 : IV) (a5 : IV) : CRes :=
 Qo (Qfad 1 x52) fun x53 =>
 Qo (Ql0 h x53) fun x54 =>
 Qo (Qadd x54 (.int .i64 1)) fun x55 =>
 Qo (Qix 3 x51 x55) fun x56 =>
 q33_1p6 cf R x56 h a0 a4 a5
noncomputable def q33_1p4 (cf : CallF) (R : Rec) (x44 : IV) (h : H) (a0 : IV) (a4 : IV) (a5 : IV) : CRes :=
 Qo (Qfad 0 x44) fun x45 =>
 Qo (Ql0 h x45) fun x46 =>
 Qo (Qneq x46 (.int .i64 5)) fun x47 =>
 Qo (Qpk (.bool true) (some x47) (some (.bool false))) fun x48 =>
 guardK x48 (Qo (Qnil a0) fun x49 =>
 Qo (Qfad 0 x49) fun x50 =>
 Qo (Ql0 h x50) fun x51 =>
 Qo (Qnil a0) fun x52 =>
 q33_1p5 cf R x52 h x51 a0 a4 a5)
 (Qo (Qpk (.bool false) (some (.tup [])) (some (.bool false))) fun x61 =>
 R 2 [a0, a4, a5, x61] h)
 (Qo (Qpk (.tup []) (some (.tup [])) (some (.bool false))) fun x62 =>
 R 2 [a0, a4, a5, x62] h)
noncomputable def q33_1p3 (cf : CallF) (R : Rec) (x40 : IV) (h : H) (x39 : IV) (a0 : IV) (a4 : IV) (a5 : IV) : CRes :=
 Qo (Qfad 1 x40) fun x41 =>
 Qo (Ql0 h x41) fun x42 =>
 Qo (Qadd x42 (.int .i64 1)) fun x43 =>
 Qo (Qix 3 x39 x43) fun x44 =>
 q33_1p4 cf R x44 h a0 a4 a5
noncomputable def q33_1p8 (cf : CallF) (R : Rec) (x71 : IV) (h : H) (a0 : IV) (a4 : IV) (a5 : IV) : CRes :=
 Qo (Qfad 0 x71) fun x72 =>
 Qo (Ql0 h x72) fun x73 =>
 Qo (Qneq x73 (.int .i64 6)) fun x74 =>
 Qo (Qpk (.bool true) (some x74) (some (.bool false))) fun x75 =>
 R 2 [a0, a4, a5, x75] h
noncomputable def q33_1p7 (cf : CallF) (R : Rec) (x67 : IV) (h : H) (x66 : IV) (a0 : IV) (a4 : IV) (a5 : IV) : CRes :=
 Qo (Qfad 1 x67) fun x68 =>
 Qo (Ql0 h x68) fun x69 =>
 Qo (Qadd x69 (.int .i64 1)) fun x70 =>
 Qo (Qix 3 x66 x70) fun x71 =>
 q33_1p8 cf R x71 h a0 a4 a5
noncomputable def q33_1p10 (cf : CallF) (R : Rec) (x86 : IV) (h : H) (a0 : IV) (a4 : IV) (a5 : IV) : CRes :=
 Qo (Qfad 0 x86) fun x87 =>
 Qo (Ql0 h x87) fun x88 =>
 Qo (Qneq x88 (.int .i64 6)) fun x89 =>
 Qo (Qpk (.bool true) (some x89) (some (.bool false))) fun x90 =>
 R 2 [a0, a4, a5, x90] h
noncomputable def q33_1p9 (cf : CallF) (R : Rec) (x82 : IV) (h : H) (x81 : IV) (a0 : IV) (a4 : IV) (a5 : IV) : CRes :=
 Qo (Qfad 1 x82) fun x83 =>
 Qo (Ql0 h x83) fun x84 =>
 Qo (Qadd x84 (.int .i64 1)) fun x85 =>
 Qo (Qix 3 x81 x85) fun x86 =>
 q33_1p10 cf R x86 h a0 a4 a5
noncomputable def q33_1p2 (cf : CallF) (R : Rec) (x31 : IV) (x35 : IV) (a0 : IV) (h : H) (a4 : IV) (a5 : IV) : CRes :=
 Qo (Qlss x31 x35) fun x36 =>
 guardK x36 (Qo (Qnil a0) fun x37 =>
 Qo (Qfad 0 x37) fun x38 =>
 Qo (Ql0 h x38) fun x39 =>
 Qo (Qnil a0) fun x40 =>
 q33_1p3 cf R x40 h x39 a0 a4 a5)
 (Qo (Qpk (.bool false) (some (.tup [])) (some (.bool false))) fun x63 =>
 guardK x63 (Qo (Qnil a0) fun x64 =>
 Qo (Qfad 0 x64) fun x65 =>
 Qo (Ql0 h x65) fun x66 =>
 Qo (Qnil a0) fun x67 =>
 q33_1p7 cf R x67 h x66 a0 a4 a5)
 (Qo (Qpk (.bool false) (some (.tup [])) (some (.bool false))) fun x76 =>
 R 2 [a0, a4, a5, x76] h)
 (Qo (Qpk (.tup []) (some (.tup [])) (some (.bool false))) fun x77 =>
 R 2 [a0, a4, a5, x77] h))
 (Qo (Qpk (.tup []) (some (.tup [])) (some (.bool false))) fun x78 =>
 guardK x78 (Qo (Qnil a0) fun x79 =>
 Qo (Qfad 0 x79) fun x80 =>
 Qo (Ql0 h x80) fun x81 =>
 Qo (Qnil a0) fun x82 =>
 q33_1p9 cf R x82 h x81 a0 a4 a5)
 (Qo (Qpk (.bool false) (some (.tup [])) (some (.bool false))) fun x91 =>
 R 2 [a0, a4, a5, x91] h)
 (Qo (Qpk (.tup []) (some (.tup [])) (some (.bool false))) fun x92 =>
 R 2 [a0, a4, a5, x92] h))
noncomputable def q33_1p1 (cf : CallF) (R : Rec) (a0 : IV) (h : H) (x31 : IV) (a4 : IV) (a5 : IV) : CRes :=
 Qo (Qnil a0) fun x32 =>
 Qo (Qfad 0 x32) fun x33 =>
 Qo (Ql0 h x33) fun x34 =>
 Qo (Qle x34) fun x35 =>
 q33_1p2 cf R x31 x35 a0 h a4 a5
noncomputable def q33_1 (cf : CallF) (R : Rec) (a0 : IV) (a4 : IV) (a5 : IV) (h : H) : CRes :=
 Qo (Qnil a0) fun x28 =>
 Qo (Qfad 1 x28) fun x29 =>
 Qo (Ql0 h x29) fun x30 =>
 Qo (Qadd x30 (.int .i64 1)) fun x31 =>
 q33_1p1 cf R a0 h x31 a4 a5
theorem qe33_1 : q33_1 = t33_1 := by
  unfold q33_1 q33_1p1 q33_1p2 q33_1p9 q33_1p10 q33_1p7 q33_1p8 q33_1p3 q33_1p4 q33_1p5 q33_1p6
  try simp only [QE]
  try rfl
noncomputable def q33_2p3 (cf : CallF) (R : Rec) (h99 : H) (x104 : IV) (x102 : IV) (a5 : IV) (a0 : IV) (a4 : IV) : CRes :=
 Qo (Ql0 h99 x104) fun x105 =>
 Qo (Qix 3 x102 x105) fun x106 =>
 Qo (QlA 3 h99 x106) fun x107 =>
 Qo2 (Qbsl false 3 z2 1 [(0, x107)] h99) fun x108 h109 =>
 Qo2 (appK 3 32 h109 a5 x108) fun x110 h111 =>
 R 1 [a0, a4, x110] h111
noncomputable def q33_2p2 (cf : CallF) (R : Rec) (x100 : IV) (h99 : H) (a0 : IV) (a5 : IV) (a4 : IV) : CRes :=
 Qo (Qfad 0 x100) fun x101 =>
 Qo (Ql0 h99 x101) fun x102 =>
 Qo (Qnil a0) fun x103 =>
 Qo (Qfad 1 x103) fun x104 =>
 q33_2p3 cf R h99 x104 x102 a5 a0 a4
noncomputable def q33_2p1 (cf : CallF) (R : Rec) (a0 : IV) (h : H) (x96 : IV) (a5 : IV) (a4 : IV) : CRes :=
 Qo (Qnil a0) fun x97 =>
 Qo (Qfad 1 x97) fun x98 =>
 QoH (QsA 1 h x98 x96) fun h99 =>
 Qo (Qnil a0) fun x100 =>
 q33_2p2 cf R x100 h99 a0 a5 a4
noncomputable def q33_2p4 (cf : CallF) (R : Rec) (x115 : IV) (h : H) (x114 : IV) (a0 : IV) : CRes :=
 Qo2 (Qbsl false 2 [(.str ⟨0, 0⟩), .nilSlice] 1 [(0, x115)] h) fun x116 h117 =>
 Qo2 (appK 2 40 h117 x114 x116) fun x118 h119 =>
 Qo (Qnil a0) fun x120 =>
 Qo (Qfad 2 x120) fun x121 =>
 QoH (QsA 1 h119 x121 x118) fun h122 =>
 .ok (.tup []) h122
noncomputable def q33_2 (cf : CallF) (R : Rec) (a0 : IV) (a4 : IV) (a5 : IV) (a73 : IV) (h : H) : CRes :=
 Qif a73
 (Qo (Qnil a0) fun x93 =>
 Qo (Qfad 1 x93) fun x94 =>
 Qo (Ql0 h x94) fun x95 =>
 Qo (Qadd x95 (.int .i64 1)) fun x96 =>
 q33_2p1 cf R a0 h x96 a5 a4)
 (Qo (Qnil a0) fun x112 =>
 Qo (Qfad 2 x112) fun x113 =>
 Qo (Ql0 h x113) fun x114 =>
 Qo (Qbld [(.str ⟨0, 0⟩), .nilSlice] [(0, 1), (1, 1)] [(0, a4), (1, a5)]) fun x115 =>
 q33_2p4 cf R x115 h x114 a0)
theorem qe33_2 : q33_2 = t33_2 := by
  unfold q33_2 q33_2p4 q33_2p1 q33_2p2 q33_2p3
  try simp only [QE]
  try rfl
noncomputable def bt33 (cf : CallF) (R : Rec) : Rec := fun i l h =>
 br2 i 0 l (fun a0 a1 => t33_0 cf R a0 a1 h) <|
 br3 i 1 l (fun a0 a4 a5 => t33_1 cf R a0 a4 a5 h) <|
 br4 i 2 l (fun a0 a4 a5 a73 => t33_2 cf R a0 a4 a5 a73 h) <|
 .fail
noncomputable def b33 (cf : CallF) (R : Rec) : Rec := fun i l h =>
 brQ2 i 0 l (fun a0 a1 => q33_0 cf R a0 a1 h) <|
 brQ3 i 1 l (fun a0 a4 a5 => q33_1 cf R a0 a4 a5 h) <|
 brQ4 i 2 l (fun a0 a4 a5 a73 => q33_2 cf R a0 a4 a5 a73 h) <|
 .fail
theorem be33 : b33 = bt33 := by
  unfold b33 bt33
  simp only [qe33_0, qe33_1, qe33_2, brQ2_eq, brQ3_eq, brQ4_eq]
theorem r33 {T : Tab} {cf : CallF} (hc : leC cf (CL T)) (n : Nat) : leR (recN (b33 cf) n) (J33 T) := be33 ▸ recN_le (fun R hR i l h => by
  unfold bt33
  refine le_br2 (J := fun i l => J33 T i l h) (fun _ a0 a1 => le_e (fun hn => e33_0 rfl hn) ((m33 hc hR).1 a0 a1 h)) ?_
  refine le_br3 (J := fun i l => J33 T i l h) (fun _ a0 a4 a5 => le_e (fun hn => e33_1 rfl hn) ((m33 hc hR).2.1 a0 a4 a5 h)) ?_
  refine le_br4 (J := fun i l => J33 T i l h) (fun _ a0 a4 a5 a73 => le_e (fun hn => e33_2 rfl hn) ((m33 hc hR).2.2 a0 a4 a5 a73 h)) ?_
  exact le_fail _) n
-- 34
theorem m34 {cf cf' : CallF} {R R' : Rec} (hc : ∀ f l h, le (cf f l h) (cf' f l h)) (hR : ∀ i l h, le (R i l h) (R' i l h)) :
  (∀ (a0 a1 a2 : IV) (h : H), le (t34_0 cf R a0 a1 a2 h) (t34_0 cf' R' a0 a1 a2 h)) ∧
  (∀ (a0 a2 a7 a8 : IV) (h : H), le (t34_1 cf R a0 a2 a7 a8 h) (t34_1 cf' R' a0 a2 a7 a8 h)) ∧
  (∀ (a0 a2 a7 a8 : IV) (h : H), le (t34_2 cf R a0 a2 a7 a8 h) (t34_2 cf' R' a0 a2 a7 a8 h)) := by
  refine ⟨?_, ?_, ?_⟩
  all_goals intros
  all_goals first | unfold t34_0 | unfold t34_1 | unfold t34_2
  all_goals
  with_reducible repeat' first
    | refine le_obind fun _ => ?_
    | refine le_callP ?_ (fun _ _ => ?_) (fun _ _ => ?_)
    | refine le_condK ?_ ?_
    | exact hR _ _ _
    | refine le_obind2 fun _ _ => ?_
    | refine le_obindH fun _ => ?_
    | refine le_spanK (fun _ _ _ => ?_) (fun _ _ => ?_)
    | exact hc _ _ _
    | refine le_bif ?_ ?_
    | refine le_guardK ?_ ?_ ?_
    | refine le_mapK fun _ _ => ?_
    | refine le_panK fun _ _ => ?_
    | refine le_funK fun _ _ => ?_
    | exact le_refl _
    | apply_assumption
noncomputable def q34_0 (cf : CallF) (R : Rec) (a0 : IV) (a1 : IV) (a2 : IV) (h : H) : CRes :=
 Qc (cf 58 [a0, a1] h) .pan fun x1 h2 =>
 Qo (Qlss x1 (.int .i64 0)) fun x3 =>
 Qif x3
 (Qc (cf 30 [a0, a2, (.int .i64 30)] h2) .pan fun x4 h5 =>
 .ok (.tup []) h5)
 (Qo (Qnil a0) fun x6 =>
 Qo (Qfad 2 x6) fun x7 =>
 Qo (Ql0 h2 x7) fun x8 =>
 Qo (Qix 2 x8 x1) fun x9 =>
 Qo (Qfad 1 x9) fun x10 =>
 Qo (Ql0 h2 x10) fun x11 =>
 R 1 [a0, a2, x11, (.int .i64 0)] h2)
theorem qe34_0 : q34_0 = t34_0 := by
  unfold q34_0
  try simp only [QE]
  try rfl
noncomputable def q34_1p5 (cf : CallF) (R : Rec) (x44 : IV) (a0 : IV) (a2 : IV) (h45 : H) (a7 : IV) (a8 : IV) (x38 : IV) : CRes :=
 Qif x44
 (Qc (cf 30 [a0, a2, (.int .i64 30)] h45) .pan fun x46 h47 =>
 R 2 [a0, a2, a7, a8] h47)
 (Qo (Qfad 0 x38) fun x48 =>
 Qo (Ql0 h45 x48) fun x49 =>
 Qo (Qeql x49 (.int .i64 4)) fun x50 =>
 Qif x50
 (Qo (Qfad 1 x38) fun x51 =>
 Qo (Ql0 h45 x51) fun x52 =>
 Qc (cf 34 [a0, x52, a2] h45) .pan fun x53 h54 =>
 R 2 [a0, a2, a7, a8] h54)
 (Qo (QlA 3 h45 x38) fun x55 =>
 Qc (cf 35 [a0, x55] h45) .pan fun x56 h57 =>
 R 2 [a0, a2, a7, a8] h57))
noncomputable def q34_1p4 (cf : CallF) (R : Rec) (x38 : IV) (h40 : H) (a2 : IV) (a0 : IV) (a7 : IV) (a8 : IV) : CRes :=
 Qo (Qfad 2 x38) fun x41 =>
 QoH (QsA 1 h40 x41 a2) fun h42 =>
 Qo (QlA 3 h42 x38) fun x43 =>
 Qc (cf 32 [x43] h42) .pan fun x44 h45 =>
 q34_1p5 cf R x44 a0 a2 h45 a7 a8 x38
noncomputable def q34_1p3 (cf : CallF) (R : Rec) (x30 : IV) (h29 : H) (a0 : IV) (a2 : IV) (a7 : IV) (a8 : IV) : CRes :=
 Qo (Qfad 5 x30) fun x31 =>
 Qo (Ql0 h29 x31) fun x32 =>
 Qo (Qgtr x32 (.int .i64 4096)) fun x33 =>
 Qif x33
 (Qc (cf 30 [a0, a2, (.int .i64 31)] h29) .pan fun x34 h35 =>
 .ok (.tup []) h35)
 (Qo (Qix 3 a7 a8) fun x36 =>
 Qo (QlA 3 h29 x36) fun x37 =>
 Qo2 (QnI h29 z2) fun x38 h39 =>
 QoH (QsA 3 h39 x38 x37) fun h40 =>
 q34_1p4 cf R x38 h40 a2 a0 a7 a8)
noncomputable def q34_1p2 (cf : CallF) (R : Rec) (a0 : IV) (h16 : H) (x26 : IV) (a2 : IV) (a7 : IV) (a8 : IV) : CRes :=
 Qo (Qnil a0) fun x27 =>
 Qo (Qfad 5 x27) fun x28 =>
 QoH (QsA 1 h16 x28 x26) fun h29 =>
 Qo (Qnil a0) fun x30 =>
 q34_1p3 cf R x30 h29 a0 a2 a7 a8
noncomputable def q34_1p1 (cf : CallF) (R : Rec) (x22 : IV) (a0 : IV) (h16 : H) (a2 : IV) (a7 : IV) (a8 : IV) : CRes :=
 Qif x22
 (Qo (Qnil a0) fun x23 =>
 Qo (Qfad 5 x23) fun x24 =>
 Qo (Ql0 h16 x24) fun x25 =>
 Qo (Qadd x25 (.int .i64 1)) fun x26 =>
 q34_1p2 cf R a0 h16 x26 a2 a7 a8)
 (.ok (.tup []) h16)
noncomputable def q34_1 (cf : CallF) (R : Rec) (a0 : IV) (a2 : IV) (a7 : IV) (a8 : IV) (h : H) : CRes :=
 Qo (Qle a7) fun x12 =>
 Qo (Qlss a8 x12) fun x13 =>
 Qsp x13 true h (fun k14 =>
 Qo (Qnil a0) fun x17 =>
 Qo (Qfad 6 x17) fun x18 =>
 Qo (Qfad 1 x18) fun x19 =>
 Qo (Ql0 h x19) fun x20 =>
 Qo (Qeql x20 (.int .i64 0)) fun x21 =>
 k14 x21 h) fun x15 h16 =>
 Qo (Qpk x13 (some x15) (some (.bool false))) fun x22 =>
 q34_1p1 cf R x22 a0 h16 a2 a7 a8
theorem qe34_1 : q34_1 = t34_1 := by
  unfold q34_1 q34_1p1 q34_1p2 q34_1p3 q34_1p4 q34_1p5
  try simp only [QE]
  try rfl
noncomputable def q34_2 (cf : CallF) (R : Rec) (a0 : IV) (a2 : IV) (a7 : IV) (a8 : IV) (h : H) : CRes :=
 Qo (Qadd a8 (.int .i64 1)) fun x58 =>
 R 1 [a0, a2, a7, x58] h
theorem qe34_2 : q34_2 = t34_2 := by
  unfold q34_2
  try simp only [QE]
  try rfl
noncomputable def bt34 (cf : CallF) (R : Rec) : Rec := fun i l h =>
 br3 i 0 l (fun a0 a1 a2 => t34_0 cf R a0 a1 a2 h) <|
 br4 i 1 l (fun a0 a2 a7 a8 => t34_1 cf R a0 a2 a7 a8 h) <|
 br4 i 2 l (fun a0 a2 a7 a8 => t34_2 cf R a0 a2 a7 a8 h) <|
 .fail
noncomputable def b34 (cf : CallF) (R : Rec) : Rec := fun i l h =>
 brQ3 i 0 l (fun a0 a1 a2 => q34_0 cf R a0 a1 a2 h) <|
 brQ4 i 1 l (fun a0 a2 a7 a8 => q34_1 cf R a0 a2 a7 a8 h) <|
 brQ4 i 2 l (fun a0 a2 a7 a8 => q34_2 cf R a0 a2 a7 a8 h) <|
 .fail
theorem be34 : b34 = bt34 := by
  unfold b34 bt34
  simp only [qe34_0, qe34_1, qe34_2, brQ3_eq, brQ4_eq]
theorem r34 {T : Tab} {cf : CallF} (hc : leC cf (CL T)) (n : Nat) : leR (recN (b34 cf) n) (J34 T) := be34 ▸ recN_le (fun R hR i l h => by
  unfold bt34
  refine le_br3 (J := fun i l => J34 T i l h) (fun _ a0 a1 a2 => le_e (fun hn => e34_0 rfl hn) ((m34 hc hR).1 a0 a1 a2 h)) ?_
  refine le_br4 (J := fun i l => J34 T i l h) (fun _ a0 a2 a7 a8 => le_e (fun hn => e34_1 rfl hn) ((m34 hc hR).2.1 a0 a2 a7 a8 h)) ?_
  refine le_br4 (J := fun i l => J34 T i l h) (fun _ a0 a2 a7 a8 => le_e (fun hn => e34_2 rfl hn) ((m34 hc hR).2.2 a0 a2 a7 a8 h)) ?_
  exact le_fail _) n
-- 35
theorem m35 {cf cf' : CallF} {R R' : Rec} (hc : ∀ f l h, le (cf f l h) (cf' f l h)) (hR : ∀ i l h, le (R i l h) (R' i l h)) : (∀ (a0 a1 : IV) (h : H), le (t35_0 cf R a0 a1 h) (t35_0 cf' R' a0 a1 h)) := by
  intros
  unfold t35_0
  with_reducible repeat' first
    | refine le_obind fun _ => ?_
    | refine le_callP ?_ (fun _ _ => ?_) (fun _ _ => ?_)
    | refine le_condK ?_ ?_
    | exact hR _ _ _
    | refine le_obind2 fun _ _ => ?_
    | refine le_obindH fun _ => ?_
    | refine le_spanK (fun _ _ _ => ?_) (fun _ _ => ?_)
    | exact hc _ _ _
    | refine le_bif ?_ ?_
    | refine le_guardK ?_ ?_ ?_
    | refine le_mapK fun _ _ => ?_
    | refine le_panK fun _ _ => ?_
    | refine le_funK fun _ _ => ?_
    | exact le_refl _
    | apply_assumption
noncomputable def q35_0p3 (cf : CallF) (R : Rec) (x20 : IV) (h2 : H) (x18 : IV) (x19 : IV) (a0 : IV) : CRes :=
 Qo2 (Qbsl false 3 z2 1 [(0, x20)] h2) fun x21 h22 =>
 Qo (Ql0 h22 x18) fun x23 =>
 bif IV.beq x23 x19 then
 Qo2 (appK 3 32 h22 x19 x21) fun x24 h25 =>
 Qo (Qnil a0) fun x26 =>
 Qo (Qfad 4 x26) fun x27 =>
 QoH (QsA 1 h25 x27 x24) fun h28 =>
 .ok (.tup []) h28
 else .fail
noncomputable def q35_0p2 (cf : CallF) (R : Rec) (x11 : IV) (x1 : IV) (h2 : H) (a0 : IV) : CRes :=
 Qo (Qgeq x11 (.int .i64 16384)) fun x12 =>
 Qif x12
 (Qo (Qfad 2 x1) fun x13 =>
 Qo (Ql0 h2 x13) fun x14 =>
 Qc (cf 30 [a0, x14, (.int .i64 2)] h2) .pan fun x15 h16 =>
 .ok (.tup []) h16)
 (Qo (Qnil a0) fun x17 =>
 Qo (Qfad 4 x17) fun x18 =>
 Qo (Ql0 h2 x18) fun x19 =>
 Qo (QlA 3 h2 x1) fun x20 =>
 q35_0p3 cf R x20 h2 x18 x19 a0)
noncomputable def q35_0p1 (cf : CallF) (R : Rec) (h2 : H) (x5 : IV) (a0 : IV) (x1 : IV) : CRes :=
 Qo (Ql0 h2 x5) fun x6 =>
 Qo (Qneq x6 (.int .i64 0)) fun x7 =>
 Qif x7
 (.ok (.tup []) h2)
 (Qo (Qnil a0) fun x8 =>
 Qo (Qfad 4 x8) fun x9 =>
 Qo (Ql0 h2 x9) fun x10 =>
 Qo (Qle x10) fun x11 =>
 q35_0p2 cf R x11 x1 h2 a0)
noncomputable def q35_0 (cf : CallF) (R : Rec) (a0 : IV) (a1 : IV) (h : H) : CRes :=
 Qo2 (QnI h (Qcells a1)) fun x1 h2 =>
 Qo (Qnil a0) fun x3 =>
 Qo (Qfad 6 x3) fun x4 =>
 Qo (Qfad 1 x4) fun x5 =>
 q35_0p1 cf R h2 x5 a0 x1
theorem qe35_0 : q35_0 = t35_0 := by
  unfold q35_0 q35_0p1 q35_0p2 q35_0p3
  try simp only [QE]
  try rfl
noncomputable def bt35 (cf : CallF) (R : Rec) : Rec := fun i l h =>
 br2 i 0 l (fun a0 a1 => t35_0 cf R a0 a1 h) <|
 .fail
noncomputable def b35 (cf : CallF) (R : Rec) : Rec := fun i l h =>
 brQ2 i 0 l (fun a0 a1 => q35_0 cf R a0 a1 h) <|
 .fail
theorem be35 : b35 = bt35 := by
  unfold b35 bt35
  simp only [qe35_0, brQ2_eq]
theorem r35 {T : Tab} {cf : CallF} (hc : leC cf (CL T)) (n : Nat) : leR (recN (b35 cf) n) (J35 T) := be35 ▸ recN_le (fun R hR i l h => by
  unfold bt35
  refine le_br2 (J := fun i l => J35 T i l h) (fun _ a0 a1 => le_e (fun hn => e35_0 rfl hn) ((m35 hc hR) a0 a1 h)) ?_
  exact le_fail _) n
-- 36
theorem m36 {cf cf' : CallF} {R R' : Rec} (hc : ∀ f l h, le (cf f l h) (cf' f l h)) (hR : ∀ i l h, le (R i l h) (R' i l h)) : (∀ (a0 : IV) (h : H), le (t36_0 cf R a0 h) (t36_0 cf' R' a0 h)) := by
  intros
  unfold t36_0
  with_reducible repeat' first
    | refine le_obind fun _ => ?_
    | refine le_callP ?_ (fun _ _ => ?_) (fun _ _ => ?_)
    | refine le_condK ?_ ?_
    | exact hR _ _ _
    | refine le_obind2 fun _ _ => ?_
    | refine le_obindH fun _ => ?_
    | refine le_spanK (fun _ _ _ => ?_) (fun _ _ => ?_)
    | exact hc _ _ _
    | refine le_bif ?_ ?_
    | refine le_guardK ?_ ?_ ?_
    | refine le_mapK fun _ _ => ?_
    | refine le_panK fun _ _ => ?_
    | refine le_funK fun _ _ => ?_
    | exact le_refl _
    | apply_assumption
noncomputable def q36_0p2 (cf : CallF) (R : Rec) (h8 : H) (x9 : IV) (x6 : IV) : CRes :=
 Qo (Ql0 h8 x9) fun x10 =>
 Qo (Qeql x10 (.int .i64 1)) fun x11 =>
 Qif x11
 (Qo (Qfad 1 x6) fun x12 =>
 Qo (Ql0 h8 x12) fun x13 =>
 Qc (cf 60 [x13] h8) .pan fun x14 h15 =>
 Qif x14
 (Qo (Qfad 1 x6) fun x16 =>
 Qo (Ql0 h15 x16) fun x17 =>
 Qo (Qfad 1 x6) fun x18 =>
 Qo (Ql0 h15 x18) fun x19 =>
 .ok (.tup [x17, x19]) h15)
 (Qo (Qfad 1 x6) fun x20 =>
 Qo (Ql0 h15 x20) fun x21 =>
 .ok (.tup [(.str ⟨5, 435626798624⟩), x21]) h15))
 (Qo (Qeql x10 (.int .i64 2)) fun x22 =>
 Qif x22
 (Qo (Qfad 1 x6) fun x23 =>
 Qo (Ql0 h8 x23) fun x24 =>
 .ok (.tup [(.str ⟨7, 32199620762627616⟩), x24]) h8)
 (Qo (Qeql x10 (.int .i64 3)) fun x25 =>
 Qif x25
 (Qo (Qfad 1 x6) fun x26 =>
 Qo (Ql0 h8 x26) fun x27 =>
 Qo (Qfad 1 x6) fun x28 =>
 Qo (Ql0 h8 x28) fun x29 =>
 .ok (.tup [x27, x29]) h8)
 (.ok (.tup [(.str ⟨0, 0⟩), (.str ⟨0, 0⟩)]) h8)))
noncomputable def q36_0p1 (cf : CallF) (R : Rec) (h : H) (x4 : IV) : CRes :=
 Qo (QlA 3 h x4) fun x5 =>
 Qo2 (QnI h z2) fun x6 h7 =>
 QoH (QsA 3 h7 x6 x5) fun h8 =>
 Qo (Qfad 0 x6) fun x9 =>
 q36_0p2 cf R h8 x9 x6
noncomputable def q36_0 (cf : CallF) (R : Rec) (a0 : IV) (h : H) : CRes :=
 Qo (Qnil a0) fun x1 =>
 Qo (Qfad 0 x1) fun x2 =>
 Qo (Ql0 h x2) fun x3 =>
 Qo (Qix 3 x3 (.int .i64 0)) fun x4 =>
 q36_0p1 cf R h x4
theorem qe36_0 : q36_0 = t36_0 := by
  unfold q36_0 q36_0p1 q36_0p2
  try simp only [QE]
  try rfl
noncomputable def bt36 (cf : CallF) (R : Rec) : Rec := fun i l h =>
 br1 i 0 l (fun a0 => t36_0 cf R a0 h) <|
 .fail
noncomputable def b36 (cf : CallF) (R : Rec) : Rec := fun i l h =>
 brQ1 i 0 l (fun a0 => q36_0 cf R a0 h) <|
 .fail
theorem be36 : b36 = bt36 := by
  unfold b36 bt36
  simp only [qe36_0, brQ1_eq]
theorem r36 {T : Tab} {cf : CallF} (hc : leC cf (CL T)) (n : Nat) : leR (recN (b36 cf) n) (J36 T) := be36 ▸ recN_le (fun R hR i l h => by
  unfold bt36
  refine le_br1 (J := fun i l => J36 T i l h) (fun _ a0 => le_e (fun hn => e36_0 rfl hn) ((m36 hc hR) a0 h)) ?_
  exact le_fail _) n
-- 37
theorem m37 {cf cf' : CallF} {R R' : Rec} (hc : ∀ f l h, le (cf f l h) (cf' f l h)) (hR : ∀ i l h, le (R i l h) (R' i l h)) : (∀ (a0 : IV) (h : H), le (t37_0 cf R a0 h) (t37_0 cf' R' a0 h)) := by
  intros
  unfold t37_0
  with_reducible repeat' first
    | refine le_obind fun _ => ?_
    | refine le_callP ?_ (fun _ _ => ?_) (fun _ _ => ?_)
    | refine le_condK ?_ ?_
    | exact hR _ _ _
    | refine le_obind2 fun _ _ => ?_
    | refine le_obindH fun _ => ?_
    | refine le_spanK (fun _ _ _ => ?_) (fun _ _ => ?_)
    | exact hc _ _ _
    | refine le_bif ?_ ?_
    | refine le_guardK ?_ ?_ ?_
    | refine le_mapK fun _ _ => ?_
    | refine le_panK fun _ _ => ?_
    | refine le_funK fun _ _ => ?_
    | exact le_refl _
    | apply_assumption
noncomputable def q37_0 (cf : CallF) (R : Rec) (a0 : IV) (h : H) : CRes :=
 Qo (Qnil a0) fun x1 =>
 Qo (Qfad 0 x1) fun x2 =>
 Qo (Ql0 h x2) fun x3 =>
 Qo (Qix 3 x3 (.int .i64 0)) fun x4 =>
 Qo (Qfad 2 x4) fun x5 =>
 Qo (Ql0 h x5) fun x6 =>
 .ok x6 h
theorem qe37_0 : q37_0 = t37_0 := by
  unfold q37_0
  try simp only [QE]
  try rfl
noncomputable def bt37 (cf : CallF) (R : Rec) : Rec := fun i l h =>
 br1 i 0 l (fun a0 => t37_0 cf R a0 h) <|
 .fail
noncomputable def b37 (cf : CallF) (R : Rec) : Rec := fun i l h =>
 brQ1 i 0 l (fun a0 => q37_0 cf R a0 h) <|
 .fail
theorem be37 : b37 = bt37 := by
  unfold b37 bt37
  simp only [qe37_0, brQ1_eq]
theorem r37 {T : Tab} {cf : CallF} (hc : leC cf (CL T)) (n : Nat) : leR (recN (b37 cf) n) (J37 T) := be37 ▸ recN_le (fun R hR i l h => by
  unfold bt37
  refine le_br1 (J := fun i l => J37 T i l h) (fun _ a0 => le_e (fun hn => e37_0 rfl hn) ((m37 hc hR) a0 h)) ?_
  exact le_fail _) n
-- 38
theorem m38 {cf cf' : CallF} {R R' : Rec} (hc : ∀ f l h, le (cf f l h) (cf' f l h)) (hR : ∀ i l h, le (R i l h) (R' i l h)) :
  (∀ (a0 a1 : IV) (h : H), le (t38_0 cf R a0 a1 h) (t38_0 cf' R' a0 a1 h)) ∧
  (∀ (a0 a6 a7 a8 : IV) (h : H), le (t38_1 cf R a0 a6 a7 a8 h) (t38_1 cf' R' a0 a6 a7 a8 h)) ∧
  (∀ (a0 a6 a7 a8 : IV) (h : H), le (t38_2 cf R a0 a6 a7 a8 h) (t38_2 cf' R' a0 a6 a7 a8 h)) := by
  refine ⟨?_, ?_, ?_⟩
  all_goals intros
  all_goals first | unfold t38_0 | unfold t38_1 | unfold t38_2
  all_goals
  with_reducible repeat' first
    | refine le_obind fun _ => ?_
    | refine le_callP ?_ (fun _ _ => ?_) (fun _ _ => ?_)
    | refine le_condK ?_ ?_
    | exact hR _ _ _
    | refine le_obind2 fun _ _ => ?_
    | refine le_obindH fun _ => ?_
    | refine le_spanK (fun _ _ _ => ?_) (fun _ _ => ?_)
    | exact hc _ _ _
    | refine le_bif ?_ ?_
    | refine le_guardK ?_ ?_ ?_
    | refine le_mapK fun _ _ => ?_
    | refine le_panK fun _ _ => ?_
    | refine le_funK fun _ _ => ?_
    | exact le_refl _
    | apply_assumption
noncomputable def q38_0 (cf : CallF) (R : Rec) (a0 : IV) (a1 : IV) (h : H) : CRes :=
 Qo (Qle a1) fun x1 =>
 R 1 [a0, a1, x1, (.int .i64 0)] h
theorem qe38_0 : q38_0 = t38_0 := by
  unfold q38_0
  try simp only [QE]
  try rfl
noncomputable def q38_1p1 (cf : CallF) (R : Rec) (x7 : IV) (a0 : IV) (h6 : H) (a6 : IV) (a7 : IV) (a8 : IV) : CRes :=
 Qif x7
 (Qc (cf 61 [a0, (.int .i64 40)] h6) .pan fun x8 h9 =>
 R 2 [a0, a6, a7, a8] h9)
 (R 2 [a0, a6, a7, a8] h6)
noncomputable def q38_1 (cf : CallF) (R : Rec) (a0 : IV) (a6 : IV) (a7 : IV) (a8 : IV) (h : H) : CRes :=
 Qo (Qlss a8 a7) fun x2 =>
 Qif x2
 (Qo (Qix 1 a6 a8) fun x3 =>
 Qo (Ql0 h x3) fun x4 =>
 Qc (cf 40 [a0, x4] h) .pan fun x5 h6 =>
 Qo (Qnot x5) fun x7 =>
 q38_1p1 cf R x7 a0 h6 a6 a7 a8)
 (.ok (.tup []) h)
theorem qe38_1 : q38_1 = t38_1 := by
  unfold q38_1 q38_1p1
  try simp only [QE]
  try rfl
noncomputable def q38_2 (cf : CallF) (R : Rec) (a0 : IV) (a6 : IV) (a7 : IV) (a8 : IV) (h : H) : CRes :=
 Qo (Qadd a8 (.int .i64 1)) fun x10 =>
 R 1 [a0, a6, a7, x10] h
theorem qe38_2 : q38_2 = t38_2 := by
  unfold q38_2
  try simp only [QE]
  try rfl
noncomputable def bt38 (cf : CallF) (R : Rec) : Rec := fun i l h =>
 br2 i 0 l (fun a0 a1 => t38_0 cf R a0 a1 h) <|
 br4 i 1 l (fun a0 a6 a7 a8 => t38_1 cf R a0 a6 a7 a8 h) <|
 br4 i 2 l (fun a0 a6 a7 a8 => t38_2 cf R a0 a6 a7 a8 h) <|
 .fail
noncomputable def b38 (cf : CallF) (R : Rec) : Rec := fun i l h =>
 brQ2 i 0 l (fun a0 a1 => q38_0 cf R a0 a1 h) <|
 brQ4 i 1 l (fun a0 a6 a7 a8 => q38_1 cf R a0 a6 a7 a8 h) <|
 brQ4 i 2 l (fun a0 a6 a7 a8 => q38_2 cf R a0 a6 a7 a8 h) <|
 .fail
theorem be38 : b38 = bt38 := by
  unfold b38 bt38
  simp only [qe38_0, qe38_1, qe38_2, brQ2_eq, brQ4_eq]
theorem r38 {T : Tab} {cf : CallF} (hc : leC cf (CL T)) (n : Nat) : leR (recN (b38 cf) n) (J38 T) := be38 ▸ recN_le (fun R hR i l h => by
  unfold bt38
  refine le_br2 (J := fun i l => J38 T i l h) (fun _ a0 a1 => le_e (fun hn => e38_0 rfl hn) ((m38 hc hR).1 a0 a1 h)) ?_
  refine le_br4 (J := fun i l => J38 T i l h) (fun _ a0 a6 a7 a8 => le_e (fun hn => e38_1 rfl hn) ((m38 hc hR).2.1 a0 a6 a7 a8 h)) ?_
  refine le_br4 (J := fun i l => J38 T i l h) (fun _ a0 a6 a7 a8 => le_e (fun hn => e38_2 rfl hn) ((m38 hc hR).2.2 a0 a6 a7 a8 h)) ?_
  exact le_fail _) n
-- 39
theorem m39 {cf cf' : CallF} {R R' : Rec} (hc : ∀ f l h, le (cf f l h) (cf' f l h)) (hR : ∀ i l h, le (R i l h) (R' i l h)) : (∀ (a0 : IV) (h : H), le (t39_0 cf R a0 h) (t39_0 cf' R' a0 h)) := by
  intros
  unfold t39_0
  with_reducible repeat' first
    | refine le_obind fun _ => ?_
    | refine le_callP ?_ (fun _ _ => ?_) (fun _ _ => ?_)
    | refine le_condK ?_ ?_
    | exact hR _ _ _
    | refine le_obind2 fun _ _ => ?_
    | refine le_obindH fun _ => ?_
    | refine le_spanK (fun _ _ _ => ?_) (fun _ _ => ?_)
    | exact hc _ _ _
    | refine le_bif ?_ ?_
    | refine le_guardK ?_ ?_ ?_
    | refine le_mapK fun _ _ => ?_
    | refine le_panK fun _ _ => ?_
    | refine le_funK fun _ _ => ?_
    | exact le_refl _
    | apply_assumption
noncomputable def q39_0 (cf : CallF) (R : Rec) (a0 : IV) (h : H) : CRes :=
 Qc (cf 36 [a0] h) .pan fun x1 h2 =>
 Qo (Qext x1 0) fun x3 =>
 Qo (Qext x1 1) fun x4 =>
 Qo2 (Qbsl false 1 [(.str ⟨0, 0⟩)] 1 [(0, (.str ⟨5, 435626798624⟩))] h2) fun x5 h6 =>
 Qc (cf 38 [a0, x5] h6) .pan fun x7 h8 =>
 .ok x4 h8
theorem qe39_0 : q39_0 = t39_0 := by
  unfold q39_0
  try simp only [QE]
  try rfl
noncomputable def bt39 (cf : CallF) (R : Rec) : Rec := fun i l h =>
 br1 i 0 l (fun a0 => t39_0 cf R a0 h) <|
 .fail
noncomputable def b39 (cf : CallF) (R : Rec) : Rec := fun i l h =>
 brQ1 i 0 l (fun a0 => q39_0 cf R a0 h) <|
 .fail
theorem be39 : b39 = bt39 := by
  unfold b39 bt39
  simp only [qe39_0, brQ1_eq]
theorem r39 {T : Tab} {cf : CallF} (hc : leC cf (CL T)) (n : Nat) : leR (recN (b39 cf) n) (J39 T) := be39 ▸ recN_le (fun R hR i l h => by
  unfold bt39
  refine le_br1 (J := fun i l => J39 T i l h) (fun _ a0 => le_e (fun hn => e39_0 rfl hn) ((m39 hc hR) a0 h)) ?_
  exact le_fail _) n
-- 40
theorem m40 {cf cf' : CallF} {R R' : Rec} (hc : ∀ f l h, le (cf f l h) (cf' f l h)) (hR : ∀ i l h, le (R i l h) (R' i l h)) :
  (∀ (a0 a1 : IV) (h : H), le (t40_0 cf R a0 a1 h) (t40_0 cf' R' a0 a1 h)) ∧
  (∀ (a5 : IV) (h : H), le (t40_1 cf R a5 h) (t40_1 cf' R' a5 h)) := by
  refine ⟨?_, ?_⟩
  all_goals intros
  all_goals first | unfold t40_0 | unfold t40_1
  all_goals
  with_reducible repeat' first
    | refine le_obind fun _ => ?_
    | refine le_callP ?_ (fun _ _ => ?_) (fun _ _ => ?_)
    | refine le_condK ?_ ?_
    | exact hR _ _ _
    | refine le_obind2 fun _ _ => ?_
    | refine le_obindH fun _ => ?_
    | refine le_spanK (fun _ _ _ => ?_) (fun _ _ => ?_)
    | exact hc _ _ _
    | refine le_bif ?_ ?_
    | refine le_guardK ?_ ?_ ?_
    | refine le_mapK fun _ _ => ?_
    | refine le_panK fun _ _ => ?_
    | refine le_funK fun _ _ => ?_
    | exact le_refl _
    | apply_assumption
noncomputable def q40_0p1 (cf : CallF) (R : Rec) (a0 : IV) (h4 : H) (x8 : IV) (x3 : IV) : CRes :=
 Qo (Qnil a0) fun x9 =>
 Qo (Qfad 0 x9) fun x10 =>
 QoH (QsA 1 h4 x10 x8) fun h11 =>
 R 1 [x3] h11
noncomputable def q40_0 (cf : CallF) (R : Rec) (a0 : IV) (a1 : IV) (h : H) : CRes :=
 Qo2 (Qbsl false 1 [(.str ⟨0, 0⟩)] 1 [(0, a1)] h) fun x1 h2 =>
 Qc (cf 17 [a0, x1] h2) .pan fun x3 h4 =>
 Qif x3
 (Qo (Qnil a0) fun x5 =>
 Qo (Qfad 0 x5) fun x6 =>
 Qo (Ql0 h4 x6) fun x7 =>
 Qo (slcS 3 x7 (some (.int .i64 1)) none none) fun x8 =>
 q40_0p1 cf R a0 h4 x8 x3)
 (R 1 [x3] h4)
theorem qe40_0 : q40_0 = t40_0 := by
  unfold q40_0 q40_0p1
  try simp only [QE]
  try rfl
noncomputable def q40_1 (cf : CallF) (R : Rec) (a5 : IV) (h : H) : CRes :=
 .ok a5 h
theorem qe40_1 : q40_1 = t40_1 := by
  unfold q40_1
  try simp only [QE]
  try rfl
noncomputable def bt40 (cf : CallF) (R : Rec) : Rec := fun i l h =>
 br2 i 0 l (fun a0 a1 => t40_0 cf R a0 a1 h) <|
 br1 i 1 l (fun a5 => t40_1 cf R a5 h) <|
 .fail
noncomputable def b40 (cf : CallF) (R : Rec) : Rec := fun i l h =>
 brQ2 i 0 l (fun a0 a1 => q40_0 cf R a0 a1 h) <|
 brQ1 i 1 l (fun a5 => q40_1 cf R a5 h) <|
 .fail
theorem be40 : b40 = bt40 := by
  unfold b40 bt40
  simp only [qe40_0, qe40_1, brQ1_eq, brQ2_eq]
theorem r40 {T : Tab} {cf : CallF} (hc : leC cf (CL T)) (n : Nat) : leR (recN (b40 cf) n) (J40 T) := be40 ▸ recN_le (fun R hR i l h => by
  unfold bt40
  refine le_br2 (J := fun i l => J40 T i l h) (fun _ a0 a1 => le_e (fun hn => e40_0 rfl hn) ((m40 hc hR).1 a0 a1 h)) ?_
  refine le_br1 (J := fun i l => J40 T i l h) (fun _ a5 => le_e (fun hn => e40_1 rfl hn) ((m40 hc hR).2 a5 h)) ?_
  exact le_fail _) n
-- 41
theorem m41 {cf cf' : CallF} {R R' : Rec} (hc : ∀ f l h, le (cf f l h) (cf' f l h)) (hR : ∀ i l h, le (R i l h) (R' i l h)) : (∀ (a0 a1 : IV) (h : H), le (t41_0 cf R a0 a1 h) (t41_0 cf' R' a0 a1 h)) := by
  intros
  unfold t41_0
  with_reducible repeat' first
    | refine le_obind fun _ => ?_
    | refine le_callP ?_ (fun _ _ => ?_) (fun _ _ => ?_)
    | refine le_condK ?_ ?_
    | exact hR _ _ _
    | refine le_obind2 fun _ _ => ?_
    | refine le_obindH fun _ => ?_
    | refine le_spanK (fun _ _ _ => ?_) (fun _ _ => ?_)
    | exact hc _ _ _
    | refine le_bif ?_ ?_
    | refine le_guardK ?_ ?_ ?_
    | refine le_mapK fun _ _ => ?_
    | refine le_panK fun _ _ => ?_
    | refine le_funK fun _ _ => ?_
    | exact le_refl _
    | apply_assumption
noncomputable def q41_0p4 (cf : CallF) (R : Rec) (a1 : IV) (a0 : IV) (h29 : H) (x23 : IV) (x31 : IV) (x9 : IV) (x30 : IV) (x12 : IV) (x1 : IV) : CRes :=
 Qo (Qadd a1 (.int .i64 1)) fun x32 =>
 Qc (cf 41 [a0, x32] h29) (fun v33 h34 =>
 .pan v33 h34) fun x35 h36 =>
 Qo (QlA 6 h36 x23) fun x37 =>
 bif IV.beq x37 x31 then
 Qo (QlA 6 h36 x9) fun x38 =>
 bif IV.beq x38 x30 then
 Qo2 (Qbsl false 6 z0 3 [(0, x30), (1, x31), (2, x35)] h36) fun x39 h40 =>
 Qo (Qbld z0 p12 [(0, (.int .i64 6)), (4, x39), (5, x12)]) fun x41 =>
 QoH (QsA 6 h40 x1 x41) fun h42 =>
 Qo (QlA 6 h42 x1) fun x43 =>
 .ok x43 h42
 else .fail
 else .fail
noncomputable def q41_0p3 (cf : CallF) (R : Rec) (h25 : H) (a0 : IV) (x9 : IV) (x23 : IV) (a1 : IV) (x12 : IV) (x1 : IV) : CRes :=
 Qo2 (Qbsl false 1 [(.str ⟨0, 0⟩)] 1 [(0, (.str ⟨1, 58⟩))] h25) fun x26 h27 =>
 Qc (cf 38 [a0, x26] h27) .pan fun x28 h29 =>
 Qo (QlA 6 h29 x9) fun x30 =>
 Qo (QlA 6 h29 x23) fun x31 =>
 q41_0p4 cf R a1 a0 h29 x23 x31 x9 x30 x12 x1
noncomputable def q41_0p2 (cf : CallF) (R : Rec) (x14 : IV) (h15 : H) (x9 : IV) (x1 : IV) (a1 : IV) (a0 : IV) (x12 : IV) : CRes :=
 Qo (Qnot x14) fun x16 =>
 Qif x16
 (Qo (QlA 6 h15 x9) fun x17 =>
 QoH (QsA 6 h15 x1 x17) fun h18 =>
 Qo (QlA 6 h18 x1) fun x19 =>
 .ok x19 h18)
 (Qo (Qadd a1 (.int .i64 1)) fun x20 =>
 Qc (cf 41 [a0, x20] h15) .pan fun x21 h22 =>
 Qo2 (QnI h22 z0) fun x23 h24 =>
 QoH (QsA 6 h24 x23 x21) fun h25 =>
 q41_0p3 cf R h25 a0 x9 x23 a1 x12 x1)
noncomputable def q41_0p1 (cf : CallF) (R : Rec) (h8 : H) (x7 : IV) (a0 : IV) (x1 : IV) (a1 : IV) : CRes :=
 Qo2 (QnI h8 z0) fun x9 h10 =>
 QoH (QsA 6 h10 x9 x7) fun h11 =>
 Qc (cf 37 [a0] h11) .pan fun x12 h13 =>
 Qc (cf 40 [a0, (.str ⟨1, 63⟩)] h13) .pan fun x14 h15 =>
 q41_0p2 cf R x14 h15 x9 x1 a1 a0 x12
noncomputable def q41_0 (cf : CallF) (R : Rec) (a0 : IV) (a1 : IV) (h : H) : CRes :=
 Qo2 (QnI h z0) fun x1 h2 =>
 Qc (cf 62 [a0, a1] h2) .pan fun x3 h4 =>
 Qc (cf 64 [a0, a1] h4) .pan fun x5 h6 =>
 Qc (cf 63 [a0, x5, (.int .i64 1), a1] h6) .pan fun x7 h8 =>
 q41_0p1 cf R h8 x7 a0 x1 a1
theorem qe41_0 : q41_0 = t41_0 := by
  unfold q41_0 q41_0p1 q41_0p2 q41_0p3 q41_0p4
  try simp only [QE]
  try rfl
noncomputable def bt41 (cf : CallF) (R : Rec) : Rec := fun i l h =>
 br2 i 0 l (fun a0 a1 => t41_0 cf R a0 a1 h) <|
 .fail
noncomputable def b41 (cf : CallF) (R : Rec) : Rec := fun i l h =>
 brQ2 i 0 l (fun a0 a1 => q41_0 cf R a0 a1 h) <|
 .fail
theorem be41 : b41 = bt41 := by
  unfold b41 bt41
  simp only [qe41_0, brQ2_eq]
theorem r41 {T : Tab} {cf : CallF} (hc : leC cf (CL T)) (n : Nat) : leR (recN (b41 cf) n) (J41 T) := be41 ▸ recN_le (fun R hR i l h => by
  unfold bt41
  refine le_br2 (J := fun i l => J41 T i l h) (fun _ a0 a1 => le_e (fun hn => e41_0 rfl hn) ((m41 hc hR) a0 a1 h)) ?_
  exact le_fail _) n
-- 42
theorem m42 {cf cf' : CallF} {R R' : Rec} (hc : ∀ f l h, le (cf f l h) (cf' f l h)) (hR : ∀ i l h, le (R i l h) (R' i l h)) :
  (∀ (a0 : IV) (h : H), le (t42_0 cf R a0 h) (t42_0 cf' R' a0 h)) ∧
  (∀ (a0 a2 a3 : IV) (h : H), le (t42_1 cf R a0 a2 a3 h) (t42_1 cf' R' a0 a2 a3 h)) := by
  refine ⟨?_, ?_⟩
  all_goals intros
  all_goals first | unfold t42_0 | unfold t42_1
  all_goals
  with_reducible repeat' first
    | refine le_obind fun _ => ?_
    | refine le_callP ?_ (fun _ _ => ?_) (fun _ _ => ?_)
    | refine le_condK ?_ ?_
    | exact hR _ _ _
    | refine le_obind2 fun _ _ => ?_
    | refine le_obindH fun _ => ?_
    | refine le_spanK (fun _ _ _ => ?_) (fun _ _ => ?_)
    | exact hc _ _ _
    | refine le_bif ?_ ?_
    | refine le_guardK ?_ ?_ ?_
    | refine le_mapK fun _ _ => ?_
    | refine le_panK fun _ _ => ?_
    | refine le_funK fun _ _ => ?_
    | exact le_refl _
    | apply_assumption
noncomputable def q42_0p2 (cf : CallF) (R : Rec) (x12 : IV) (a0 : IV) (h10 : H) (x8 : IV) (x1 : IV) : CRes :=
 Qif x12
 (Qc (cf 40 [a0, (.str ⟨3, 6776178⟩)] h10) .pan fun x13 h14 =>
 Qo (Qfad 1 x8) fun x15 =>
 QoH (QsA 1 h14 x15 x13) fun h16 =>
 R 1 [a0, x1, x8] h16)
 (Qo2 (Qbsl false 1 [(.str ⟨0, 0⟩)] 1 [(0, (.str ⟨5, 500186508905⟩))] h10) fun x17 h18 =>
 Qc (cf 38 [a0, x17] h18) .pan fun x19 h20 =>
 R 1 [a0, x1, x8] h20)
noncomputable def q42_0p1 (cf : CallF) (R : Rec) (h6 : H) (x7 : IV) (a0 : IV) (x1 : IV) : CRes :=
 Qo2 (QnI h6 z9) fun x8 h9 =>
 QoH (QsA 17 h9 x8 x7) fun h10 =>
 Qo (Qfad 0 x8) fun x11 =>
 Qo (Ql0 h10 x11) fun x12 =>
 q42_0p2 cf R x12 a0 h10 x8 x1
noncomputable def q42_0 (cf : CallF) (R : Rec) (a0 : IV) (h : H) : CRes :=
 Qo2 (QnI h z9) fun x1 h2 =>
 Qc (cf 37 [a0] h2) .pan fun x3 h4 =>
 Qc (cf 40 [a0, (.str ⟨6, 128047746676079⟩)] h4) .pan fun x5 h6 =>
 Qo (Qbld z9 p13 [(6, x3), (0, x5)]) fun x7 =>
 q42_0p1 cf R h6 x7 a0 x1
theorem qe42_0 : q42_0 = t42_0 := by
  unfold q42_0 q42_0p1 q42_0p2
  try simp only [QE]
  try rfl
noncomputable def q42_1p3 (cf : CallF) (R : Rec) (h33 : H) (x34 : IV) (x32 : IV) (a3 : IV) (a2 : IV) : CRes :=
 QoH (QsA 1 h33 x34 x32) fun h35 =>
 Qo (QlA 17 h35 a3) fun x36 =>
 QoH (QsA 17 h35 a2 x36) fun h37 =>
 Qo (QlA 17 h37 a2) fun x38 =>
 .ok x38 h37
noncomputable def q42_1p2 (cf : CallF) (R : Rec) (a3 : IV) (h29 : H) (x25 : IV) (a0 : IV) (a2 : IV) : CRes :=
 Qo (Qfad 9 a3) fun x30 =>
 QoH (QsA 6 h29 x30 x25) fun h31 =>
 Qc (cf 39 [a0] h31) .pan fun x32 h33 =>
 Qo (Qfad 15 a3) fun x34 =>
 q42_1p3 cf R h33 x34 x32 a3 a2
noncomputable def q42_1p1 (cf : CallF) (R : Rec) (a3 : IV) (h22 : H) (x23 : IV) (x24 : IV) (x25 : IV) (a0 : IV) (a2 : IV) : CRes :=
 Qo (Qfad 2 a3) fun x26 =>
 QoH (QsA 1 h22 x26 x23) fun h27 =>
 Qo (Qfad 3 a3) fun x28 =>
 QoH (QsA 6 h27 x28 x24) fun h29 =>
 q42_1p2 cf R a3 h29 x25 a0 a2
noncomputable def q42_1 (cf : CallF) (R : Rec) (a0 : IV) (a2 : IV) (a3 : IV) (h : H) : CRes :=
 Qc (cf 65 [a0] h) .pan fun x21 h22 =>
 Qo (Qext x21 0) fun x23 =>
 Qo (Qext x21 1) fun x24 =>
 Qo (Qext x21 2) fun x25 =>
 q42_1p1 cf R a3 h22 x23 x24 x25 a0 a2
theorem qe42_1 : q42_1 = t42_1 := by
  unfold q42_1 q42_1p1 q42_1p2 q42_1p3
  try simp only [QE]
  try rfl
noncomputable def bt42 (cf : CallF) (R : Rec) : Rec := fun i l h =>
 br1 i 0 l (fun a0 => t42_0 cf R a0 h) <|
 br3 i 1 l (fun a0 a2 a3 => t42_1 cf R a0 a2 a3 h) <|
 .fail
noncomputable def b42 (cf : CallF) (R : Rec) : Rec := fun i l h =>
 brQ1 i 0 l (fun a0 => q42_0 cf R a0 h) <|
 brQ3 i 1 l (fun a0 a2 a3 => q42_1 cf R a0 a2 a3 h) <|
 .fail
theorem be42 : b42 = bt42 := by
  unfold b42 bt42
  simp only [qe42_0, qe42_1, brQ1_eq, brQ3_eq]
theorem r42 {T : Tab} {cf : CallF} (hc : leC cf (CL T)) (n : Nat) : leR (recN (b42 cf) n) (J42 T) := be42 ▸ recN_le (fun R hR i l h => by
  unfold bt42
  refine le_br1 (J := fun i l => J42 T i l h) (fun _ a0 => le_e (fun hn => e42_0 rfl hn) ((m42 hc hR).1 a0 h)) ?_
  refine le_br3 (J := fun i l => J42 T i l h) (fun _ a0 a2 a3 => le_e (fun hn => e42_1 rfl hn) ((m42 hc hR).2 a0 a2 a3 h)) ?_
  exact le_fail _) n
-- 43
theorem m43 {cf cf' : CallF} {R R' : Rec} (hc : ∀ f l h, le (cf f l h) (cf' f l h)) (hR : ∀ i l h, le (R i l h) (R' i l h)) :
  (∀ (a0 a1 a2 : IV) (h : H), le (t43_0 cf R a0 a1 a2 h) (t43_0 cf' R' a0 a1 a2 h)) ∧
  (∀ (a0 a1 a2 a6 : IV) (h : H), le (t43_1 cf R a0 a1 a2 a6 h) (t43_1 cf' R' a0 a1 a2 a6 h)) ∧
  (∀ (a0 a1 a2 a6 : IV) (h : H), le (t43_2 cf R a0 a1 a2 a6 h) (t43_2 cf' R' a0 a1 a2 a6 h)) ∧
  (∀ (a0 a1 a2 a6 : IV) (h : H), le (t43_3 cf R a0 a1 a2 a6 h) (t43_3 cf' R' a0 a1 a2 a6 h)) := by
  refine ⟨?_, ?_, ?_, ?_⟩
  all_goals intros
  all_goals first | unfold t43_0 | unfold t43_1 | unfold t43_2 | unfold t43_3
  all_goals
  with_reducible repeat' first
    | refine le_obind fun _ => ?_
    | refine le_callP ?_ (fun _ _ => ?_) (fun _ _ => ?_)
    | refine le_condK ?_ ?_
    | exact hR _ _ _
    | refine le_obind2 fun _ _ => ?_
    | refine le_obindH fun _ => ?_
    | refine le_spanK (fun _ _ _ => ?_) (fun _ _ => ?_)
    | exact hc _ _ _
    | refine le_bif ?_ ?_
    | refine le_guardK ?_ ?_ ?_
    | refine le_mapK fun _ _ => ?_
    | refine le_panK fun _ _ => ?_
    | refine le_funK fun _ _ => ?_
    | exact le_refl _
    | apply_assumption
noncomputable def q43_0 (cf : CallF) (R : Rec) (a0 : IV) (a1 : IV) (a2 : IV) (h : H) : CRes :=
 R 1 [a0, a1, a2, .nilSlice] h
theorem qe43_0 : q43_0 = t43_0 := by
  unfold q43_0
  try simp only [QE]
  try rfl
noncomputable def q43_1 (cf : CallF) (R : Rec) (a0 : IV) (a1 : IV) (a2 : IV) (a6 : IV) (h : H) : CRes :=
 Qc (cf 40 [a0, a1] h) .pan fun x1 h2 =>
 Qo (Qnot x1) fun x3 =>
 Qif x3
 (Qo2 (Qbsl false 1 [(.str ⟨0, 0⟩)] 7 [(0, (.str ⟨4, 1701996919⟩)), (1, (.str ⟨3, 6776178⟩)), (2, (.str ⟨10, 516535522800345012203372⟩)), (3, (.str ⟨6, 121390429860705⟩)), (4, (.str ⟨6, 126965163453537⟩)), (5, (.str ⟨3, 7499622⟩)), (6, (.str ⟨5, 435626798624⟩))] h2) fun x4 h5 =>
 Qc (cf 17 [a0, x4] h5) .pan fun x6 h7 =>
 Qo (Qnot x6) fun x8 =>
 Qif x8
 (Qc (cf 61 [a0, (.int .i64 40)] h7) .pan fun x9 h10 =>
 R 2 [a0, a1, a2, a6] h10)
 (R 2 [a0, a1, a2, a6] h7))
 (.ok a6 h2)
theorem qe43_1 : q43_1 = t43_1 := by
  unfold q43_1
  try simp only [QE]
  try rfl
noncomputable def q43_2 (cf : CallF) (R : Rec) (a0 : IV) (a1 : IV) (a2 : IV) (a6 : IV) (h : H) : CRes :=
 Qo (Qgtr a2 (.int .i64 32)) fun x11 =>
 Qif x11
 (Qc (cf 61 [a0, (.int .i64 41)] h) .pan fun x12 h13 =>
 R 3 [a0, a1, a2, a6] h13)
 (R 3 [a0, a1, a2, a6] h)
theorem qe43_2 : q43_2 = t43_2 := by
  unfold q43_2
  try simp only [QE]
  try rfl
noncomputable def q43_3 (cf : CallF) (R : Rec) (a0 : IV) (a1 : IV) (a2 : IV) (a6 : IV) (h : H) : CRes :=
 Qc (cf 66 [a0, a2] h) .pan fun x14 h15 =>
 Qo2 (Qbsl false 48 z14 1 [(0, x14)] h15) fun x16 h17 =>
 Qo2 (appK 48 680 h17 a6 x16) fun x18 h19 =>
 R 1 [a0, a1, a2, x18] h19
theorem qe43_3 : q43_3 = t43_3 := by
  unfold q43_3
  try simp only [QE]
  try rfl
noncomputable def bt43 (cf : CallF) (R : Rec) : Rec := fun i l h =>
 br3 i 0 l (fun a0 a1 a2 => t43_0 cf R a0 a1 a2 h) <|
 br4 i 1 l (fun a0 a1 a2 a6 => t43_1 cf R a0 a1 a2 a6 h) <|
 br4 i 2 l (fun a0 a1 a2 a6 => t43_2 cf R a0 a1 a2 a6 h) <|
 br4 i 3 l (fun a0 a1 a2 a6 => t43_3 cf R a0 a1 a2 a6 h) <|
 .fail
noncomputable def b43 (cf : CallF) (R : Rec) : Rec := fun i l h =>
 brQ3 i 0 l (fun a0 a1 a2 => q43_0 cf R a0 a1 a2 h) <|
 brQ4 i 1 l (fun a0 a1 a2 a6 => q43_1 cf R a0 a1 a2 a6 h) <|
 brQ4 i 2 l (fun a0 a1 a2 a6 => q43_2 cf R a0 a1 a2 a6 h) <|
 brQ4 i 3 l (fun a0 a1 a2 a6 => q43_3 cf R a0 a1 a2 a6 h) <|
 .fail
theorem be43 : b43 = bt43 := by
  unfold b43 bt43
  simp only [qe43_0, qe43_1, qe43_2, qe43_3, brQ3_eq, brQ4_eq]
theorem r43 {T : Tab} {cf : CallF} (hc : leC cf (CL T)) (n : Nat) : leR (recN (b43 cf) n) (J43 T) := be43 ▸ recN_le (fun R hR i l h => by
  unfold bt43
  refine le_br3 (J := fun i l => J43 T i l h) (fun _ a0 a1 a2 => le_e (fun hn => e43_0 rfl hn) ((m43 hc hR).1 a0 a1 a2 h)) ?_
  refine le_br4 (J := fun i l => J43 T i l h) (fun _ a0 a1 a2 a6 => le_e (fun hn => e43_1 rfl hn) ((m43 hc hR).2.1 a0 a1 a2 a6 h)) ?_
  refine le_br4 (J := fun i l => J43 T i l h) (fun _ a0 a1 a2 a6 => le_e (fun hn => e43_2 rfl hn) ((m43 hc hR).2.2.1 a0 a1 a2 a6 h)) ?_
  refine le_br4 (J := fun i l => J43 T i l h) (fun _ a0 a1 a2 a6 => le_e (fun hn => e43_3 rfl hn) ((m43 hc hR).2.2.2 a0 a1 a2 a6 h)) ?_
  exact le_fail _) n
-- 52
theorem m52 {cf cf' : CallF} {R R' : Rec} (hc : ∀ f l h, le (cf f l h) (cf' f l h)) (hR : ∀ i l h, le (R i l h) (R' i l h)) : (∀ (a0 : IV) (h : H), le (t52_0 cf R a0 h) (t52_0 cf' R' a0 h)) := by
  intros
  unfold t52_0
  with_reducible repeat' first
    | refine le_obind fun _ => ?_
    | refine le_callP ?_ (fun _ _ => ?_) (fun _ _ => ?_)
    | refine le_condK ?_ ?_
    | exact hR _ _ _
    | refine le_obind2 fun _ _ => ?_
    | refine le_obindH fun _ => ?_
    | refine le_spanK (fun _ _ _ => ?_) (fun _ _ => ?_)
    | exact hc _ _ _
    | refine le_bif ?_ ?_
    | refine le_guardK ?_ ?_ ?_
    | refine le_mapK fun _ _ => ?_
    | refine le_panK fun _ _ => ?_
    | refine le_funK fun _ _ => ?_
    | exact le_refl _
    | apply_assumption
noncomputable def q52_0p1 (cf : CallF) (R : Rec) (x8 : IV) (h9 : H) (a0 : IV) (x6 : IV) : CRes :=
 Qsp x8 true h9 (fun k11 =>
 Qo (Qleq a0 (.int .u8 90)) fun x14 =>
 k11 x14 h9) fun x12 h13 =>
 Qsp x6 false h13 (fun k15 =>
 Qo (Qpk x8 (some x12) (some (.bool false))) fun x18 =>
 k15 x18 h13) fun x16 h17 =>
 Qo (Qpk x6 (some (.bool true)) (some x16)) fun x19 =>
 Qsp x19 false h17 (fun k20 =>
 Qo (Qeql a0 (.int .u8 95)) fun x23 =>
 k20 x23 h17) fun x21 h22 =>
 Qo (Qpk x19 (some (.bool true)) (some x21)) fun x24 =>
 .ok x24 h22
noncomputable def q52_0 (cf : CallF) (R : Rec) (a0 : IV) (h : H) : CRes :=
 Qo (Qgeq a0 (.int .u8 97)) fun x1 =>
 Qsp x1 true h (fun k2 =>
 Qo (Qleq a0 (.int .u8 122)) fun x5 =>
 k2 x5 h) fun x3 h4 =>
 Qo (Qpk x1 (some x3) (some (.bool false))) fun x6 =>
 Qsp x6 false h4 (fun k7 =>
 Qo (Qgeq a0 (.int .u8 65)) fun x10 =>
 k7 x10 h4) fun x8 h9 =>
 q52_0p1 cf R x8 h9 a0 x6
theorem qe52_0 : q52_0 = t52_0 := by
  unfold q52_0 q52_0p1
  try simp only [QE]
  try rfl
noncomputable def bt52 (cf : CallF) (R : Rec) : Rec := fun i l h =>
 br1 i 0 l (fun a0 => t52_0 cf R a0 h) <|
 .fail
noncomputable def b52 (cf : CallF) (R : Rec) : Rec := fun i l h =>
 brQ1 i 0 l (fun a0 => q52_0 cf R a0 h) <|
 .fail
theorem be52 : b52 = bt52 := by
  unfold b52 bt52
  simp only [qe52_0, brQ1_eq]
theorem r52 {T : Tab} {cf : CallF} (hc : leC cf (CL T)) (n : Nat) : leR (recN (b52 cf) n) (J52 T) := be52 ▸ recN_le (fun R hR i l h => by
  unfold bt52
  refine le_br1 (J := fun i l => J52 T i l h) (fun _ a0 => le_e (fun hn => e52_0 rfl hn) ((m52 hc hR) a0 h)) ?_
  exact le_fail _) n

end Go.Proofs.YtomgclpeimipoaaGreatDoor
