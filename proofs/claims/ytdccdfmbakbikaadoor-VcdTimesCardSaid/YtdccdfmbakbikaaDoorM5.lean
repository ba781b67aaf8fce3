
import Derived.Test.YtdccdfmbakbikaaDoorM3
import Derived.Test.YtdccdfmbakbikaaDoorM4
namespace Go.Proofs.YtdccdfmbakbikaaDoor
open Go I
set_option linter.unusedVariables false
set_option maxRecDepth 100000
theorem m22 {cf cf' : CallF} {R R' : Rec} (hc : ∀ f l h, le (cf f l h) (cf' f l h)) (hR : ∀ i l h, le (R i l h) (R' i l h)) :
  (∀ (a0 a1 a2 : IV) (h : H), le (t22_0 cf R a0 a1 a2 h) (t22_0 cf' R' a0 a1 a2 h)) ∧
  (∀ (a0 a1 : IV) (h : H), le (t22_1 cf R a0 a1 h) (t22_1 cf' R' a0 a1 h)) := by
  refine ⟨?_, ?_⟩
  all_goals intros
  all_goals first | unfold t22_0 | unfold t22_1
  all_goals
  with_reducible repeat' first
    | refine le_obind fun _ => ?_
    | refine le_callP ?_ (fun _ _ => ?_) (fun _ _ => ?_)
    | refine le_condK ?_ ?_
    | exact hR _ _ _
    | refine le_obind2 fun _ _ => ?_
    | refine le_obindH fun _ => ?_
    | refine le_spanK (fun _ _ _ => ?_) (fun _ _ => ?_)
    | exact hc _ _ _
    | refine le_bif ?_ ?_
    | refine le_guardK ?_ ?_ ?_
    | refine le_mapK fun _ _ => ?_
    | refine le_panK fun _ _ => ?_
    | refine le_funK fun _ _ => ?_
    | exact le_refl _
    | apply_assumption
noncomputable def b22 (cf : CallF) (R : Rec) : Rec := fun i l h =>
 br3 i 0 l (fun a0 a1 a2 => t22_0 cf R a0 a1 a2 h) <|
 br2 i 1 l (fun a0 a1 => t22_1 cf R a0 a1 h) <|
 .fail
theorem r22 {T : Tab} {cf : CallF} (hc : leC cf (CL T)) (n : Nat) : leR (recN (b22 cf) n) (J22 T) := recN_le (fun R hR i l h => by
  unfold b22
  refine le_br3 (J := fun i l => J22 T i l h) (fun _ a0 a1 a2 => le_e (fun hn => e22_0 rfl hn) ((m22 hc hR).1 a0 a1 a2 h)) ?_
  refine le_br2 (J := fun i l => J22 T i l h) (fun _ a0 a1 => le_e (fun hn => e22_1 rfl hn) ((m22 hc hR).2 a0 a1 h)) ?_
  exact le_fail _) n
noncomputable def L22 (cf : CallF) (l : List IV) (st : I.Mode) (h : H) : Option (I.Mode × H) :=
 match l with
 | [a0, a1] => lvM st (lvK (t22_0 cf (recN (b22 cf) 1000000) a0 a1 (recV st) h))
 | _ => none
theorem lle22 {T : Tab} {cf : CallF} (hc : leC cf (CL T)) (l : List IV) (st : I.Mode) (h : H) : leO (L22 cf l st h) (LV Tryd.prog (CL T) 22 l st h) := by
  unfold L22
  split
  · exact lvM_le fun hst => lvK_le ((m22 hc (r22 hc _)).1 _ _ _ h) fun v h' e => l22 hst e
  · intro z hz; cases hz
theorem m7 {cf cf' : CallF} {R R' : Rec} (hc : ∀ f l h, le (cf f l h) (cf' f l h)) (hR : ∀ i l h, le (R i l h) (R' i l h)) :
  (∀ (a0 : IV) (h : H), le (t7_0 cf R a0 h) (t7_0 cf' R' a0 h)) ∧
  (∀ (a1 a4 a16 a17 a18 : IV) (h : H), le (t7_1 cf R a1 a4 a16 a17 a18 h) (t7_1 cf' R' a1 a4 a16 a17 a18 h)) ∧
  (∀ (a1 a4 a5 a6 a16 a17 a18 : IV) (h : H), le (t7_2 cf R a1 a4 a5 a6 a16 a17 a18 h) (t7_2 cf' R' a1 a4 a5 a6 a16 a17 a18 h)) ∧
  (∀ (a1 a4 a47 a48 a49 : IV) (h : H), le (t7_3 cf R a1 a4 a47 a48 a49 h) (t7_3 cf' R' a1 a4 a47 a48 a49 h)) ∧
  (∀ (a1 a4 a61 a62 a63 : IV) (h : H), le (t7_4 cf R a1 a4 a61 a62 a63 h) (t7_4 cf' R' a1 a4 a61 a62 a63 h)) ∧
  (∀ (a1 a4 a10 a61 a62 a63 a81 : IV) (h : H), le (t7_6 cf R a1 a4 a10 a61 a62 a63 a81 h) (t7_6 cf' R' a1 a4 a10 a61 a62 a63 a81 h)) ∧
  (∀ (a1 a4 a10 a61 a62 a63 : IV) (h : H), le (t7_5 cf R a1 a4 a10 a61 a62 a63 h) (t7_5 cf' R' a1 a4 a10 a61 a62 a63 h)) := by
  refine ⟨?_, ?_, ?_, ?_, ?_, ?_, ?_⟩
  all_goals intros
  all_goals first | unfold t7_0 | unfold t7_1 | unfold t7_2 | unfold t7_3 | unfold t7_4 | unfold t7_6 | unfold t7_5
  all_goals
  with_reducible repeat' first
    | refine le_obind fun _ => ?_
    | refine le_callP ?_ (fun _ _ => ?_) (fun _ _ => ?_)
    | refine le_condK ?_ ?_
    | exact hR _ _ _
    | refine le_obind2 fun _ _ => ?_
    | refine le_obindH fun _ => ?_
    | refine le_spanK (fun _ _ _ => ?_) (fun _ _ => ?_)
    | exact hc _ _ _
    | refine le_bif ?_ ?_
    | refine le_guardK ?_ ?_ ?_
    | refine le_mapK fun _ _ => ?_
    | refine le_panK fun _ _ => ?_
    | refine le_funK fun _ _ => ?_
    | exact le_refl _
    | apply_assumption
noncomputable def b7 (cf : CallF) (R : Rec) : Rec := fun i l h =>
 br1 i 0 l (fun a0 => t7_0 cf R a0 h) <|
 br5 i 1 l (fun a1 a4 a16 a17 a18 => t7_1 cf R a1 a4 a16 a17 a18 h) <|
 br7 i 2 l (fun a1 a4 a5 a6 a16 a17 a18 => t7_2 cf R a1 a4 a5 a6 a16 a17 a18 h) <|
 br5 i 3 l (fun a1 a4 a47 a48 a49 => t7_3 cf R a1 a4 a47 a48 a49 h) <|
 br5 i 4 l (fun a1 a4 a61 a62 a63 => t7_4 cf R a1 a4 a61 a62 a63 h) <|
 br7 i 6 l (fun a1 a4 a10 a61 a62 a63 a81 => t7_6 cf R a1 a4 a10 a61 a62 a63 a81 h) <|
 br6 i 5 l (fun a1 a4 a10 a61 a62 a63 => t7_5 cf R a1 a4 a10 a61 a62 a63 h) <|
 .fail
theorem r7 {T : Tab} {cf : CallF} (hc : leC cf (CL T)) (n : Nat) : leR (recN (b7 cf) n) (J7 T) := recN_le (fun R hR i l h => by
  unfold b7
  refine le_br1 (J := fun i l => J7 T i l h) (fun _ a0 => le_e (fun hn => e7_0 rfl hn) ((m7 hc hR).1 a0 h)) ?_
  refine le_br5 (J := fun i l => J7 T i l h) (fun _ a1 a4 a16 a17 a18 => le_e (fun hn => e7_1 rfl hn) ((m7 hc hR).2.1 a1 a4 a16 a17 a18 h)) ?_
  refine le_br7 (J := fun i l => J7 T i l h) (fun _ a1 a4 a5 a6 a16 a17 a18 => le_e (fun hn => e7_2 rfl hn) ((m7 hc hR).2.2.1 a1 a4 a5 a6 a16 a17 a18 h)) ?_
  refine le_br5 (J := fun i l => J7 T i l h) (fun _ a1 a4 a47 a48 a49 => le_e (fun hn => e7_3 rfl hn) ((m7 hc hR).2.2.2.1 a1 a4 a47 a48 a49 h)) ?_
  refine le_br5 (J := fun i l => J7 T i l h) (fun _ a1 a4 a61 a62 a63 => le_e (fun hn => e7_4 rfl hn) ((m7 hc hR).2.2.2.2.1 a1 a4 a61 a62 a63 h)) ?_
  refine le_br7 (J := fun i l => J7 T i l h) (fun _ a1 a4 a10 a61 a62 a63 a81 => le_e (fun hn => e7_6 rfl hn) ((m7 hc hR).2.2.2.2.2.1 a1 a4 a10 a61 a62 a63 a81 h)) ?_
  refine le_br6 (J := fun i l => J7 T i l h) (fun _ a1 a4 a10 a61 a62 a63 => le_e (fun hn => e7_5 rfl hn) ((m7 hc hR).2.2.2.2.2.2 a1 a4 a10 a61 a62 a63 h)) ?_
  exact le_fail _) n
noncomputable def u8_0 (cf : CallF) (L : List IV → I.Mode → H → Option (I.Mode × H)) (D : List IV → Rec) (R : Rec) (a0 : IV) (h : H) : CRes :=
 obind2 (newI h z0) fun x1 h2 =>
 obind2 (newI h2 [(.int .i64 0)]) fun x3 h4 =>
 obind (lenStr a0) fun x5 =>
 obind (binN .gtr x5 (.int .i64 1048576)) fun x6 =>
 condK x6
 (obind (bldK z0 p2 []) fun x7 =>
 obindH (stA 4 h4 x1 x7) fun h8 =>
 obindH (stA 1 h8 x3 (.int .i64 4)) fun h9 =>
 obind (ldA 4 h9 x1) fun x10 =>
 obind (ld0 h9 x3) fun x11 =>
 .ok (.tup [x10, x11]) h9)
 (callP (cf 23 [a0, (.str ⟨1, 10⟩)] h4) (dfP (L [x1, x3]) fun h12 =>
 obind (ldA 4 h12 x1) fun x13 =>
 obind (ld0 h12 x3) fun x14 =>
 .ok (.tup [x13, x14]) h12) fun x15 h16 =>
 mapK h16 fun x18 h17 =>
 obind (bldK z3 p4 [(0, x15), (1, x18)]) fun x19 =>
 obind2 (newI h17 (IV.cells x19)) fun x20 h21 =>
 callP (cf 24 [x20] h21) (dfP (L [x1, x3]) fun h22 =>
 obind (ldA 4 h22 x1) fun x23 =>
 obind (ld0 h22 x3) fun x24 =>
 .ok (.tup [x23, x24]) h22) fun x25 h26 =>
 obind (nilI x20) fun x27 =>
 obind (fadK 2 x27) fun x28 =>
 obind (fadK 0 x28) fun x29 =>
 obind (ld0 h26 x29) fun x30 =>
 obind (lenS x30) fun x31 =>
 D [x1, x3] 1 [a0, x1, x3, x20, x31, (.int .i64 0)] h26)
noncomputable def u8_1d (cf : CallF) (L : List IV → I.Mode → H → Option (I.Mode × H)) (D : List IV → Rec) (R : Rec) (d0 d1 a0 a2 a3 a4 a30 a31 : IV) (h : H) : CRes :=
 obind (binN .lss a31 a30) fun x32 =>
 condK x32
 (callP (cf 26 [a4] h) (dfP (L [d0, d1]) fun h33 =>
 obind (ldA 4 h33 a2) fun x34 =>
 obind (ld0 h33 a3) fun x35 =>
 .ok (.tup [x34, x35]) h33) fun x36 h37 =>
 callP (cf 25 [a4, x36] h37) (dfP (L [d0, d1]) fun h38 =>
 obind (ldA 4 h38 a2) fun x39 =>
 obind (ld0 h38 a3) fun x40 =>
 .ok (.tup [x39, x40]) h38) fun x41 h42 =>
 obind (extractI x41 0) fun x43 =>
 obind (extractI x41 1) fun x44 =>
 obind (nilI a4) fun x45 =>
 obind (fadK 2 x45) fun x46 =>
 obind (fadK 2 x46) fun x47 =>
 obind (ld0 h42 x47) fun x48 =>
 obind2 (bslK false 1 [(.str ⟨0, 0⟩)] 1 [(0, x44)] h42) fun x49 h50 =>
 obind2 (appK 1 16 h50 x48 x49) fun x51 h52 =>
 obind (nilI a4) fun x53 =>
 obind (fadK 2 x53) fun x54 =>
 obind (fadK 2 x54) fun x55 =>
 obindH (stA 1 h52 x55 x51) fun h56 =>
 obind (binN .add a31 (.int .i64 1)) fun x57 =>
 R 1 [a0, a2, a3, a4, a30, x57] h56)
 (callP (cf 26 [a4] h) (dfP (L [d0, d1]) fun h58 =>
 obind (ldA 4 h58 a2) fun x59 =>
 obind (ld0 h58 a3) fun x60 =>
 .ok (.tup [x59, x60]) h58) fun x61 h62 =>
 obind (binS .eql x61 (.str ⟨4, 1684956452⟩)) fun x63 =>
 callP (cf 27 [x63] h62) (dfP (L [d0, d1]) fun h64 =>
 obind (ldA 4 h64 a2) fun x65 =>
 obind (ld0 h64 a3) fun x66 =>
 .ok (.tup [x65, x66]) h64) fun x67 h68 =>
 callP (cf 26 [a4] h68) (dfP (L [d0, d1]) fun h69 =>
 obind (ldA 4 h69 a2) fun x70 =>
 obind (ld0 h69 a3) fun x71 =>
 .ok (.tup [x70, x71]) h69) fun x72 h73 =>
 R 2 [a0, a2, a3, a4, (.int .i64 (-1)), x72] h73)
noncomputable def u8_2d (cf : CallF) (L : List IV → I.Mode → H → Option (I.Mode × H)) (D : List IV → Rec) (R : Rec) (d0 d1 a0 a2 a3 a4 a7 a8 : IV) (h : H) : CRes :=
 obind (binS .neq a8 (.str ⟨0, 0⟩)) fun x74 =>
 condK x74
 (obind (ixStr a8 (.int .i64 0)) fun x75 =>
 obind (binN .eql x75 (.int .u8 35)) fun x76 =>
 condK x76
 (obind (slcStr a8 (some (.int .i64 1)) none) fun x77 =>
 callP (cf 28 [x77] h) (dfP (L [d0, d1]) fun h78 =>
 obind (ldA 4 h78 a2) fun x79 =>
 obind (ld0 h78 a3) fun x80 =>
 .ok (.tup [x79, x80]) h78) fun x81 h82 =>
 R 3 [a0, a2, a3, a4, x81] h82)
 (callP (cf 25 [a4, a8] h) (dfP (L [d0, d1]) fun h83 =>
 obind (ldA 4 h83 a2) fun x84 =>
 obind (ld0 h83 a3) fun x85 =>
 .ok (.tup [x84, x85]) h83) fun x86 h87 =>
 obind (extractI x86 0) fun x88 =>
 obind (extractI x86 1) fun x89 =>
 obind (nilI a4) fun x90 =>
 obind (fadK 2 x90) fun x91 =>
 obind (fadK 3 x91) fun x92 =>
 obind (ld0 h87 x92) fun x93 =>
 obind (bldK z1 p5 [(0, a7), (1, x88), (2, x89)]) fun x94 =>
 obind2 (bslK false 3 z1 1 [(0, x94)] h87) fun x95 h96 =>
 obind2 (appK 3 32 h96 x93 x95) fun x97 h98 =>
 obind (nilI a4) fun x99 =>
 obind (fadK 2 x99) fun x100 =>
 obind (fadK 3 x100) fun x101 =>
 obindH (stA 1 h98 x101 x97) fun h102 =>
 R 3 [a0, a2, a3, a4, a7] h102))
 (obind (nilI a4) fun x103 =>
 obind (fadK 2 x103) fun x104 =>
 obind (ldA 4 h x104) fun x105 =>
 callP (cf 7 [x105] h) (dfP (L [d0, d1]) fun h106 =>
 obind (ldA 4 h106 a2) fun x107 =>
 obind (ld0 h106 a3) fun x108 =>
 .ok (.tup [x107, x108]) h106) fun x109 h110 =>
 obind (extractI x109 0) fun x111 =>
 obind (extractI x109 1) fun x112 =>
 obind (binN .eql x112 (.int .i64 0)) fun x113 =>
 spanK x113 true h110 (fun k114 =>
 obind (binS .eql x111 a0) fun x117 =>
 k114 x117 h110) fun x115 h116 =>
 obind (pickI x113 (some x115) (some (.bool false))) fun x118 =>
 callP (cf 27 [x118] h116) (dfP (L [d0, d1]) fun h119 =>
 obind (ldA 4 h119 a2) fun x120 =>
 obind (ld0 h119 a3) fun x121 =>
 .ok (.tup [x120, x121]) h119) fun x122 h123 =>
 obind (nilI a4) fun x124 =>
 obind (fadK 2 x124) fun x125 =>
 obind (ldA 4 h123 x125) fun x126 =>
 obindH (stA 4 h123 a2 x126) fun h127 =>
 obindH (stA 1 h127 a3 (.int .i64 0)) fun h128 =>
 dfK (L [d0, d1] .ret h128) fun h129 =>
 obind (ldA 4 h129 a2) fun x130 =>
 obind (ld0 h129 a3) fun x131 =>
 .ok (.tup [x130, x131]) h129)
noncomputable def u8_3d (cf : CallF) (L : List IV → I.Mode → H → Option (I.Mode × H)) (D : List IV → Rec) (R : Rec) (d0 d1 a0 a2 a3 a4 a7 : IV) (h : H) : CRes :=
 callP (cf 26 [a4] h) (dfP (L [d0, d1]) fun h132 =>
 obind (ldA 4 h132 a2) fun x133 =>
 obind (ld0 h132 a3) fun x134 =>
 .ok (.tup [x133, x134]) h132) fun x135 h136 =>
 R 2 [a0, a2, a3, a4, a7, x135] h136
theorem m8 {cf cf' : CallF} {L L' : List IV → I.Mode → H → Option (I.Mode × H)} {D D' : List IV → Rec} {R R' : Rec} (hc : ∀ f l h, le (cf f l h) (cf' f l h)) (hL : ∀ l st h, leO (L l st h) (L' l st h)) (hD : ∀ l i x h, le (D l i x h) (D' l i x h)) (hR : ∀ i l h, le (R i l h) (R' i l h)) :
  (∀ (a0 : IV) (h : H), le (u8_0 cf L D R a0 h) (u8_0 cf' L' D' R' a0 h)) ∧
  (∀ (d0 d1 a0 a2 a3 a4 a30 a31 : IV) (h : H), le (u8_1d cf L D R d0 d1 a0 a2 a3 a4 a30 a31 h) (u8_1d cf' L' D' R' d0 d1 a0 a2 a3 a4 a30 a31 h)) ∧
  (∀ (d0 d1 a0 a2 a3 a4 a7 a8 : IV) (h : H), le (u8_2d cf L D R d0 d1 a0 a2 a3 a4 a7 a8 h) (u8_2d cf' L' D' R' d0 d1 a0 a2 a3 a4 a7 a8 h)) ∧
  (∀ (d0 d1 a0 a2 a3 a4 a7 : IV) (h : H), le (u8_3d cf L D R d0 d1 a0 a2 a3 a4 a7 h) (u8_3d cf' L' D' R' d0 d1 a0 a2 a3 a4 a7 h)) := by
  refine ⟨?_, ?_, ?_, ?_⟩
  all_goals intros
  all_goals first | unfold u8_0 | unfold u8_1d | unfold u8_2d | unfold u8_3d
  all_goals
  with_reducible repeat' first
    | refine le_obind fun _ => ?_
    | refine le_callP ?_ (fun _ _ => ?_) (fun _ _ => ?_)
    | refine le_condK ?_ ?_
    | exact hR _ _ _
    | refine le_obind2 fun _ _ => ?_
    | refine le_obindH fun _ => ?_
    | refine le_spanK (fun _ _ _ => ?_) (fun _ _ => ?_)
    | exact hc _ _ _
    | refine le_bif ?_ ?_
    | refine le_guardK ?_ ?_ ?_
    | refine le_mapK fun _ _ => ?_
    | refine le_panK fun _ _ => ?_
    | refine le_funK fun _ _ => ?_
    | exact hD _ _ _ _
    | refine le_dfP (hL _) (fun _ => ?_)
    | refine le_dfK (hL _ _ _) (fun _ => ?_)
    | exact le_refl _
    | apply_assumption
noncomputable def bd8 (cf : CallF) (d0 d1 : IV) (R : Rec) : Rec := fun i l h =>
 br6 i 1 l (fun a0 a2 a3 a4 a30 a31 => u8_1d cf (L22 cf) (fun _ _ _ _ => .fail) R d0 d1 a0 a2 a3 a4 a30 a31 h) <|
 br6 i 2 l (fun a0 a2 a3 a4 a7 a8 => u8_2d cf (L22 cf) (fun _ _ _ _ => .fail) R d0 d1 a0 a2 a3 a4 a7 a8 h) <|
 br5 i 3 l (fun a0 a2 a3 a4 a7 => u8_3d cf (L22 cf) (fun _ _ _ _ => .fail) R d0 d1 a0 a2 a3 a4 a7 h) <|
 .fail
theorem rd8 {T : Tab} {cf : CallF} (hc : leC cf (CL T)) (d0 d1 : IV) (n : Nat) : leR (recN (bd8 cf d0 d1) n) (J8d T d0 d1) := recN_le (fun R hR i l h => by
  unfold bd8
  refine le_br6 (J := fun i l => J8d T d0 d1 i l h) (fun _ a0 a2 a3 a4 a30 a31 => le_e (fun hn => e8_1d (r := u8_1d (CL T) (fun l => LV Tryd.prog (CL T) 22 l) (fun l => fj1 Tryd.prog (CL T) Tryd.f8 js8 22 l) (J8d T d0 d1) d0 d1 a0 a2 a3 a4 a30 a31 h) rfl hn) ((m8 hc (lle22 hc) (fun _ _ _ _ => le_fail _) hR).2.1 d0 d1 a0 a2 a3 a4 a30 a31 h)) ?_
  refine le_br6 (J := fun i l => J8d T d0 d1 i l h) (fun _ a0 a2 a3 a4 a7 a8 => le_e (fun hn => e8_2d (r := u8_2d (CL T) (fun l => LV Tryd.prog (CL T) 22 l) (fun l => fj1 Tryd.prog (CL T) Tryd.f8 js8 22 l) (J8d T d0 d1) d0 d1 a0 a2 a3 a4 a7 a8 h) rfl hn) ((m8 hc (lle22 hc) (fun _ _ _ _ => le_fail _) hR).2.2.1 d0 d1 a0 a2 a3 a4 a7 a8 h)) ?_
  refine le_br5 (J := fun i l => J8d T d0 d1 i l h) (fun _ a0 a2 a3 a4 a7 => le_e (fun hn => e8_3d (r := u8_3d (CL T) (fun l => LV Tryd.prog (CL T) 22 l) (fun l => fj1 Tryd.prog (CL T) Tryd.f8 js8 22 l) (J8d T d0 d1) d0 d1 a0 a2 a3 a4 a7 h) rfl hn) ((m8 hc (lle22 hc) (fun _ _ _ _ => le_fail _) hR).2.2.2 d0 d1 a0 a2 a3 a4 a7 h)) ?_
  exact le_fail _) n
noncomputable def D8 (cf : CallF) (l : List IV) : Rec :=
 match l with
 | [d0, d1] => recN (bd8 cf d0 d1) 1000000
 | _ => fun _ _ _ => .fail
theorem dle8 {T : Tab} {cf : CallF} (hc : leC cf (CL T)) (l : List IV) (i : Nat) (x : List IV) (h : H) : le (D8 cf l i x h) (fj1 Tryd.prog (CL T) Tryd.f8 js8 22 l i x h) := by
  unfold D8
  split
  · exact rd8 hc _ _ _ i x h
  · exact le_fail _
noncomputable def b8 (cf : CallF) (R : Rec) : Rec := fun i l h =>
 br1 i 0 l (fun a0 => u8_0 cf (L22 cf) (D8 cf) R a0 h) <|
 .fail
theorem r8 {T : Tab} {cf : CallF} (hc : leC cf (CL T)) (n : Nat) : leR (recN (b8 cf) n) (J8 T) := recN_le (fun R hR i l h => by
  unfold b8
  refine le_br1 (J := fun i l => J8 T i l h) (fun _ a0 => le_e (fun hn => e8_0 (r := u8_0 (CL T) (fun l => LV Tryd.prog (CL T) 22 l) (fun l => fj1 Tryd.prog (CL T) Tryd.f8 js8 22 l) (J8 T) a0 h) rfl hn) ((m8 hc (lle22 hc) (dle8 hc) hR).1 a0 h)) ?_
  exact le_fail _) n
theorem m9 {cf cf' : CallF} {R R' : Rec} (hc : ∀ f l h, le (cf f l h) (cf' f l h)) (hR : ∀ i l h, le (R i l h) (R' i l h)) :
  (∀ (a0 a1 a2 : IV) (h : H), le (t9_0 cf R a0 a1 a2 h) (t9_0 cf' R' a0 a1 a2 h)) ∧
  (∀ (a2 a3 a4 a7 : IV) (h : H), le (t9_1 cf R a2 a3 a4 a7 h) (t9_1 cf' R' a2 a3 a4 a7 h)) ∧
  (∀ (a2 a3 a4 a8 : IV) (h : H), le (t9_2 cf R a2 a3 a4 a8 h) (t9_2 cf' R' a2 a3 a4 a8 h)) ∧
  (∀ (a2 a3 a4 a9 : IV) (h : H), le (t9_3 cf R a2 a3 a4 a9 h) (t9_3 cf' R' a2 a3 a4 a9 h)) ∧
  (∀ (a3 a4 a10 : IV) (h : H), le (t9_4 cf R a3 a4 a10 h) (t9_4 cf' R' a3 a4 a10 h)) := by
  refine ⟨?_, ?_, ?_, ?_, ?_⟩
  all_goals intros
  all_goals first | unfold t9_0 | unfold t9_1 | unfold t9_2 | unfold t9_3 | unfold t9_4
  all_goals
  with_reducible repeat' first
    | refine le_obind fun _ => ?_
    | refine le_callP ?_ (fun _ _ => ?_) (fun _ _ => ?_)
    | refine le_condK ?_ ?_
    | exact hR _ _ _
    | refine le_obind2 fun _ _ => ?_
    | refine le_obindH fun _ => ?_
    | refine le_spanK (fun _ _ _ => ?_) (fun _ _ => ?_)
    | exact hc _ _ _
    | refine le_bif ?_ ?_
    | refine le_guardK ?_ ?_ ?_
    | refine le_mapK fun _ _ => ?_
    | refine le_panK fun _ _ => ?_
    | refine le_funK fun _ _ => ?_
    | exact le_refl _
    | apply_assumption
noncomputable def b9 (cf : CallF) (R : Rec) : Rec := fun i l h =>
 br3 i 0 l (fun a0 a1 a2 => t9_0 cf R a0 a1 a2 h) <|
 br4 i 1 l (fun a2 a3 a4 a7 => t9_1 cf R a2 a3 a4 a7 h) <|
 br4 i 2 l (fun a2 a3 a4 a8 => t9_2 cf R a2 a3 a4 a8 h) <|
 br4 i 3 l (fun a2 a3 a4 a9 => t9_3 cf R a2 a3 a4 a9 h) <|
 br3 i 4 l (fun a3 a4 a10 => t9_4 cf R a3 a4 a10 h) <|
 .fail
theorem r9 {T : Tab} {cf : CallF} (hc : leC cf (CL T)) (n : Nat) : leR (recN (b9 cf) n) (J9 T) := recN_le (fun R hR i l h => by
  unfold b9
  refine le_br3 (J := fun i l => J9 T i l h) (fun _ a0 a1 a2 => le_e (fun hn => e9_0 rfl hn) ((m9 hc hR).1 a0 a1 a2 h)) ?_
  refine le_br4 (J := fun i l => J9 T i l h) (fun _ a2 a3 a4 a7 => le_e (fun hn => e9_1 rfl hn) ((m9 hc hR).2.1 a2 a3 a4 a7 h)) ?_
  refine le_br4 (J := fun i l => J9 T i l h) (fun _ a2 a3 a4 a8 => le_e (fun hn => e9_2 rfl hn) ((m9 hc hR).2.2.1 a2 a3 a4 a8 h)) ?_
  refine le_br4 (J := fun i l => J9 T i l h) (fun _ a2 a3 a4 a9 => le_e (fun hn => e9_3 rfl hn) ((m9 hc hR).2.2.2.1 a2 a3 a4 a9 h)) ?_
  refine le_br3 (J := fun i l => J9 T i l h) (fun _ a3 a4 a10 => le_e (fun hn => e9_4 rfl hn) ((m9 hc hR).2.2.2.2 a3 a4 a10 h)) ?_
  exact le_fail _) n
theorem m12 {cf cf' : CallF} {R R' : Rec} (hc : ∀ f l h, le (cf f l h) (cf' f l h)) (hR : ∀ i l h, le (R i l h) (R' i l h)) : (∀ (h : H), le (t12_0 cf R h) (t12_0 cf' R' h)) := by
  intros
  unfold t12_0
  with_reducible repeat' first
    | refine le_obind fun _ => ?_
    | refine le_callP ?_ (fun _ _ => ?_) (fun _ _ => ?_)
    | refine le_condK ?_ ?_
    | exact hR _ _ _
    | refine le_obind2 fun _ _ => ?_
    | refine le_obindH fun _ => ?_
    | refine le_spanK (fun _ _ _ => ?_) (fun _ _ => ?_)
    | exact hc _ _ _
    | refine le_bif ?_ ?_
    | refine le_guardK ?_ ?_ ?_
    | refine le_mapK fun _ _ => ?_
    | refine le_panK fun _ _ => ?_
    | refine le_funK fun _ _ => ?_
    | exact le_refl _
    | apply_assumption
noncomputable def b12 (cf : CallF) (R : Rec) : Rec := fun i l h =>
 br0 i 0 l (t12_0 cf R h) <|
 .fail
theorem r12 {T : Tab} {cf : CallF} (hc : leC cf (CL T)) (n : Nat) : leR (recN (b12 cf) n) (J12 T) := recN_le (fun R hR i l h => by
  unfold b12
  refine le_br0 (J := fun i l => J12 T i l h) (fun _ => le_e (fun hn => e12_0 rfl hn) ((m12 hc hR) h)) ?_
  exact le_fail _) n
theorem m13 {cf cf' : CallF} {R R' : Rec} (hc : ∀ f l h, le (cf f l h) (cf' f l h)) (hR : ∀ i l h, le (R i l h) (R' i l h)) : (∀ (a0 : IV) (h : H), le (t13_0 cf R a0 h) (t13_0 cf' R' a0 h)) := by
  intros
  unfold t13_0
  with_reducible repeat' first
    | refine le_obind fun _ => ?_
    | refine le_callP ?_ (fun _ _ => ?_) (fun _ _ => ?_)
    | refine le_condK ?_ ?_
    | exact hR _ _ _
    | refine le_obind2 fun _ _ => ?_
    | refine le_obindH fun _ => ?_
    | refine le_spanK (fun _ _ _ => ?_) (fun _ _ => ?_)
    | exact hc _ _ _
    | refine le_bif ?_ ?_
    | refine le_guardK ?_ ?_ ?_
    | refine le_mapK fun _ _ => ?_
    | refine le_panK fun _ _ => ?_
    | refine le_funK fun _ _ => ?_
    | exact le_refl _
    | apply_assumption
noncomputable def b13 (cf : CallF) (R : Rec) : Rec := fun i l h =>
 br1 i 0 l (fun a0 => t13_0 cf R a0 h) <|
 .fail
theorem r13 {T : Tab} {cf : CallF} (hc : leC cf (CL T)) (n : Nat) : leR (recN (b13 cf) n) (J13 T) := recN_le (fun R hR i l h => by
  unfold b13
  refine le_br1 (J := fun i l => J13 T i l h) (fun _ a0 => le_e (fun hn => e13_0 rfl hn) ((m13 hc hR) a0 h)) ?_
  exact le_fail _) n
theorem m15 {cf cf' : CallF} {R R' : Rec} (hc : ∀ f l h, le (cf f l h) (cf' f l h)) (hR : ∀ i l h, le (R i l h) (R' i l h)) :
  (∀ (a0 : IV) (h : H), le (t15_0 cf R a0 h) (t15_0 cf' R' a0 h)) ∧
  (∀ (a1 a3 a28 a29 : IV) (h : H), le (t15_1 cf R a1 a3 a28 a29 h) (t15_1 cf' R' a1 a3 a28 a29 h)) ∧
  (∀ (a1 a3 a28 a29 a70 : IV) (h : H), le (t15_2 cf R a1 a3 a28 a29 a70 h) (t15_2 cf' R' a1 a3 a28 a29 a70 h)) ∧
  (∀ (a1 a3 a6 a76 a77 a78 : IV) (h : H), le (t15_3 cf R a1 a3 a6 a76 a77 a78 h) (t15_3 cf' R' a1 a3 a6 a76 a77 a78 h)) ∧
  (∀ (a1 a3 a6 a8 a76 a77 a78 a116 : IV) (h : H), le (t15_4 cf R a1 a3 a6 a8 a76 a77 a78 a116 h) (t15_4 cf' R' a1 a3 a6 a8 a76 a77 a78 a116 h)) ∧
  (∀ (a1 a3 a6 a8 a76 a77 a78 a142 : IV) (h : H), le (t15_5 cf R a1 a3 a6 a8 a76 a77 a78 a142 h) (t15_5 cf' R' a1 a3 a6 a8 a76 a77 a78 a142 h)) := by
  refine ⟨?_, ?_, ?_, ?_, ?_, ?_⟩
  all_goals intros
  all_goals first | unfold t15_0 | unfold t15_1 | unfold t15_2 | unfold t15_3 | unfold t15_4 | unfold t15_5
  all_goals
  with_reducible repeat' first
    | refine le_obind fun _ => ?_
    | refine le_callP ?_ (fun _ _ => ?_) (fun _ _ => ?_)
    | refine le_condK ?_ ?_
    | exact hR _ _ _
    | refine le_obind2 fun _ _ => ?_
    | refine le_obindH fun _ => ?_
    | refine le_spanK (fun _ _ _ => ?_) (fun _ _ => ?_)
    | exact hc _ _ _
    | refine le_bif ?_ ?_
    | refine le_guardK ?_ ?_ ?_
    | refine le_mapK fun _ _ => ?_
    | refine le_panK fun _ _ => ?_
    | refine le_funK fun _ _ => ?_
    | exact le_refl _
    | apply_assumption
noncomputable def b15 (cf : CallF) (R : Rec) : Rec := fun i l h =>
 br1 i 0 l (fun a0 => t15_0 cf R a0 h) <|
 br4 i 1 l (fun a1 a3 a28 a29 => t15_1 cf R a1 a3 a28 a29 h) <|
 br5 i 2 l (fun a1 a3 a28 a29 a70 => t15_2 cf R a1 a3 a28 a29 a70 h) <|
 br6 i 3 l (fun a1 a3 a6 a76 a77 a78 => t15_3 cf R a1 a3 a6 a76 a77 a78 h) <|
 br8 i 4 l (fun a1 a3 a6 a8 a76 a77 a78 a116 => t15_4 cf R a1 a3 a6 a8 a76 a77 a78 a116 h) <|
 br8 i 5 l (fun a1 a3 a6 a8 a76 a77 a78 a142 => t15_5 cf R a1 a3 a6 a8 a76 a77 a78 a142 h) <|
 .fail
theorem r15 {T : Tab} {cf : CallF} (hc : leC cf (CL T)) (n : Nat) : leR (recN (b15 cf) n) (J15 T) := recN_le (fun R hR i l h => by
  unfold b15
  refine le_br1 (J := fun i l => J15 T i l h) (fun _ a0 => le_e (fun hn => e15_0 rfl hn) ((m15 hc hR).1 a0 h)) ?_
  refine le_br4 (J := fun i l => J15 T i l h) (fun _ a1 a3 a28 a29 => le_e (fun hn => e15_1 rfl hn) ((m15 hc hR).2.1 a1 a3 a28 a29 h)) ?_
  refine le_br5 (J := fun i l => J15 T i l h) (fun _ a1 a3 a28 a29 a70 => le_e (fun hn => e15_2 rfl hn) ((m15 hc hR).2.2.1 a1 a3 a28 a29 a70 h)) ?_
  refine le_br6 (J := fun i l => J15 T i l h) (fun _ a1 a3 a6 a76 a77 a78 => le_e (fun hn => e15_3 rfl hn) ((m15 hc hR).2.2.2.1 a1 a3 a6 a76 a77 a78 h)) ?_
  refine le_br8 (J := fun i l => J15 T i l h) (fun _ a1 a3 a6 a8 a76 a77 a78 a116 => le_e (fun hn => e15_4 rfl hn) ((m15 hc hR).2.2.2.2.1 a1 a3 a6 a8 a76 a77 a78 a116 h)) ?_
  refine le_br8 (J := fun i l => J15 T i l h) (fun _ a1 a3 a6 a8 a76 a77 a78 a142 => le_e (fun hn => e15_5 rfl hn) ((m15 hc hR).2.2.2.2.2 a1 a3 a6 a8 a76 a77 a78 a142 h)) ?_
  exact le_fail _) n
theorem m16 {cf cf' : CallF} {R R' : Rec} (hc : ∀ f l h, le (cf f l h) (cf' f l h)) (hR : ∀ i l h, le (R i l h) (R' i l h)) : (∀ (a0 a1 : IV) (h : H), le (t16_0 cf R a0 a1 h) (t16_0 cf' R' a0 a1 h)) := by
  intros
  unfold t16_0
  with_reducible repeat' first
    | refine le_obind fun _ => ?_
    | refine le_callP ?_ (fun _ _ => ?_) (fun _ _ => ?_)
    | refine le_condK ?_ ?_
    | exact hR _ _ _
    | refine le_obind2 fun _ _ => ?_
    | refine le_obindH fun _ => ?_
    | refine le_spanK (fun _ _ _ => ?_) (fun _ _ => ?_)
    | exact hc _ _ _
    | refine le_bif ?_ ?_
    | refine le_guardK ?_ ?_ ?_
    | refine le_mapK fun _ _ => ?_
    | refine le_panK fun _ _ => ?_
    | refine le_funK fun _ _ => ?_
    | exact le_refl _
    | apply_assumption
noncomputable def b16 (cf : CallF) (R : Rec) : Rec := fun i l h =>
 br2 i 0 l (fun a0 a1 => t16_0 cf R a0 a1 h) <|
 .fail
theorem r16 {T : Tab} {cf : CallF} (hc : leC cf (CL T)) (n : Nat) : leR (recN (b16 cf) n) (J16 T) := recN_le (fun R hR i l h => by
  unfold b16
  refine le_br2 (J := fun i l => J16 T i l h) (fun _ a0 a1 => le_e (fun hn => e16_0 rfl hn) ((m16 hc hR) a0 a1 h)) ?_
  exact le_fail _) n
theorem m17 {cf cf' : CallF} {R R' : Rec} (hc : ∀ f l h, le (cf f l h) (cf' f l h)) (hR : ∀ i l h, le (R i l h) (R' i l h)) : (∀ (a0 : IV) (h : H), le (t17_0 cf R a0 h) (t17_0 cf' R' a0 h)) := by
  intros
  unfold t17_0
  with_reducible repeat' first
    | refine le_obind fun _ => ?_
    | refine le_callP ?_ (fun _ _ => ?_) (fun _ _ => ?_)
    | refine le_condK ?_ ?_
    | exact hR _ _ _
    | refine le_obind2 fun _ _ => ?_
    | refine le_obindH fun _ => ?_
    | refine le_spanK (fun _ _ _ => ?_) (fun _ _ => ?_)
    | exact hc _ _ _
    | refine le_bif ?_ ?_
    | refine le_guardK ?_ ?_ ?_
    | refine le_mapK fun _ _ => ?_
    | refine le_panK fun _ _ => ?_
    | refine le_funK fun _ _ => ?_
    | exact le_refl _
    | apply_assumption
noncomputable def b17 (cf : CallF) (R : Rec) : Rec := fun i l h =>
 br1 i 0 l (fun a0 => t17_0 cf R a0 h) <|
 .fail
theorem r17 {T : Tab} {cf : CallF} (hc : leC cf (CL T)) (n : Nat) : leR (recN (b17 cf) n) (J17 T) := recN_le (fun R hR i l h => by
  unfold b17
  refine le_br1 (J := fun i l => J17 T i l h) (fun _ a0 => le_e (fun hn => e17_0 rfl hn) ((m17 hc hR) a0 h)) ?_
  exact le_fail _) n
theorem m18 {cf cf' : CallF} {R R' : Rec} (hc : ∀ f l h, le (cf f l h) (cf' f l h)) (hR : ∀ i l h, le (R i l h) (R' i l h)) :
  (∀ (a0 : IV) (h : H), le (t18_0 cf R a0 h) (t18_0 cf' R' a0 h)) ∧
  (∀ (a0 a3 : IV) (h : H), le (t18_1 cf R a0 a3 h) (t18_1 cf' R' a0 a3 h)) := by
  refine ⟨?_, ?_⟩
  all_goals intros
  all_goals first | unfold t18_0 | unfold t18_1
  all_goals
  with_reducible repeat' first
    | refine le_obind fun _ => ?_
    | refine le_callP ?_ (fun _ _ => ?_) (fun _ _ => ?_)
    | refine le_condK ?_ ?_
    | exact hR _ _ _
    | refine le_obind2 fun _ _ => ?_
    | refine le_obindH fun _ => ?_
    | refine le_spanK (fun _ _ _ => ?_) (fun _ _ => ?_)
    | exact hc _ _ _
    | refine le_bif ?_ ?_
    | refine le_guardK ?_ ?_ ?_
    | refine le_mapK fun _ _ => ?_
    | refine le_panK fun _ _ => ?_
    | refine le_funK fun _ _ => ?_
    | exact le_refl _
    | apply_assumption
noncomputable def b18 (cf : CallF) (R : Rec) : Rec := fun i l h =>
 br1 i 0 l (fun a0 => t18_0 cf R a0 h) <|
 br2 i 1 l (fun a0 a3 => t18_1 cf R a0 a3 h) <|
 .fail
theorem r18 {T : Tab} {cf : CallF} (hc : leC cf (CL T)) (n : Nat) : leR (recN (b18 cf) n) (J18 T) := recN_le (fun R hR i l h => by
  unfold b18
  refine le_br1 (J := fun i l => J18 T i l h) (fun _ a0 => le_e (fun hn => e18_0 rfl hn) ((m18 hc hR).1 a0 h)) ?_
  refine le_br2 (J := fun i l => J18 T i l h) (fun _ a0 a3 => le_e (fun hn => e18_1 rfl hn) ((m18 hc hR).2 a0 a3 h)) ?_
  exact le_fail _) n
theorem m19 {cf cf' : CallF} {R R' : Rec} (hc : ∀ f l h, le (cf f l h) (cf' f l h)) (hR : ∀ i l h, le (R i l h) (R' i l h)) : (∀ (a0 a1 : IV) (h : H), le (t19_0 cf R a0 a1 h) (t19_0 cf' R' a0 a1 h)) := by
  intros
  unfold t19_0
  with_reducible repeat' first
    | refine le_obind fun _ => ?_
    | refine le_callP ?_ (fun _ _ => ?_) (fun _ _ => ?_)
    | refine le_condK ?_ ?_
    | exact hR _ _ _
    | refine le_obind2 fun _ _ => ?_
    | refine le_obindH fun _ => ?_
    | refine le_spanK (fun _ _ _ => ?_) (fun _ _ => ?_)
    | exact hc _ _ _
    | refine le_bif ?_ ?_
    | refine le_guardK ?_ ?_ ?_
    | refine le_mapK fun _ _ => ?_
    | refine le_panK fun _ _ => ?_
    | refine le_funK fun _ _ => ?_
    | exact le_refl _
    | apply_assumption
noncomputable def b19 (cf : CallF) (R : Rec) : Rec := fun i l h =>
 br2 i 0 l (fun a0 a1 => t19_0 cf R a0 a1 h) <|
 .fail
theorem r19 {T : Tab} {cf : CallF} (hc : leC cf (CL T)) (n : Nat) : leR (recN (b19 cf) n) (J19 T) := recN_le (fun R hR i l h => by
  unfold b19
  refine le_br2 (J := fun i l => J19 T i l h) (fun _ a0 a1 => le_e (fun hn => e19_0 rfl hn) ((m19 hc hR) a0 a1 h)) ?_
  exact le_fail _) n
theorem m20 {cf cf' : CallF} {R R' : Rec} (hc : ∀ f l h, le (cf f l h) (cf' f l h)) (hR : ∀ i l h, le (R i l h) (R' i l h)) : (∀ (a0 : IV) (h : H), le (t20_0 cf R a0 h) (t20_0 cf' R' a0 h)) := by
  intros
  unfold t20_0
  with_reducible repeat' first
    | refine le_obind fun _ => ?_
    | refine le_callP ?_ (fun _ _ => ?_) (fun _ _ => ?_)
    | refine le_condK ?_ ?_
    | exact hR _ _ _
    | refine le_obind2 fun _ _ => ?_
    | refine le_obindH fun _ => ?_
    | refine le_spanK (fun _ _ _ => ?_) (fun _ _ => ?_)
    | exact hc _ _ _
    | refine le_bif ?_ ?_
    | refine le_guardK ?_ ?_ ?_
    | refine le_mapK fun _ _ => ?_
    | refine le_panK fun _ _ => ?_
    | refine le_funK fun _ _ => ?_
    | exact le_refl _
    | apply_assumption
noncomputable def b20 (cf : CallF) (R : Rec) : Rec := fun i l h =>
 br1 i 0 l (fun a0 => t20_0 cf R a0 h) <|
 .fail
theorem r20 {T : Tab} {cf : CallF} (hc : leC cf (CL T)) (n : Nat) : leR (recN (b20 cf) n) (J20 T) := recN_le (fun R hR i l h => by
  unfold b20
  refine le_br1 (J := fun i l => J20 T i l h) (fun _ a0 => le_e (fun hn => e20_0 rfl hn) ((m20 hc hR) a0 h)) ?_
  exact le_fail _) n
theorem m21 {cf cf' : CallF} {R R' : Rec} (hc : ∀ f l h, le (cf f l h) (cf' f l h)) (hR : ∀ i l h, le (R i l h) (R' i l h)) : (∀ (a0 : IV) (h : H), le (t21_0 cf R a0 h) (t21_0 cf' R' a0 h)) := by
  intros
  unfold t21_0
  with_reducible repeat' first
    | refine le_obind fun _ => ?_
    | refine le_callP ?_ (fun _ _ => ?_) (fun _ _ => ?_)
    | refine le_condK ?_ ?_
    | exact hR _ _ _
    | refine le_obind2 fun _ _ => ?_
    | refine le_obindH fun _ => ?_
    | refine le_spanK (fun _ _ _ => ?_) (fun _ _ => ?_)
    | exact hc _ _ _
    | refine le_bif ?_ ?_
    | refine le_guardK ?_ ?_ ?_
    | refine le_mapK fun _ _ => ?_
    | refine le_panK fun _ _ => ?_
    | refine le_funK fun _ _ => ?_
    | exact le_refl _
    | apply_assumption
noncomputable def b21 (cf : CallF) (R : Rec) : Rec := fun i l h =>
 br1 i 0 l (fun a0 => t21_0 cf R a0 h) <|
 .fail
theorem r21 {T : Tab} {cf : CallF} (hc : leC cf (CL T)) (n : Nat) : leR (recN (b21 cf) n) (J21 T) := recN_le (fun R hR i l h => by
  unfold b21
  refine le_br1 (J := fun i l => J21 T i l h) (fun _ a0 => le_e (fun hn => e21_0 rfl hn) ((m21 hc hR) a0 h)) ?_
  exact le_fail _) n
theorem m23 {cf cf' : CallF} {R R' : Rec} (hc : ∀ f l h, le (cf f l h) (cf' f l h)) (hR : ∀ i l h, le (R i l h) (R' i l h)) : (∀ (a0 a1 : IV) (h : H), le (t23_0 cf R a0 a1 h) (t23_0 cf' R' a0 a1 h)) := by
  intros
  unfold t23_0
  with_reducible repeat' first
    | refine le_obind fun _ => ?_
    | refine le_callP ?_ (fun _ _ => ?_) (fun _ _ => ?_)
    | refine le_condK ?_ ?_
    | exact hR _ _ _
    | refine le_obind2 fun _ _ => ?_
    | refine le_obindH fun _ => ?_
    | refine le_spanK (fun _ _ _ => ?_) (fun _ _ => ?_)
    | exact hc _ _ _
    | refine le_bif ?_ ?_
    | refine le_guardK ?_ ?_ ?_
    | refine le_mapK fun _ _ => ?_
    | refine le_panK fun _ _ => ?_
    | refine le_funK fun _ _ => ?_
    | exact le_refl _
    | apply_assumption
noncomputable def b23 (cf : CallF) (R : Rec) : Rec := fun i l h =>
 br2 i 0 l (fun a0 a1 => t23_0 cf R a0 a1 h) <|
 .fail
theorem r23 {T : Tab} {cf : CallF} (hc : leC cf (CL T)) (n : Nat) : leR (recN (b23 cf) n) (J23 T) := recN_le (fun R hR i l h => by
  unfold b23
  refine le_br2 (J := fun i l => J23 T i l h) (fun _ a0 a1 => le_e (fun hn => e23_0 rfl hn) ((m23 hc hR) a0 a1 h)) ?_
  exact le_fail _) n
theorem m24 {cf cf' : CallF} {R R' : Rec} (hc : ∀ f l h, le (cf f l h) (cf' f l h)) (hR : ∀ i l h, le (R i l h) (R' i l h)) :
  (∀ (a0 : IV) (h : H), le (t24_0 cf R a0 h) (t24_0 cf' R' a0 h)) ∧
  (∀ (a0 a2 : IV) (h : H), le (t24_1 cf R a0 a2 h) (t24_1 cf' R' a0 a2 h)) ∧
  (∀ (a0 a3 : IV) (h : H), le (t24_2 cf R a0 a3 h) (t24_2 cf' R' a0 a3 h)) := by
  refine ⟨?_, ?_, ?_⟩
  all_goals intros
  all_goals first | unfold t24_0 | unfold t24_1 | unfold t24_2
  all_goals
  with_reducible repeat' first
    | refine le_obind fun _ => ?_
    | refine le_callP ?_ (fun _ _ => ?_) (fun _ _ => ?_)
    | refine le_condK ?_ ?_
    | exact hR _ _ _
    | refine le_obind2 fun _ _ => ?_
    | refine le_obindH fun _ => ?_
    | refine le_spanK (fun _ _ _ => ?_) (fun _ _ => ?_)
    | exact hc _ _ _
    | refine le_bif ?_ ?_
    | refine le_guardK ?_ ?_ ?_
    | refine le_mapK fun _ _ => ?_
    | refine le_panK fun _ _ => ?_
    | refine le_funK fun _ _ => ?_
    | exact le_refl _
    | apply_assumption
noncomputable def b24 (cf : CallF) (R : Rec) : Rec := fun i l h =>
 br1 i 0 l (fun a0 => t24_0 cf R a0 h) <|
 br2 i 1 l (fun a0 a2 => t24_1 cf R a0 a2 h) <|
 br2 i 2 l (fun a0 a3 => t24_2 cf R a0 a3 h) <|
 .fail
theorem r24 {T : Tab} {cf : CallF} (hc : leC cf (CL T)) (n : Nat) : leR (recN (b24 cf) n) (J24 T) := recN_le (fun R hR i l h => by
  unfold b24
  refine le_br1 (J := fun i l => J24 T i l h) (fun _ a0 => le_e (fun hn => e24_0 rfl hn) ((m24 hc hR).1 a0 h)) ?_
  refine le_br2 (J := fun i l => J24 T i l h) (fun _ a0 a2 => le_e (fun hn => e24_1 rfl hn) ((m24 hc hR).2.1 a0 a2 h)) ?_
  refine le_br2 (J := fun i l => J24 T i l h) (fun _ a0 a3 => le_e (fun hn => e24_2 rfl hn) ((m24 hc hR).2.2 a0 a3 h)) ?_
  exact le_fail _) n
theorem m25 {cf cf' : CallF} {R R' : Rec} (hc : ∀ f l h, le (cf f l h) (cf' f l h)) (hR : ∀ i l h, le (R i l h) (R' i l h)) :
  (∀ (a0 a1 : IV) (h : H), le (t25_0 cf R a0 a1 h) (t25_0 cf' R' a0 a1 h)) ∧
  (∀ (a0 a5 a6 : IV) (h : H), le (t25_1 cf R a0 a5 a6 h) (t25_1 cf' R' a0 a5 a6 h)) := by
  refine ⟨?_, ?_⟩
  all_goals intros
  all_goals first | unfold t25_0 | unfold t25_1
  all_goals
  with_reducible repeat' first
    | refine le_obind fun _ => ?_
    | refine le_callP ?_ (fun _ _ => ?_) (fun _ _ => ?_)
    | refine le_condK ?_ ?_
    | exact hR _ _ _
    | refine le_obind2 fun _ _ => ?_
    | refine le_obindH fun _ => ?_
    | refine le_spanK (fun _ _ _ => ?_) (fun _ _ => ?_)
    | exact hc _ _ _
    | refine le_bif ?_ ?_
    | refine le_guardK ?_ ?_ ?_
    | refine le_mapK fun _ _ => ?_
    | refine le_panK fun _ _ => ?_
    | refine le_funK fun _ _ => ?_
    | exact le_refl _
    | apply_assumption
noncomputable def b25 (cf : CallF) (R : Rec) : Rec := fun i l h =>
 br2 i 0 l (fun a0 a1 => t25_0 cf R a0 a1 h) <|
 br3 i 1 l (fun a0 a5 a6 => t25_1 cf R a0 a5 a6 h) <|
 .fail
theorem r25 {T : Tab} {cf : CallF} (hc : leC cf (CL T)) (n : Nat) : leR (recN (b25 cf) n) (J25 T) := recN_le (fun R hR i l h => by
  unfold b25
  refine le_br2 (J := fun i l => J25 T i l h) (fun _ a0 a1 => le_e (fun hn => e25_0 rfl hn) ((m25 hc hR).1 a0 a1 h)) ?_
  refine le_br3 (J := fun i l => J25 T i l h) (fun _ a0 a5 a6 => le_e (fun hn => e25_1 rfl hn) ((m25 hc hR).2 a0 a5 a6 h)) ?_
  exact le_fail _) n
theorem m26 {cf cf' : CallF} {R R' : Rec} (hc : ∀ f l h, le (cf f l h) (cf' f l h)) (hR : ∀ i l h, le (R i l h) (R' i l h)) : (∀ (a0 : IV) (h : H), le (t26_0 cf R a0 h) (t26_0 cf' R' a0 h)) := by
  intros
  unfold t26_0
  with_reducible repeat' first
    | refine le_obind fun _ => ?_
    | refine le_callP ?_ (fun _ _ => ?_) (fun _ _ => ?_)
    | refine le_condK ?_ ?_
    | exact hR _ _ _
    | refine le_obind2 fun _ _ => ?_
    | refine le_obindH fun _ => ?_
    | refine le_spanK (fun _ _ _ => ?_) (fun _ _ => ?_)
    | exact hc _ _ _
    | refine le_bif ?_ ?_
    | refine le_guardK ?_ ?_ ?_
    | refine le_mapK fun _ _ => ?_
    | refine le_panK fun _ _ => ?_
    | refine le_funK fun _ _ => ?_
    | exact le_refl _
    | apply_assumption
noncomputable def b26 (cf : CallF) (R : Rec) : Rec := fun i l h =>
 br1 i 0 l (fun a0 => t26_0 cf R a0 h) <|
 .fail
theorem r26 {T : Tab} {cf : CallF} (hc : leC cf (CL T)) (n : Nat) : leR (recN (b26 cf) n) (J26 T) := recN_le (fun R hR i l h => by
  unfold b26
  refine le_br1 (J := fun i l => J26 T i l h) (fun _ a0 => le_e (fun hn => e26_0 rfl hn) ((m26 hc hR) a0 h)) ?_
  exact le_fail _) n
theorem m27 {cf cf' : CallF} {R R' : Rec} (hc : ∀ f l h, le (cf f l h) (cf' f l h)) (hR : ∀ i l h, le (R i l h) (R' i l h)) : (∀ (a0 : IV) (h : H), le (t27_0 cf R a0 h) (t27_0 cf' R' a0 h)) := by
  intros
  unfold t27_0
  with_reducible repeat' first
    | refine le_obind fun _ => ?_
    | refine le_callP ?_ (fun _ _ => ?_) (fun _ _ => ?_)
    | refine le_condK ?_ ?_
    | exact hR _ _ _
    | refine le_obind2 fun _ _ => ?_
    | refine le_obindH fun _ => ?_
    | refine le_spanK (fun _ _ _ => ?_) (fun _ _ => ?_)
    | exact hc _ _ _
    | refine le_bif ?_ ?_
    | refine le_guardK ?_ ?_ ?_
    | refine le_mapK fun _ _ => ?_
    | refine le_panK fun _ _ => ?_
    | refine le_funK fun _ _ => ?_
    | exact le_refl _
    | apply_assumption
noncomputable def b27 (cf : CallF) (R : Rec) : Rec := fun i l h =>
 br1 i 0 l (fun a0 => t27_0 cf R a0 h) <|
 .fail
theorem r27 {T : Tab} {cf : CallF} (hc : leC cf (CL T)) (n : Nat) : leR (recN (b27 cf) n) (J27 T) := recN_le (fun R hR i l h => by
  unfold b27
  refine le_br1 (J := fun i l => J27 T i l h) (fun _ a0 => le_e (fun hn => e27_0 rfl hn) ((m27 hc hR) a0 h)) ?_
  exact le_fail _) n
theorem m28 {cf cf' : CallF} {R R' : Rec} (hc : ∀ f l h, le (cf f l h) (cf' f l h)) (hR : ∀ i l h, le (R i l h) (R' i l h)) : (∀ (a0 : IV) (h : H), le (t28_0 cf R a0 h) (t28_0 cf' R' a0 h)) := by
  intros
  unfold t28_0
  with_reducible repeat' first
    | refine le_obind fun _ => ?_
    | refine le_callP ?_ (fun _ _ => ?_) (fun _ _ => ?_)
    | refine le_condK ?_ ?_
    | exact hR _ _ _
    | refine le_obind2 fun _ _ => ?_
    | refine le_obindH fun _ => ?_
    | refine le_spanK (fun _ _ _ => ?_) (fun _ _ => ?_)
    | exact hc _ _ _
    | refine le_bif ?_ ?_
    | refine le_guardK ?_ ?_ ?_
    | refine le_mapK fun _ _ => ?_
    | refine le_panK fun _ _ => ?_
    | refine le_funK fun _ _ => ?_
    | exact le_refl _
    | apply_assumption
noncomputable def b28 (cf : CallF) (R : Rec) : Rec := fun i l h =>
 br1 i 0 l (fun a0 => t28_0 cf R a0 h) <|
 .fail
theorem r28 {T : Tab} {cf : CallF} (hc : leC cf (CL T)) (n : Nat) : leR (recN (b28 cf) n) (J28 T) := recN_le (fun R hR i l h => by
  unfold b28
  refine le_br1 (J := fun i l => J28 T i l h) (fun _ a0 => le_e (fun hn => e28_0 rfl hn) ((m28 hc hR) a0 h)) ?_
  exact le_fail _) n
theorem m32 {cf cf' : CallF} {R R' : Rec} (hc : ∀ f l h, le (cf f l h) (cf' f l h)) (hR : ∀ i l h, le (R i l h) (R' i l h)) : (∀ (a0 : IV) (h : H), le (t32_0 cf R a0 h) (t32_0 cf' R' a0 h)) := by
  intros
  unfold t32_0
  with_reducible repeat' first
    | refine le_obind fun _ => ?_
    | refine le_callP ?_ (fun _ _ => ?_) (fun _ _ => ?_)
    | refine le_condK ?_ ?_
    | exact hR _ _ _
    | refine le_obind2 fun _ _ => ?_
    | refine le_obindH fun _ => ?_
    | refine le_spanK (fun _ _ _ => ?_) (fun _ _ => ?_)
    | exact hc _ _ _
    | refine le_bif ?_ ?_
    | refine le_guardK ?_ ?_ ?_
    | refine le_mapK fun _ _ => ?_
    | refine le_panK fun _ _ => ?_
    | refine le_funK fun _ _ => ?_
    | exact le_refl _
    | apply_assumption
noncomputable def b32 (cf : CallF) (R : Rec) : Rec := fun i l h =>
 br1 i 0 l (fun a0 => t32_0 cf R a0 h) <|
 .fail
theorem r32 {T : Tab} {cf : CallF} (hc : leC cf (CL T)) (n : Nat) : leR (recN (b32 cf) n) (J32 T) := recN_le (fun R hR i l h => by
  unfold b32
  refine le_br1 (J := fun i l => J32 T i l h) (fun _ a0 => le_e (fun hn => e32_0 rfl hn) ((m32 hc hR) a0 h)) ?_
  exact le_fail _) n
theorem m33 {cf cf' : CallF} {R R' : Rec} (hc : ∀ f l h, le (cf f l h) (cf' f l h)) (hR : ∀ i l h, le (R i l h) (R' i l h)) : (∀ (a0 a1 : IV) (h : H), le (t33_0 cf R a0 a1 h) (t33_0 cf' R' a0 a1 h)) := by
  intros
  unfold t33_0
  with_reducible repeat' first
    | refine le_obind fun _ => ?_
    | refine le_callP ?_ (fun _ _ => ?_) (fun _ _ => ?_)
    | refine le_condK ?_ ?_
    | exact hR _ _ _
    | refine le_obind2 fun _ _ => ?_
    | refine le_obindH fun _ => ?_
    | refine le_spanK (fun _ _ _ => ?_) (fun _ _ => ?_)
    | exact hc _ _ _
    | refine le_bif ?_ ?_
    | refine le_guardK ?_ ?_ ?_
    | refine le_mapK fun _ _ => ?_
    | refine le_panK fun _ _ => ?_
    | refine le_funK fun _ _ => ?_
    | exact le_refl _
    | apply_assumption
noncomputable def b33 (cf : CallF) (R : Rec) : Rec := fun i l h =>
 br2 i 0 l (fun a0 a1 => t33_0 cf R a0 a1 h) <|
 .fail
theorem r33 {T : Tab} {cf : CallF} (hc : leC cf (CL T)) (n : Nat) : leR (recN (b33 cf) n) (J33 T) := recN_le (fun R hR i l h => by
  unfold b33
  refine le_br2 (J := fun i l => J33 T i l h) (fun _ a0 a1 => le_e (fun hn => e33_0 rfl hn) ((m33 hc hR) a0 a1 h)) ?_
  exact le_fail _) n
theorem m34 {cf cf' : CallF} {R R' : Rec} (hc : ∀ f l h, le (cf f l h) (cf' f l h)) (hR : ∀ i l h, le (R i l h) (R' i l h)) : (∀ (a0 : IV) (h : H), le (t34_0 cf R a0 h) (t34_0 cf' R' a0 h)) := by
  intros
  unfold t34_0
  with_reducible repeat' first
    | refine le_obind fun _ => ?_
    | refine le_callP ?_ (fun _ _ => ?_) (fun _ _ => ?_)
    | refine le_condK ?_ ?_
    | exact hR _ _ _
    | refine le_obind2 fun _ _ => ?_
    | refine le_obindH fun _ => ?_
    | refine le_spanK (fun _ _ _ => ?_) (fun _ _ => ?_)
    | exact hc _ _ _
    | refine le_bif ?_ ?_
    | refine le_guardK ?_ ?_ ?_
    | refine le_mapK fun _ _ => ?_
    | refine le_panK fun _ _ => ?_
    | refine le_funK fun _ _ => ?_
    | exact le_refl _
    | apply_assumption
noncomputable def b34 (cf : CallF) (R : Rec) : Rec := fun i l h =>
 br1 i 0 l (fun a0 => t34_0 cf R a0 h) <|
 .fail
theorem r34 {T : Tab} {cf : CallF} (hc : leC cf (CL T)) (n : Nat) : leR (recN (b34 cf) n) (J34 T) := recN_le (fun R hR i l h => by
  unfold b34
  refine le_br1 (J := fun i l => J34 T i l h) (fun _ a0 => le_e (fun hn => e34_0 rfl hn) ((m34 hc hR) a0 h)) ?_
  exact le_fail _) n
theorem m35 {cf cf' : CallF} {R R' : Rec} (hc : ∀ f l h, le (cf f l h) (cf' f l h)) (hR : ∀ i l h, le (R i l h) (R' i l h)) : (∀ (a0 : IV) (h : H), le (t35_0 cf R a0 h) (t35_0 cf' R' a0 h)) := by
  intros
  unfold t35_0
  with_reducible repeat' first
    | refine le_obind fun _ => ?_
    | refine le_callP ?_ (fun _ _ => ?_) (fun _ _ => ?_)
    | refine le_condK ?_ ?_
    | exact hR _ _ _
    | refine le_obind2 fun _ _ => ?_
    | refine le_obindH fun _ => ?_
    | refine le_spanK (fun _ _ _ => ?_) (fun _ _ => ?_)
    | exact hc _ _ _
    | refine le_bif ?_ ?_
    | refine le_guardK ?_ ?_ ?_
    | refine le_mapK fun _ _ => ?_
    | refine le_panK fun _ _ => ?_
    | refine le_funK fun _ _ => ?_
    | exact le_refl _
    | apply_assumption
noncomputable def b35 (cf : CallF) (R : Rec) : Rec := fun i l h =>
 br1 i 0 l (fun a0 => t35_0 cf R a0 h) <|
 .fail
theorem r35 {T : Tab} {cf : CallF} (hc : leC cf (CL T)) (n : Nat) : leR (recN (b35 cf) n) (J35 T) := recN_le (fun R hR i l h => by
  unfold b35
  refine le_br1 (J := fun i l => J35 T i l h) (fun _ a0 => le_e (fun hn => e35_0 rfl hn) ((m35 hc hR) a0 h)) ?_
  exact le_fail _) n
theorem m36 {cf cf' : CallF} {R R' : Rec} (hc : ∀ f l h, le (cf f l h) (cf' f l h)) (hR : ∀ i l h, le (R i l h) (R' i l h)) : (∀ (a0 a1 : IV) (h : H), le (t36_0 cf R a0 a1 h) (t36_0 cf' R' a0 a1 h)) := by
  intros
  unfold t36_0
  with_reducible repeat' first
    | refine le_obind fun _ => ?_
    | refine le_callP ?_ (fun _ _ => ?_) (fun _ _ => ?_)
    | refine le_condK ?_ ?_
    | exact hR _ _ _
    | refine le_obind2 fun _ _ => ?_
    | refine le_obindH fun _ => ?_
    | refine le_spanK (fun _ _ _ => ?_) (fun _ _ => ?_)
    | exact hc _ _ _
    | refine le_bif ?_ ?_
    | refine le_guardK ?_ ?_ ?_
    | refine le_mapK fun _ _ => ?_
    | refine le_panK fun _ _ => ?_
    | refine le_funK fun _ _ => ?_
    | exact le_refl _
    | apply_assumption
noncomputable def b36 (cf : CallF) (R : Rec) : Rec := fun i l h =>
 br2 i 0 l (fun a0 a1 => t36_0 cf R a0 a1 h) <|
 .fail
theorem r36 {T : Tab} {cf : CallF} (hc : leC cf (CL T)) (n : Nat) : leR (recN (b36 cf) n) (J36 T) := recN_le (fun R hR i l h => by
  unfold b36
  refine le_br2 (J := fun i l => J36 T i l h) (fun _ a0 a1 => le_e (fun hn => e36_0 rfl hn) ((m36 hc hR) a0 a1 h)) ?_
  exact le_fail _) n
theorem m37 {cf cf' : CallF} {R R' : Rec} (hc : ∀ f l h, le (cf f l h) (cf' f l h)) (hR : ∀ i l h, le (R i l h) (R' i l h)) : (∀ (a0 : IV) (h : H), le (t37_0 cf R a0 h) (t37_0 cf' R' a0 h)) := by
  intros
  unfold t37_0
  with_reducible repeat' first
    | refine le_obind fun _ => ?_
    | refine le_callP ?_ (fun _ _ => ?_) (fun _ _ => ?_)
    | refine le_condK ?_ ?_
    | exact hR _ _ _
    | refine le_obind2 fun _ _ => ?_
    | refine le_obindH fun _ => ?_
    | refine le_spanK (fun _ _ _ => ?_) (fun _ _ => ?_)
    | exact hc _ _ _
    | refine le_bif ?_ ?_
    | refine le_guardK ?_ ?_ ?_
    | refine le_mapK fun _ _ => ?_
    | refine le_panK fun _ _ => ?_
    | refine le_funK fun _ _ => ?_
    | exact le_refl _
    | apply_assumption
noncomputable def b37 (cf : CallF) (R : Rec) : Rec := fun i l h =>
 br1 i 0 l (fun a0 => t37_0 cf R a0 h) <|
 .fail
theorem r37 {T : Tab} {cf : CallF} (hc : leC cf (CL T)) (n : Nat) : leR (recN (b37 cf) n) (J37 T) := recN_le (fun R hR i l h => by
  unfold b37
  refine le_br1 (J := fun i l => J37 T i l h) (fun _ a0 => le_e (fun hn => e37_0 rfl hn) ((m37 hc hR) a0 h)) ?_
  exact le_fail _) n
end Go.Proofs.YtdccdfmbakbikaaDoor
namespace Go.Proofs.YtdccdfmbakbikaaDoor
open Go I
set_option linter.unusedVariables false
set_option maxRecDepth 100000
theorem m39 {cf cf' : CallF} {R R' : Rec} (hc : ∀ f l h, le (cf f l h) (cf' f l h)) (hR : ∀ i l h, le (R i l h) (R' i l h)) :
  (∀ (a0 a1 a2 a3 : IV) (h : H), le (t39_0 cf R a0 a1 a2 a3 h) (t39_0 cf' R' a0 a1 a2 a3 h)) ∧
  (∀ (a0 a1 a2 a3 : IV) (h : H), le (t39_1 cf R a0 a1 a2 a3 h) (t39_1 cf' R' a0 a1 a2 a3 h)) ∧
  (∀ (a0 a1 a2 a3 a9 a10 : IV) (h : H), le (t39_3 cf R a0 a1 a2 a3 a9 a10 h) (t39_3 cf' R' a0 a1 a2 a3 a9 a10 h)) ∧
  (∀ (a0 a9 a10 : IV) (h : H), le (t39_2 cf R a0 a9 a10 h) (t39_2 cf' R' a0 a9 a10 h)) := by
  refine ⟨?_, ?_, ?_, ?_⟩
  all_goals intros
  all_goals first | unfold t39_0 | unfold t39_1 | unfold t39_3 | unfold t39_2
  all_goals
  with_reducible repeat' first
    | refine le_obind fun _ => ?_
    | refine le_callP ?_ (fun _ _ => ?_) (fun _ _ => ?_)
    | refine le_condK ?_ ?_
    | exact hR _ _ _
    | refine le_obind2 fun _ _ => ?_
    | refine le_obindH fun _ => ?_
    | refine le_spanK (fun _ _ _ => ?_) (fun _ _ => ?_)
    | exact hc _ _ _
    | refine le_bif ?_ ?_
    | refine le_guardK ?_ ?_ ?_
    | refine le_mapK fun _ _ => ?_
    | refine le_panK fun _ _ => ?_
    | refine le_funK fun _ _ => ?_
    | exact le_refl _
    | apply_assumption
noncomputable def b39 (cf : CallF) (R : Rec) : Rec := fun i l h =>
 br4 i 0 l (fun a0 a1 a2 a3 => t39_0 cf R a0 a1 a2 a3 h) <|
 br4 i 1 l (fun a0 a1 a2 a3 => t39_1 cf R a0 a1 a2 a3 h) <|
 br6 i 3 l (fun a0 a1 a2 a3 a9 a10 => t39_3 cf R a0 a1 a2 a3 a9 a10 h) <|
 br3 i 2 l (fun a0 a9 a10 => t39_2 cf R a0 a9 a10 h) <|
 .fail
theorem r39 {T : Tab} {cf : CallF} (hc : leC cf (CL T)) (n : Nat) : leR (recN (b39 cf) n) (J39 T) := recN_le (fun R hR i l h => by
  unfold b39
  refine le_br4 (J := fun i l => J39 T i l h) (fun _ a0 a1 a2 a3 => le_e (fun hn => e39_0 rfl hn) ((m39 hc hR).1 a0 a1 a2 a3 h)) ?_
  refine le_br4 (J := fun i l => J39 T i l h) (fun _ a0 a1 a2 a3 => le_e (fun hn => e39_1 rfl hn) ((m39 hc hR).2.1 a0 a1 a2 a3 h)) ?_
  refine le_br6 (J := fun i l => J39 T i l h) (fun _ a0 a1 a2 a3 a9 a10 => le_e (fun hn => e39_3 rfl hn) ((m39 hc hR).2.2.1 a0 a1 a2 a3 a9 a10 h)) ?_
  refine le_br3 (J := fun i l => J39 T i l h) (fun _ a0 a9 a10 => le_e (fun hn => e39_2 rfl hn) ((m39 hc hR).2.2.2 a0 a9 a10 h)) ?_
  exact le_fail _) n
theorem m40 {cf cf' : CallF} {R R' : Rec} (hc : ∀ f l h, le (cf f l h) (cf' f l h)) (hR : ∀ i l h, le (R i l h) (R' i l h)) : (∀ (a0 a1 : IV) (h : H), le (t40_0 cf R a0 a1 h) (t40_0 cf' R' a0 a1 h)) := by
  intros
  unfold t40_0
  with_reducible repeat' first
    | refine le_obind fun _ => ?_
    | refine le_callP ?_ (fun _ _ => ?_) (fun _ _ => ?_)
    | refine le_condK ?_ ?_
    | exact hR _ _ _
    | refine le_obind2 fun _ _ => ?_
    | refine le_obindH fun _ => ?_
    | refine le_spanK (fun _ _ _ => ?_) (fun _ _ => ?_)
    | exact hc _ _ _
    | refine le_bif ?_ ?_
    | refine le_guardK ?_ ?_ ?_
    | refine le_mapK fun _ _ => ?_
    | refine le_panK fun _ _ => ?_
    | refine le_funK fun _ _ => ?_
    | exact le_refl _
    | apply_assumption
noncomputable def b40 (cf : CallF) (R : Rec) : Rec := fun i l h =>
 br2 i 0 l (fun a0 a1 => t40_0 cf R a0 a1 h) <|
 .fail
theorem r40 {T : Tab} {cf : CallF} (hc : leC cf (CL T)) (n : Nat) : leR (recN (b40 cf) n) (J40 T) := recN_le (fun R hR i l h => by
  unfold b40
  refine le_br2 (J := fun i l => J40 T i l h) (fun _ a0 a1 => le_e (fun hn => e40_0 rfl hn) ((m40 hc hR) a0 a1 h)) ?_
  exact le_fail _) n
theorem m41 {cf cf' : CallF} {R R' : Rec} (hc : ∀ f l h, le (cf f l h) (cf' f l h)) (hR : ∀ i l h, le (R i l h) (R' i l h)) : (∀ (a0 : IV) (h : H), le (t41_0 cf R a0 h) (t41_0 cf' R' a0 h)) := by
  intros
  unfold t41_0
  with_reducible repeat' first
    | refine le_obind fun _ => ?_
    | refine le_callP ?_ (fun _ _ => ?_) (fun _ _ => ?_)
    | refine le_condK ?_ ?_
    | exact hR _ _ _
    | refine le_obind2 fun _ _ => ?_
    | refine le_obindH fun _ => ?_
    | refine le_spanK (fun _ _ _ => ?_) (fun _ _ => ?_)
    | exact hc _ _ _
    | refine le_bif ?_ ?_
    | refine le_guardK ?_ ?_ ?_
    | refine le_mapK fun _ _ => ?_
    | refine le_panK fun _ _ => ?_
    | refine le_funK fun _ _ => ?_
    | exact le_refl _
    | apply_assumption
noncomputable def b41 (cf : CallF) (R : Rec) : Rec := fun i l h =>
 br1 i 0 l (fun a0 => t41_0 cf R a0 h) <|
 .fail
theorem r41 {T : Tab} {cf : CallF} (hc : leC cf (CL T)) (n : Nat) : leR (recN (b41 cf) n) (J41 T) := recN_le (fun R hR i l h => by
  unfold b41
  refine le_br1 (J := fun i l => J41 T i l h) (fun _ a0 => le_e (fun hn => e41_0 rfl hn) ((m41 hc hR) a0 h)) ?_
  exact le_fail _) n
theorem m42 {cf cf' : CallF} {R R' : Rec} (hc : ∀ f l h, le (cf f l h) (cf' f l h)) (hR : ∀ i l h, le (R i l h) (R' i l h)) : (∀ (a0 a1 : IV) (h : H), le (t42_0 cf R a0 a1 h) (t42_0 cf' R' a0 a1 h)) := by
  intros
  unfold t42_0
  with_reducible repeat' first
    | refine le_obind fun _ => ?_
    | refine le_callP ?_ (fun _ _ => ?_) (fun _ _ => ?_)
    | refine le_condK ?_ ?_
    | exact hR _ _ _
    | refine le_obind2 fun _ _ => ?_
    | refine le_obindH fun _ => ?_
    | refine le_spanK (fun _ _ _ => ?_) (fun _ _ => ?_)
    | exact hc _ _ _
    | refine le_bif ?_ ?_
    | refine le_guardK ?_ ?_ ?_
    | refine le_mapK fun _ _ => ?_
    | refine le_panK fun _ _ => ?_
    | refine le_funK fun _ _ => ?_
    | exact le_refl _
    | apply_assumption
noncomputable def b42 (cf : CallF) (R : Rec) : Rec := fun i l h =>
 br2 i 0 l (fun a0 a1 => t42_0 cf R a0 a1 h) <|
 .fail
theorem r42 {T : Tab} {cf : CallF} (hc : leC cf (CL T)) (n : Nat) : leR (recN (b42 cf) n) (J42 T) := recN_le (fun R hR i l h => by
  unfold b42
  refine le_br2 (J := fun i l => J42 T i l h) (fun _ a0 a1 => le_e (fun hn => e42_0 rfl hn) ((m42 hc hR) a0 a1 h)) ?_
  exact le_fail _) n
theorem m43 {cf cf' : CallF} {R R' : Rec} (hc : ∀ f l h, le (cf f l h) (cf' f l h)) (hR : ∀ i l h, le (R i l h) (R' i l h)) : (∀ (a0 a1 : IV) (h : H), le (t43_0 cf R a0 a1 h) (t43_0 cf' R' a0 a1 h)) := by
  intros
  unfold t43_0
  with_reducible repeat' first
    | refine le_obind fun _ => ?_
    | refine le_callP ?_ (fun _ _ => ?_) (fun _ _ => ?_)
    | refine le_condK ?_ ?_
    | exact hR _ _ _
    | refine le_obind2 fun _ _ => ?_
    | refine le_obindH fun _ => ?_
    | refine le_spanK (fun _ _ _ => ?_) (fun _ _ => ?_)
    | exact hc _ _ _
    | refine le_bif ?_ ?_
    | refine le_guardK ?_ ?_ ?_
    | refine le_mapK fun _ _ => ?_
    | refine le_panK fun _ _ => ?_
    | refine le_funK fun _ _ => ?_
    | exact le_refl _
    | apply_assumption
noncomputable def b43 (cf : CallF) (R : Rec) : Rec := fun i l h =>
 br2 i 0 l (fun a0 a1 => t43_0 cf R a0 a1 h) <|
 .fail
theorem r43 {T : Tab} {cf : CallF} (hc : leC cf (CL T)) (n : Nat) : leR (recN (b43 cf) n) (J43 T) := recN_le (fun R hR i l h => by
  unfold b43
  refine le_br2 (J := fun i l => J43 T i l h) (fun _ a0 a1 => le_e (fun hn => e43_0 rfl hn) ((m43 hc hR) a0 a1 h)) ?_
  exact le_fail _) n
theorem m44 {cf cf' : CallF} {R R' : Rec} (hc : ∀ f l h, le (cf f l h) (cf' f l h)) (hR : ∀ i l h, le (R i l h) (R' i l h)) :
  (∀ (a0 : IV) (h : H), le (t44_0 cf R a0 h) (t44_0 cf' R' a0 h)) ∧
  (∀ (a3 a6 a7 a8 : IV) (h : H), le (t44_1 cf R a3 a6 a7 a8 h) (t44_1 cf' R' a3 a6 a7 a8 h)) := by
  refine ⟨?_, ?_⟩
  all_goals intros
  all_goals first | unfold t44_0 | unfold t44_1
  all_goals
  with_reducible repeat' first
    | refine le_obind fun _ => ?_
    | refine le_callP ?_ (fun _ _ => ?_) (fun _ _ => ?_)
    | refine le_condK ?_ ?_
    | exact hR _ _ _
    | refine le_obind2 fun _ _ => ?_
    | refine le_obindH fun _ => ?_
    | refine le_spanK (fun _ _ _ => ?_) (fun _ _ => ?_)
    | exact hc _ _ _
    | refine le_bif ?_ ?_
    | refine le_guardK ?_ ?_ ?_
    | refine le_mapK fun _ _ => ?_
    | refine le_panK fun _ _ => ?_
    | refine le_funK fun _ _ => ?_
    | exact le_refl _
    | apply_assumption
noncomputable def b44 (cf : CallF) (R : Rec) : Rec := fun i l h =>
 br1 i 0 l (fun a0 => t44_0 cf R a0 h) <|
 br4 i 1 l (fun a3 a6 a7 a8 => t44_1 cf R a3 a6 a7 a8 h) <|
 .fail
theorem r44 {T : Tab} {cf : CallF} (hc : leC cf (CL T)) (n : Nat) : leR (recN (b44 cf) n) (J44 T) := recN_le (fun R hR i l h => by
  unfold b44
  refine le_br1 (J := fun i l => J44 T i l h) (fun _ a0 => le_e (fun hn => e44_0 rfl hn) ((m44 hc hR).1 a0 h)) ?_
  refine le_br4 (J := fun i l => J44 T i l h) (fun _ a3 a6 a7 a8 => le_e (fun hn => e44_1 rfl hn) ((m44 hc hR).2 a3 a6 a7 a8 h)) ?_
  exact le_fail _) n
theorem m45 {cf cf' : CallF} {R R' : Rec} (hc : ∀ f l h, le (cf f l h) (cf' f l h)) (hR : ∀ i l h, le (R i l h) (R' i l h)) : (∀ (a0 a1 : IV) (h : H), le (t45_0 cf R a0 a1 h) (t45_0 cf' R' a0 a1 h)) := by
  intros
  unfold t45_0
  with_reducible repeat' first
    | refine le_obind fun _ => ?_
    | refine le_callP ?_ (fun _ _ => ?_) (fun _ _ => ?_)
    | refine le_condK ?_ ?_
    | exact hR _ _ _
    | refine le_obind2 fun _ _ => ?_
    | refine le_obindH fun _ => ?_
    | refine le_spanK (fun _ _ _ => ?_) (fun _ _ => ?_)
    | exact hc _ _ _
    | refine le_bif ?_ ?_
    | refine le_guardK ?_ ?_ ?_
    | refine le_mapK fun _ _ => ?_
    | refine le_panK fun _ _ => ?_
    | refine le_funK fun _ _ => ?_
    | exact le_refl _
    | apply_assumption
noncomputable def b45 (cf : CallF) (R : Rec) : Rec := fun i l h =>
 br2 i 0 l (fun a0 a1 => t45_0 cf R a0 a1 h) <|
 .fail
theorem r45 {T : Tab} {cf : CallF} (hc : leC cf (CL T)) (n : Nat) : leR (recN (b45 cf) n) (J45 T) := recN_le (fun R hR i l h => by
  unfold b45
  refine le_br2 (J := fun i l => J45 T i l h) (fun _ a0 a1 => le_e (fun hn => e45_0 rfl hn) ((m45 hc hR) a0 a1 h)) ?_
  exact le_fail _) n
theorem m50 {cf cf' : CallF} {R R' : Rec} (hc : ∀ f l h, le (cf f l h) (cf' f l h)) (hR : ∀ i l h, le (R i l h) (R' i l h)) : (∀ (a0 a1 : IV) (h : H), le (t50_0 cf R a0 a1 h) (t50_0 cf' R' a0 a1 h)) := by
  intros
  unfold t50_0
  with_reducible repeat' first
    | refine le_obind fun _ => ?_
    | refine le_callP ?_ (fun _ _ => ?_) (fun _ _ => ?_)
    | refine le_condK ?_ ?_
    | exact hR _ _ _
    | refine le_obind2 fun _ _ => ?_
    | refine le_obindH fun _ => ?_
    | refine le_spanK (fun _ _ _ => ?_) (fun _ _ => ?_)
    | exact hc _ _ _
    | refine le_bif ?_ ?_
    | refine le_guardK ?_ ?_ ?_
    | refine le_mapK fun _ _ => ?_
    | refine le_panK fun _ _ => ?_
    | refine le_funK fun _ _ => ?_
    | exact le_refl _
    | apply_assumption
noncomputable def b50 (cf : CallF) (R : Rec) : Rec := fun i l h =>
 br2 i 0 l (fun a0 a1 => t50_0 cf R a0 a1 h) <|
 .fail
theorem r50 {T : Tab} {cf : CallF} (hc : leC cf (CL T)) (n : Nat) : leR (recN (b50 cf) n) (J50 T) := recN_le (fun R hR i l h => by
  unfold b50
  refine le_br2 (J := fun i l => J50 T i l h) (fun _ a0 a1 => le_e (fun hn => e50_0 rfl hn) ((m50 hc hR) a0 a1 h)) ?_
  exact le_fail _) n
theorem m51 {cf cf' : CallF} {R R' : Rec} (hc : ∀ f l h, le (cf f l h) (cf' f l h)) (hR : ∀ i l h, le (R i l h) (R' i l h)) : (∀ (a0 a1 : IV) (h : H), le (t51_0 cf R a0 a1 h) (t51_0 cf' R' a0 a1 h)) := by
  intros
  unfold t51_0
  with_reducible repeat' first
    | refine le_obind fun _ => ?_
    | refine le_callP ?_ (fun _ _ => ?_) (fun _ _ => ?_)
    | refine le_condK ?_ ?_
    | exact hR _ _ _
    | refine le_obind2 fun _ _ => ?_
    | refine le_obindH fun _ => ?_
    | refine le_spanK (fun _ _ _ => ?_) (fun _ _ => ?_)
    | exact hc _ _ _
    | refine le_bif ?_ ?_
    | refine le_guardK ?_ ?_ ?_
    | refine le_mapK fun _ _ => ?_
    | refine le_panK fun _ _ => ?_
    | refine le_funK fun _ _ => ?_
    | exact le_refl _
    | apply_assumption
noncomputable def b51 (cf : CallF) (R : Rec) : Rec := fun i l h =>
 br2 i 0 l (fun a0 a1 => t51_0 cf R a0 a1 h) <|
 .fail
theorem r51 {T : Tab} {cf : CallF} (hc : leC cf (CL T)) (n : Nat) : leR (recN (b51 cf) n) (J51 T) := recN_le (fun R hR i l h => by
  unfold b51
  refine le_br2 (J := fun i l => J51 T i l h) (fun _ a0 a1 => le_e (fun hn => e51_0 rfl hn) ((m51 hc hR) a0 a1 h)) ?_
  exact le_fail _) n
theorem m52 {cf cf' : CallF} {R R' : Rec} (hc : ∀ f l h, le (cf f l h) (cf' f l h)) (hR : ∀ i l h, le (R i l h) (R' i l h)) :
  (∀ (a0 : IV) (h : H), le (t52_0 cf R a0 h) (t52_0 cf' R' a0 h)) ∧
  (∀ (a0 a5 : IV) (h : H), le (t52_1 cf R a0 a5 h) (t52_1 cf' R' a0 a5 h)) ∧
  (∀ (a5 a6 a47 a48 a49 : IV) (h : H), le (t52_2 cf R a5 a6 a47 a48 a49 h) (t52_2 cf' R' a5 a6 a47 a48 a49 h)) ∧
  (∀ (a6 : IV) (h : H), le (t52_3 cf R a6 h) (t52_3 cf' R' a6 h)) := by
  refine ⟨?_, ?_, ?_, ?_⟩
  all_goals intros
  all_goals first | unfold t52_0 | unfold t52_1 | unfold t52_2 | unfold t52_3
  all_goals
  with_reducible repeat' first
    | refine le_obind fun _ => ?_
    | refine le_callP ?_ (fun _ _ => ?_) (fun _ _ => ?_)
    | refine le_condK ?_ ?_
    | exact hR _ _ _
    | refine le_obind2 fun _ _ => ?_
    | refine le_obindH fun _ => ?_
    | refine le_spanK (fun _ _ _ => ?_) (fun _ _ => ?_)
    | exact hc _ _ _
    | refine le_bif ?_ ?_
    | refine le_guardK ?_ ?_ ?_
    | refine le_mapK fun _ _ => ?_
    | refine le_panK fun _ _ => ?_
    | refine le_funK fun _ _ => ?_
    | exact le_refl _
    | apply_assumption
noncomputable def b52 (cf : CallF) (R : Rec) : Rec := fun i l h =>
 br1 i 0 l (fun a0 => t52_0 cf R a0 h) <|
 br2 i 1 l (fun a0 a5 => t52_1 cf R a0 a5 h) <|
 br5 i 2 l (fun a5 a6 a47 a48 a49 => t52_2 cf R a5 a6 a47 a48 a49 h) <|
 br1 i 3 l (fun a6 => t52_3 cf R a6 h) <|
 .fail
theorem r52 {T : Tab} {cf : CallF} (hc : leC cf (CL T)) (n : Nat) : leR (recN (b52 cf) n) (J52 T) := recN_le (fun R hR i l h => by
  unfold b52
  refine le_br1 (J := fun i l => J52 T i l h) (fun _ a0 => le_e (fun hn => e52_0 rfl hn) ((m52 hc hR).1 a0 h)) ?_
  refine le_br2 (J := fun i l => J52 T i l h) (fun _ a0 a5 => le_e (fun hn => e52_1 rfl hn) ((m52 hc hR).2.1 a0 a5 h)) ?_
  refine le_br5 (J := fun i l => J52 T i l h) (fun _ a5 a6 a47 a48 a49 => le_e (fun hn => e52_2 rfl hn) ((m52 hc hR).2.2.1 a5 a6 a47 a48 a49 h)) ?_
  refine le_br1 (J := fun i l => J52 T i l h) (fun _ a6 => le_e (fun hn => e52_3 rfl hn) ((m52 hc hR).2.2.2 a6 h)) ?_
  exact le_fail _) n
theorem m54 {cf cf' : CallF} {R R' : Rec} (hc : ∀ f l h, le (cf f l h) (cf' f l h)) (hR : ∀ i l h, le (R i l h) (R' i l h)) :
  (∀ (a0 a1 a2 : IV) (h : H), le (t54_0 cf R a0 a1 a2 h) (t54_0 cf' R' a0 a1 a2 h)) ∧
  (∀ (a1 a2 a10 : IV) (h : H), le (t54_1 cf R a1 a2 a10 h) (t54_1 cf' R' a1 a2 a10 h)) := by
  refine ⟨?_, ?_⟩
  all_goals intros
  all_goals first | unfold t54_0 | unfold t54_1
  all_goals
  with_reducible repeat' first
    | refine le_obind fun _ => ?_
    | refine le_callP ?_ (fun _ _ => ?_) (fun _ _ => ?_)
    | refine le_condK ?_ ?_
    | exact hR _ _ _
    | refine le_obind2 fun _ _ => ?_
    | refine le_obindH fun _ => ?_
    | refine le_spanK (fun _ _ _ => ?_) (fun _ _ => ?_)
    | exact hc _ _ _
    | refine le_bif ?_ ?_
    | refine le_guardK ?_ ?_ ?_
    | refine le_mapK fun _ _ => ?_
    | refine le_panK fun _ _ => ?_
    | refine le_funK fun _ _ => ?_
    | exact le_refl _
    | apply_assumption
noncomputable def b54 (cf : CallF) (R : Rec) : Rec := fun i l h =>
 br3 i 0 l (fun a0 a1 a2 => t54_0 cf R a0 a1 a2 h) <|
 br3 i 1 l (fun a1 a2 a10 => t54_1 cf R a1 a2 a10 h) <|
 .fail
theorem r54 {T : Tab} {cf : CallF} (hc : leC cf (CL T)) (n : Nat) : leR (recN (b54 cf) n) (J54 T) := recN_le (fun R hR i l h => by
  unfold b54
  refine le_br3 (J := fun i l => J54 T i l h) (fun _ a0 a1 a2 => le_e (fun hn => e54_0 rfl hn) ((m54 hc hR).1 a0 a1 a2 h)) ?_
  refine le_br3 (J := fun i l => J54 T i l h) (fun _ a1 a2 a10 => le_e (fun hn => e54_1 rfl hn) ((m54 hc hR).2 a1 a2 a10 h)) ?_
  exact le_fail _) n
theorem m55 {cf cf' : CallF} {R R' : Rec} (hc : ∀ f l h, le (cf f l h) (cf' f l h)) (hR : ∀ i l h, le (R i l h) (R' i l h)) :
  (∀ (a0 a1 : IV) (h : H), le (t55_0 cf R a0 a1 h) (t55_0 cf' R' a0 a1 h)) ∧
  (∀ (a0 a1 : IV) (h : H), le (t55_1 cf R a0 a1 h) (t55_1 cf' R' a0 a1 h)) := by
  refine ⟨?_, ?_⟩
  all_goals intros
  all_goals first | unfold t55_0 | unfold t55_1
  all_goals
  with_reducible repeat' first
    | refine le_obind fun _ => ?_
    | refine le_callP ?_ (fun _ _ => ?_) (fun _ _ => ?_)
    | refine le_condK ?_ ?_
    | exact hR _ _ _
    | refine le_obind2 fun _ _ => ?_
    | refine le_obindH fun _ => ?_
    | refine le_spanK (fun _ _ _ => ?_) (fun _ _ => ?_)
    | exact hc _ _ _
    | refine le_bif ?_ ?_
    | refine le_guardK ?_ ?_ ?_
    | refine le_mapK fun _ _ => ?_
    | refine le_panK fun _ _ => ?_
    | refine le_funK fun _ _ => ?_
    | exact le_refl _
    | apply_assumption
noncomputable def b55 (cf : CallF) (R : Rec) : Rec := fun i l h =>
 br2 i 0 l (fun a0 a1 => t55_0 cf R a0 a1 h) <|
 br2 i 1 l (fun a0 a1 => t55_1 cf R a0 a1 h) <|
 .fail
theorem r55 {T : Tab} {cf : CallF} (hc : leC cf (CL T)) (n : Nat) : leR (recN (b55 cf) n) (J55 T) := recN_le (fun R hR i l h => by
  unfold b55
  refine le_br2 (J := fun i l => J55 T i l h) (fun _ a0 a1 => le_e (fun hn => e55_0 rfl hn) ((m55 hc hR).1 a0 a1 h)) ?_
  refine le_br2 (J := fun i l => J55 T i l h) (fun _ a0 a1 => le_e (fun hn => e55_1 rfl hn) ((m55 hc hR).2 a0 a1 h)) ?_
  exact le_fail _) n
theorem m56 {cf cf' : CallF} {R R' : Rec} (hc : ∀ f l h, le (cf f l h) (cf' f l h)) (hR : ∀ i l h, le (R i l h) (R' i l h)) :
  (∀ (a0 a1 : IV) (h : H), le (t56_0 cf R a0 a1 h) (t56_0 cf' R' a0 a1 h)) ∧
  (∀ (a0 a1 : IV) (h : H), le (t56_1 cf R a0 a1 h) (t56_1 cf' R' a0 a1 h)) := by
  refine ⟨?_, ?_⟩
  all_goals intros
  all_goals first | unfold t56_0 | unfold t56_1
  all_goals
  with_reducible repeat' first
    | refine le_obind fun _ => ?_
    | refine le_callP ?_ (fun _ _ => ?_) (fun _ _ => ?_)
    | refine le_condK ?_ ?_
    | exact hR _ _ _
    | refine le_obind2 fun _ _ => ?_
    | refine le_obindH fun _ => ?_
    | refine le_spanK (fun _ _ _ => ?_) (fun _ _ => ?_)
    | exact hc _ _ _
    | refine le_bif ?_ ?_
    | refine le_guardK ?_ ?_ ?_
    | refine le_mapK fun _ _ => ?_
    | refine le_panK fun _ _ => ?_
    | refine le_funK fun _ _ => ?_
    | exact le_refl _
    | apply_assumption
noncomputable def b56 (cf : CallF) (R : Rec) : Rec := fun i l h =>
 br2 i 0 l (fun a0 a1 => t56_0 cf R a0 a1 h) <|
 br2 i 1 l (fun a0 a1 => t56_1 cf R a0 a1 h) <|
 .fail
theorem r56 {T : Tab} {cf : CallF} (hc : leC cf (CL T)) (n : Nat) : leR (recN (b56 cf) n) (J56 T) := recN_le (fun R hR i l h => by
  unfold b56
  refine le_br2 (J := fun i l => J56 T i l h) (fun _ a0 a1 => le_e (fun hn => e56_0 rfl hn) ((m56 hc hR).1 a0 a1 h)) ?_
  refine le_br2 (J := fun i l => J56 T i l h) (fun _ a0 a1 => le_e (fun hn => e56_1 rfl hn) ((m56 hc hR).2 a0 a1 h)) ?_
  exact le_fail _) n
theorem m57 {cf cf' : CallF} {R R' : Rec} (hc : ∀ f l h, le (cf f l h) (cf' f l h)) (hR : ∀ i l h, le (R i l h) (R' i l h)) :
  (∀ (a0 : IV) (h : H), le (t57_0 cf R a0 h) (t57_0 cf' R' a0 h)) ∧
  (∀ (a0 a2 a4 : IV) (h : H), le (t57_1 cf R a0 a2 a4 h) (t57_1 cf' R' a0 a2 a4 h)) := by
  refine ⟨?_, ?_⟩
  all_goals intros
  all_goals first | unfold t57_0 | unfold t57_1
  all_goals
  with_reducible repeat' first
    | refine le_obind fun _ => ?_
    | refine le_callP ?_ (fun _ _ => ?_) (fun _ _ => ?_)
    | refine le_condK ?_ ?_
    | exact hR _ _ _
    | refine le_obind2 fun _ _ => ?_
    | refine le_obindH fun _ => ?_
    | refine le_spanK (fun _ _ _ => ?_) (fun _ _ => ?_)
    | exact hc _ _ _
    | refine le_bif ?_ ?_
    | refine le_guardK ?_ ?_ ?_
    | refine le_mapK fun _ _ => ?_
    | refine le_panK fun _ _ => ?_
    | refine le_funK fun _ _ => ?_
    | exact le_refl _
    | apply_assumption
noncomputable def b57 (cf : CallF) (R : Rec) : Rec := fun i l h =>
 br1 i 0 l (fun a0 => t57_0 cf R a0 h) <|
 br3 i 1 l (fun a0 a2 a4 => t57_1 cf R a0 a2 a4 h) <|
 .fail
theorem r57 {T : Tab} {cf : CallF} (hc : leC cf (CL T)) (n : Nat) : leR (recN (b57 cf) n) (J57 T) := recN_le (fun R hR i l h => by
  unfold b57
  refine le_br1 (J := fun i l => J57 T i l h) (fun _ a0 => le_e (fun hn => e57_0 rfl hn) ((m57 hc hR).1 a0 h)) ?_
  refine le_br3 (J := fun i l => J57 T i l h) (fun _ a0 a2 a4 => le_e (fun hn => e57_1 rfl hn) ((m57 hc hR).2 a0 a2 a4 h)) ?_
  exact le_fail _) n
theorem m58 {cf cf' : CallF} {R R' : Rec} (hc : ∀ f l h, le (cf f l h) (cf' f l h)) (hR : ∀ i l h, le (R i l h) (R' i l h)) :
  (∀ (a0 a1 : IV) (h : H), le (t58_0 cf R a0 a1 h) (t58_0 cf' R' a0 a1 h)) ∧
  (∀ (a0 a1 : IV) (h : H), le (t58_2 cf R a0 a1 h) (t58_2 cf' R' a0 a1 h)) ∧
  (∀ (a0 : IV) (h : H), le (t58_1 cf R a0 h) (t58_1 cf' R' a0 h)) := by
  refine ⟨?_, ?_, ?_⟩
  all_goals intros
  all_goals first | unfold t58_0 | unfold t58_2 | unfold t58_1
  all_goals
  with_reducible repeat' first
    | refine le_obind fun _ => ?_
    | refine le_callP ?_ (fun _ _ => ?_) (fun _ _ => ?_)
    | refine le_condK ?_ ?_
    | exact hR _ _ _
    | refine le_obind2 fun _ _ => ?_
    | refine le_obindH fun _ => ?_
    | refine le_spanK (fun _ _ _ => ?_) (fun _ _ => ?_)
    | exact hc _ _ _
    | refine le_bif ?_ ?_
    | refine le_guardK ?_ ?_ ?_
    | refine le_mapK fun _ _ => ?_
    | refine le_panK fun _ _ => ?_
    | refine le_funK fun _ _ => ?_
    | exact le_refl _
    | apply_assumption
noncomputable def b58 (cf : CallF) (R : Rec) : Rec := fun i l h =>
 br2 i 0 l (fun a0 a1 => t58_0 cf R a0 a1 h) <|
 br2 i 2 l (fun a0 a1 => t58_2 cf R a0 a1 h) <|
 br1 i 1 l (fun a0 => t58_1 cf R a0 h) <|
 .fail
theorem r58 {T : Tab} {cf : CallF} (hc : leC cf (CL T)) (n : Nat) : leR (recN (b58 cf) n) (J58 T) := recN_le (fun R hR i l h => by
  unfold b58
  refine le_br2 (J := fun i l => J58 T i l h) (fun _ a0 a1 => le_e (fun hn => e58_0 rfl hn) ((m58 hc hR).1 a0 a1 h)) ?_
  refine le_br2 (J := fun i l => J58 T i l h) (fun _ a0 a1 => le_e (fun hn => e58_2 rfl hn) ((m58 hc hR).2.1 a0 a1 h)) ?_
  refine le_br1 (J := fun i l => J58 T i l h) (fun _ a0 => le_e (fun hn => e58_1 rfl hn) ((m58 hc hR).2.2 a0 h)) ?_
  exact le_fail _) n
theorem m59 {cf cf' : CallF} {R R' : Rec} (hc : ∀ f l h, le (cf f l h) (cf' f l h)) (hR : ∀ i l h, le (R i l h) (R' i l h)) :
  (∀ (a0 a1 : IV) (h : H), le (t59_0 cf R a0 a1 h) (t59_0 cf' R' a0 a1 h)) ∧
  (∀ (a0 a1 : IV) (h : H), le (t59_2 cf R a0 a1 h) (t59_2 cf' R' a0 a1 h)) ∧
  (∀ (a0 : IV) (h : H), le (t59_1 cf R a0 h) (t59_1 cf' R' a0 h)) := by
  refine ⟨?_, ?_, ?_⟩
  all_goals intros
  all_goals first | unfold t59_0 | unfold t59_2 | unfold t59_1
  all_goals
  with_reducible repeat' first
    | refine le_obind fun _ => ?_
    | refine le_callP ?_ (fun _ _ => ?_) (fun _ _ => ?_)
    | refine le_condK ?_ ?_
    | exact hR _ _ _
    | refine le_obind2 fun _ _ => ?_
    | refine le_obindH fun _ => ?_
    | refine le_spanK (fun _ _ _ => ?_) (fun _ _ => ?_)
    | exact hc _ _ _
    | refine le_bif ?_ ?_
    | refine le_guardK ?_ ?_ ?_
    | refine le_mapK fun _ _ => ?_
    | refine le_panK fun _ _ => ?_
    | refine le_funK fun _ _ => ?_
    | exact le_refl _
    | apply_assumption
noncomputable def b59 (cf : CallF) (R : Rec) : Rec := fun i l h =>
 br2 i 0 l (fun a0 a1 => t59_0 cf R a0 a1 h) <|
 br2 i 2 l (fun a0 a1 => t59_2 cf R a0 a1 h) <|
 br1 i 1 l (fun a0 => t59_1 cf R a0 h) <|
 .fail
theorem r59 {T : Tab} {cf : CallF} (hc : leC cf (CL T)) (n : Nat) : leR (recN (b59 cf) n) (J59 T) := recN_le (fun R hR i l h => by
  unfold b59
  refine le_br2 (J := fun i l => J59 T i l h) (fun _ a0 a1 => le_e (fun hn => e59_0 rfl hn) ((m59 hc hR).1 a0 a1 h)) ?_
  refine le_br2 (J := fun i l => J59 T i l h) (fun _ a0 a1 => le_e (fun hn => e59_2 rfl hn) ((m59 hc hR).2.1 a0 a1 h)) ?_
  refine le_br1 (J := fun i l => J59 T i l h) (fun _ a0 => le_e (fun hn => e59_1 rfl hn) ((m59 hc hR).2.2 a0 h)) ?_
  exact le_fail _) n
theorem m62 {cf cf' : CallF} {R R' : Rec} (hc : ∀ f l h, le (cf f l h) (cf' f l h)) (hR : ∀ i l h, le (R i l h) (R' i l h)) : (∀ (a0 : IV) (h : H), le (t62_0 cf R a0 h) (t62_0 cf' R' a0 h)) := by
  intros
  unfold t62_0
  with_reducible repeat' first
    | refine le_obind fun _ => ?_
    | refine le_callP ?_ (fun _ _ => ?_) (fun _ _ => ?_)
    | refine le_condK ?_ ?_
    | exact hR _ _ _
    | refine le_obind2 fun _ _ => ?_
    | refine le_obindH fun _ => ?_
    | refine le_spanK (fun _ _ _ => ?_) (fun _ _ => ?_)
    | exact hc _ _ _
    | refine le_bif ?_ ?_
    | refine le_guardK ?_ ?_ ?_
    | refine le_mapK fun _ _ => ?_
    | refine le_panK fun _ _ => ?_
    | refine le_funK fun _ _ => ?_
    | exact le_refl _
    | apply_assumption
noncomputable def b62 (cf : CallF) (R : Rec) : Rec := fun i l h =>
 br1 i 0 l (fun a0 => t62_0 cf R a0 h) <|
 .fail
theorem r62 {T : Tab} {cf : CallF} (hc : leC cf (CL T)) (n : Nat) : leR (recN (b62 cf) n) (J62 T) := recN_le (fun R hR i l h => by
  unfold b62
  refine le_br1 (J := fun i l => J62 T i l h) (fun _ a0 => le_e (fun hn => e62_0 rfl hn) ((m62 hc hR) a0 h)) ?_
  exact le_fail _) n
theorem m67 {cf cf' : CallF} {R R' : Rec} (hc : ∀ f l h, le (cf f l h) (cf' f l h)) (hR : ∀ i l h, le (R i l h) (R' i l h)) :
  (∀ (a0 : IV) (h : H), le (t67_0 cf R a0 h) (t67_0 cf' R' a0 h)) ∧
  (∀ (a2 a4 : IV) (h : H), le (t67_1 cf R a2 a4 h) (t67_1 cf' R' a2 a4 h)) := by
  refine ⟨?_, ?_⟩
  all_goals intros
  all_goals first | unfold t67_0 | unfold t67_1
  all_goals
  with_reducible repeat' first
    | refine le_obind fun _ => ?_
    | refine le_callP ?_ (fun _ _ => ?_) (fun _ _ => ?_)
    | refine le_condK ?_ ?_
    | exact hR _ _ _
    | refine le_obind2 fun _ _ => ?_
    | refine le_obindH fun _ => ?_
    | refine le_spanK (fun _ _ _ => ?_) (fun _ _ => ?_)
    | exact hc _ _ _
    | refine le_bif ?_ ?_
    | refine le_guardK ?_ ?_ ?_
    | refine le_mapK fun _ _ => ?_
    | refine le_panK fun _ _ => ?_
    | refine le_funK fun _ _ => ?_
    | exact le_refl _
    | apply_assumption
noncomputable def b67 (cf : CallF) (R : Rec) : Rec := fun i l h =>
 br1 i 0 l (fun a0 => t67_0 cf R a0 h) <|
 br2 i 1 l (fun a2 a4 => t67_1 cf R a2 a4 h) <|
 .fail
theorem r67 {T : Tab} {cf : CallF} (hc : leC cf (CL T)) (n : Nat) : leR (recN (b67 cf) n) (J67 T) := recN_le (fun R hR i l h => by
  unfold b67
  refine le_br1 (J := fun i l => J67 T i l h) (fun _ a0 => le_e (fun hn => e67_0 rfl hn) ((m67 hc hR).1 a0 h)) ?_
  refine le_br2 (J := fun i l => J67 T i l h) (fun _ a2 a4 => le_e (fun hn => e67_1 rfl hn) ((m67 hc hR).2 a2 a4 h)) ?_
  exact le_fail _) n
theorem m68 {cf cf' : CallF} {R R' : Rec} (hc : ∀ f l h, le (cf f l h) (cf' f l h)) (hR : ∀ i l h, le (R i l h) (R' i l h)) : (∀ (a0 : IV) (h : H), le (t68_0 cf R a0 h) (t68_0 cf' R' a0 h)) := by
  intros
  unfold t68_0
  with_reducible repeat' first
    | refine le_obind fun _ => ?_
    | refine le_callP ?_ (fun _ _ => ?_) (fun _ _ => ?_)
    | refine le_condK ?_ ?_
    | exact hR _ _ _
    | refine le_obind2 fun _ _ => ?_
    | refine le_obindH fun _ => ?_
    | refine le_spanK (fun _ _ _ => ?_) (fun _ _ => ?_)
    | exact hc _ _ _
    | refine le_bif ?_ ?_
    | refine le_guardK ?_ ?_ ?_
    | refine le_mapK fun _ _ => ?_
    | refine le_panK fun _ _ => ?_
    | refine le_funK fun _ _ => ?_
    | exact le_refl _
    | apply_assumption
noncomputable def b68 (cf : CallF) (R : Rec) : Rec := fun i l h =>
 br1 i 0 l (fun a0 => t68_0 cf R a0 h) <|
 .fail
theorem r68 {T : Tab} {cf : CallF} (hc : leC cf (CL T)) (n : Nat) : leR (recN (b68 cf) n) (J68 T) := recN_le (fun R hR i l h => by
  unfold b68
  refine le_br1 (J := fun i l => J68 T i l h) (fun _ a0 => le_e (fun hn => e68_0 rfl hn) ((m68 hc hR) a0 h)) ?_
  exact le_fail _) n
theorem m76 {cf cf' : CallF} {R R' : Rec} (hc : ∀ f l h, le (cf f l h) (cf' f l h)) (hR : ∀ i l h, le (R i l h) (R' i l h)) : (∀ (a0 a1 : IV) (h : H), le (t76_0 cf R a0 a1 h) (t76_0 cf' R' a0 a1 h)) := by
  intros
  unfold t76_0
  with_reducible repeat' first
    | refine le_obind fun _ => ?_
    | refine le_callP ?_ (fun _ _ => ?_) (fun _ _ => ?_)
    | refine le_condK ?_ ?_
    | exact hR _ _ _
    | refine le_obind2 fun _ _ => ?_
    | refine le_obindH fun _ => ?_
    | refine le_spanK (fun _ _ _ => ?_) (fun _ _ => ?_)
    | exact hc _ _ _
    | refine le_bif ?_ ?_
    | refine le_guardK ?_ ?_ ?_
    | refine le_mapK fun _ _ => ?_
    | refine le_panK fun _ _ => ?_
    | refine le_funK fun _ _ => ?_
    | exact le_refl _
    | apply_assumption
noncomputable def b76 (cf : CallF) (R : Rec) : Rec := fun i l h =>
 br2 i 0 l (fun a0 a1 => t76_0 cf R a0 a1 h) <|
 .fail
theorem r76 {T : Tab} {cf : CallF} (hc : leC cf (CL T)) (n : Nat) : leR (recN (b76 cf) n) (J76 T) := recN_le (fun R hR i l h => by
  unfold b76
  refine le_br2 (J := fun i l => J76 T i l h) (fun _ a0 a1 => le_e (fun hn => e76_0 rfl hn) ((m76 hc hR) a0 a1 h)) ?_
  exact le_fail _) n
def tabB (f : FuncId) : Bool := [17, 46, 49, 70, 96, 69, 34].any fun x => Nat.beq f x
noncomputable def cfB (T : Tab) (cf : CallF) : CallF := fun f l h =>
 @Bool.rec (fun _ => CRes) (@Bool.rec (fun _ => CRes) (@Bool.rec (fun _ => CRes) (@Bool.rec (fun _ => CRes) (@Bool.rec (fun _ => CRes) (brQ1 f 7 l (fun a0 => QsP (recN (b7 cf) 1000000 0 [a0] ⟨h.next, h.objs, T.pol 7, h.tys⟩) h.pol) .fail) (@Bool.rec (fun _ => CRes) (brQ1 f 8 l (fun a0 => QsP (recN (b8 cf) 1000000 0 [a0] ⟨h.next, h.objs, T.pol 8, h.tys⟩) h.pol) .fail) (brQ3 f 9 l (fun a0 a1 a2 => QsP (recN (b9 cf) 1000000 0 [a0, a1, a2] ⟨h.next, h.objs, T.pol 9, h.tys⟩) h.pol) .fail) (Nat.ble 9 f)) (Nat.ble 8 f)) (@Bool.rec (fun _ => CRes) (brQ0 f 12 l (QsP (recN (b12 cf) 1000000 0 [] ⟨h.next, h.objs, T.pol 12, h.tys⟩) h.pol) .fail) (@Bool.rec (fun _ => CRes) (brQ1 f 13 l (fun a0 => QsP (recN (b13 cf) 1000000 0 [a0] ⟨h.next, h.objs, T.pol 13, h.tys⟩) h.pol) .fail) (brQ1 f 15 l (fun a0 => QsP (recN (b15 cf) 1000000 0 [a0] ⟨h.next, h.objs, T.pol 15, h.tys⟩) h.pol) .fail) (Nat.ble 15 f)) (Nat.ble 13 f)) (Nat.ble 12 f)) (@Bool.rec (fun _ => CRes) (@Bool.rec (fun _ => CRes) (brQ2 f 16 l (fun a0 a1 => QsP (recN (b16 cf) 1000000 0 [a0, a1] ⟨h.next, h.objs, T.pol 16, h.tys⟩) h.pol) .fail) (@Bool.rec (fun _ => CRes) (brQ1 f 17 l (fun a0 => ovK (T.ov 17) [a0] h (QsP (recN (b17 cf) 1000000 0 [a0] ⟨h.next, h.objs, T.pol 17, h.tys⟩) h.pol)) .fail) (brQ1 f 18 l (fun a0 => QsP (recN (b18 cf) 1000000 0 [a0] ⟨h.next, h.objs, T.pol 18, h.tys⟩) h.pol) .fail) (Nat.ble 18 f)) (Nat.ble 17 f)) (@Bool.rec (fun _ => CRes) (brQ2 f 19 l (fun a0 a1 => QsP (recN (b19 cf) 1000000 0 [a0, a1] ⟨h.next, h.objs, T.pol 19, h.tys⟩) h.pol) .fail) (@Bool.rec (fun _ => CRes) (brQ1 f 20 l (fun a0 => QsP (recN (b20 cf) 1000000 0 [a0] ⟨h.next, h.objs, T.pol 20, h.tys⟩) h.pol) .fail) (brQ1 f 21 l (fun a0 => QsP (recN (b21 cf) 1000000 0 [a0] ⟨h.next, h.objs, T.pol 21, h.tys⟩) h.pol) .fail) (Nat.ble 21 f)) (Nat.ble 20 f)) (Nat.ble 19 f)) (Nat.ble 16 f)) (@Bool.rec (fun _ => CRes) (@Bool.rec (fun _ => CRes) (@Bool.rec (fun _ => CRes) (brQ2 f 23 l (fun a0 a1 => QsP (recN (b23 cf) 1000000 0 [a0, a1] ⟨h.next, h.objs, T.pol 23, h.tys⟩) h.pol) .fail) (@Bool.rec (fun _ => CRes) (brQ1 f 24 l (fun a0 => QsP (recN (b24 cf) 1000000 0 [a0] ⟨h.next, h.objs, T.pol 24, h.tys⟩) h.pol) .fail) (brQ2 f 25 l (fun a0 a1 => QsP (recN (b25 cf) 1000000 0 [a0, a1] ⟨h.next, h.objs, T.pol 25, h.tys⟩) h.pol) .fail) (Nat.ble 25 f)) (Nat.ble 24 f)) (@Bool.rec (fun _ => CRes) (brQ1 f 26 l (fun a0 => QsP (recN (b26 cf) 1000000 0 [a0] ⟨h.next, h.objs, T.pol 26, h.tys⟩) h.pol) .fail) (@Bool.rec (fun _ => CRes) (brQ1 f 27 l (fun a0 => QsP (recN (b27 cf) 1000000 0 [a0] ⟨h.next, h.objs, T.pol 27, h.tys⟩) h.pol) .fail) (brQ1 f 28 l (fun a0 => QsP (recN (b28 cf) 1000000 0 [a0] ⟨h.next, h.objs, T.pol 28, h.tys⟩) h.pol) .fail) (Nat.ble 28 f)) (Nat.ble 27 f)) (Nat.ble 26 f)) (@Bool.rec (fun _ => CRes) (@Bool.rec (fun _ => CRes) (brQ1 f 32 l (fun a0 => QsP (recN (b32 cf) 1000000 0 [a0] ⟨h.next, h.objs, T.pol 32, h.tys⟩) h.pol) .fail) (@Bool.rec (fun _ => CRes) (brQ2 f 33 l (fun a0 a1 => QsP (recN (b33 cf) 1000000 0 [a0, a1] ⟨h.next, h.objs, T.pol 33, h.tys⟩) h.pol) .fail) (brQ1 f 34 l (fun a0 => ovK (T.ov 34) [a0] h (QsP (recN (b34 cf) 1000000 0 [a0] ⟨h.next, h.objs, T.pol 34, h.tys⟩) h.pol)) .fail) (Nat.ble 34 f)) (Nat.ble 33 f)) (@Bool.rec (fun _ => CRes) (brQ1 f 35 l (fun a0 => QsP (recN (b35 cf) 1000000 0 [a0] ⟨h.next, h.objs, T.pol 35, h.tys⟩) h.pol) .fail) (@Bool.rec (fun _ => CRes) (brQ2 f 36 l (fun a0 a1 => QsP (recN (b36 cf) 1000000 0 [a0, a1] ⟨h.next, h.objs, T.pol 36, h.tys⟩) h.pol) .fail) (brQ1 f 37 l (fun a0 => QsP (recN (b37 cf) 1000000 0 [a0] ⟨h.next, h.objs, T.pol 37, h.tys⟩) h.pol) .fail) (Nat.ble 37 f)) (Nat.ble 36 f)) (Nat.ble 35 f)) (Nat.ble 32 f)) (Nat.ble 23 f)) (@Bool.rec (fun _ => CRes) (@Bool.rec (fun _ => CRes) (@Bool.rec (fun _ => CRes) (@Bool.rec (fun _ => CRes) (brQ4 f 39 l (fun a0 a1 a2 a3 => QsP (recN (b39 cf) 1000000 0 [a0, a1, a2, a3] ⟨h.next, h.objs, T.pol 39, h.tys⟩) h.pol) .fail) (@Bool.rec (fun _ => CRes) (brQ2 f 40 l (fun a0 a1 => QsP (recN (b40 cf) 1000000 0 [a0, a1] ⟨h.next, h.objs, T.pol 40, h.tys⟩) h.pol) .fail) (brQ1 f 41 l (fun a0 => QsP (recN (b41 cf) 1000000 0 [a0] ⟨h.next, h.objs, T.pol 41, h.tys⟩) h.pol) .fail) (Nat.ble 41 f)) (Nat.ble 40 f)) (@Bool.rec (fun _ => CRes) (brQ2 f 42 l (fun a0 a1 => QsP (recN (b42 cf) 1000000 0 [a0, a1] ⟨h.next, h.objs, T.pol 42, h.tys⟩) h.pol) .fail) (@Bool.rec (fun _ => CRes) (brQ2 f 43 l (fun a0 a1 => QsP (recN (b43 cf) 1000000 0 [a0, a1] ⟨h.next, h.objs, T.pol 43, h.tys⟩) h.pol) .fail) (brQ1 f 44 l (fun a0 => QsP (recN (b44 cf) 1000000 0 [a0] ⟨h.next, h.objs, T.pol 44, h.tys⟩) h.pol) .fail) (Nat.ble 44 f)) (Nat.ble 43 f)) (Nat.ble 42 f)) (@Bool.rec (fun _ => CRes) (@Bool.rec (fun _ => CRes) (brQ2 f 45 l (fun a0 a1 => QsP (recN (b45 cf) 1000000 0 [a0, a1] ⟨h.next, h.objs, T.pol 45, h.tys⟩) h.pol) .fail) (@Bool.rec (fun _ => CRes) (brQ1 f 46 l (fun a0 => ovK (T.ov 46) [a0] h (CRes.fail)) .fail) (brQ2 f 49 l (fun a0 a1 => ovK (T.ov 49) [a0, a1] h (CRes.fail)) .fail) (Nat.ble 49 f)) (Nat.ble 46 f)) (@Bool.rec (fun _ => CRes) (brQ2 f 50 l (fun a0 a1 => QsP (recN (b50 cf) 1000000 0 [a0, a1] ⟨h.next, h.objs, T.pol 50, h.tys⟩) h.pol) .fail) (@Bool.rec (fun _ => CRes) (brQ2 f 51 l (fun a0 a1 => QsP (recN (b51 cf) 1000000 0 [a0, a1] ⟨h.next, h.objs, T.pol 51, h.tys⟩) h.pol) .fail) (brQ1 f 52 l (fun a0 => QsP (recN (b52 cf) 1000000 0 [a0] ⟨h.next, h.objs, T.pol 52, h.tys⟩) h.pol) .fail) (Nat.ble 52 f)) (Nat.ble 51 f)) (Nat.ble 50 f)) (Nat.ble 45 f)) (@Bool.rec (fun _ => CRes) (@Bool.rec (fun _ => CRes) (@Bool.rec (fun _ => CRes) (brQ3 f 54 l (fun a0 a1 a2 => QsP (recN (b54 cf) 1000000 0 [a0, a1, a2] ⟨h.next, h.objs, T.pol 54, h.tys⟩) h.pol) .fail) (@Bool.rec (fun _ => CRes) (brQ2 f 55 l (fun a0 a1 => QsP (recN (b55 cf) 1000000 0 [a0, a1] ⟨h.next, h.objs, T.pol 55, h.tys⟩) h.pol) .fail) (brQ2 f 56 l (fun a0 a1 => QsP (recN (b56 cf) 1000000 0 [a0, a1] ⟨h.next, h.objs, T.pol 56, h.tys⟩) h.pol) .fail) (Nat.ble 56 f)) (Nat.ble 55 f)) (@Bool.rec (fun _ => CRes) (brQ1 f 57 l (fun a0 => QsP (recN (b57 cf) 1000000 0 [a0] ⟨h.next, h.objs, T.pol 57, h.tys⟩) h.pol) .fail) (@Bool.rec (fun _ => CRes) (brQ2 f 58 l (fun a0 a1 => QsP (recN (b58 cf) 1000000 0 [a0, a1] ⟨h.next, h.objs, T.pol 58, h.tys⟩) h.pol) .fail) (brQ2 f 59 l (fun a0 a1 => QsP (recN (b59 cf) 1000000 0 [a0, a1] ⟨h.next, h.objs, T.pol 59, h.tys⟩) h.pol) .fail) (Nat.ble 59 f)) (Nat.ble 58 f)) (Nat.ble 57 f)) (@Bool.rec (fun _ => CRes) (@Bool.rec (fun _ => CRes) (brQ1 f 62 l (fun a0 => QsP (recN (b62 cf) 1000000 0 [a0] ⟨h.next, h.objs, T.pol 62, h.tys⟩) h.pol) .fail) (@Bool.rec (fun _ => CRes) (brQ1 f 67 l (fun a0 => QsP (recN (b67 cf) 1000000 0 [a0] ⟨h.next, h.objs, T.pol 67, h.tys⟩) h.pol) .fail) (brQ1 f 68 l (fun a0 => QsP (recN (b68 cf) 1000000 0 [a0] ⟨h.next, h.objs, T.pol 68, h.tys⟩) h.pol) .fail) (Nat.ble 68 f)) (Nat.ble 67 f)) (@Bool.rec (fun _ => CRes) (@Bool.rec (fun _ => CRes) (brQ2 f 69 l (fun a0 a1 => ovK (T.ov 69) [a0, a1] h (CRes.fail)) .fail) (brQ2 f 70 l (fun a0 a1 => ovK (T.ov 70) [a0, a1] h (CRes.fail)) .fail) (Nat.ble 70 f)) (@Bool.rec (fun _ => CRes) (brQ2 f 76 l (fun a0 a1 => QsP (recN (b76 cf) 1000000 0 [a0, a1] ⟨h.next, h.objs, T.pol 76, h.tys⟩) h.pol) .fail) (brQ2 f 96 l (fun a0 a1 => ovK (T.ov 96) [a0, a1] h (CRes.fail)) .fail) (Nat.ble 96 f)) (Nat.ble 76 f)) (Nat.ble 69 f)) (Nat.ble 62 f)) (Nat.ble 54 f)) (Nat.ble 39 f)
theorem cfB_le {T : Tab} (hN : ∀ f, tabB f = false → T.ov f = none) (cf : CallF) (hc : leC cf (CL T)) (f : FuncId) (l : List IV) (h : H) : le (cfB T cf f l h) (CL T f l h) := by
  unfold cfB
  simp only [QsP_eq, brQ0_eq, brQ1_eq, brQ2_eq, brQ3_eq, brQ4_eq]
  refine le_brec ?_ ?_
  · refine le_brec ?_ ?_
    · refine le_brec ?_ ?_
      · refine le_brec ?_ ?_
        · refine le_brec ?_ ?_
          · refine le_brec ?_ ?_
            · exact le_br2 (J := fun f l => CL T f l h) (fun e a0 a1 => le_ovK fun _ => le_fail _) (le_fail _)
            · exact le_br2 (J := fun f l => CL T f l h) (fun e a0 a1 => call_le (hN 76 rfl) Tryd.func76 rfl rfl rfl (r76 hc _ 0 _ _)) (le_fail _)
          · refine le_brec ?_ ?_
            · exact le_br2 (J := fun f l => CL T f l h) (fun e a0 a1 => le_ovK fun _ => le_fail _) (le_fail _)
            · exact le_br2 (J := fun f l => CL T f l h) (fun e a0 a1 => le_ovK fun _ => le_fail _) (le_fail _)
        · refine le_brec ?_ ?_
          · refine le_brec ?_ ?_
            · exact le_br1 (J := fun f l => CL T f l h) (fun e a0 => call_le (hN 68 rfl) Tryd.func68 rfl rfl rfl (r68 hc _ 0 _ _)) (le_fail _)
            · exact le_br1 (J := fun f l => CL T f l h) (fun e a0 => call_le (hN 67 rfl) Tryd.func67 rfl rfl rfl (r67 hc _ 0 _ _)) (le_fail _)
          · exact le_br1 (J := fun f l => CL T f l h) (fun e a0 => call_le (hN 62 rfl) Tryd.func62 rfl rfl rfl (r62 hc _ 0 _ _)) (le_fail _)
      · refine le_brec ?_ ?_
        · refine le_brec ?_ ?_
          · refine le_brec ?_ ?_
            · exact le_br2 (J := fun f l => CL T f l h) (fun e a0 a1 => call_le (hN 59 rfl) Tryd.func59 rfl rfl rfl (r59 hc _ 0 _ _)) (le_fail _)
            · exact le_br2 (J := fun f l => CL T f l h) (fun e a0 a1 => call_le (hN 58 rfl) Tryd.func58 rfl rfl rfl (r58 hc _ 0 _ _)) (le_fail _)
          · exact le_br1 (J := fun f l => CL T f l h) (fun e a0 => call_le (hN 57 rfl) Tryd.func57 rfl rfl rfl (r57 hc _ 0 _ _)) (le_fail _)
        · refine le_brec ?_ ?_
          · refine le_brec ?_ ?_
            · exact le_br2 (J := fun f l => CL T f l h) (fun e a0 a1 => call_le (hN 56 rfl) Tryd.func56 rfl rfl rfl (r56 hc _ 0 _ _)) (le_fail _)
            · exact le_br2 (J := fun f l => CL T f l h) (fun e a0 a1 => call_le (hN 55 rfl) Tryd.func55 rfl rfl rfl (r55 hc _ 0 _ _)) (le_fail _)
          · exact le_br3 (J := fun f l => CL T f l h) (fun e a0 a1 a2 => call_le (hN 54 rfl) Tryd.func54 rfl rfl rfl (r54 hc _ 0 _ _)) (le_fail _)
    · refine le_brec ?_ ?_
      · refine le_brec ?_ ?_
        · refine le_brec ?_ ?_
          · refine le_brec ?_ ?_
            · exact le_br1 (J := fun f l => CL T f l h) (fun e a0 => call_le (hN 52 rfl) Tryd.func52 rfl rfl rfl (r52 hc _ 0 _ _)) (le_fail _)
            · exact le_br2 (J := fun f l => CL T f l h) (fun e a0 a1 => call_le (hN 51 rfl) Tryd.func51 rfl rfl rfl (r51 hc _ 0 _ _)) (le_fail _)
          · exact le_br2 (J := fun f l => CL T f l h) (fun e a0 a1 => call_le (hN 50 rfl) Tryd.func50 rfl rfl rfl (r50 hc _ 0 _ _)) (le_fail _)
        · refine le_brec ?_ ?_
          · refine le_brec ?_ ?_
            · exact le_br2 (J := fun f l => CL T f l h) (fun e a0 a1 => le_ovK fun _ => le_fail _) (le_fail _)
            · exact le_br1 (J := fun f l => CL T f l h) (fun e a0 => le_ovK fun _ => le_fail _) (le_fail _)
          · exact le_br2 (J := fun f l => CL T f l h) (fun e a0 a1 => call_le (hN 45 rfl) Tryd.func45 rfl rfl rfl (r45 hc _ 0 _ _)) (le_fail _)
      · refine le_brec ?_ ?_
        · refine le_brec ?_ ?_
          · refine le_brec ?_ ?_
            · exact le_br1 (J := fun f l => CL T f l h) (fun e a0 => call_le (hN 44 rfl) Tryd.func44 rfl rfl rfl (r44 hc _ 0 _ _)) (le_fail _)
            · exact le_br2 (J := fun f l => CL T f l h) (fun e a0 a1 => call_le (hN 43 rfl) Tryd.func43 rfl rfl rfl (r43 hc _ 0 _ _)) (le_fail _)
          · exact le_br2 (J := fun f l => CL T f l h) (fun e a0 a1 => call_le (hN 42 rfl) Tryd.func42 rfl rfl rfl (r42 hc _ 0 _ _)) (le_fail _)
        · refine le_brec ?_ ?_
          · refine le_brec ?_ ?_
            · exact le_br1 (J := fun f l => CL T f l h) (fun e a0 => call_le (hN 41 rfl) Tryd.func41 rfl rfl rfl (r41 hc _ 0 _ _)) (le_fail _)
            · exact le_br2 (J := fun f l => CL T f l h) (fun e a0 a1 => call_le (hN 40 rfl) Tryd.func40 rfl rfl rfl (r40 hc _ 0 _ _)) (le_fail _)
          · exact le_br4 (J := fun f l => CL T f l h) (fun e a0 a1 a2 a3 => call_le (hN 39 rfl) Tryd.func39 rfl rfl rfl (r39 hc _ 0 _ _)) (le_fail _)
  · refine le_brec ?_ ?_
    · refine le_brec ?_ ?_
      · refine le_brec ?_ ?_
        · refine le_brec ?_ ?_
          · refine le_brec ?_ ?_
            · exact le_br1 (J := fun f l => CL T f l h) (fun e a0 => call_le (hN 37 rfl) Tryd.func37 rfl rfl rfl (r37 hc _ 0 _ _)) (le_fail _)
            · exact le_br2 (J := fun f l => CL T f l h) (fun e a0 a1 => call_le (hN 36 rfl) Tryd.func36 rfl rfl rfl (r36 hc _ 0 _ _)) (le_fail _)
          · exact le_br1 (J := fun f l => CL T f l h) (fun e a0 => call_le (hN 35 rfl) Tryd.func35 rfl rfl rfl (r35 hc _ 0 _ _)) (le_fail _)
        · refine le_brec ?_ ?_
          · refine le_brec ?_ ?_
            · exact le_br1 (J := fun f l => CL T f l h) (fun e a0 => le_ovK fun ho => call_le ho Tryd.func34 rfl rfl rfl (r34 hc _ 0 _ _)) (le_fail _)
            · exact le_br2 (J := fun f l => CL T f l h) (fun e a0 a1 => call_le (hN 33 rfl) Tryd.func33 rfl rfl rfl (r33 hc _ 0 _ _)) (le_fail _)
          · exact le_br1 (J := fun f l => CL T f l h) (fun e a0 => call_le (hN 32 rfl) Tryd.func32 rfl rfl rfl (r32 hc _ 0 _ _)) (le_fail _)
      · refine le_brec ?_ ?_
        · refine le_brec ?_ ?_
          · refine le_brec ?_ ?_
            · exact le_br1 (J := fun f l => CL T f l h) (fun e a0 => call_le (hN 28 rfl) Tryd.func28 rfl rfl rfl (r28 hc _ 0 _ _)) (le_fail _)
            · exact le_br1 (J := fun f l => CL T f l h) (fun e a0 => call_le (hN 27 rfl) Tryd.func27 rfl rfl rfl (r27 hc _ 0 _ _)) (le_fail _)
          · exact le_br1 (J := fun f l => CL T f l h) (fun e a0 => call_le (hN 26 rfl) Tryd.func26 rfl rfl rfl (r26 hc _ 0 _ _)) (le_fail _)
        · refine le_brec ?_ ?_
          · refine le_brec ?_ ?_
            · exact le_br2 (J := fun f l => CL T f l h) (fun e a0 a1 => call_le (hN 25 rfl) Tryd.func25 rfl rfl rfl (r25 hc _ 0 _ _)) (le_fail _)
            · exact le_br1 (J := fun f l => CL T f l h) (fun e a0 => call_le (hN 24 rfl) Tryd.func24 rfl rfl rfl (r24 hc _ 0 _ _)) (le_fail _)
          · exact le_br2 (J := fun f l => CL T f l h) (fun e a0 a1 => call_le (hN 23 rfl) Tryd.func23 rfl rfl rfl (r23 hc _ 0 _ _)) (le_fail _)
    · refine le_brec ?_ ?_
      · refine le_brec ?_ ?_
        · refine le_brec ?_ ?_
          · refine le_brec ?_ ?_
            · exact le_br1 (J := fun f l => CL T f l h) (fun e a0 => call_le (hN 21 rfl) Tryd.func21 rfl rfl rfl (r21 hc _ 0 _ _)) (le_fail _)
            · exact le_br1 (J := fun f l => CL T f l h) (fun e a0 => call_le (hN 20 rfl) Tryd.func20 rfl rfl rfl (r20 hc _ 0 _ _)) (le_fail _)
          · exact le_br2 (J := fun f l => CL T f l h) (fun e a0 a1 => call_le (hN 19 rfl) Tryd.func19 rfl rfl rfl (r19 hc _ 0 _ _)) (le_fail _)
        · refine le_brec ?_ ?_
          · refine le_brec ?_ ?_
            · exact le_br1 (J := fun f l => CL T f l h) (fun e a0 => call_le (hN 18 rfl) Tryd.func18 rfl rfl rfl (r18 hc _ 0 _ _)) (le_fail _)
            · exact le_br1 (J := fun f l => CL T f l h) (fun e a0 => le_ovK fun ho => call_le ho Tryd.func17 rfl rfl rfl (r17 hc _ 0 _ _)) (le_fail _)
          · exact le_br2 (J := fun f l => CL T f l h) (fun e a0 a1 => call_le (hN 16 rfl) Tryd.func16 rfl rfl rfl (r16 hc _ 0 _ _)) (le_fail _)
      · refine le_brec ?_ ?_
        · refine le_brec ?_ ?_
          · refine le_brec ?_ ?_
            · exact le_br1 (J := fun f l => CL T f l h) (fun e a0 => call_le (hN 15 rfl) Tryd.func15 rfl rfl rfl (r15 hc _ 0 _ _)) (le_fail _)
            · exact le_br1 (J := fun f l => CL T f l h) (fun e a0 => call_le (hN 13 rfl) Tryd.func13 rfl rfl rfl (r13 hc _ 0 _ _)) (le_fail _)
          · exact le_br0 (J := fun f l => CL T f l h) (fun e => call_le (hN 12 rfl) Tryd.func12 rfl rfl rfl (r12 hc _ 0 _ _)) (le_fail _)
        · refine le_brec ?_ ?_
          · refine le_brec ?_ ?_
            · exact le_br3 (J := fun f l => CL T f l h) (fun e a0 a1 a2 => call_le (hN 9 rfl) Tryd.func9 rfl rfl rfl (r9 hc _ 0 _ _)) (le_fail _)
            · exact le_br1 (J := fun f l => CL T f l h) (fun e a0 => call_le (hN 8 rfl) Tryd.func8 rfl rfl rfl (r8 hc _ 0 _ _)) (le_fail _)
          · exact le_br1 (J := fun f l => CL T f l h) (fun e a0 => call_le (hN 7 rfl) Tryd.func7 rfl rfl rfl (r7 hc _ 0 _ _)) (le_fail _)
noncomputable def CN (T : Tab) (n : Nat) : CallF := @Nat.rec (fun _ => CallF) (fun _ _ _ => .fail) (fun _ cf => cfB T cf) n
theorem CN_le {T : Tab} (hN : ∀ f, tabB f = false → T.ov f = none) (n : Nat) : leC (CN T n) (CL T) := by
  induction n with
  | zero => exact fun _ _ _ => le_fail _
  | succ n ih => exact fun f l h => cfB_le hN _ ih f l h
theorem CN_val {T : Tab} (hN : ∀ f, tabB f = false → T.ov f = none) {n : Nat} {f : FuncId} {args : List IV} {h : H} {v : IV} (e : (CN T n f args h).val = some v) : ∃ h', CL T f args h = .ok v h' := run_val (CN_le hN n) e
end Go.Proofs.YtdccdfmbakbikaaDoor
