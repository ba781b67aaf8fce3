import Derived.Test.YtimjkkcondljeaaGreatDoorM3
import Derived.Test.YtimjkkcondljeaaGreatDoorM4
set_option linter.unusedVariables false
set_option maxRecDepth 100000
namespace Go.Proofs.YtimjkkcondljeaaGreatDoor
open Go I
theorem m19 {cf cf' : CallF} {R R' : Rec} (hc : ∀ f l h, le (cf f l h) (cf' f l h)) (hR : ∀ i l h, le (R i l h) (R' i l h)) : (∀ (a0 a4 : IV) (h : H), le (t19_0 cf R a0 a4 h) (t19_0 cf' R' a0 a4 h)) := by
  intros
  unfold t19_0
  with_reducible repeat' first
    | refine le_obind fun _ => ?_
    | refine le_callP ?_ (fun _ _ => ?_) (fun _ _ => ?_)
    | refine le_condK ?_ ?_
    | exact hR _ _ _
    | refine le_obind2 fun _ _ => ?_
    | refine le_obindH fun _ => ?_
    | refine le_spanK (fun _ _ _ => ?_) (fun _ _ => ?_)
    | exact hc _ _ _
    | refine le_bif ?_ ?_
    | refine le_guardK ?_ ?_ ?_
    | refine le_mapK fun _ _ => ?_
    | refine le_panK fun _ _ => ?_
    | refine le_funK fun _ _ => ?_
    | exact le_refl _
    | apply_assumption
noncomputable def b19 (cf : CallF) (R : Rec) : Rec := fun i l h =>
 br2 i 0 l (fun a0 a4 => t19_0 cf R a0 a4 h) <|
 .fail
theorem r19 {T : Tab} {cf : CallF} (hc : leC cf (CL T)) (n : Nat) : leR (recN (b19 cf) n) (J19 T) := recN_le (fun R hR i l h => by
  unfold b19
  refine le_br2 (J := fun i l => J19 T i l h) (fun _ a0 a4 => le_e (fun hn => e19_0 rfl hn) ((m19 hc hR) a0 a4 h)) ?_
  exact le_fail _) n
noncomputable def L19 (cf : CallF) (l : List IV) (st : I.Mode) (h : H) : Option (I.Mode × H) :=
 match l with
 | [a0] => lvM st (lvK (t19_0 cf (recN (b19 cf) 1000000) a0 (recV st) h))
 | _ => none
theorem lle19 {T : Tab} {cf : CallF} (hc : leC cf (CL T)) (l : List IV) (st : I.Mode) (h : H) : leO (L19 cf l st h) (LV Tryz.prog (CL T) 19 l st h) := by
  unfold L19
  split
  · exact lvM_le fun hst => lvK_le ((m19 hc (r19 hc _)) _ _ h) fun v h' e => l19 hst e
  · intro z hz; cases hz
theorem m44 {cf cf' : CallF} {R R' : Rec} (hc : ∀ f l h, le (cf f l h) (cf' f l h)) (hR : ∀ i l h, le (R i l h) (R' i l h)) : (∀ (a0 a1 a5 : IV) (h : H), le (t44_0 cf R a0 a1 a5 h) (t44_0 cf' R' a0 a1 a5 h)) := by
  intros
  unfold t44_0
  with_reducible repeat' first
    | refine le_obind fun _ => ?_
    | refine le_callP ?_ (fun _ _ => ?_) (fun _ _ => ?_)
    | refine le_condK ?_ ?_
    | exact hR _ _ _
    | refine le_obind2 fun _ _ => ?_
    | refine le_obindH fun _ => ?_
    | refine le_spanK (fun _ _ _ => ?_) (fun _ _ => ?_)
    | exact hc _ _ _
    | refine le_bif ?_ ?_
    | refine le_guardK ?_ ?_ ?_
    | refine le_mapK fun _ _ => ?_
    | refine le_panK fun _ _ => ?_
    | refine le_funK fun _ _ => ?_
    | exact le_refl _
    | apply_assumption
noncomputable def b44 (cf : CallF) (R : Rec) : Rec := fun i l h =>
 br3 i 0 l (fun a0 a1 a5 => t44_0 cf R a0 a1 a5 h) <|
 .fail
theorem r44 {T : Tab} {cf : CallF} (hc : leC cf (CL T)) (n : Nat) : leR (recN (b44 cf) n) (J44 T) := recN_le (fun R hR i l h => by
  unfold b44
  refine le_br3 (J := fun i l => J44 T i l h) (fun _ a0 a1 a5 => le_e (fun hn => e44_0 rfl hn) ((m44 hc hR) a0 a1 a5 h)) ?_
  exact le_fail _) n
noncomputable def L44 (cf : CallF) (l : List IV) (st : I.Mode) (h : H) : Option (I.Mode × H) :=
 match l with
 | [a0, a1] => lvM st (lvK (t44_0 cf (recN (b44 cf) 1000000) a0 a1 (recV st) h))
 | _ => none
theorem lle44 {T : Tab} {cf : CallF} (hc : leC cf (CL T)) (l : List IV) (st : I.Mode) (h : H) : leO (L44 cf l st h) (LV Tryz.prog (CL T) 44 l st h) := by
  unfold L44
  split
  · exact lvM_le fun hst => lvK_le ((m44 hc (r44 hc _)) _ _ _ h) fun v h' e => l44 hst e
  · intro z hz; cases hz
theorem m95 {cf cf' : CallF} {R R' : Rec} (hc : ∀ f l h, le (cf f l h) (cf' f l h)) (hR : ∀ i l h, le (R i l h) (R' i l h)) :
  (∀ (a0 a1 a2 : IV) (h : H), le (t95_0 cf R a0 a1 a2 h) (t95_0 cf' R' a0 a1 a2 h)) ∧
  (∀ (a0 a1 a3 : IV) (h : H), le (t95_1 cf R a0 a1 a3 h) (t95_1 cf' R' a0 a1 a3 h)) := by
  refine ⟨?_, ?_⟩
  all_goals intros
  all_goals first | unfold t95_0 | unfold t95_1
  all_goals
  with_reducible repeat' first
    | refine le_obind fun _ => ?_
    | refine le_callP ?_ (fun _ _ => ?_) (fun _ _ => ?_)
    | refine le_condK ?_ ?_
    | exact hR _ _ _
    | refine le_obind2 fun _ _ => ?_
    | refine le_obindH fun _ => ?_
    | refine le_spanK (fun _ _ _ => ?_) (fun _ _ => ?_)
    | exact hc _ _ _
    | refine le_bif ?_ ?_
    | refine le_guardK ?_ ?_ ?_
    | refine le_mapK fun _ _ => ?_
    | refine le_panK fun _ _ => ?_
    | refine le_funK fun _ _ => ?_
    | exact le_refl _
    | apply_assumption
noncomputable def b95 (cf : CallF) (R : Rec) : Rec := fun i l h =>
 br3 i 0 l (fun a0 a1 a2 => t95_0 cf R a0 a1 a2 h) <|
 br3 i 1 l (fun a0 a1 a3 => t95_1 cf R a0 a1 a3 h) <|
 .fail
theorem r95 {T : Tab} {cf : CallF} (hc : leC cf (CL T)) (n : Nat) : leR (recN (b95 cf) n) (J95 T) := recN_le (fun R hR i l h => by
  unfold b95
  refine le_br3 (J := fun i l => J95 T i l h) (fun _ a0 a1 a2 => le_e (fun hn => e95_0 rfl hn) ((m95 hc hR).1 a0 a1 a2 h)) ?_
  refine le_br3 (J := fun i l => J95 T i l h) (fun _ a0 a1 a3 => le_e (fun hn => e95_1 rfl hn) ((m95 hc hR).2 a0 a1 a3 h)) ?_
  exact le_fail _) n
noncomputable def L95 (cf : CallF) (l : List IV) (st : I.Mode) (h : H) : Option (I.Mode × H) :=
 match l with
 | [a0, a1] => lvM st (lvK (t95_0 cf (recN (b95 cf) 1000000) a0 a1 (recV st) h))
 | _ => none
theorem lle95 {T : Tab} {cf : CallF} (hc : leC cf (CL T)) (l : List IV) (st : I.Mode) (h : H) : leO (L95 cf l st h) (LV Tryz.prog (CL T) 95 l st h) := by
  unfold L95
  split
  · exact lvM_le fun hst => lvK_le ((m95 hc (r95 hc _)).1 _ _ _ h) fun v h' e => l95 hst e
  · intro z hz; cases hz
theorem m3 {cf cf' : CallF} {R R' : Rec} (hc : ∀ f l h, le (cf f l h) (cf' f l h)) (hR : ∀ i l h, le (R i l h) (R' i l h)) :
  (∀ (a0 : IV) (h : H), le (t3_0 cf R a0 h) (t3_0 cf' R' a0 h)) ∧
  (∀ (a3 a4 a5 : IV) (h : H), le (t3_1 cf R a3 a4 a5 h) (t3_1 cf' R' a3 a4 a5 h)) ∧
  (∀ (a3 a6 a8 a9 : IV) (h : H), le (t3_2 cf R a3 a6 a8 a9 h) (t3_2 cf' R' a3 a6 a8 a9 h)) := by
  refine ⟨?_, ?_, ?_⟩
  all_goals intros
  all_goals first | unfold t3_0 | unfold t3_1 | unfold t3_2
  all_goals
  with_reducible repeat' first
    | refine le_obind fun _ => ?_
    | refine le_callP ?_ (fun _ _ => ?_) (fun _ _ => ?_)
    | refine le_condK ?_ ?_
    | exact hR _ _ _
    | refine le_obind2 fun _ _ => ?_
    | refine le_obindH fun _ => ?_
    | refine le_spanK (fun _ _ _ => ?_) (fun _ _ => ?_)
    | exact hc _ _ _
    | refine le_bif ?_ ?_
    | refine le_guardK ?_ ?_ ?_
    | refine le_mapK fun _ _ => ?_
    | refine le_panK fun _ _ => ?_
    | refine le_funK fun _ _ => ?_
    | exact le_refl _
    | apply_assumption
noncomputable def b3 (cf : CallF) (R : Rec) : Rec := fun i l h =>
 br1 i 0 l (fun a0 => t3_0 cf R a0 h) <|
 br3 i 1 l (fun a3 a4 a5 => t3_1 cf R a3 a4 a5 h) <|
 br4 i 2 l (fun a3 a6 a8 a9 => t3_2 cf R a3 a6 a8 a9 h) <|
 .fail
theorem r3 {T : Tab} {cf : CallF} (hc : leC cf (CL T)) (n : Nat) : leR (recN (b3 cf) n) (J3 T) := recN_le (fun R hR i l h => by
  unfold b3
  refine le_br1 (J := fun i l => J3 T i l h) (fun _ a0 => le_e (fun hn => e3_0 rfl hn) ((m3 hc hR).1 a0 h)) ?_
  refine le_br3 (J := fun i l => J3 T i l h) (fun _ a3 a4 a5 => le_e (fun hn => e3_1 rfl hn) ((m3 hc hR).2.1 a3 a4 a5 h)) ?_
  refine le_br4 (J := fun i l => J3 T i l h) (fun _ a3 a6 a8 a9 => le_e (fun hn => e3_2 rfl hn) ((m3 hc hR).2.2 a3 a6 a8 a9 h)) ?_
  exact le_fail _) n
theorem m4 {cf cf' : CallF} {R R' : Rec} (hc : ∀ f l h, le (cf f l h) (cf' f l h)) (hR : ∀ i l h, le (R i l h) (R' i l h)) :
  (∀ (a0 : IV) (h : H), le (t4_0 cf R a0 h) (t4_0 cf' R' a0 h)) ∧
  (∀ (a0 a3 : IV) (h : H), le (t4_1 cf R a0 a3 h) (t4_1 cf' R' a0 a3 h)) := by
  refine ⟨?_, ?_⟩
  all_goals intros
  all_goals first | unfold t4_0 | unfold t4_1
  all_goals
  with_reducible repeat' first
    | refine le_obind fun _ => ?_
    | refine le_callP ?_ (fun _ _ => ?_) (fun _ _ => ?_)
    | refine le_condK ?_ ?_
    | exact hR _ _ _
    | refine le_obind2 fun _ _ => ?_
    | refine le_obindH fun _ => ?_
    | refine le_spanK (fun _ _ _ => ?_) (fun _ _ => ?_)
    | exact hc _ _ _
    | refine le_bif ?_ ?_
    | refine le_guardK ?_ ?_ ?_
    | refine le_mapK fun _ _ => ?_
    | refine le_panK fun _ _ => ?_
    | refine le_funK fun _ _ => ?_
    | exact le_refl _
    | apply_assumption
noncomputable def b4 (cf : CallF) (R : Rec) : Rec := fun i l h =>
 br1 i 0 l (fun a0 => t4_0 cf R a0 h) <|
 br2 i 1 l (fun a0 a3 => t4_1 cf R a0 a3 h) <|
 .fail
theorem r4 {T : Tab} {cf : CallF} (hc : leC cf (CL T)) (n : Nat) : leR (recN (b4 cf) n) (J4 T) := recN_le (fun R hR i l h => by
  unfold b4
  refine le_br1 (J := fun i l => J4 T i l h) (fun _ a0 => le_e (fun hn => e4_0 rfl hn) ((m4 hc hR).1 a0 h)) ?_
  refine le_br2 (J := fun i l => J4 T i l h) (fun _ a0 a3 => le_e (fun hn => e4_1 rfl hn) ((m4 hc hR).2 a0 a3 h)) ?_
  exact le_fail _) n
noncomputable def u5_0 (cf : CallF) (L : List IV → I.Mode → H → Option (I.Mode × H)) (D : List IV → Rec) (R : Rec) (a0 a1 : IV) (h : H) : CRes :=
 obind2 (newI h z0) fun x1 h2 =>
 obind2 (newI h2 [.nilSlice]) fun x3 h4 =>
 callP (cf 8 [a0] h4) .pan fun x5 h6 =>
 obind (lenS x5) fun x7 =>
 obind (binN .gtr x7 (.int .i64 0)) fun x8 =>
 condK x8
 (obind (bldK z0 p1 []) fun x9 =>
 obindH (stA 3 h6 x1 x9) fun h10 =>
 obindH (stA 1 h10 x3 x5) fun h11 =>
 obind (ldA 3 h11 x1) fun x12 =>
 obind (ld0 h11 x3) fun x13 =>
 .ok (.tup [x12, x13]) h11)
 (mapK h6 fun x15 h14 =>
 mapK h14 fun x17 h16 =>
 obind (bldK z2 p3 [(0, x15), (2, x17)]) fun x18 =>
 obind2 (newI h16 (IV.cells x18)) fun x19 h20 =>
 obind (lenS a0) fun x21 =>
 R 1 [a1, x1, x3, x19, a0, x21, (.int .i64 0)] h20)
noncomputable def u5_1 (cf : CallF) (L : List IV → I.Mode → H → Option (I.Mode × H)) (D : List IV → Rec) (R : Rec) (a1 a4 a5 a7 a26 a27 a28 : IV) (h : H) : CRes :=
 obind (binN .lss a28 a27) fun x22 =>
 condK x22
 (obind (ixS 5 a26 a28) fun x23 =>
 obind (ldA 5 h x23) fun x24 =>
 obind2 (newI h z4) fun x25 h26 =>
 obindH (stA 5 h26 x25 x24) fun h27 =>
 obind (nilI a7) fun x28 =>
 obind (fadK 0 x28) fun x29 =>
 obind (ld0 h27 x29) fun x30 =>
 obind (fadK 0 x25) fun x31 =>
 obind (ld0 h27 x31) fun x32 =>
 obind (ldA 5 h27 x25) fun x33 =>
 obindH (mupK true h27 x30 x32 x33) fun h34 =>
 obind (binN .add a28 (.int .i64 1)) fun x35 =>
 R 1 [a1, a4, a5, a7, a26, a27, x35] h34)
 (obind (nilI a7) fun x36 =>
 obind (fadK 0 x36) fun x37 =>
 obind (ld0 h x37) fun x38 =>
 obind (lkK true (.agg z4) h x38 a1 true) fun x39 =>
 obind (extractI x39 0) fun x40 =>
 obind (extractI x39 1) fun x41 =>
 obind2 (newI h z4) fun x42 h43 =>
 obindH (stA 5 h43 x42 x40) fun h44 =>
 obind (unI .not x41) fun x45 =>
 condK x45
 (obind (bldK z0 p1 []) fun x46 =>
 obind (bldK [(.int .i64 0), (.int .i64 0)] [(0, 1), (1, 1)] [(1, (.int .i64 80))]) fun x47 =>
 obind2 (bslK false 2 [(.int .i64 0), (.int .i64 0)] 1 [(0, x47)] h44) fun x48 h49 =>
 obindH (stA 3 h49 a4 x46) fun h50 =>
 obindH (stA 1 h50 a5 x48) fun h51 =>
 obind (ldA 3 h51 a4) fun x52 =>
 obind (ld0 h51 a5) fun x53 =>
 .ok (.tup [x52, x53]) h51)
 (callP (cf 12 [] h44) (dfP (L [a5, a4]) fun h54 =>
 obind (ldA 3 h54 a4) fun x55 =>
 obind (ld0 h54 a5) fun x56 =>
 .ok (.tup [x55, x56]) h54) fun x57 h58 =>
 callP (cf 11 [.nilPtr, (.str ⟨0, 0⟩), x57, (.int .i64 0)] h58) (dfP (L [a5, a4]) fun h59 =>
 obind (ldA 3 h59 a4) fun x60 =>
 obind (ld0 h59 a5) fun x61 =>
 .ok (.tup [x60, x61]) h59) fun x62 h63 =>
 obind (fadK 1 x42) fun x64 =>
 obind (ld0 h63 x64) fun x65 =>
 obind (lenS x65) fun x66 =>
 D [a5, a4] 2 [a4, a5, a7, x42, x62, x65, x66, (.int .i64 0)] h63))
noncomputable def u5_2d (cf : CallF) (L : List IV → I.Mode → H → Option (I.Mode × H)) (D : List IV → Rec) (R : Rec) (d0 d1 a4 a5 a7 a10 a12 a58 a59 a60 : IV) (h : H) : CRes :=
 obind (binN .lss a60 a59) fun x67 =>
 condK x67
 (obind (ixS 8 a58 a60) fun x68 =>
 obind (ldA 8 h x68) fun x69 =>
 obind2 (newI h z5) fun x70 h71 =>
 obindH (stA 8 h71 x70 x69) fun h72 =>
 obind (fadK 0 x70) fun x73 =>
 obind (ld0 h72 x73) fun x74 =>
 obind (fadK 1 x70) fun x75 =>
 obind (ldA 6 h72 x75) fun x76 =>
 callP (cf 14 [a12, x76] h72) (fun v77 h78 =>
 (dfP (L [d0, d1]) fun h79 =>
 obind (ldA 3 h79 a4) fun x80 =>
 obind (ld0 h79 a5) fun x81 =>
 .ok (.tup [x80, x81]) h79) v77 h78) fun x82 h83 =>
 obind (ld0 h83 x73) fun x84 =>
 bif IV.beq x84 x74 then
 callP (cf 13 [a12, x74, x82] h83) (fun v85 h86 =>
 (dfP (L [d0, d1]) fun h87 =>
 obind (ldA 3 h87 a4) fun x88 =>
 obind (ld0 h87 a5) fun x89 =>
 .ok (.tup [x88, x89]) h87) v85 h86) fun x90 h91 =>
 obind (binN .add a60 (.int .i64 1)) fun x92 =>
 R 2 [a4, a5, a7, a10, a12, a58, a59, x92] h91
 else .fail)
 (obind (ldA 5 h a10) fun x93 =>
 callP (cf 15 [a7, a12, x93, (.int .i64 2)] h) (dfP (L [d0, d1]) fun h94 =>
 obind (ldA 3 h94 a4) fun x95 =>
 obind (ld0 h94 a5) fun x96 =>
 .ok (.tup [x95, x96]) h94) fun x97 h98 =>
 obind (fadK 3 a10) fun x99 =>
 obind (ld0 h98 x99) fun x100 =>
 callP (cf 16 [a7, a12, x100] h98) (dfP (L [d0, d1]) fun h101 =>
 obind (ldA 3 h101 a4) fun x102 =>
 obind (ld0 h101 a5) fun x103 =>
 .ok (.tup [x102, x103]) h101) fun x104 h105 =>
 obind (fadK 2 a10) fun x106 =>
 obind (ld0 h105 x106) fun x107 =>
 obind (lenS x107) fun x108 =>
 obind (nilI a7) fun x109 =>
 obind (fadK 1 x109) fun x110 =>
 obind (fadK 2 x110) fun x111 =>
 obindH (stA 1 h105 x111 x108) fun h112 =>
 obind (nilI a7) fun x113 =>
 obind (fadK 1 x113) fun x114 =>
 obind (ldA 3 h112 x114) fun x115 =>
 obindH (stA 3 h112 a4 x115) fun h116 =>
 obindH (stA 1 h116 a5 .nilSlice) fun h117 =>
 dfK (L [d0, d1] .ret h117) fun h118 =>
 obind (ldA 3 h118 a4) fun x119 =>
 obind (ld0 h118 a5) fun x120 =>
 .ok (.tup [x119, x120]) h118)
theorem m5 {cf cf' : CallF} {L L' : List IV → I.Mode → H → Option (I.Mode × H)} {D D' : List IV → Rec} {R R' : Rec} (hc : ∀ f l h, le (cf f l h) (cf' f l h)) (hL : ∀ l st h, leO (L l st h) (L' l st h)) (hD : ∀ l i x h, le (D l i x h) (D' l i x h)) (hR : ∀ i l h, le (R i l h) (R' i l h)) :
  (∀ (a0 a1 : IV) (h : H), le (u5_0 cf L D R a0 a1 h) (u5_0 cf' L' D' R' a0 a1 h)) ∧
  (∀ (a1 a4 a5 a7 a26 a27 a28 : IV) (h : H), le (u5_1 cf L D R a1 a4 a5 a7 a26 a27 a28 h) (u5_1 cf' L' D' R' a1 a4 a5 a7 a26 a27 a28 h)) ∧
  (∀ (d0 d1 a4 a5 a7 a10 a12 a58 a59 a60 : IV) (h : H), le (u5_2d cf L D R d0 d1 a4 a5 a7 a10 a12 a58 a59 a60 h) (u5_2d cf' L' D' R' d0 d1 a4 a5 a7 a10 a12 a58 a59 a60 h)) := by
  refine ⟨?_, ?_, ?_⟩
  all_goals intros
  all_goals first | unfold u5_0 | unfold u5_1 | unfold u5_2d
  all_goals
  with_reducible repeat' first
    | refine le_obind fun _ => ?_
    | refine le_callP ?_ (fun _ _ => ?_) (fun _ _ => ?_)
    | refine le_condK ?_ ?_
    | exact hR _ _ _
    | refine le_obind2 fun _ _ => ?_
    | refine le_obindH fun _ => ?_
    | refine le_spanK (fun _ _ _ => ?_) (fun _ _ => ?_)
    | exact hc _ _ _
    | refine le_bif ?_ ?_
    | refine le_guardK ?_ ?_ ?_
    | refine le_mapK fun _ _ => ?_
    | refine le_panK fun _ _ => ?_
    | refine le_funK fun _ _ => ?_
    | exact hD _ _ _ _
    | refine le_dfP (hL _) (fun _ => ?_)
    | refine le_dfK (hL _ _ _) (fun _ => ?_)
    | exact le_refl _
    | apply_assumption
noncomputable def bd5 (cf : CallF) (d0 d1 : IV) (R : Rec) : Rec := fun i l h =>
 br8 i 2 l (fun a4 a5 a7 a10 a12 a58 a59 a60 => u5_2d cf (L9 cf) (fun _ _ _ _ => .fail) R d0 d1 a4 a5 a7 a10 a12 a58 a59 a60 h) <|
 .fail
theorem rd5 {T : Tab} {cf : CallF} (hc : leC cf (CL T)) (d0 d1 : IV) (n : Nat) : leR (recN (bd5 cf d0 d1) n) (J5d T d0 d1) := recN_le (fun R hR i l h => by
  unfold bd5
  refine le_br8 (J := fun i l => J5d T d0 d1 i l h) (fun _ a4 a5 a7 a10 a12 a58 a59 a60 => le_e (fun hn => e5_2d (r := u5_2d (CL T) (fun l => LV Tryz.prog (CL T) 9 l) (fun l => fj1 Tryz.prog (CL T) Tryz.f5 js5 9 l) (J5d T d0 d1) d0 d1 a4 a5 a7 a10 a12 a58 a59 a60 h) rfl hn) ((m5 hc (lle9 hc) (fun _ _ _ _ => le_fail _) hR).2.2 d0 d1 a4 a5 a7 a10 a12 a58 a59 a60 h)) ?_
  exact le_fail _) n
noncomputable def D5 (cf : CallF) (l : List IV) : Rec :=
 match l with
 | [d0, d1] => recN (bd5 cf d0 d1) 1000000
 | _ => fun _ _ _ => .fail
theorem dle5 {T : Tab} {cf : CallF} (hc : leC cf (CL T)) (l : List IV) (i : Nat) (x : List IV) (h : H) : le (D5 cf l i x h) (fj1 Tryz.prog (CL T) Tryz.f5 js5 9 l i x h) := by
  unfold D5
  split
  · exact rd5 hc _ _ _ i x h
  · exact le_fail _
noncomputable def b5 (cf : CallF) (R : Rec) : Rec := fun i l h =>
 br2 i 0 l (fun a0 a1 => u5_0 cf (L9 cf) (D5 cf) R a0 a1 h) <|
 br7 i 1 l (fun a1 a4 a5 a7 a26 a27 a28 => u5_1 cf (L9 cf) (D5 cf) R a1 a4 a5 a7 a26 a27 a28 h) <|
 .fail
theorem r5 {T : Tab} {cf : CallF} (hc : leC cf (CL T)) (n : Nat) : leR (recN (b5 cf) n) (J5 T) := recN_le (fun R hR i l h => by
  unfold b5
  refine le_br2 (J := fun i l => J5 T i l h) (fun _ a0 a1 => le_e (fun hn => e5_0 (r := u5_0 (CL T) (fun l => LV Tryz.prog (CL T) 9 l) (fun l => fj1 Tryz.prog (CL T) Tryz.f5 js5 9 l) (J5 T) a0 a1 h) rfl hn) ((m5 hc (lle9 hc) (dle5 hc) hR).1 a0 a1 h)) ?_
  refine le_br7 (J := fun i l => J5 T i l h) (fun _ a1 a4 a5 a7 a26 a27 a28 => le_e (fun hn => e5_1 (r := u5_1 (CL T) (fun l => LV Tryz.prog (CL T) 9 l) (fun l => fj1 Tryz.prog (CL T) Tryz.f5 js5 9 l) (J5 T) a1 a4 a5 a7 a26 a27 a28 h) rfl hn) ((m5 hc (lle9 hc) (dle5 hc) hR).2.1 a1 a4 a5 a7 a26 a27 a28 h)) ?_
  exact le_fail _) n
theorem m6 {cf cf' : CallF} {R R' : Rec} (hc : ∀ f l h, le (cf f l h) (cf' f l h)) (hR : ∀ i l h, le (R i l h) (R' i l h)) :
  (∀ (a0 : IV) (h : H), le (t6_0 cf R a0 h) (t6_0 cf' R' a0 h)) ∧
  (∀ (a3 a5 : IV) (h : H), le (t6_1 cf R a3 a5 h) (t6_1 cf' R' a3 a5 h)) := by
  refine ⟨?_, ?_⟩
  all_goals intros
  all_goals first | unfold t6_0 | unfold t6_1
  all_goals
  with_reducible repeat' first
    | refine le_obind fun _ => ?_
    | refine le_callP ?_ (fun _ _ => ?_) (fun _ _ => ?_)
    | refine le_condK ?_ ?_
    | exact hR _ _ _
    | refine le_obind2 fun _ _ => ?_
    | refine le_obindH fun _ => ?_
    | refine le_spanK (fun _ _ _ => ?_) (fun _ _ => ?_)
    | exact hc _ _ _
    | refine le_bif ?_ ?_
    | refine le_guardK ?_ ?_ ?_
    | refine le_mapK fun _ _ => ?_
    | refine le_panK fun _ _ => ?_
    | refine le_funK fun _ _ => ?_
    | exact le_refl _
    | apply_assumption
noncomputable def b6 (cf : CallF) (R : Rec) : Rec := fun i l h =>
 br1 i 0 l (fun a0 => t6_0 cf R a0 h) <|
 br2 i 1 l (fun a3 a5 => t6_1 cf R a3 a5 h) <|
 .fail
theorem r6 {T : Tab} {cf : CallF} (hc : leC cf (CL T)) (n : Nat) : leR (recN (b6 cf) n) (J6 T) := recN_le (fun R hR i l h => by
  unfold b6
  refine le_br1 (J := fun i l => J6 T i l h) (fun _ a0 => le_e (fun hn => e6_0 rfl hn) ((m6 hc hR).1 a0 h)) ?_
  refine le_br2 (J := fun i l => J6 T i l h) (fun _ a3 a5 => le_e (fun hn => e6_1 rfl hn) ((m6 hc hR).2 a3 a5 h)) ?_
  exact le_fail _) n
theorem m7 {cf cf' : CallF} {R R' : Rec} (hc : ∀ f l h, le (cf f l h) (cf' f l h)) (hR : ∀ i l h, le (R i l h) (R' i l h)) : (∀ (h : H), le (t7_0 cf R h) (t7_0 cf' R' h)) := by
  intros
  unfold t7_0
  with_reducible repeat' first
    | refine le_obind fun _ => ?_
    | refine le_callP ?_ (fun _ _ => ?_) (fun _ _ => ?_)
    | refine le_condK ?_ ?_
    | exact hR _ _ _
    | refine le_obind2 fun _ _ => ?_
    | refine le_obindH fun _ => ?_
    | refine le_spanK (fun _ _ _ => ?_) (fun _ _ => ?_)
    | exact hc _ _ _
    | refine le_bif ?_ ?_
    | refine le_guardK ?_ ?_ ?_
    | refine le_mapK fun _ _ => ?_
    | refine le_panK fun _ _ => ?_
    | refine le_funK fun _ _ => ?_
    | exact le_refl _
    | apply_assumption
noncomputable def b7 (cf : CallF) (R : Rec) : Rec := fun i l h =>
 br0 i 0 l (t7_0 cf R h) <|
 .fail
theorem r7 {T : Tab} {cf : CallF} (hc : leC cf (CL T)) (n : Nat) : leR (recN (b7 cf) n) (J7 T) := recN_le (fun R hR i l h => by
  unfold b7
  refine le_br0 (J := fun i l => J7 T i l h) (fun _ => le_e (fun hn => e7_0 rfl hn) ((m7 hc hR) h)) ?_
  exact le_fail _) n
noncomputable def u8_0 (cf : CallF) (L : List IV → I.Mode → H → Option (I.Mode × H)) (D : List IV → Rec) (R : Rec) (a0 : IV) (h : H) : CRes :=
 obind2 (newI h [.nilSlice]) fun x1 h2 =>
 mapK h2 fun x4 h3 =>
 obind (lenS a0) fun x5 =>
 D [x1] 1 [a0, x1, x4, a0, x5, (.int .i64 0)] h3
noncomputable def u8_1d (cf : CallF) (L : List IV → I.Mode → H → Option (I.Mode × H)) (D : List IV → Rec) (R : Rec) (d0 a0 a2 a3 a12 a13 a14 : IV) (h : H) : CRes :=
 obind (binN .lss a14 a13) fun x6 =>
 condK x6
 (obind (ixS 5 a12 a14) fun x7 =>
 obind (ldA 5 h x7) fun x8 =>
 obind2 (newI h z4) fun x9 h10 =>
 obindH (stA 5 h10 x9 x8) fun h11 =>
 obind (fadK 0 x9) fun x12 =>
 obind (ld0 h11 x12) fun x13 =>
 obind (lkK true (.agg z4) h11 a3 x13 true) fun x14 =>
 obind (extractI x14 0) fun x15 =>
 obind (extractI x14 1) fun x16 =>
 obind2 (newI h11 z4) fun x17 h18 =>
 obindH (stA 5 h18 x17 x15) fun h19 =>
 condK x16
 (obind (fadK 4 x9) fun x20 =>
 obind (ld0 h19 x20) fun x21 =>
 callP (cf 20 [x21, (.int .i64 70)] h19) (dfP (L [d0]) fun h22 =>
 obind (ld0 h22 a2) fun x23 =>
 .ok x23 h22) fun x24 h25 =>
 R 2 [a0, a2, a3, x9, a12, a13, a14] h25)
 (R 2 [a0, a2, a3, x9, a12, a13, a14] h19))
 (obind (lenS a0) fun x26 =>
 R 3 [a2, a3, a0, x26, (.int .i64 0)] h)
noncomputable def u8_2d (cf : CallF) (L : List IV → I.Mode → H → Option (I.Mode × H)) (D : List IV → Rec) (R : Rec) (d0 a0 a2 a3 a5 a12 a13 a14 : IV) (h : H) : CRes :=
 obind (fadK 0 a5) fun x27 =>
 obind (ld0 h x27) fun x28 =>
 obind (ldA 5 h a5) fun x29 =>
 obindH (mupK true h a3 x28 x29) fun h30 =>
 obind (binN .add a14 (.int .i64 1)) fun x31 =>
 R 1 [a0, a2, a3, a12, a13, x31] h30
noncomputable def u8_3d (cf : CallF) (L : List IV → I.Mode → H → Option (I.Mode × H)) (D : List IV → Rec) (R : Rec) (d0 a2 a3 a34 a35 a36 : IV) (h : H) : CRes :=
 obind (binN .lss a36 a35) fun x32 =>
 condK x32
 (obind (ixS 5 a34 a36) fun x33 =>
 obind (ldA 5 h x33) fun x34 =>
 obind2 (newI h z4) fun x35 h36 =>
 obindH (stA 5 h36 x35 x34) fun h37 =>
 obind (ldA 5 h37 x35) fun x38 =>
 callP (cf 21 [x38, a3] h37) (dfP (L [d0]) fun h39 =>
 obind (ld0 h39 a2) fun x40 =>
 .ok x40 h39) fun x41 h42 =>
 obind (binN .add a36 (.int .i64 1)) fun x43 =>
 R 3 [a2, a3, a34, a35, x43] h42)
 (obindH (stA 1 h a2 .nilSlice) fun h44 =>
 dfK (L [d0] .ret h44) fun h45 =>
 obind (ld0 h45 a2) fun x46 =>
 .ok x46 h45)
theorem m8 {cf cf' : CallF} {L L' : List IV → I.Mode → H → Option (I.Mode × H)} {D D' : List IV → Rec} {R R' : Rec} (hc : ∀ f l h, le (cf f l h) (cf' f l h)) (hL : ∀ l st h, leO (L l st h) (L' l st h)) (hD : ∀ l i x h, le (D l i x h) (D' l i x h)) (hR : ∀ i l h, le (R i l h) (R' i l h)) :
  (∀ (a0 : IV) (h : H), le (u8_0 cf L D R a0 h) (u8_0 cf' L' D' R' a0 h)) ∧
  (∀ (d0 a0 a2 a3 a12 a13 a14 : IV) (h : H), le (u8_1d cf L D R d0 a0 a2 a3 a12 a13 a14 h) (u8_1d cf' L' D' R' d0 a0 a2 a3 a12 a13 a14 h)) ∧
  (∀ (d0 a0 a2 a3 a5 a12 a13 a14 : IV) (h : H), le (u8_2d cf L D R d0 a0 a2 a3 a5 a12 a13 a14 h) (u8_2d cf' L' D' R' d0 a0 a2 a3 a5 a12 a13 a14 h)) ∧
  (∀ (d0 a2 a3 a34 a35 a36 : IV) (h : H), le (u8_3d cf L D R d0 a2 a3 a34 a35 a36 h) (u8_3d cf' L' D' R' d0 a2 a3 a34 a35 a36 h)) := by
  refine ⟨?_, ?_, ?_, ?_⟩
  all_goals intros
  all_goals first | unfold u8_0 | unfold u8_1d | unfold u8_2d | unfold u8_3d
  all_goals
  with_reducible repeat' first
    | refine le_obind fun _ => ?_
    | refine le_callP ?_ (fun _ _ => ?_) (fun _ _ => ?_)
    | refine le_condK ?_ ?_
    | exact hR _ _ _
    | refine le_obind2 fun _ _ => ?_
    | refine le_obindH fun _ => ?_
    | refine le_spanK (fun _ _ _ => ?_) (fun _ _ => ?_)
    | exact hc _ _ _
    | refine le_bif ?_ ?_
    | refine le_guardK ?_ ?_ ?_
    | refine le_mapK fun _ _ => ?_
    | refine le_panK fun _ _ => ?_
    | refine le_funK fun _ _ => ?_
    | exact hD _ _ _ _
    | refine le_dfP (hL _) (fun _ => ?_)
    | refine le_dfK (hL _ _ _) (fun _ => ?_)
    | exact le_refl _
    | apply_assumption
noncomputable def bd8 (cf : CallF) (d0 : IV) (R : Rec) : Rec := fun i l h =>
 br6 i 1 l (fun a0 a2 a3 a12 a13 a14 => u8_1d cf (L19 cf) (fun _ _ _ _ => .fail) R d0 a0 a2 a3 a12 a13 a14 h) <|
 br7 i 2 l (fun a0 a2 a3 a5 a12 a13 a14 => u8_2d cf (L19 cf) (fun _ _ _ _ => .fail) R d0 a0 a2 a3 a5 a12 a13 a14 h) <|
 br5 i 3 l (fun a2 a3 a34 a35 a36 => u8_3d cf (L19 cf) (fun _ _ _ _ => .fail) R d0 a2 a3 a34 a35 a36 h) <|
 .fail
theorem rd8 {T : Tab} {cf : CallF} (hc : leC cf (CL T)) (d0 : IV) (n : Nat) : leR (recN (bd8 cf d0) n) (J8d T d0) := recN_le (fun R hR i l h => by
  unfold bd8
  refine le_br6 (J := fun i l => J8d T d0 i l h) (fun _ a0 a2 a3 a12 a13 a14 => le_e (fun hn => e8_1d (r := u8_1d (CL T) (fun l => LV Tryz.prog (CL T) 19 l) (fun l => fj1 Tryz.prog (CL T) Tryz.f8 js8 19 l) (J8d T d0) d0 a0 a2 a3 a12 a13 a14 h) rfl hn) ((m8 hc (lle19 hc) (fun _ _ _ _ => le_fail _) hR).2.1 d0 a0 a2 a3 a12 a13 a14 h)) ?_
  refine le_br7 (J := fun i l => J8d T d0 i l h) (fun _ a0 a2 a3 a5 a12 a13 a14 => le_e (fun hn => e8_2d (r := u8_2d (CL T) (fun l => LV Tryz.prog (CL T) 19 l) (fun l => fj1 Tryz.prog (CL T) Tryz.f8 js8 19 l) (J8d T d0) d0 a0 a2 a3 a5 a12 a13 a14 h) rfl hn) ((m8 hc (lle19 hc) (fun _ _ _ _ => le_fail _) hR).2.2.1 d0 a0 a2 a3 a5 a12 a13 a14 h)) ?_
  refine le_br5 (J := fun i l => J8d T d0 i l h) (fun _ a2 a3 a34 a35 a36 => le_e (fun hn => e8_3d (r := u8_3d (CL T) (fun l => LV Tryz.prog (CL T) 19 l) (fun l => fj1 Tryz.prog (CL T) Tryz.f8 js8 19 l) (J8d T d0) d0 a2 a3 a34 a35 a36 h) rfl hn) ((m8 hc (lle19 hc) (fun _ _ _ _ => le_fail _) hR).2.2.2 d0 a2 a3 a34 a35 a36 h)) ?_
  exact le_fail _) n
noncomputable def D8 (cf : CallF) (l : List IV) : Rec :=
 match l with
 | [d0] => recN (bd8 cf d0) 1000000
 | _ => fun _ _ _ => .fail
theorem dle8 {T : Tab} {cf : CallF} (hc : leC cf (CL T)) (l : List IV) (i : Nat) (x : List IV) (h : H) : le (D8 cf l i x h) (fj1 Tryz.prog (CL T) Tryz.f8 js8 19 l i x h) := by
  unfold D8
  split
  · exact rd8 hc _ _ i x h
  · exact le_fail _
noncomputable def b8 (cf : CallF) (R : Rec) : Rec := fun i l h =>
 br1 i 0 l (fun a0 => u8_0 cf (L19 cf) (D8 cf) R a0 h) <|
 .fail
theorem r8 {T : Tab} {cf : CallF} (hc : leC cf (CL T)) (n : Nat) : leR (recN (b8 cf) n) (J8 T) := recN_le (fun R hR i l h => by
  unfold b8
  refine le_br1 (J := fun i l => J8 T i l h) (fun _ a0 => le_e (fun hn => e8_0 (r := u8_0 (CL T) (fun l => LV Tryz.prog (CL T) 19 l) (fun l => fj1 Tryz.prog (CL T) Tryz.f8 js8 19 l) (J8 T) a0 h) rfl hn) ((m8 hc (lle19 hc) (dle8 hc) hR).1 a0 h)) ?_
  exact le_fail _) n
theorem m10 {cf cf' : CallF} {R R' : Rec} (hc : ∀ f l h, le (cf f l h) (cf' f l h)) (hR : ∀ i l h, le (R i l h) (R' i l h)) :
  (∀ (a0 a1 : IV) (h : H), le (t10_0 cf R a0 a1 h) (t10_0 cf' R' a0 a1 h)) ∧
  (∀ (h : H), le (t10_1 cf R h) (t10_1 cf' R' h)) := by
  refine ⟨?_, ?_⟩
  all_goals intros
  all_goals first | unfold t10_0 | unfold t10_1
  all_goals
  with_reducible repeat' first
    | refine le_obind fun _ => ?_
    | refine le_callP ?_ (fun _ _ => ?_) (fun _ _ => ?_)
    | refine le_condK ?_ ?_
    | exact hR _ _ _
    | refine le_obind2 fun _ _ => ?_
    | refine le_obindH fun _ => ?_
    | refine le_spanK (fun _ _ _ => ?_) (fun _ _ => ?_)
    | exact hc _ _ _
    | refine le_bif ?_ ?_
    | refine le_guardK ?_ ?_ ?_
    | refine le_mapK fun _ _ => ?_
    | refine le_panK fun _ _ => ?_
    | refine le_funK fun _ _ => ?_
    | exact le_refl _
    | apply_assumption
noncomputable def b10 (cf : CallF) (R : Rec) : Rec := fun i l h =>
 br2 i 0 l (fun a0 a1 => t10_0 cf R a0 a1 h) <|
 br0 i 1 l (t10_1 cf R h) <|
 .fail
theorem r10 {T : Tab} {cf : CallF} (hc : leC cf (CL T)) (n : Nat) : leR (recN (b10 cf) n) (J10 T) := recN_le (fun R hR i l h => by
  unfold b10
  refine le_br2 (J := fun i l => J10 T i l h) (fun _ a0 a1 => le_e (fun hn => e10_0 rfl hn) ((m10 hc hR).1 a0 a1 h)) ?_
  refine le_br0 (J := fun i l => J10 T i l h) (fun _ => le_e (fun hn => e10_1 rfl hn) ((m10 hc hR).2 h)) ?_
  exact le_fail _) n
theorem m11 {cf cf' : CallF} {R R' : Rec} (hc : ∀ f l h, le (cf f l h) (cf' f l h)) (hR : ∀ i l h, le (R i l h) (R' i l h)) : (∀ (a0 a1 a2 a3 : IV) (h : H), le (t11_0 cf R a0 a1 a2 a3 h) (t11_0 cf' R' a0 a1 a2 a3 h)) := by
  intros
  unfold t11_0
  with_reducible repeat' first
    | refine le_obind fun _ => ?_
    | refine le_callP ?_ (fun _ _ => ?_) (fun _ _ => ?_)
    | refine le_condK ?_ ?_
    | exact hR _ _ _
    | refine le_obind2 fun _ _ => ?_
    | refine le_obindH fun _ => ?_
    | refine le_spanK (fun _ _ _ => ?_) (fun _ _ => ?_)
    | exact hc _ _ _
    | refine le_bif ?_ ?_
    | refine le_guardK ?_ ?_ ?_
    | refine le_mapK fun _ _ => ?_
    | refine le_panK fun _ _ => ?_
    | refine le_funK fun _ _ => ?_
    | exact le_refl _
    | apply_assumption
noncomputable def b11 (cf : CallF) (R : Rec) : Rec := fun i l h =>
 br4 i 0 l (fun a0 a1 a2 a3 => t11_0 cf R a0 a1 a2 a3 h) <|
 .fail
theorem r11 {T : Tab} {cf : CallF} (hc : leC cf (CL T)) (n : Nat) : leR (recN (b11 cf) n) (J11 T) := recN_le (fun R hR i l h => by
  unfold b11
  refine le_br4 (J := fun i l => J11 T i l h) (fun _ a0 a1 a2 a3 => le_e (fun hn => e11_0 rfl hn) ((m11 hc hR) a0 a1 a2 a3 h)) ?_
  exact le_fail _) n
theorem m12 {cf cf' : CallF} {R R' : Rec} (hc : ∀ f l h, le (cf f l h) (cf' f l h)) (hR : ∀ i l h, le (R i l h) (R' i l h)) : (∀ (h : H), le (t12_0 cf R h) (t12_0 cf' R' h)) := by
  intros
  unfold t12_0
  with_reducible repeat' first
    | refine le_obind fun _ => ?_
    | refine le_callP ?_ (fun _ _ => ?_) (fun _ _ => ?_)
    | refine le_condK ?_ ?_
    | exact hR _ _ _
    | refine le_obind2 fun _ _ => ?_
    | refine le_obindH fun _ => ?_
    | refine le_spanK (fun _ _ _ => ?_) (fun _ _ => ?_)
    | exact hc _ _ _
    | refine le_bif ?_ ?_
    | refine le_guardK ?_ ?_ ?_
    | refine le_mapK fun _ _ => ?_
    | refine le_panK fun _ _ => ?_
    | refine le_funK fun _ _ => ?_
    | exact le_refl _
    | apply_assumption
noncomputable def b12 (cf : CallF) (R : Rec) : Rec := fun i l h =>
 br0 i 0 l (t12_0 cf R h) <|
 .fail
theorem r12 {T : Tab} {cf : CallF} (hc : leC cf (CL T)) (n : Nat) : leR (recN (b12 cf) n) (J12 T) := recN_le (fun R hR i l h => by
  unfold b12
  refine le_br0 (J := fun i l => J12 T i l h) (fun _ => le_e (fun hn => e12_0 rfl hn) ((m12 hc hR) h)) ?_
  exact le_fail _) n
theorem m13 {cf cf' : CallF} {R R' : Rec} (hc : ∀ f l h, le (cf f l h) (cf' f l h)) (hR : ∀ i l h, le (R i l h) (R' i l h)) : (∀ (a0 a1 a2 : IV) (h : H), le (t13_0 cf R a0 a1 a2 h) (t13_0 cf' R' a0 a1 a2 h)) := by
  intros
  unfold t13_0
  with_reducible repeat' first
    | refine le_obind fun _ => ?_
    | refine le_callP ?_ (fun _ _ => ?_) (fun _ _ => ?_)
    | refine le_condK ?_ ?_
    | exact hR _ _ _
    | refine le_obind2 fun _ _ => ?_
    | refine le_obindH fun _ => ?_
    | refine le_spanK (fun _ _ _ => ?_) (fun _ _ => ?_)
    | exact hc _ _ _
    | refine le_bif ?_ ?_
    | refine le_guardK ?_ ?_ ?_
    | refine le_mapK fun _ _ => ?_
    | refine le_panK fun _ _ => ?_
    | refine le_funK fun _ _ => ?_
    | exact le_refl _
    | apply_assumption
noncomputable def b13 (cf : CallF) (R : Rec) : Rec := fun i l h =>
 br3 i 0 l (fun a0 a1 a2 => t13_0 cf R a0 a1 a2 h) <|
 .fail
theorem r13 {T : Tab} {cf : CallF} (hc : leC cf (CL T)) (n : Nat) : leR (recN (b13 cf) n) (J13 T) := recN_le (fun R hR i l h => by
  unfold b13
  refine le_br3 (J := fun i l => J13 T i l h) (fun _ a0 a1 a2 => le_e (fun hn => e13_0 rfl hn) ((m13 hc hR) a0 a1 a2 h)) ?_
  exact le_fail _) n
theorem m14 {cf cf' : CallF} {R R' : Rec} (hc : ∀ f l h, le (cf f l h) (cf' f l h)) (hR : ∀ i l h, le (R i l h) (R' i l h)) :
  (∀ (a0 a1 : IV) (h : H), le (t14_0 cf R a0 a1 h) (t14_0 cf' R' a0 a1 h)) ∧
  (∀ (a5 : IV) (h : H), le (t14_1 cf R a5 h) (t14_1 cf' R' a5 h)) := by
  refine ⟨?_, ?_⟩
  all_goals intros
  all_goals first | unfold t14_0 | unfold t14_1
  all_goals
  with_reducible repeat' first
    | refine le_obind fun _ => ?_
    | refine le_callP ?_ (fun _ _ => ?_) (fun _ _ => ?_)
    | refine le_condK ?_ ?_
    | exact hR _ _ _
    | refine le_obind2 fun _ _ => ?_
    | refine le_obindH fun _ => ?_
    | refine le_spanK (fun _ _ _ => ?_) (fun _ _ => ?_)
    | exact hc _ _ _
    | refine le_bif ?_ ?_
    | refine le_guardK ?_ ?_ ?_
    | refine le_mapK fun _ _ => ?_
    | refine le_panK fun _ _ => ?_
    | refine le_funK fun _ _ => ?_
    | exact le_refl _
    | apply_assumption
noncomputable def b14 (cf : CallF) (R : Rec) : Rec := fun i l h =>
 br2 i 0 l (fun a0 a1 => t14_0 cf R a0 a1 h) <|
 br1 i 1 l (fun a5 => t14_1 cf R a5 h) <|
 .fail
theorem r14 {T : Tab} {cf : CallF} (hc : leC cf (CL T)) (n : Nat) : leR (recN (b14 cf) n) (J14 T) := recN_le (fun R hR i l h => by
  unfold b14
  refine le_br2 (J := fun i l => J14 T i l h) (fun _ a0 a1 => le_e (fun hn => e14_0 rfl hn) ((m14 hc hR).1 a0 a1 h)) ?_
  refine le_br1 (J := fun i l => J14 T i l h) (fun _ a5 => le_e (fun hn => e14_1 rfl hn) ((m14 hc hR).2 a5 h)) ?_
  exact le_fail _) n
theorem m15 {cf cf' : CallF} {R R' : Rec} (hc : ∀ f l h, le (cf f l h) (cf' f l h)) (hR : ∀ i l h, le (R i l h) (R' i l h)) :
  (∀ (a0 a1 a2 a3 : IV) (h : H), le (t15_0 cf R a0 a1 a2 a3 h) (t15_0 cf' R' a0 a1 a2 a3 h)) ∧
  (∀ (a0 a1 a3 a12 a13 a14 : IV) (h : H), le (t15_1 cf R a0 a1 a3 a12 a13 a14 h) (t15_1 cf' R' a0 a1 a3 a12 a13 a14 h)) ∧
  (∀ (a0 a1 a3 a9 a10 a12 a13 a14 : IV) (h : H), le (t15_2 cf R a0 a1 a3 a9 a10 a12 a13 a14 h) (t15_2 cf' R' a0 a1 a3 a9 a10 a12 a13 a14 h)) := by
  refine ⟨?_, ?_, ?_⟩
  all_goals intros
  all_goals first | unfold t15_0 | unfold t15_1 | unfold t15_2
  all_goals
  with_reducible repeat' first
    | refine le_obind fun _ => ?_
    | refine le_callP ?_ (fun _ _ => ?_) (fun _ _ => ?_)
    | refine le_condK ?_ ?_
    | exact hR _ _ _
    | refine le_obind2 fun _ _ => ?_
    | refine le_obindH fun _ => ?_
    | refine le_spanK (fun _ _ _ => ?_) (fun _ _ => ?_)
    | exact hc _ _ _
    | refine le_bif ?_ ?_
    | refine le_guardK ?_ ?_ ?_
    | refine le_mapK fun _ _ => ?_
    | refine le_panK fun _ _ => ?_
    | refine le_funK fun _ _ => ?_
    | exact le_refl _
    | apply_assumption
noncomputable def b15 (cf : CallF) (R : Rec) : Rec := fun i l h =>
 br4 i 0 l (fun a0 a1 a2 a3 => t15_0 cf R a0 a1 a2 a3 h) <|
 br6 i 1 l (fun a0 a1 a3 a12 a13 a14 => t15_1 cf R a0 a1 a3 a12 a13 a14 h) <|
 br8 i 2 l (fun a0 a1 a3 a9 a10 a12 a13 a14 => t15_2 cf R a0 a1 a3 a9 a10 a12 a13 a14 h) <|
 .fail
theorem r15 {T : Tab} {cf : CallF} (hc : leC cf (CL T)) (n : Nat) : leR (recN (b15 cf) n) (J15 T) := recN_le (fun R hR i l h => by
  unfold b15
  refine le_br4 (J := fun i l => J15 T i l h) (fun _ a0 a1 a2 a3 => le_e (fun hn => e15_0 rfl hn) ((m15 hc hR).1 a0 a1 a2 a3 h)) ?_
  refine le_br6 (J := fun i l => J15 T i l h) (fun _ a0 a1 a3 a12 a13 a14 => le_e (fun hn => e15_1 rfl hn) ((m15 hc hR).2.1 a0 a1 a3 a12 a13 a14 h)) ?_
  refine le_br8 (J := fun i l => J15 T i l h) (fun _ a0 a1 a3 a9 a10 a12 a13 a14 => le_e (fun hn => e15_2 rfl hn) ((m15 hc hR).2.2 a0 a1 a3 a9 a10 a12 a13 a14 h)) ?_
  exact le_fail _) n
theorem m16 {cf cf' : CallF} {R R' : Rec} (hc : ∀ f l h, le (cf f l h) (cf' f l h)) (hR : ∀ i l h, le (R i l h) (R' i l h)) :
  (∀ (a0 a1 a2 : IV) (h : H), le (t16_0 cf R a0 a1 a2 h) (t16_0 cf' R' a0 a1 a2 h)) ∧
  (∀ (a0 a1 a2 a13 a14 a15 : IV) (h : H), le (t16_1 cf R a0 a1 a2 a13 a14 a15 h) (t16_1 cf' R' a0 a1 a2 a13 a14 a15 h)) ∧
  (∀ (a0 a1 a2 a13 a14 a15 : IV) (h : H), le (t16_2 cf R a0 a1 a2 a13 a14 a15 h) (t16_2 cf' R' a0 a1 a2 a13 a14 a15 h)) ∧
  (∀ (a0 a1 a2 a7 a13 a14 a15 a31 : IV) (h : H), le (t16_3 cf R a0 a1 a2 a7 a13 a14 a15 a31 h) (t16_3 cf' R' a0 a1 a2 a7 a13 a14 a15 a31 h)) ∧
  (∀ (a0 a1 a55 a56 a57 : IV) (h : H), le (t16_5 cf R a0 a1 a55 a56 a57 h) (t16_5 cf' R' a0 a1 a55 a56 a57 h)) ∧
  (∀ (a0 a1 a2 a7 a13 a14 a15 a35 a36 a37 : IV) (h : H), le (t16_4 cf R a0 a1 a2 a7 a13 a14 a15 a35 a36 a37 h) (t16_4 cf' R' a0 a1 a2 a7 a13 a14 a15 a35 a36 a37 h)) ∧
  (∀ (a0 a1 a55 a56 a57 : IV) (h : H), le (t16_6 cf R a0 a1 a55 a56 a57 h) (t16_6 cf' R' a0 a1 a55 a56 a57 h)) ∧
  (∀ (a0 a1 a11 a12 a55 a56 a57 : IV) (h : H), le (t16_7 cf R a0 a1 a11 a12 a55 a56 a57 h) (t16_7 cf' R' a0 a1 a11 a12 a55 a56 a57 h)) := by
  refine ⟨?_, ?_, ?_, ?_, ?_, ?_, ?_, ?_⟩
  all_goals intros
  all_goals first | unfold t16_0 | unfold t16_1 | unfold t16_2 | unfold t16_3 | unfold t16_5 | unfold t16_4 | unfold t16_6 | unfold t16_7
  all_goals
  with_reducible repeat' first
    | refine le_obind fun _ => ?_
    | refine le_callP ?_ (fun _ _ => ?_) (fun _ _ => ?_)
    | refine le_condK ?_ ?_
    | exact hR _ _ _
    | refine le_obind2 fun _ _ => ?_
    | refine le_obindH fun _ => ?_
    | refine le_spanK (fun _ _ _ => ?_) (fun _ _ => ?_)
    | exact hc _ _ _
    | refine le_bif ?_ ?_
    | refine le_guardK ?_ ?_ ?_
    | refine le_mapK fun _ _ => ?_
    | refine le_panK fun _ _ => ?_
    | refine le_funK fun _ _ => ?_
    | exact le_refl _
    | apply_assumption
noncomputable def b16 (cf : CallF) (R : Rec) : Rec := fun i l h =>
 br3 i 0 l (fun a0 a1 a2 => t16_0 cf R a0 a1 a2 h) <|
 br6 i 1 l (fun a0 a1 a2 a13 a14 a15 => t16_1 cf R a0 a1 a2 a13 a14 a15 h) <|
 br6 i 2 l (fun a0 a1 a2 a13 a14 a15 => t16_2 cf R a0 a1 a2 a13 a14 a15 h) <|
 br8 i 3 l (fun a0 a1 a2 a7 a13 a14 a15 a31 => t16_3 cf R a0 a1 a2 a7 a13 a14 a15 a31 h) <|
 br5 i 5 l (fun a0 a1 a55 a56 a57 => t16_5 cf R a0 a1 a55 a56 a57 h) <|
 br10 i 4 l (fun a0 a1 a2 a7 a13 a14 a15 a35 a36 a37 => t16_4 cf R a0 a1 a2 a7 a13 a14 a15 a35 a36 a37 h) <|
 br5 i 6 l (fun a0 a1 a55 a56 a57 => t16_6 cf R a0 a1 a55 a56 a57 h) <|
 br7 i 7 l (fun a0 a1 a11 a12 a55 a56 a57 => t16_7 cf R a0 a1 a11 a12 a55 a56 a57 h) <|
 .fail
theorem r16 {T : Tab} {cf : CallF} (hc : leC cf (CL T)) (n : Nat) : leR (recN (b16 cf) n) (J16 T) := recN_le (fun R hR i l h => by
  unfold b16
  refine le_br3 (J := fun i l => J16 T i l h) (fun _ a0 a1 a2 => le_e (fun hn => e16_0 rfl hn) ((m16 hc hR).1 a0 a1 a2 h)) ?_
  refine le_br6 (J := fun i l => J16 T i l h) (fun _ a0 a1 a2 a13 a14 a15 => le_e (fun hn => e16_1 rfl hn) ((m16 hc hR).2.1 a0 a1 a2 a13 a14 a15 h)) ?_
  refine le_br6 (J := fun i l => J16 T i l h) (fun _ a0 a1 a2 a13 a14 a15 => le_e (fun hn => e16_2 rfl hn) ((m16 hc hR).2.2.1 a0 a1 a2 a13 a14 a15 h)) ?_
  refine le_br8 (J := fun i l => J16 T i l h) (fun _ a0 a1 a2 a7 a13 a14 a15 a31 => le_e (fun hn => e16_3 rfl hn) ((m16 hc hR).2.2.2.1 a0 a1 a2 a7 a13 a14 a15 a31 h)) ?_
  refine le_br5 (J := fun i l => J16 T i l h) (fun _ a0 a1 a55 a56 a57 => le_e (fun hn => e16_5 rfl hn) ((m16 hc hR).2.2.2.2.1 a0 a1 a55 a56 a57 h)) ?_
  refine le_br10 (J := fun i l => J16 T i l h) (fun _ a0 a1 a2 a7 a13 a14 a15 a35 a36 a37 => le_e (fun hn => e16_4 rfl hn) ((m16 hc hR).2.2.2.2.2.1 a0 a1 a2 a7 a13 a14 a15 a35 a36 a37 h)) ?_
  refine le_br5 (J := fun i l => J16 T i l h) (fun _ a0 a1 a55 a56 a57 => le_e (fun hn => e16_6 rfl hn) ((m16 hc hR).2.2.2.2.2.2.1 a0 a1 a55 a56 a57 h)) ?_
  refine le_br7 (J := fun i l => J16 T i l h) (fun _ a0 a1 a11 a12 a55 a56 a57 => le_e (fun hn => e16_7 rfl hn) ((m16 hc hR).2.2.2.2.2.2.2 a0 a1 a11 a12 a55 a56 a57 h)) ?_
  exact le_fail _) n
theorem m17 {cf cf' : CallF} {R R' : Rec} (hc : ∀ f l h, le (cf f l h) (cf' f l h)) (hR : ∀ i l h, le (R i l h) (R' i l h)) :
  (∀ (a0 : IV) (h : H), le (t17_0 cf R a0 h) (t17_0 cf' R' a0 h)) ∧
  (∀ (a0 a4 a5 a6 : IV) (h : H), le (t17_1 cf R a0 a4 a5 a6 h) (t17_1 cf' R' a0 a4 a5 a6 h)) ∧
  (∀ (a0 a4 a5 a6 : IV) (h : H), le (t17_2 cf R a0 a4 a5 a6 h) (t17_2 cf' R' a0 a4 a5 a6 h)) := by
  refine ⟨?_, ?_, ?_⟩
  all_goals intros
  all_goals first | unfold t17_0 | unfold t17_1 | unfold t17_2
  all_goals
  with_reducible repeat' first
    | refine le_obind fun _ => ?_
    | refine le_callP ?_ (fun _ _ => ?_) (fun _ _ => ?_)
    | refine le_condK ?_ ?_
    | exact hR _ _ _
    | refine le_obind2 fun _ _ => ?_
    | refine le_obindH fun _ => ?_
    | refine le_spanK (fun _ _ _ => ?_) (fun _ _ => ?_)
    | exact hc _ _ _
    | refine le_bif ?_ ?_
    | refine le_guardK ?_ ?_ ?_
    | refine le_mapK fun _ _ => ?_
    | refine le_panK fun _ _ => ?_
    | refine le_funK fun _ _ => ?_
    | exact le_refl _
    | apply_assumption
noncomputable def q17_0 (cf : CallF) (R : Rec) (a0 : IV) (h : H) : CRes :=
 Qo (Qls a0) fun x1 =>
 Qo (Qgtr x1 (.int .i64 65536)) fun x2 =>
 Qif x2
 (Qc (cf 33 [(.int .i64 0), (.int .i64 4)] h) .pan fun x3 h4 =>
 .ok (.tup [.nilSlice, x3]) h4)
 (R 1 [a0, .nilSlice, (.bool false), (.int .i64 0)] h)
theorem qe17_0 : q17_0 = t17_0 := by
  unfold q17_0
  try simp only [QE]
  try rfl
noncomputable def q17_1p4 (cf : CallF) (R : Rec) (h74 : H) (x54 : IV) (a4 : IV) (a0 : IV) (x76 : IV) (x52 : IV) : CRes :=
 Qo (QlA 3 h74 x54) fun x77 =>
 Qo2 (Qbsl false 3 z13 1 [(0, x77)] h74) fun x78 h79 =>
 Qo2 (appK 3 32 h79 a4 x78) fun x80 h81 =>
 R 2 [a0, x80, x76, x52] h81
noncomputable def q17_1p3 (cf : CallF) (R : Rec) (h50 : H) (x51 : IV) (x53 : IV) (a6 : IV) (a5 : IV) (a4 : IV) (a0 : IV) (x52 : IV) : CRes :=
 Qo2 (QnI h50 z13) fun x54 h55 =>
 QoH (QsA 3 h55 x54 x51) fun h56 =>
 Qo (Qneq x53 (.int .i64 0)) fun x57 =>
 Qif x57
 (Qc (cf 33 [a6, x53] h56) .pan fun x58 h59 =>
 .ok (.tup [.nilSlice, x58]) h59)
 (Qsp a5 false h56 (fun k60 =>
 Qo (Qfad 0 x54) fun x63 =>
 Qo (Ql0 h56 x63) fun x64 =>
 Qo (Qeql x64 (.int .i64 4)) fun x65 =>
 k60 x65 h56) fun x61 h62 =>
 Qsp x61 true h62 (fun k66 =>
 Qo (Qfad 1 x54) fun x69 =>
 Qo (Ql0 h62 x69) fun x70 =>
 Qo (Qse x70 (.str ⟨6, 111524889126244⟩)) fun x71 =>
 k66 x71 h62) fun x67 h68 =>
 Qsp a5 false h68 (fun k72 =>
 Qo (Qpk x61 (some x67) (some (.bool false))) fun x75 =>
 k72 x75 h68) fun x73 h74 =>
 Qo (Qpk a5 (some (.bool true)) (some x73)) fun x76 =>
 q17_1p4 cf R h74 x54 a4 a0 x76 x52)
noncomputable def q17_1p2 (cf : CallF) (R : Rec) (x24 : IV) (x26 : IV) (h27 : H) (x7 : IV) (a6 : IV) (a0 : IV) (a4 : IV) (a5 : IV) : CRes :=
 Qo (Qpk x24 (some (.bool true)) (some x26)) fun x29 =>
 Qsp x29 false h27 (fun k30 =>
 Qo (Qeql x7 (.int .u8 13)) fun x33 =>
 k30 x33 h27) fun x31 h32 =>
 Qo (Qpk x29 (some (.bool true)) (some x31)) fun x34 =>
 Qif x34
 (Qo (Qadd a6 (.int .i64 1)) fun x35 =>
 R 1 [a0, a4, a5, x35] h32)
 (Qc (cf 34 [a0, a6, (.str ⟨2, 12079⟩)] h32) .pan fun x36 h37 =>
 Qsp x36 false h37 (fun k38 =>
 Qc (cf 34 [a0, a6, (.str ⟨2, 10799⟩)] h37) .pan fun x41 h42 =>
 k38 x41 h42) fun x39 h40 =>
 Qo (Qpk x36 (some (.bool true)) (some x39)) fun x43 =>
 Qif x43
 (Qc (cf 35 [a0, a6] h40) .pan fun x44 h45 =>
 Qo (Qlss x44 (.int .i64 0)) fun x46 =>
 Qif x46
 (Qc (cf 33 [a6, (.int .i64 20)] h45) .pan fun x47 h48 =>
 .ok (.tup [.nilSlice, x47]) h48)
 (R 1 [a0, a4, a5, x44] h45))
 (Qc (cf 36 [a0, a6] h40) .pan fun x49 h50 =>
 Qo (Qext x49 0) fun x51 =>
 Qo (Qext x49 1) fun x52 =>
 Qo (Qext x49 2) fun x53 =>
 q17_1p3 cf R h50 x51 x53 a6 a5 a4 a0 x52))
noncomputable def q17_1p1 (cf : CallF) (R : Rec) (x12 : IV) (a6 : IV) (h11 : H) (a4 : IV) (a0 : IV) (x7 : IV) (a5 : IV) : CRes :=
 Qif x12
 (Qo (Qbld z13 p1 [(0, (.int .i64 5)), (2, a6)]) fun x13 =>
 Qo2 (Qbsl false 3 z13 1 [(0, x13)] h11) fun x14 h15 =>
 Qo2 (appK 3 32 h15 a4 x14) fun x16 h17 =>
 Qo (Qadd a6 (.int .i64 1)) fun x18 =>
 R 2 [a0, x16, (.bool false), x18] h17)
 (Qo (Qeql x7 (.int .u8 32)) fun x19 =>
 Qsp x19 false h11 (fun k20 =>
 Qo (Qeql x7 (.int .u8 9)) fun x23 =>
 k20 x23 h11) fun x21 h22 =>
 Qo (Qpk x19 (some (.bool true)) (some x21)) fun x24 =>
 Qsp x24 false h22 (fun k25 =>
 Qo (Qeql x7 (.int .u8 10)) fun x28 =>
 k25 x28 h22) fun x26 h27 =>
 q17_1p2 cf R x24 x26 h27 x7 a6 a0 a4 a5)
noncomputable def q17_1 (cf : CallF) (R : Rec) (a0 : IV) (a4 : IV) (a5 : IV) (a6 : IV) (h : H) : CRes :=
 Qo (Qls a0) fun x5 =>
 Qo (Qlss a6 x5) fun x6 =>
 Qif x6
 (Qo (Qis a0 a6) fun x7 =>
 Qo (Qeql x7 (.int .u8 10)) fun x8 =>
 Qsp x8 true h (fun k9 =>
 k9 a5 h) fun x10 h11 =>
 Qo (Qpk x8 (some x10) (some (.bool false))) fun x12 =>
 q17_1p1 cf R x12 a6 h11 a4 a0 x7 a5)
 (Qo (Qls a0) fun x82 =>
 Qo (Qbld z13 p1 [(0, (.int .i64 6)), (2, x82)]) fun x83 =>
 Qo2 (Qbsl false 3 z13 1 [(0, x83)] h) fun x84 h85 =>
 Qo2 (appK 3 32 h85 a4 x84) fun x86 h87 =>
 .ok (.tup [x86, .nilSlice]) h87)
theorem qe17_1 : q17_1 = t17_1 := by
  unfold q17_1 q17_1p1 q17_1p2 q17_1p3 q17_1p4
  try simp only [QE]
  try rfl
noncomputable def q17_2 (cf : CallF) (R : Rec) (a0 : IV) (a4 : IV) (a5 : IV) (a6 : IV) (h : H) : CRes :=
 Qo (Qle a4) fun x88 =>
 Qo (Qgtr x88 (.int .i64 16384)) fun x89 =>
 Qif x89
 (Qo (Qle a4) fun x90 =>
 Qo (Qsub x90 (.int .i64 1)) fun x91 =>
 Qo (Qix 3 a4 x91) fun x92 =>
 Qo (Qfad 2 x92) fun x93 =>
 Qo (Ql0 h x93) fun x94 =>
 Qc (cf 33 [x94, (.int .i64 2)] h) .pan fun x95 h96 =>
 .ok (.tup [.nilSlice, x95]) h96)
 (R 1 [a0, a4, a5, a6] h)
theorem qe17_2 : q17_2 = t17_2 := by
  unfold q17_2
  try simp only [QE]
  try rfl
noncomputable def bt17 (cf : CallF) (R : Rec) : Rec := fun i l h =>
 br1 i 0 l (fun a0 => t17_0 cf R a0 h) <|
 br4 i 1 l (fun a0 a4 a5 a6 => t17_1 cf R a0 a4 a5 a6 h) <|
 br4 i 2 l (fun a0 a4 a5 a6 => t17_2 cf R a0 a4 a5 a6 h) <|
 .fail
noncomputable def b17 (cf : CallF) (R : Rec) : Rec := fun i l h =>
 brQ1 i 0 l (fun a0 => q17_0 cf R a0 h) <|
 brQ4 i 1 l (fun a0 a4 a5 a6 => q17_1 cf R a0 a4 a5 a6 h) <|
 brQ4 i 2 l (fun a0 a4 a5 a6 => q17_2 cf R a0 a4 a5 a6 h) <|
 .fail
theorem be17 : b17 = bt17 := by
  unfold b17 bt17
  simp only [qe17_0, qe17_1, qe17_2, brQ1_eq, brQ4_eq]
theorem r17 {T : Tab} {cf : CallF} (hc : leC cf (CL T)) (n : Nat) : leR (recN (b17 cf) n) (J17 T) := be17 ▸ recN_le (fun R hR i l h => by
  unfold bt17
  refine le_br1 (J := fun i l => J17 T i l h) (fun _ a0 => le_e (fun hn => e17_0 rfl hn) ((m17 hc hR).1 a0 h)) ?_
  refine le_br4 (J := fun i l => J17 T i l h) (fun _ a0 a4 a5 a6 => le_e (fun hn => e17_1 rfl hn) ((m17 hc hR).2.1 a0 a4 a5 a6 h)) ?_
  refine le_br4 (J := fun i l => J17 T i l h) (fun _ a0 a4 a5 a6 => le_e (fun hn => e17_2 rfl hn) ((m17 hc hR).2.2 a0 a4 a5 a6 h)) ?_
  exact le_fail _) n
theorem m18 {cf cf' : CallF} {R R' : Rec} (hc : ∀ f l h, le (cf f l h) (cf' f l h)) (hR : ∀ i l h, le (R i l h) (R' i l h)) :
  (∀ (a0 : IV) (h : H), le (t18_0 cf R a0 h) (t18_0 cf' R' a0 h)) ∧
  (∀ (a4 a5 : IV) (h : H), le (t18_1 cf R a4 a5 h) (t18_1 cf' R' a4 a5 h)) ∧
  (∀ (a4 a5 a27 : IV) (h : H), le (t18_2 cf R a4 a5 a27 h) (t18_2 cf' R' a4 a5 a27 h)) := by
  refine ⟨?_, ?_, ?_⟩
  all_goals intros
  all_goals first | unfold t18_0 | unfold t18_1 | unfold t18_2
  all_goals
  with_reducible repeat' first
    | refine le_obind fun _ => ?_
    | refine le_callP ?_ (fun _ _ => ?_) (fun _ _ => ?_)
    | refine le_condK ?_ ?_
    | exact hR _ _ _
    | refine le_obind2 fun _ _ => ?_
    | refine le_obindH fun _ => ?_
    | refine le_spanK (fun _ _ _ => ?_) (fun _ _ => ?_)
    | exact hc _ _ _
    | refine le_bif ?_ ?_
    | refine le_guardK ?_ ?_ ?_
    | refine le_mapK fun _ _ => ?_
    | refine le_panK fun _ _ => ?_
    | refine le_funK fun _ _ => ?_
    | exact le_refl _
    | apply_assumption
noncomputable def q18_0 (cf : CallF) (R : Rec) (a0 : IV) (h : H) : CRes :=
 Qo (Qbld z14 p15 [(0, a0)]) fun x1 =>
 Qo2 (QnI h (Qcells x1)) fun x2 h3 =>
 Qc (cf 37 [x2] h3) .pan fun x4 h5 =>
 Qo2 (Qbsl false 5 z4 1 [(0, x4)] h5) fun x6 h7 =>
 R 1 [x2, x6] h7
theorem qe18_0 : q18_0 = t18_0 := by
  unfold q18_0
  try simp only [QE]
  try rfl
noncomputable def q18_1p1 (cf : CallF) (R : Rec) (x15 : IV) (h11 : H) (x14 : IV) (a4 : IV) (a5 : IV) : CRes :=
 Qo (Qfad 1 x15) fun x16 =>
 Qo (Ql0 h11 x16) fun x17 =>
 Qo (Qix 3 x14 x17) fun x18 =>
 Qo (Qfad 0 x18) fun x19 =>
 Qo (Ql0 h11 x19) fun x20 =>
 Qo (Qneq x20 (.int .i64 6)) fun x21 =>
 R 2 [a4, a5, x21] h11
noncomputable def q18_1 (cf : CallF) (R : Rec) (a4 : IV) (a5 : IV) (h : H) : CRes :=
 Qc (cf 38 [a4] h) (fun v8 h9 =>
 .pan v8 h9) fun x10 h11 =>
 guardK x10 (Qo (Qnil a4) fun x12 =>
 Qo (Qfad 0 x12) fun x13 =>
 Qo (Ql0 h11 x13) fun x14 =>
 Qo (Qnil a4) fun x15 =>
 q18_1p1 cf R x15 h11 x14 a4 a5)
 (R 2 [a4, a5, (.bool false)] h11)
 (CRes.fail)
theorem qe18_1 : q18_1 = t18_1 := by
  unfold q18_1 q18_1p1
  try simp only [QE]
  try rfl
noncomputable def q18_2 (cf : CallF) (R : Rec) (a4 : IV) (a5 : IV) (a27 : IV) (h : H) : CRes :=
 Qif a27
 (Qc (cf 37 [a4] h) .pan fun x22 h23 =>
 Qo2 (Qbsl false 5 z4 1 [(0, x22)] h23) fun x24 h25 =>
 Qo2 (appK 5 96 h25 a5 x24) fun x26 h27 =>
 R 1 [a4, x26] h27)
 (Qc (cf 38 [a4] h) .pan fun x28 h29 =>
 Qo (Qnot x28) fun x30 =>
 Qif x30
 (Qo (Qnil a4) fun x31 =>
 Qo (Qfad 2 x31) fun x32 =>
 Qo (QlA 2 h29 x32) fun x33 =>
 Qo2 (Qbsl false 2 [(.int .i64 0), (.int .i64 0)] 1 [(0, x33)] h29) fun x34 h35 =>
 .ok (.tup [.nilSlice, x34]) h35)
 (.ok (.tup [a5, .nilSlice]) h29))
theorem qe18_2 : q18_2 = t18_2 := by
  unfold q18_2
  try simp only [QE]
  try rfl
noncomputable def bt18 (cf : CallF) (R : Rec) : Rec := fun i l h =>
 br1 i 0 l (fun a0 => t18_0 cf R a0 h) <|
 br2 i 1 l (fun a4 a5 => t18_1 cf R a4 a5 h) <|
 br3 i 2 l (fun a4 a5 a27 => t18_2 cf R a4 a5 a27 h) <|
 .fail
noncomputable def b18 (cf : CallF) (R : Rec) : Rec := fun i l h =>
 brQ1 i 0 l (fun a0 => q18_0 cf R a0 h) <|
 brQ2 i 1 l (fun a4 a5 => q18_1 cf R a4 a5 h) <|
 brQ3 i 2 l (fun a4 a5 a27 => q18_2 cf R a4 a5 a27 h) <|
 .fail
theorem be18 : b18 = bt18 := by
  unfold b18 bt18
  simp only [qe18_0, qe18_1, qe18_2, brQ1_eq, brQ2_eq, brQ3_eq]
theorem r18 {T : Tab} {cf : CallF} (hc : leC cf (CL T)) (n : Nat) : leR (recN (b18 cf) n) (J18 T) := be18 ▸ recN_le (fun R hR i l h => by
  unfold bt18
  refine le_br1 (J := fun i l => J18 T i l h) (fun _ a0 => le_e (fun hn => e18_0 rfl hn) ((m18 hc hR).1 a0 h)) ?_
  refine le_br2 (J := fun i l => J18 T i l h) (fun _ a4 a5 => le_e (fun hn => e18_1 rfl hn) ((m18 hc hR).2.1 a4 a5 h)) ?_
  refine le_br3 (J := fun i l => J18 T i l h) (fun _ a4 a5 a27 => le_e (fun hn => e18_2 rfl hn) ((m18 hc hR).2.2 a4 a5 a27 h)) ?_
  exact le_fail _) n
theorem m21 {cf cf' : CallF} {R R' : Rec} (hc : ∀ f l h, le (cf f l h) (cf' f l h)) (hR : ∀ i l h, le (R i l h) (R' i l h)) :
  (∀ (a0 a1 : IV) (h : H), le (t21_0 cf R a0 a1 h) (t21_0 cf' R' a0 a1 h)) ∧
  (∀ (a1 a2 a4 a13 a14 a15 : IV) (h : H), le (t21_1 cf R a1 a2 a4 a13 a14 a15 h) (t21_1 cf' R' a1 a2 a4 a13 a14 a15 h)) ∧
  (∀ (a1 a2 a4 a27 a28 a29 : IV) (h : H), le (t21_2 cf R a1 a2 a4 a27 a28 a29 h) (t21_2 cf' R' a1 a2 a4 a27 a28 a29 h)) ∧
  (∀ (a1 a2 a4 a27 a28 a29 : IV) (h : H), le (t21_3 cf R a1 a2 a4 a27 a28 a29 h) (t21_3 cf' R' a1 a2 a4 a27 a28 a29 h)) := by
  refine ⟨?_, ?_, ?_, ?_⟩
  all_goals intros
  all_goals first | unfold t21_0 | unfold t21_1 | unfold t21_2 | unfold t21_3
  all_goals
  with_reducible repeat' first
    | refine le_obind fun _ => ?_
    | refine le_callP ?_ (fun _ _ => ?_) (fun _ _ => ?_)
    | refine le_condK ?_ ?_
    | exact hR _ _ _
    | refine le_obind2 fun _ _ => ?_
    | refine le_obindH fun _ => ?_
    | refine le_spanK (fun _ _ _ => ?_) (fun _ _ => ?_)
    | exact hc _ _ _
    | refine le_bif ?_ ?_
    | refine le_guardK ?_ ?_ ?_
    | refine le_mapK fun _ _ => ?_
    | refine le_panK fun _ _ => ?_
    | refine le_funK fun _ _ => ?_
    | exact le_refl _
    | apply_assumption
noncomputable def b21 (cf : CallF) (R : Rec) : Rec := fun i l h =>
 br2 i 0 l (fun a0 a1 => t21_0 cf R a0 a1 h) <|
 br6 i 1 l (fun a1 a2 a4 a13 a14 a15 => t21_1 cf R a1 a2 a4 a13 a14 a15 h) <|
 br6 i 2 l (fun a1 a2 a4 a27 a28 a29 => t21_2 cf R a1 a2 a4 a27 a28 a29 h) <|
 br6 i 3 l (fun a1 a2 a4 a27 a28 a29 => t21_3 cf R a1 a2 a4 a27 a28 a29 h) <|
 .fail
theorem r21 {T : Tab} {cf : CallF} (hc : leC cf (CL T)) (n : Nat) : leR (recN (b21 cf) n) (J21 T) := recN_le (fun R hR i l h => by
  unfold b21
  refine le_br2 (J := fun i l => J21 T i l h) (fun _ a0 a1 => le_e (fun hn => e21_0 rfl hn) ((m21 hc hR).1 a0 a1 h)) ?_
  refine le_br6 (J := fun i l => J21 T i l h) (fun _ a1 a2 a4 a13 a14 a15 => le_e (fun hn => e21_1 rfl hn) ((m21 hc hR).2.1 a1 a2 a4 a13 a14 a15 h)) ?_
  refine le_br6 (J := fun i l => J21 T i l h) (fun _ a1 a2 a4 a27 a28 a29 => le_e (fun hn => e21_2 rfl hn) ((m21 hc hR).2.2.1 a1 a2 a4 a27 a28 a29 h)) ?_
  refine le_br6 (J := fun i l => J21 T i l h) (fun _ a1 a2 a4 a27 a28 a29 => le_e (fun hn => e21_3 rfl hn) ((m21 hc hR).2.2.2 a1 a2 a4 a27 a28 a29 h)) ?_
  exact le_fail _) n
theorem m22 {cf cf' : CallF} {R R' : Rec} (hc : ∀ f l h, le (cf f l h) (cf' f l h)) (hR : ∀ i l h, le (R i l h) (R' i l h)) : (∀ (a0 a1 a2 : IV) (h : H), le (t22_0 cf R a0 a1 a2 h) (t22_0 cf' R' a0 a1 a2 h)) := by
  intros
  unfold t22_0
  with_reducible repeat' first
    | refine le_obind fun _ => ?_
    | refine le_callP ?_ (fun _ _ => ?_) (fun _ _ => ?_)
    | refine le_condK ?_ ?_
    | exact hR _ _ _
    | refine le_obind2 fun _ _ => ?_
    | refine le_obindH fun _ => ?_
    | refine le_spanK (fun _ _ _ => ?_) (fun _ _ => ?_)
    | exact hc _ _ _
    | refine le_bif ?_ ?_
    | refine le_guardK ?_ ?_ ?_
    | refine le_mapK fun _ _ => ?_
    | refine le_panK fun _ _ => ?_
    | refine le_funK fun _ _ => ?_
    | exact le_refl _
    | apply_assumption
noncomputable def b22 (cf : CallF) (R : Rec) : Rec := fun i l h =>
 br3 i 0 l (fun a0 a1 a2 => t22_0 cf R a0 a1 a2 h) <|
 .fail
theorem r22 {T : Tab} {cf : CallF} (hc : leC cf (CL T)) (n : Nat) : leR (recN (b22 cf) n) (J22 T) := recN_le (fun R hR i l h => by
  unfold b22
  refine le_br3 (J := fun i l => J22 T i l h) (fun _ a0 a1 a2 => le_e (fun hn => e22_0 rfl hn) ((m22 hc hR) a0 a1 a2 h)) ?_
  exact le_fail _) n
noncomputable def u23_0 (cf : CallF) (L : List IV → I.Mode → H → Option (I.Mode × H)) (D : List IV → Rec) (R : Rec) (a0 a1 : IV) (h : H) : CRes :=
 obind2 (newI h (IV.cells a1)) fun x1 h2 =>
 obind2 (newI h2 [(.int .i64 0)]) fun x3 h4 =>
 obind2 (newI h4 [(.int .i64 0), (.int .i64 0)]) fun x5 h6 =>
 callP (cf 42 [a0] h6) .pan fun x7 h8 =>
 obind (unI .not x7) fun x9 =>
 condK x9
 (obind (bldK [(.int .i64 0), (.int .i64 0)] [(0, 1), (1, 1)] [(1, (.int .i64 1))]) fun x10 =>
 obindH (stA 1 h8 x3 (.int .i64 0)) fun h11 =>
 obindH (stA 2 h11 x5 x10) fun h12 =>
 obind (ld0 h12 x3) fun x13 =>
 obind (ldA 2 h12 x5) fun x14 =>
 .ok (.tup [x13, x14]) h12)
 (obind (ldA 6 h8 x1) fun x15 =>
 callP (cf 45 [a0, x15] h8) (dfP (L [x3, x5]) fun h16 =>
 obind (ld0 h16 x3) fun x17 =>
 obind (ldA 2 h16 x5) fun x18 =>
 .ok (.tup [x17, x18]) h16) fun x19 h20 =>
 obind (bldK [(.int .i64 0), (.int .i64 0)] [(0, 1), (1, 1)] []) fun x21 =>
 obindH (stA 1 h20 x3 x19) fun h22 =>
 obindH (stA 2 h22 x5 x21) fun h23 =>
 dfK (L [x3, x5] .ret h23) fun h24 =>
 obind (ld0 h24 x3) fun x25 =>
 obind (ldA 2 h24 x5) fun x26 =>
 .ok (.tup [x25, x26]) h24)
theorem m23 {cf cf' : CallF} {L L' : List IV → I.Mode → H → Option (I.Mode × H)} {D D' : List IV → Rec} {R R' : Rec} (hc : ∀ f l h, le (cf f l h) (cf' f l h)) (hL : ∀ l st h, leO (L l st h) (L' l st h)) (hD : ∀ l i x h, le (D l i x h) (D' l i x h)) (hR : ∀ i l h, le (R i l h) (R' i l h)) : (∀ (a0 a1 : IV) (h : H), le (u23_0 cf L D R a0 a1 h) (u23_0 cf' L' D' R' a0 a1 h)) := by
  intros
  unfold u23_0
  with_reducible repeat' first
    | refine le_obind fun _ => ?_
    | refine le_callP ?_ (fun _ _ => ?_) (fun _ _ => ?_)
    | refine le_condK ?_ ?_
    | exact hR _ _ _
    | refine le_obind2 fun _ _ => ?_
    | refine le_obindH fun _ => ?_
    | refine le_spanK (fun _ _ _ => ?_) (fun _ _ => ?_)
    | exact hc _ _ _
    | refine le_bif ?_ ?_
    | refine le_guardK ?_ ?_ ?_
    | refine le_mapK fun _ _ => ?_
    | refine le_panK fun _ _ => ?_
    | refine le_funK fun _ _ => ?_
    | exact hD _ _ _ _
    | refine le_dfP (hL _) (fun _ => ?_)
    | refine le_dfK (hL _ _ _) (fun _ => ?_)
    | exact le_refl _
    | apply_assumption
noncomputable def b23 (cf : CallF) (R : Rec) : Rec := fun i l h =>
 br2 i 0 l (fun a0 a1 => u23_0 cf (L44 cf) (fun _ _ _ _ => .fail) R a0 a1 h) <|
 .fail
theorem r23 {T : Tab} {cf : CallF} (hc : leC cf (CL T)) (n : Nat) : leR (recN (b23 cf) n) (J23 T) := recN_le (fun R hR i l h => by
  unfold b23
  refine le_br2 (J := fun i l => J23 T i l h) (fun _ a0 a1 => le_e (fun hn => e23_0 (r := u23_0 (CL T) (fun l => LV Tryz.prog (CL T) 44 l) (fun _ _ _ _ => .fail) (J23 T) a0 a1 h) rfl hn) ((m23 hc (lle44 hc) (fun _ _ _ _ => le_fail _) hR) a0 a1 h)) ?_
  exact le_fail _) n
theorem m24 {cf cf' : CallF} {R R' : Rec} (hc : ∀ f l h, le (cf f l h) (cf' f l h)) (hR : ∀ i l h, le (R i l h) (R' i l h)) :
  (∀ (a0 a1 a2 a3 a4 a5 a6 a7 : IV) (h : H), le (t24_0 cf R a0 a1 a2 a3 a4 a5 a6 a7 h) (t24_0 cf' R' a0 a1 a2 a3 a4 a5 a6 a7 h)) ∧
  (∀ (a0 a1 a2 a3 a7 a16 : IV) (h : H), le (t24_1 cf R a0 a1 a2 a3 a7 a16 h) (t24_1 cf' R' a0 a1 a2 a3 a7 a16 h)) ∧
  (∀ (a0 a1 a2 a3 a7 a17 : IV) (h : H), le (t24_2 cf R a0 a1 a2 a3 a7 a17 h) (t24_2 cf' R' a0 a1 a2 a3 a7 a17 h)) ∧
  (∀ (a0 a1 a2 a3 a16 : IV) (h : H), le (t24_3 cf R a0 a1 a2 a3 a16 h) (t24_3 cf' R' a0 a1 a2 a3 a16 h)) := by
  refine ⟨?_, ?_, ?_, ?_⟩
  all_goals intros
  all_goals first | unfold t24_0 | unfold t24_1 | unfold t24_2 | unfold t24_3
  all_goals
  with_reducible repeat' first
    | refine le_obind fun _ => ?_
    | refine le_callP ?_ (fun _ _ => ?_) (fun _ _ => ?_)
    | refine le_condK ?_ ?_
    | exact hR _ _ _
    | refine le_obind2 fun _ _ => ?_
    | refine le_obindH fun _ => ?_
    | refine le_spanK (fun _ _ _ => ?_) (fun _ _ => ?_)
    | exact hc _ _ _
    | refine le_bif ?_ ?_
    | refine le_guardK ?_ ?_ ?_
    | refine le_mapK fun _ _ => ?_
    | refine le_panK fun _ _ => ?_
    | refine le_funK fun _ _ => ?_
    | exact le_refl _
    | apply_assumption
noncomputable def b24 (cf : CallF) (R : Rec) : Rec := fun i l h =>
 br8 i 0 l (fun a0 a1 a2 a3 a4 a5 a6 a7 => t24_0 cf R a0 a1 a2 a3 a4 a5 a6 a7 h) <|
 br6 i 1 l (fun a0 a1 a2 a3 a7 a16 => t24_1 cf R a0 a1 a2 a3 a7 a16 h) <|
 br6 i 2 l (fun a0 a1 a2 a3 a7 a17 => t24_2 cf R a0 a1 a2 a3 a7 a17 h) <|
 br5 i 3 l (fun a0 a1 a2 a3 a16 => t24_3 cf R a0 a1 a2 a3 a16 h) <|
 .fail
theorem r24 {T : Tab} {cf : CallF} (hc : leC cf (CL T)) (n : Nat) : leR (recN (b24 cf) n) (J24 T) := recN_le (fun R hR i l h => by
  unfold b24
  refine le_br8 (J := fun i l => J24 T i l h) (fun _ a0 a1 a2 a3 a4 a5 a6 a7 => le_e (fun hn => e24_0 rfl hn) ((m24 hc hR).1 a0 a1 a2 a3 a4 a5 a6 a7 h)) ?_
  refine le_br6 (J := fun i l => J24 T i l h) (fun _ a0 a1 a2 a3 a7 a16 => le_e (fun hn => e24_1 rfl hn) ((m24 hc hR).2.1 a0 a1 a2 a3 a7 a16 h)) ?_
  refine le_br6 (J := fun i l => J24 T i l h) (fun _ a0 a1 a2 a3 a7 a17 => le_e (fun hn => e24_2 rfl hn) ((m24 hc hR).2.2.1 a0 a1 a2 a3 a7 a17 h)) ?_
  refine le_br5 (J := fun i l => J24 T i l h) (fun _ a0 a1 a2 a3 a16 => le_e (fun hn => e24_3 rfl hn) ((m24 hc hR).2.2.2 a0 a1 a2 a3 a16 h)) ?_
  exact le_fail _) n
theorem m26 {cf cf' : CallF} {R R' : Rec} (hc : ∀ f l h, le (cf f l h) (cf' f l h)) (hR : ∀ i l h, le (R i l h) (R' i l h)) : (∀ (a0 a1 a2 a3 a4 : IV) (h : H), le (t26_0 cf R a0 a1 a2 a3 a4 h) (t26_0 cf' R' a0 a1 a2 a3 a4 h)) := by
  intros
  unfold t26_0
  with_reducible repeat' first
    | refine le_obind fun _ => ?_
    | refine le_callP ?_ (fun _ _ => ?_) (fun _ _ => ?_)
    | refine le_condK ?_ ?_
    | exact hR _ _ _
    | refine le_obind2 fun _ _ => ?_
    | refine le_obindH fun _ => ?_
    | refine le_spanK (fun _ _ _ => ?_) (fun _ _ => ?_)
    | exact hc _ _ _
    | refine le_bif ?_ ?_
    | refine le_guardK ?_ ?_ ?_
    | refine le_mapK fun _ _ => ?_
    | refine le_panK fun _ _ => ?_
    | refine le_funK fun _ _ => ?_
    | exact le_refl _
    | apply_assumption
noncomputable def b26 (cf : CallF) (R : Rec) : Rec := fun i l h =>
 br5 i 0 l (fun a0 a1 a2 a3 a4 => t26_0 cf R a0 a1 a2 a3 a4 h) <|
 .fail
theorem r26 {T : Tab} {cf : CallF} (hc : leC cf (CL T)) (n : Nat) : leR (recN (b26 cf) n) (J26 T) := recN_le (fun R hR i l h => by
  unfold b26
  refine le_br5 (J := fun i l => J26 T i l h) (fun _ a0 a1 a2 a3 a4 => le_e (fun hn => e26_0 rfl hn) ((m26 hc hR) a0 a1 a2 a3 a4 h)) ?_
  exact le_fail _) n
theorem m27 {cf cf' : CallF} {R R' : Rec} (hc : ∀ f l h, le (cf f l h) (cf' f l h)) (hR : ∀ i l h, le (R i l h) (R' i l h)) :
  (∀ (a0 a1 a2 : IV) (h : H), le (t27_0 cf R a0 a1 a2 h) (t27_0 cf' R' a0 a1 a2 h)) ∧
  (∀ (a0 a1 a2 : IV) (h : H), le (t27_1 cf R a0 a1 a2 h) (t27_1 cf' R' a0 a1 a2 h)) := by
  refine ⟨?_, ?_⟩
  all_goals intros
  all_goals first | unfold t27_0 | unfold t27_1
  all_goals
  with_reducible repeat' first
    | refine le_obind fun _ => ?_
    | refine le_callP ?_ (fun _ _ => ?_) (fun _ _ => ?_)
    | refine le_condK ?_ ?_
    | exact hR _ _ _
    | refine le_obind2 fun _ _ => ?_
    | refine le_obindH fun _ => ?_
    | refine le_spanK (fun _ _ _ => ?_) (fun _ _ => ?_)
    | exact hc _ _ _
    | refine le_bif ?_ ?_
    | refine le_guardK ?_ ?_ ?_
    | refine le_mapK fun _ _ => ?_
    | refine le_panK fun _ _ => ?_
    | refine le_funK fun _ _ => ?_
    | exact le_refl _
    | apply_assumption
noncomputable def b27 (cf : CallF) (R : Rec) : Rec := fun i l h =>
 br3 i 0 l (fun a0 a1 a2 => t27_0 cf R a0 a1 a2 h) <|
 br3 i 1 l (fun a0 a1 a2 => t27_1 cf R a0 a1 a2 h) <|
 .fail
theorem r27 {T : Tab} {cf : CallF} (hc : leC cf (CL T)) (n : Nat) : leR (recN (b27 cf) n) (J27 T) := recN_le (fun R hR i l h => by
  unfold b27
  refine le_br3 (J := fun i l => J27 T i l h) (fun _ a0 a1 a2 => le_e (fun hn => e27_0 rfl hn) ((m27 hc hR).1 a0 a1 a2 h)) ?_
  refine le_br3 (J := fun i l => J27 T i l h) (fun _ a0 a1 a2 => le_e (fun hn => e27_1 rfl hn) ((m27 hc hR).2 a0 a1 a2 h)) ?_
  exact le_fail _) n
theorem m28 {cf cf' : CallF} {R R' : Rec} (hc : ∀ f l h, le (cf f l h) (cf' f l h)) (hR : ∀ i l h, le (R i l h) (R' i l h)) :
  (∀ (a0 a1 a2 : IV) (h : H), le (t28_0 cf R a0 a1 a2 h) (t28_0 cf' R' a0 a1 a2 h)) ∧
  (∀ (a0 a1 a5 a6 a10 : IV) (h : H), le (t28_1 cf R a0 a1 a5 a6 a10 h) (t28_1 cf' R' a0 a1 a5 a6 a10 h)) ∧
  (∀ (a0 a1 a5 a6 a13 a14 a135 a136 a137 : IV) (h : H), le (t28_3 cf R a0 a1 a5 a6 a13 a14 a135 a136 a137 h) (t28_3 cf' R' a0 a1 a5 a6 a13 a14 a135 a136 a137 h)) ∧
  (∀ (a0 a5 a6 a10 a11 a12 : IV) (h : H), le (t28_2 cf R a0 a5 a6 a10 a11 a12 h) (t28_2 cf' R' a0 a5 a6 a10 a11 a12 h)) ∧
  (∀ (a0 a1 a5 a6 a13 a14 a135 a136 a137 : IV) (h : H), le (t28_4 cf R a0 a1 a5 a6 a13 a14 a135 a136 a137 h) (t28_4 cf' R' a0 a1 a5 a6 a13 a14 a135 a136 a137 h)) ∧
  (∀ (a0 a1 a5 a6 a14 : IV) (h : H), le (t28_5 cf R a0 a1 a5 a6 a14 h) (t28_5 cf' R' a0 a1 a5 a6 a14 h)) ∧
  (∀ (a0 a1 a5 a6 : IV) (h : H), le (t28_6 cf R a0 a1 a5 a6 h) (t28_6 cf' R' a0 a1 a5 a6 h)) ∧
  (∀ (a5 a6 : IV) (h : H), le (t28_7 cf R a5 a6 h) (t28_7 cf' R' a5 a6 h)) ∧
  (∀ (a0 a5 a6 a19 : IV) (h : H), le (t28_8 cf R a0 a5 a6 a19 h) (t28_8 cf' R' a0 a5 a6 a19 h)) := by
  refine ⟨?_, ?_, ?_, ?_, ?_, ?_, ?_, ?_, ?_⟩
  all_goals intros
  all_goals first | unfold t28_0 | unfold t28_1 | unfold t28_3 | unfold t28_2 | unfold t28_4 | unfold t28_5 | unfold t28_6 | unfold t28_7 | unfold t28_8
  all_goals
  with_reducible repeat' first
    | refine le_obind fun _ => ?_
    | refine le_callP ?_ (fun _ _ => ?_) (fun _ _ => ?_)
    | refine le_condK ?_ ?_
    | exact hR _ _ _
    | refine le_obind2 fun _ _ => ?_
    | refine le_obindH fun _ => ?_
    | refine le_spanK (fun _ _ _ => ?_) (fun _ _ => ?_)
    | exact hc _ _ _
    | refine le_bif ?_ ?_
    | refine le_guardK ?_ ?_ ?_
    | refine le_mapK fun _ _ => ?_
    | refine le_panK fun _ _ => ?_
    | refine le_funK fun _ _ => ?_
    | exact le_refl _
    | apply_assumption
noncomputable def b28 (cf : CallF) (R : Rec) : Rec := fun i l h =>
 br3 i 0 l (fun a0 a1 a2 => t28_0 cf R a0 a1 a2 h) <|
 br5 i 1 l (fun a0 a1 a5 a6 a10 => t28_1 cf R a0 a1 a5 a6 a10 h) <|
 br9 i 3 l (fun a0 a1 a5 a6 a13 a14 a135 a136 a137 => t28_3 cf R a0 a1 a5 a6 a13 a14 a135 a136 a137 h) <|
 br6 i 2 l (fun a0 a5 a6 a10 a11 a12 => t28_2 cf R a0 a5 a6 a10 a11 a12 h) <|
 br9 i 4 l (fun a0 a1 a5 a6 a13 a14 a135 a136 a137 => t28_4 cf R a0 a1 a5 a6 a13 a14 a135 a136 a137 h) <|
 br5 i 5 l (fun a0 a1 a5 a6 a14 => t28_5 cf R a0 a1 a5 a6 a14 h) <|
 br4 i 6 l (fun a0 a1 a5 a6 => t28_6 cf R a0 a1 a5 a6 h) <|
 br2 i 7 l (fun a5 a6 => t28_7 cf R a5 a6 h) <|
 br4 i 8 l (fun a0 a5 a6 a19 => t28_8 cf R a0 a5 a6 a19 h) <|
 .fail
theorem r28 {T : Tab} {cf : CallF} (hc : leC cf (CL T)) (n : Nat) : leR (recN (b28 cf) n) (J28 T) := recN_le (fun R hR i l h => by
  unfold b28
  refine le_br3 (J := fun i l => J28 T i l h) (fun _ a0 a1 a2 => le_e (fun hn => e28_0 rfl hn) ((m28 hc hR).1 a0 a1 a2 h)) ?_
  refine le_br5 (J := fun i l => J28 T i l h) (fun _ a0 a1 a5 a6 a10 => le_e (fun hn => e28_1 rfl hn) ((m28 hc hR).2.1 a0 a1 a5 a6 a10 h)) ?_
  refine le_br9 (J := fun i l => J28 T i l h) (fun _ a0 a1 a5 a6 a13 a14 a135 a136 a137 => le_e (fun hn => e28_3 rfl hn) ((m28 hc hR).2.2.1 a0 a1 a5 a6 a13 a14 a135 a136 a137 h)) ?_
  refine le_br6 (J := fun i l => J28 T i l h) (fun _ a0 a5 a6 a10 a11 a12 => le_e (fun hn => e28_2 rfl hn) ((m28 hc hR).2.2.2.1 a0 a5 a6 a10 a11 a12 h)) ?_
  refine le_br9 (J := fun i l => J28 T i l h) (fun _ a0 a1 a5 a6 a13 a14 a135 a136 a137 => le_e (fun hn => e28_4 rfl hn) ((m28 hc hR).2.2.2.2.1 a0 a1 a5 a6 a13 a14 a135 a136 a137 h)) ?_
  refine le_br5 (J := fun i l => J28 T i l h) (fun _ a0 a1 a5 a6 a14 => le_e (fun hn => e28_5 rfl hn) ((m28 hc hR).2.2.2.2.2.1 a0 a1 a5 a6 a14 h)) ?_
  refine le_br4 (J := fun i l => J28 T i l h) (fun _ a0 a1 a5 a6 => le_e (fun hn => e28_6 rfl hn) ((m28 hc hR).2.2.2.2.2.2.1 a0 a1 a5 a6 h)) ?_
  refine le_br2 (J := fun i l => J28 T i l h) (fun _ a5 a6 => le_e (fun hn => e28_7 rfl hn) ((m28 hc hR).2.2.2.2.2.2.2.1 a5 a6 h)) ?_
  refine le_br4 (J := fun i l => J28 T i l h) (fun _ a0 a5 a6 a19 => le_e (fun hn => e28_8 rfl hn) ((m28 hc hR).2.2.2.2.2.2.2.2 a0 a5 a6 a19 h)) ?_
  exact le_fail _) n
theorem m29 {cf cf' : CallF} {R R' : Rec} (hc : ∀ f l h, le (cf f l h) (cf' f l h)) (hR : ∀ i l h, le (R i l h) (R' i l h)) :
  (∀ (a0 a1 a2 : IV) (h : H), le (t29_0 cf R a0 a1 a2 h) (t29_0 cf' R' a0 a1 a2 h)) ∧
  (∀ (a0 a4 : IV) (h : H), le (t29_1 cf R a0 a4 h) (t29_1 cf' R' a0 a4 h)) := by
  refine ⟨?_, ?_⟩
  all_goals intros
  all_goals first | unfold t29_0 | unfold t29_1
  all_goals
  with_reducible repeat' first
    | refine le_obind fun _ => ?_
    | refine le_callP ?_ (fun _ _ => ?_) (fun _ _ => ?_)
    | refine le_condK ?_ ?_
    | exact hR _ _ _
    | refine le_obind2 fun _ _ => ?_
    | refine le_obindH fun _ => ?_
    | refine le_spanK (fun _ _ _ => ?_) (fun _ _ => ?_)
    | exact hc _ _ _
    | refine le_bif ?_ ?_
    | refine le_guardK ?_ ?_ ?_
    | refine le_mapK fun _ _ => ?_
    | refine le_panK fun _ _ => ?_
    | refine le_funK fun _ _ => ?_
    | exact le_refl _
    | apply_assumption
noncomputable def b29 (cf : CallF) (R : Rec) : Rec := fun i l h =>
 br3 i 0 l (fun a0 a1 a2 => t29_0 cf R a0 a1 a2 h) <|
 br2 i 1 l (fun a0 a4 => t29_1 cf R a0 a4 h) <|
 .fail
theorem r29 {T : Tab} {cf : CallF} (hc : leC cf (CL T)) (n : Nat) : leR (recN (b29 cf) n) (J29 T) := recN_le (fun R hR i l h => by
  unfold b29
  refine le_br3 (J := fun i l => J29 T i l h) (fun _ a0 a1 a2 => le_e (fun hn => e29_0 rfl hn) ((m29 hc hR).1 a0 a1 a2 h)) ?_
  refine le_br2 (J := fun i l => J29 T i l h) (fun _ a0 a4 => le_e (fun hn => e29_1 rfl hn) ((m29 hc hR).2 a0 a4 h)) ?_
  exact le_fail _) n
theorem m31 {cf cf' : CallF} {R R' : Rec} (hc : ∀ f l h, le (cf f l h) (cf' f l h)) (hR : ∀ i l h, le (R i l h) (R' i l h)) :
  (∀ (a0 a1 a2 : IV) (h : H), le (t31_0 cf R a0 a1 a2 h) (t31_0 cf' R' a0 a1 a2 h)) ∧
  (∀ (a0 a1 a5 : IV) (h : H), le (t31_1 cf R a0 a1 a5 h) (t31_1 cf' R' a0 a1 a5 h)) ∧
  (∀ (a0 a1 a5 : IV) (h : H), le (t31_2 cf R a0 a1 a5 h) (t31_2 cf' R' a0 a1 a5 h)) ∧
  (∀ (a0 a1 a5 a6 a7 a8 a9 a72 a73 a74 : IV) (h : H), le (t31_3 cf R a0 a1 a5 a6 a7 a8 a9 a72 a73 a74 h) (t31_3 cf' R' a0 a1 a5 a6 a7 a8 a9 a72 a73 a74 h)) ∧
  (∀ (a0 a1 a5 a6 a7 a8 a9 a85 a86 a87 : IV) (h : H), le (t31_4 cf R a0 a1 a5 a6 a7 a8 a9 a85 a86 a87 h) (t31_4 cf' R' a0 a1 a5 a6 a7 a8 a9 a85 a86 a87 h)) ∧
  (∀ (a0 a1 a5 a6 a7 a8 a9 a98 a99 a100 : IV) (h : H), le (t31_5 cf R a0 a1 a5 a6 a7 a8 a9 a98 a99 a100 h) (t31_5 cf' R' a0 a1 a5 a6 a7 a8 a9 a98 a99 a100 h)) ∧
  (∀ (a0 a1 a5 a6 a7 a8 a9 a98 a99 a100 : IV) (h : H), le (t31_6 cf R a0 a1 a5 a6 a7 a8 a9 a98 a99 a100 h) (t31_6 cf' R' a0 a1 a5 a6 a7 a8 a9 a98 a99 a100 h)) ∧
  (∀ (a0 a1 a5 a6 a7 a9 a133 a134 a135 : IV) (h : H), le (t31_7 cf R a0 a1 a5 a6 a7 a9 a133 a134 a135 h) (t31_7 cf' R' a0 a1 a5 a6 a7 a9 a133 a134 a135 h)) ∧
  (∀ (a0 a1 a5 a6 a7 a9 a133 a134 a135 : IV) (h : H), le (t31_8 cf R a0 a1 a5 a6 a7 a9 a133 a134 a135 h) (t31_8 cf' R' a0 a1 a5 a6 a7 a9 a133 a134 a135 h)) := by
  refine ⟨?_, ?_, ?_, ?_, ?_, ?_, ?_, ?_, ?_⟩
  all_goals intros
  all_goals first | unfold t31_0 | unfold t31_1 | unfold t31_2 | unfold t31_3 | unfold t31_4 | unfold t31_5 | unfold t31_6 | unfold t31_7 | unfold t31_8
  all_goals
  with_reducible repeat' first
    | refine le_obind fun _ => ?_
    | refine le_callP ?_ (fun _ _ => ?_) (fun _ _ => ?_)
    | refine le_condK ?_ ?_
    | exact hR _ _ _
    | refine le_obind2 fun _ _ => ?_
    | refine le_obindH fun _ => ?_
    | refine le_spanK (fun _ _ _ => ?_) (fun _ _ => ?_)
    | exact hc _ _ _
    | refine le_bif ?_ ?_
    | refine le_guardK ?_ ?_ ?_
    | refine le_mapK fun _ _ => ?_
    | refine le_panK fun _ _ => ?_
    | refine le_funK fun _ _ => ?_
    | exact le_refl _
    | apply_assumption
noncomputable def b31 (cf : CallF) (R : Rec) : Rec := fun i l h =>
 br3 i 0 l (fun a0 a1 a2 => t31_0 cf R a0 a1 a2 h) <|
 br3 i 1 l (fun a0 a1 a5 => t31_1 cf R a0 a1 a5 h) <|
 br3 i 2 l (fun a0 a1 a5 => t31_2 cf R a0 a1 a5 h) <|
 br10 i 3 l (fun a0 a1 a5 a6 a7 a8 a9 a72 a73 a74 => t31_3 cf R a0 a1 a5 a6 a7 a8 a9 a72 a73 a74 h) <|
 br10 i 4 l (fun a0 a1 a5 a6 a7 a8 a9 a85 a86 a87 => t31_4 cf R a0 a1 a5 a6 a7 a8 a9 a85 a86 a87 h) <|
 br10 i 5 l (fun a0 a1 a5 a6 a7 a8 a9 a98 a99 a100 => t31_5 cf R a0 a1 a5 a6 a7 a8 a9 a98 a99 a100 h) <|
 br10 i 6 l (fun a0 a1 a5 a6 a7 a8 a9 a98 a99 a100 => t31_6 cf R a0 a1 a5 a6 a7 a8 a9 a98 a99 a100 h) <|
 br9 i 7 l (fun a0 a1 a5 a6 a7 a9 a133 a134 a135 => t31_7 cf R a0 a1 a5 a6 a7 a9 a133 a134 a135 h) <|
 br9 i 8 l (fun a0 a1 a5 a6 a7 a9 a133 a134 a135 => t31_8 cf R a0 a1 a5 a6 a7 a9 a133 a134 a135 h) <|
 .fail
theorem r31 {T : Tab} {cf : CallF} (hc : leC cf (CL T)) (n : Nat) : leR (recN (b31 cf) n) (J31 T) := recN_le (fun R hR i l h => by
  unfold b31
  refine le_br3 (J := fun i l => J31 T i l h) (fun _ a0 a1 a2 => le_e (fun hn => e31_0 rfl hn) ((m31 hc hR).1 a0 a1 a2 h)) ?_
  refine le_br3 (J := fun i l => J31 T i l h) (fun _ a0 a1 a5 => le_e (fun hn => e31_1 rfl hn) ((m31 hc hR).2.1 a0 a1 a5 h)) ?_
  refine le_br3 (J := fun i l => J31 T i l h) (fun _ a0 a1 a5 => le_e (fun hn => e31_2 rfl hn) ((m31 hc hR).2.2.1 a0 a1 a5 h)) ?_
  refine le_br10 (J := fun i l => J31 T i l h) (fun _ a0 a1 a5 a6 a7 a8 a9 a72 a73 a74 => le_e (fun hn => e31_3 rfl hn) ((m31 hc hR).2.2.2.1 a0 a1 a5 a6 a7 a8 a9 a72 a73 a74 h)) ?_
  refine le_br10 (J := fun i l => J31 T i l h) (fun _ a0 a1 a5 a6 a7 a8 a9 a85 a86 a87 => le_e (fun hn => e31_4 rfl hn) ((m31 hc hR).2.2.2.2.1 a0 a1 a5 a6 a7 a8 a9 a85 a86 a87 h)) ?_
  refine le_br10 (J := fun i l => J31 T i l h) (fun _ a0 a1 a5 a6 a7 a8 a9 a98 a99 a100 => le_e (fun hn => e31_5 rfl hn) ((m31 hc hR).2.2.2.2.2.1 a0 a1 a5 a6 a7 a8 a9 a98 a99 a100 h)) ?_
  refine le_br10 (J := fun i l => J31 T i l h) (fun _ a0 a1 a5 a6 a7 a8 a9 a98 a99 a100 => le_e (fun hn => e31_6 rfl hn) ((m31 hc hR).2.2.2.2.2.2.1 a0 a1 a5 a6 a7 a8 a9 a98 a99 a100 h)) ?_
  refine le_br9 (J := fun i l => J31 T i l h) (fun _ a0 a1 a5 a6 a7 a9 a133 a134 a135 => le_e (fun hn => e31_7 rfl hn) ((m31 hc hR).2.2.2.2.2.2.2.1 a0 a1 a5 a6 a7 a9 a133 a134 a135 h)) ?_
  refine le_br9 (J := fun i l => J31 T i l h) (fun _ a0 a1 a5 a6 a7 a9 a133 a134 a135 => le_e (fun hn => e31_8 rfl hn) ((m31 hc hR).2.2.2.2.2.2.2.2 a0 a1 a5 a6 a7 a9 a133 a134 a135 h)) ?_
  exact le_fail _) n
theorem m34 {cf cf' : CallF} {R R' : Rec} (hc : ∀ f l h, le (cf f l h) (cf' f l h)) (hR : ∀ i l h, le (R i l h) (R' i l h)) : (∀ (a0 a1 a2 : IV) (h : H), le (t34_0 cf R a0 a1 a2 h) (t34_0 cf' R' a0 a1 a2 h)) := by
  intros
  unfold t34_0
  with_reducible repeat' first
    | refine le_obind fun _ => ?_
    | refine le_callP ?_ (fun _ _ => ?_) (fun _ _ => ?_)
    | refine le_condK ?_ ?_
    | exact hR _ _ _
    | refine le_obind2 fun _ _ => ?_
    | refine le_obindH fun _ => ?_
    | refine le_spanK (fun _ _ _ => ?_) (fun _ _ => ?_)
    | exact hc _ _ _
    | refine le_bif ?_ ?_
    | refine le_guardK ?_ ?_ ?_
    | refine le_mapK fun _ _ => ?_
    | refine le_panK fun _ _ => ?_
    | refine le_funK fun _ _ => ?_
    | exact le_refl _
    | apply_assumption
noncomputable def q34_0p1 (cf : CallF) (R : Rec) (x4 : IV) (h : H) (a2 : IV) (a1 : IV) (a0 : IV) : CRes :=
 Qsp x4 true h (fun k5 =>
 Qo (Qls a2) fun x8 =>
 Qo (Qadd a1 x8) fun x9 =>
 Qo (slcStr a0 (some a1) (some x9)) fun x10 =>
 Qo (Qse x10 a2) fun x11 =>
 k5 x11 h) fun x6 h7 =>
 Qo (Qpk x4 (some x6) (some (.bool false))) fun x12 =>
 .ok x12 h7
noncomputable def q34_0 (cf : CallF) (R : Rec) (a0 : IV) (a1 : IV) (a2 : IV) (h : H) : CRes :=
 Qo (Qls a0) fun x1 =>
 Qo (Qsub x1 a1) fun x2 =>
 Qo (Qls a2) fun x3 =>
 Qo (Qgeq x2 x3) fun x4 =>
 q34_0p1 cf R x4 h a2 a1 a0
theorem qe34_0 : q34_0 = t34_0 := by
  unfold q34_0 q34_0p1
  try simp only [QE]
  try rfl
noncomputable def bt34 (cf : CallF) (R : Rec) : Rec := fun i l h =>
 br3 i 0 l (fun a0 a1 a2 => t34_0 cf R a0 a1 a2 h) <|
 .fail
noncomputable def b34 (cf : CallF) (R : Rec) : Rec := fun i l h =>
 brQ3 i 0 l (fun a0 a1 a2 => q34_0 cf R a0 a1 a2 h) <|
 .fail
theorem be34 : b34 = bt34 := by
  unfold b34 bt34
  simp only [qe34_0, brQ3_eq]
theorem r34 {T : Tab} {cf : CallF} (hc : leC cf (CL T)) (n : Nat) : leR (recN (b34 cf) n) (J34 T) := be34 ▸ recN_le (fun R hR i l h => by
  unfold bt34
  refine le_br3 (J := fun i l => J34 T i l h) (fun _ a0 a1 a2 => le_e (fun hn => e34_0 rfl hn) ((m34 hc hR) a0 a1 a2 h)) ?_
  exact le_fail _) n
theorem m36 {cf cf' : CallF} {R R' : Rec} (hc : ∀ f l h, le (cf f l h) (cf' f l h)) (hR : ∀ i l h, le (R i l h) (R' i l h)) :
  (∀ (a0 a1 : IV) (h : H), le (t36_0 cf R a0 a1 h) (t36_0 cf' R' a0 a1 h)) ∧
  (∀ (a0 a1 a4 a7 : IV) (h : H), le (t36_1 cf R a0 a1 a4 a7 h) (t36_1 cf' R' a0 a1 a4 a7 h)) ∧
  (∀ (a0 a1 a4 a7 a8 : IV) (h : H), le (t36_2 cf R a0 a1 a4 a7 a8 h) (t36_2 cf' R' a0 a1 a4 a7 a8 h)) ∧
  (∀ (a0 a1 a4 a7 : IV) (h : H), le (t36_4 cf R a0 a1 a4 a7 h) (t36_4 cf' R' a0 a1 a4 a7 h)) ∧
  (∀ (a0 a1 a4 a7 a8 a9 : IV) (h : H), le (t36_3 cf R a0 a1 a4 a7 a8 a9 h) (t36_3 cf' R' a0 a1 a4 a7 a8 a9 h)) := by
  refine ⟨?_, ?_, ?_, ?_, ?_⟩
  all_goals intros
  all_goals first | unfold t36_0 | unfold t36_1 | unfold t36_2 | unfold t36_4 | unfold t36_3
  all_goals
  with_reducible repeat' first
    | refine le_obind fun _ => ?_
    | refine le_callP ?_ (fun _ _ => ?_) (fun _ _ => ?_)
    | refine le_condK ?_ ?_
    | exact hR _ _ _
    | refine le_obind2 fun _ _ => ?_
    | refine le_obindH fun _ => ?_
    | refine le_spanK (fun _ _ _ => ?_) (fun _ _ => ?_)
    | exact hc _ _ _
    | refine le_bif ?_ ?_
    | refine le_guardK ?_ ?_ ?_
    | refine le_mapK fun _ _ => ?_
    | refine le_panK fun _ _ => ?_
    | refine le_funK fun _ _ => ?_
    | exact le_refl _
    | apply_assumption
noncomputable def q36_0 (cf : CallF) (R : Rec) (a0 : IV) (a1 : IV) (h : H) : CRes :=
 Qo2 (QnI h z13) fun x1 h2 =>
 Qo (Qis a0 a1) fun x3 =>
 Qo (Qeql x3 (.int .u8 96)) fun x4 =>
 Qif x4
 (Qo (Qadd a1 (.int .i64 1)) fun x5 =>
 R 1 [a0, a1, x1, x5] h2)
 (R 1 [a0, a1, x1, a1] h2)
theorem qe36_0 : q36_0 = t36_0 := by
  unfold q36_0
  try simp only [QE]
  try rfl
noncomputable def q36_1p1 (cf : CallF) (R : Rec) (x14 : IV) (a0 : IV) (a1 : IV) (a4 : IV) (a7 : IV) (h10 : H) : CRes :=
 Qif x14
 (R 2 [a0, a1, a4, a7, a7] h10)
 (Qo (Qis a0 a1) fun x15 =>
 Qc (cf 53 [x15] h10) .pan fun x16 h17 =>
 Qif x16
 (R 4 [a0, a1, a4, a7] h17)
 (Qc (cf 55 [a0, a1] h17) .pan fun x18 h19 =>
 Qo (Qse x18 (.str ⟨0, 0⟩)) fun x20 =>
 Qif x20
 (Qo (Qbld z13 p1 []) fun x21 =>
 QoH (QsA 3 h19 a4 x21) fun h22 =>
 Qo (QlA 3 h22 a4) fun x23 =>
 .ok (.tup [x23, (.int .i64 0), (.int .i64 20)]) h22)
 (Qo (Qbld z13 p1 [(0, (.int .i64 3)), (1, x18), (2, a1)]) fun x24 =>
 Qo (Qls x18) fun x25 =>
 Qo (Qadd a1 x25) fun x26 =>
 QoH (QsA 3 h19 a4 x24) fun h27 =>
 Qo (QlA 3 h27 a4) fun x28 =>
 .ok (.tup [x28, x26, (.int .i64 0)]) h27)))
noncomputable def q36_1 (cf : CallF) (R : Rec) (a0 : IV) (a1 : IV) (a4 : IV) (a7 : IV) (h : H) : CRes :=
 Qo (Qls a0) fun x6 =>
 Qo (Qlss a7 x6) fun x7 =>
 Qsp x7 true h (fun k8 =>
 Qo (Qis a0 a7) fun x11 =>
 Qc (cf 51 [x11] h) .pan fun x12 h13 =>
 k8 x12 h13) fun x9 h10 =>
 Qo (Qpk x7 (some x9) (some (.bool false))) fun x14 =>
 q36_1p1 cf R x14 a0 a1 a4 a7 h10
theorem qe36_1 : q36_1 = t36_1 := by
  unfold q36_1 q36_1p1
  try simp only [QE]
  try rfl
noncomputable def q36_2p1 (cf : CallF) (R : Rec) (x37 : IV) (a7 : IV) (a0 : IV) (a1 : IV) (a4 : IV) (a8 : IV) (h33 : H) : CRes :=
 Qif x37
 (Qo (Qadd a7 (.int .i64 1)) fun x38 =>
 R 2 [a0, a1, a4, x38, a8] h33)
 (Qo (Qsub a7 a8) fun x39 =>
 Qo (Qgtr x39 (.int .i64 64)) fun x40 =>
 Qif x40
 (Qo (Qbld z13 p1 []) fun x41 =>
 QoH (QsA 3 h33 a4 x41) fun h42 =>
 Qo (QlA 3 h42 a4) fun x43 =>
 .ok (.tup [x43, (.int .i64 0), (.int .i64 4)]) h42)
 (Qo (Qis a0 a1) fun x44 =>
 Qo (Qeql x44 (.int .u8 96)) fun x45 =>
 Qif x45
 (R 3 [a0, a1, a4, a7, a8, (.int .i64 4)] h33)
 (R 3 [a0, a1, a4, a7, a8, (.int .i64 1)] h33)))
noncomputable def q36_2 (cf : CallF) (R : Rec) (a0 : IV) (a1 : IV) (a4 : IV) (a7 : IV) (a8 : IV) (h : H) : CRes :=
 Qo (Qls a0) fun x29 =>
 Qo (Qlss a7 x29) fun x30 =>
 Qsp x30 true h (fun k31 =>
 Qo (Qis a0 a7) fun x34 =>
 Qc (cf 52 [x34] h) .pan fun x35 h36 =>
 k31 x35 h36) fun x32 h33 =>
 Qo (Qpk x30 (some x32) (some (.bool false))) fun x37 =>
 q36_2p1 cf R x37 a7 a0 a1 a4 a8 h33
theorem qe36_2 : q36_2 = t36_2 := by
  unfold q36_2 q36_2p1
  try simp only [QE]
  try rfl
noncomputable def q36_4p2 (cf : CallF) (R : Rec) (x66 : IV) (h67 : H) (a4 : IV) (a0 : IV) (a1 : IV) (a7 : IV) : CRes :=
 Qo (Qext x66 2) fun x70 =>
 Qo (Qneq x70 (.int .i64 0)) fun x71 =>
 Qif x71
 (Qo (Qbld z13 p1 []) fun x72 =>
 QoH (QsA 3 h67 a4 x72) fun h73 =>
 Qo (QlA 3 h73 a4) fun x74 =>
 .ok (.tup [x74, (.int .i64 0), x70]) h73)
 (Qo (slcStr a0 (some a1) (some a7)) fun x75 =>
 Qo (Qbld z13 p1 [(0, (.int .i64 2)), (1, x75), (2, a1)]) fun x76 =>
 QoH (QsA 3 h67 a4 x76) fun h77 =>
 Qo (QlA 3 h77 a4) fun x78 =>
 .ok (.tup [x78, a7, (.int .i64 0)]) h77)
noncomputable def q36_4p1 (cf : CallF) (R : Rec) (x47 : IV) (h56 : H) (x49 : IV) (x55 : IV) (a7 : IV) (a0 : IV) (a1 : IV) (a4 : IV) : CRes :=
 Qsp x47 true h56 (fun k59 =>
 Qo (Qpk x49 (some (.bool true)) (some x55)) fun x62 =>
 k59 x62 h56) fun x60 h61 =>
 Qo (Qpk x47 (some x60) (some (.bool false))) fun x63 =>
 Qif x63
 (Qo (Qadd a7 (.int .i64 1)) fun x64 =>
 R 4 [a0, a1, a4, x64] h61)
 (Qo (slcStr a0 (some a1) (some a7)) fun x65 =>
 Qc (cf 54 [x65] h61) .pan fun x66 h67 =>
 Qo (Qext x66 0) fun x68 =>
 Qo (Qext x66 1) fun x69 =>
 q36_4p2 cf R x66 h67 a4 a0 a1 a7)
noncomputable def q36_4 (cf : CallF) (R : Rec) (a0 : IV) (a1 : IV) (a4 : IV) (a7 : IV) (h : H) : CRes :=
 Qo (Qls a0) fun x46 =>
 Qo (Qlss a7 x46) fun x47 =>
 Qsp x47 true h (fun k48 =>
 Qo (Qis a0 a7) fun x51 =>
 Qc (cf 52 [x51] h) .pan fun x52 h53 =>
 k48 x52 h53) fun x49 h50 =>
 Qsp x49 false h50 (fun k54 =>
 Qo (Qis a0 a7) fun x57 =>
 Qo (Qeql x57 (.int .u8 39)) fun x58 =>
 k54 x58 h50) fun x55 h56 =>
 q36_4p1 cf R x47 h56 x49 x55 a7 a0 a1 a4
theorem qe36_4 : q36_4 = t36_4 := by
  unfold q36_4 q36_4p1 q36_4p2
  try simp only [QE]
  try rfl
noncomputable def q36_3 (cf : CallF) (R : Rec) (a0 : IV) (a1 : IV) (a4 : IV) (a7 : IV) (a8 : IV) (a9 : IV) (h : H) : CRes :=
 Qo (slcStr a0 (some a8) (some a7)) fun x79 =>
 Qo (Qbld z13 p1 [(0, a9), (1, x79), (2, a1)]) fun x80 =>
 QoH (QsA 3 h a4 x80) fun h81 =>
 Qo (QlA 3 h81 a4) fun x82 =>
 .ok (.tup [x82, a7, (.int .i64 0)]) h81
theorem qe36_3 : q36_3 = t36_3 := by
  unfold q36_3
  try simp only [QE]
  try rfl
noncomputable def bt36 (cf : CallF) (R : Rec) : Rec := fun i l h =>
 br2 i 0 l (fun a0 a1 => t36_0 cf R a0 a1 h) <|
 br4 i 1 l (fun a0 a1 a4 a7 => t36_1 cf R a0 a1 a4 a7 h) <|
 br5 i 2 l (fun a0 a1 a4 a7 a8 => t36_2 cf R a0 a1 a4 a7 a8 h) <|
 br4 i 4 l (fun a0 a1 a4 a7 => t36_4 cf R a0 a1 a4 a7 h) <|
 br6 i 3 l (fun a0 a1 a4 a7 a8 a9 => t36_3 cf R a0 a1 a4 a7 a8 a9 h) <|
 .fail
noncomputable def b36 (cf : CallF) (R : Rec) : Rec := fun i l h =>
 brQ2 i 0 l (fun a0 a1 => q36_0 cf R a0 a1 h) <|
 brQ4 i 1 l (fun a0 a1 a4 a7 => q36_1 cf R a0 a1 a4 a7 h) <|
 brQ5 i 2 l (fun a0 a1 a4 a7 a8 => q36_2 cf R a0 a1 a4 a7 a8 h) <|
 brQ4 i 4 l (fun a0 a1 a4 a7 => q36_4 cf R a0 a1 a4 a7 h) <|
 brQ6 i 3 l (fun a0 a1 a4 a7 a8 a9 => q36_3 cf R a0 a1 a4 a7 a8 a9 h) <|
 .fail
theorem be36 : b36 = bt36 := by
  unfold b36 bt36
  simp only [qe36_0, qe36_1, qe36_2, qe36_4, qe36_3, brQ2_eq, brQ4_eq, brQ5_eq, brQ6_eq]
theorem r36 {T : Tab} {cf : CallF} (hc : leC cf (CL T)) (n : Nat) : leR (recN (b36 cf) n) (J36 T) := be36 ▸ recN_le (fun R hR i l h => by
  unfold bt36
  refine le_br2 (J := fun i l => J36 T i l h) (fun _ a0 a1 => le_e (fun hn => e36_0 rfl hn) ((m36 hc hR).1 a0 a1 h)) ?_
  refine le_br4 (J := fun i l => J36 T i l h) (fun _ a0 a1 a4 a7 => le_e (fun hn => e36_1 rfl hn) ((m36 hc hR).2.1 a0 a1 a4 a7 h)) ?_
  refine le_br5 (J := fun i l => J36 T i l h) (fun _ a0 a1 a4 a7 a8 => le_e (fun hn => e36_2 rfl hn) ((m36 hc hR).2.2.1 a0 a1 a4 a7 a8 h)) ?_
  refine le_br4 (J := fun i l => J36 T i l h) (fun _ a0 a1 a4 a7 => le_e (fun hn => e36_4 rfl hn) ((m36 hc hR).2.2.2.1 a0 a1 a4 a7 h)) ?_
  refine le_br6 (J := fun i l => J36 T i l h) (fun _ a0 a1 a4 a7 a8 a9 => le_e (fun hn => e36_3 rfl hn) ((m36 hc hR).2.2.2.2 a0 a1 a4 a7 a8 a9 h)) ?_
  exact le_fail _) n
theorem m37 {cf cf' : CallF} {R R' : Rec} (hc : ∀ f l h, le (cf f l h) (cf' f l h)) (hR : ∀ i l h, le (R i l h) (R' i l h)) :
  (∀ (a0 : IV) (h : H), le (t37_0 cf R a0 h) (t37_0 cf' R' a0 h)) ∧
  (∀ (a0 a2 a3 : IV) (h : H), le (t37_1 cf R a0 a2 a3 h) (t37_1 cf' R' a0 a2 a3 h)) ∧
  (∀ (a0 a2 a3 : IV) (h : H), le (t37_2 cf R a0 a2 a3 h) (t37_2 cf' R' a0 a2 a3 h)) ∧
  (∀ (a0 a2 a3 : IV) (h : H), le (t37_4 cf R a0 a2 a3 h) (t37_4 cf' R' a0 a2 a3 h)) ∧
  (∀ (a0 a2 a3 : IV) (h : H), le (t37_3 cf R a0 a2 a3 h) (t37_3 cf' R' a0 a2 a3 h)) := by
  refine ⟨?_, ?_, ?_, ?_, ?_⟩
  all_goals intros
  all_goals first | unfold t37_0 | unfold t37_1 | unfold t37_2 | unfold t37_4 | unfold t37_3
  all_goals
  with_reducible repeat' first
    | refine le_obind fun _ => ?_
    | refine le_callP ?_ (fun _ _ => ?_) (fun _ _ => ?_)
    | refine le_condK ?_ ?_
    | exact hR _ _ _
    | refine le_obind2 fun _ _ => ?_
    | refine le_obindH fun _ => ?_
    | refine le_spanK (fun _ _ _ => ?_) (fun _ _ => ?_)
    | exact hc _ _ _
    | refine le_bif ?_ ?_
    | refine le_guardK ?_ ?_ ?_
    | refine le_mapK fun _ _ => ?_
    | refine le_panK fun _ _ => ?_
    | refine le_funK fun _ _ => ?_
    | exact le_refl _
    | apply_assumption
noncomputable def q37_0p2 (cf : CallF) (R : Rec) (h12 : H) (x13 : IV) (x11 : IV) (a0 : IV) (x6 : IV) (x1 : IV) : CRes :=
 QoH (QsA 1 h12 x13 x11) fun h14 =>
 Qc (cf 59 [a0, (.str ⟨1, 35⟩)] h14) .pan fun x15 h16 =>
 Qif x15
 (Qc (cf 60 [a0] h16) .pan fun x17 h18 =>
 Qo (Qfad 1 x6) fun x19 =>
 QoH (QsA 1 h18 x19 x17) fun h20 =>
 R 1 [a0, x1, x6] h20)
 (R 1 [a0, x1, x6] h16)
noncomputable def q37_0p1 (cf : CallF) (R : Rec) (h7 : H) (x6 : IV) (x5 : IV) (a0 : IV) (x1 : IV) : CRes :=
 QoH (QsA 5 h7 x6 x5) fun h8 =>
 Qc (cf 57 [a0, (.str ⟨6, 111516500389741⟩)] h8) .pan fun x9 h10 =>
 Qc (cf 58 [a0] h10) .pan fun x11 h12 =>
 Qo (Qfad 0 x6) fun x13 =>
 q37_0p2 cf R h12 x13 x11 a0 x6 x1
noncomputable def q37_0 (cf : CallF) (R : Rec) (a0 : IV) (h : H) : CRes :=
 Qo2 (QnI h z4) fun x1 h2 =>
 Qc (cf 56 [a0] h2) .pan fun x3 h4 =>
 Qo (Qbld z4 p18 [(4, x3)]) fun x5 =>
 Qo2 (QnI h4 z4) fun x6 h7 =>
 q37_0p1 cf R h7 x6 x5 a0 x1
theorem qe37_0 : q37_0 = t37_0 := by
  unfold q37_0 q37_0p1 q37_0p2
  try simp only [QE]
  try rfl
noncomputable def q37_1 (cf : CallF) (R : Rec) (a0 : IV) (a2 : IV) (a3 : IV) (h : H) : CRes :=
 Qc (cf 57 [a0, (.str ⟨1, 40⟩)] h) .pan fun x21 h22 =>
 Qc (cf 59 [a0, (.str ⟨1, 41⟩)] h22) .pan fun x23 h24 =>
 Qo (Qnot x23) fun x25 =>
 Qif x25
 (R 4 [a0, a2, a3] h24)
 (R 2 [a0, a2, a3] h24)
theorem qe37_1 : q37_1 = t37_1 := by
  unfold q37_1
  try simp only [QE]
  try rfl
noncomputable def q37_2p1 (cf : CallF) (R : Rec) (h31 : H) (a3 : IV) (a2 : IV) : CRes :=
 Qo (QlA 5 h31 a3) fun x32 =>
 QoH (QsA 5 h31 a2 x32) fun h33 =>
 Qo (QlA 5 h33 a2) fun x34 =>
 .ok x34 h33
noncomputable def q37_2 (cf : CallF) (R : Rec) (a0 : IV) (a2 : IV) (a3 : IV) (h : H) : CRes :=
 Qc (cf 57 [a0, (.str ⟨1, 59⟩)] h) .pan fun x26 h27 =>
 Qc (cf 62 [a0, (.str ⟨9, 1870936414602775522917⟩), (.int .i64 1)] h27) .pan fun x28 h29 =>
 Qo (Qfad 3 a3) fun x30 =>
 QoH (QsA 1 h29 x30 x28) fun h31 =>
 q37_2p1 cf R h31 a3 a2
theorem qe37_2 : q37_2 = t37_2 := by
  unfold q37_2 q37_2p1
  try simp only [QE]
  try rfl
noncomputable def q37_4p2 (cf : CallF) (R : Rec) (x51 : IV) (a0 : IV) (a2 : IV) (a3 : IV) (h52 : H) : CRes :=
 Qo (Qnot x51) fun x53 =>
 Qif x53
 (R 3 [a0, a2, a3] h52)
 (R 4 [a0, a2, a3] h52)
noncomputable def q37_4p1 (cf : CallF) (R : Rec) (x43 : IV) (x38 : IV) (x41 : IV) (h42 : H) (x37 : IV) (a3 : IV) (a0 : IV) (a2 : IV) : CRes :=
 bif IV.beq x43 x38 then
 Qo2 (Qbsl false 17 z9 1 [(0, x41)] h42) fun x44 h45 =>
 Qo (Ql0 h45 x37) fun x46 =>
 bif IV.beq x46 x38 then
 Qo2 (appK 17 192 h45 x38 x44) fun x47 h48 =>
 Qo (Qfad 2 a3) fun x49 =>
 QoH (QsA 1 h48 x49 x47) fun h50 =>
 Qc (cf 59 [a0, (.str ⟨1, 44⟩)] h50) .pan fun x51 h52 =>
 q37_4p2 cf R x51 a0 a2 a3 h52
 else .fail
 else .fail
noncomputable def q37_4 (cf : CallF) (R : Rec) (a0 : IV) (a2 : IV) (a3 : IV) (h : H) : CRes :=
 Qc (cf 38 [a0] h) .pan fun x35 h36 =>
 Qif x35
 (Qo (Qfad 2 a3) fun x37 =>
 Qo (Ql0 h36 x37) fun x38 =>
 Qc (cf 61 [a0] h36) (fun v39 h40 =>
 .pan v39 h40) fun x41 h42 =>
 Qo (Ql0 h42 x37) fun x43 =>
 q37_4p1 cf R x43 x38 x41 h42 x37 a3 a0 a2)
 (R 3 [a0, a2, a3] h36)
theorem qe37_4 : q37_4 = t37_4 := by
  unfold q37_4 q37_4p1 q37_4p2
  try simp only [QE]
  try rfl
noncomputable def q37_3 (cf : CallF) (R : Rec) (a0 : IV) (a2 : IV) (a3 : IV) (h : H) : CRes :=
 Qc (cf 57 [a0, (.str ⟨1, 41⟩)] h) .pan fun x54 h55 =>
 R 2 [a0, a2, a3] h55
theorem qe37_3 : q37_3 = t37_3 := by
  unfold q37_3
  try simp only [QE]
  try rfl
noncomputable def bt37 (cf : CallF) (R : Rec) : Rec := fun i l h =>
 br1 i 0 l (fun a0 => t37_0 cf R a0 h) <|
 br3 i 1 l (fun a0 a2 a3 => t37_1 cf R a0 a2 a3 h) <|
 br3 i 2 l (fun a0 a2 a3 => t37_2 cf R a0 a2 a3 h) <|
 br3 i 4 l (fun a0 a2 a3 => t37_4 cf R a0 a2 a3 h) <|
 br3 i 3 l (fun a0 a2 a3 => t37_3 cf R a0 a2 a3 h) <|
 .fail
noncomputable def b37 (cf : CallF) (R : Rec) : Rec := fun i l h =>
 brQ1 i 0 l (fun a0 => q37_0 cf R a0 h) <|
 brQ3 i 1 l (fun a0 a2 a3 => q37_1 cf R a0 a2 a3 h) <|
 brQ3 i 2 l (fun a0 a2 a3 => q37_2 cf R a0 a2 a3 h) <|
 brQ3 i 4 l (fun a0 a2 a3 => q37_4 cf R a0 a2 a3 h) <|
 brQ3 i 3 l (fun a0 a2 a3 => q37_3 cf R a0 a2 a3 h) <|
 .fail
theorem be37 : b37 = bt37 := by
  unfold b37 bt37
  simp only [qe37_0, qe37_1, qe37_2, qe37_4, qe37_3, brQ1_eq, brQ3_eq]
theorem r37 {T : Tab} {cf : CallF} (hc : leC cf (CL T)) (n : Nat) : leR (recN (b37 cf) n) (J37 T) := be37 ▸ recN_le (fun R hR i l h => by
  unfold bt37
  refine le_br1 (J := fun i l => J37 T i l h) (fun _ a0 => le_e (fun hn => e37_0 rfl hn) ((m37 hc hR).1 a0 h)) ?_
  refine le_br3 (J := fun i l => J37 T i l h) (fun _ a0 a2 a3 => le_e (fun hn => e37_1 rfl hn) ((m37 hc hR).2.1 a0 a2 a3 h)) ?_
  refine le_br3 (J := fun i l => J37 T i l h) (fun _ a0 a2 a3 => le_e (fun hn => e37_2 rfl hn) ((m37 hc hR).2.2.1 a0 a2 a3 h)) ?_
  refine le_br3 (J := fun i l => J37 T i l h) (fun _ a0 a2 a3 => le_e (fun hn => e37_4 rfl hn) ((m37 hc hR).2.2.2.1 a0 a2 a3 h)) ?_
  refine le_br3 (J := fun i l => J37 T i l h) (fun _ a0 a2 a3 => le_e (fun hn => e37_3 rfl hn) ((m37 hc hR).2.2.2.2 a0 a2 a3 h)) ?_
  exact le_fail _) n
theorem m38 {cf cf' : CallF} {R R' : Rec} (hc : ∀ f l h, le (cf f l h) (cf' f l h)) (hR : ∀ i l h, le (R i l h) (R' i l h)) : (∀ (a0 : IV) (h : H), le (t38_0 cf R a0 h) (t38_0 cf' R' a0 h)) := by
  intros
  unfold t38_0
  with_reducible repeat' first
    | refine le_obind fun _ => ?_
    | refine le_callP ?_ (fun _ _ => ?_) (fun _ _ => ?_)
    | refine le_condK ?_ ?_
    | exact hR _ _ _
    | refine le_obind2 fun _ _ => ?_
    | refine le_obindH fun _ => ?_
    | refine le_spanK (fun _ _ _ => ?_) (fun _ _ => ?_)
    | exact hc _ _ _
    | refine le_bif ?_ ?_
    | refine le_guardK ?_ ?_ ?_
    | refine le_mapK fun _ _ => ?_
    | refine le_panK fun _ _ => ?_
    | refine le_funK fun _ _ => ?_
    | exact le_refl _
    | apply_assumption
noncomputable def q38_0 (cf : CallF) (R : Rec) (a0 : IV) (h : H) : CRes :=
 Qo (Qnil a0) fun x1 =>
 Qo (Qfad 2 x1) fun x2 =>
 Qo (Qfad 1 x2) fun x3 =>
 Qo (Ql0 h x3) fun x4 =>
 Qo (Qeql x4 (.int .i64 0)) fun x5 =>
 .ok x5 h
theorem qe38_0 : q38_0 = t38_0 := by
  unfold q38_0
  try simp only [QE]
  try rfl
noncomputable def bt38 (cf : CallF) (R : Rec) : Rec := fun i l h =>
 br1 i 0 l (fun a0 => t38_0 cf R a0 h) <|
 .fail
noncomputable def b38 (cf : CallF) (R : Rec) : Rec := fun i l h =>
 brQ1 i 0 l (fun a0 => q38_0 cf R a0 h) <|
 .fail
theorem be38 : b38 = bt38 := by
  unfold b38 bt38
  simp only [qe38_0, brQ1_eq]
theorem r38 {T : Tab} {cf : CallF} (hc : leC cf (CL T)) (n : Nat) : leR (recN (b38 cf) n) (J38 T) := be38 ▸ recN_le (fun R hR i l h => by
  unfold bt38
  refine le_br1 (J := fun i l => J38 T i l h) (fun _ a0 => le_e (fun hn => e38_0 rfl hn) ((m38 hc hR) a0 h)) ?_
  exact le_fail _) n
theorem m39 {cf cf' : CallF} {R R' : Rec} (hc : ∀ f l h, le (cf f l h) (cf' f l h)) (hR : ∀ i l h, le (R i l h) (R' i l h)) :
  (∀ (a0 a1 a2 a3 : IV) (h : H), le (t39_0 cf R a0 a1 a2 a3 h) (t39_0 cf' R' a0 a1 a2 a3 h)) ∧
  (∀ (a0 a1 a2 : IV) (h : H), le (t39_1 cf R a0 a1 a2 h) (t39_1 cf' R' a0 a1 a2 h)) := by
  refine ⟨?_, ?_⟩
  all_goals intros
  all_goals first | unfold t39_0 | unfold t39_1
  all_goals
  with_reducible repeat' first
    | refine le_obind fun _ => ?_
    | refine le_callP ?_ (fun _ _ => ?_) (fun _ _ => ?_)
    | refine le_condK ?_ ?_
    | exact hR _ _ _
    | refine le_obind2 fun _ _ => ?_
    | refine le_obindH fun _ => ?_
    | refine le_spanK (fun _ _ _ => ?_) (fun _ _ => ?_)
    | exact hc _ _ _
    | refine le_bif ?_ ?_
    | refine le_guardK ?_ ?_ ?_
    | refine le_mapK fun _ _ => ?_
    | refine le_panK fun _ _ => ?_
    | refine le_funK fun _ _ => ?_
    | exact le_refl _
    | apply_assumption
noncomputable def b39 (cf : CallF) (R : Rec) : Rec := fun i l h =>
 br4 i 0 l (fun a0 a1 a2 a3 => t39_0 cf R a0 a1 a2 a3 h) <|
 br3 i 1 l (fun a0 a1 a2 => t39_1 cf R a0 a1 a2 h) <|
 .fail
theorem r39 {T : Tab} {cf : CallF} (hc : leC cf (CL T)) (n : Nat) : leR (recN (b39 cf) n) (J39 T) := recN_le (fun R hR i l h => by
  unfold b39
  refine le_br4 (J := fun i l => J39 T i l h) (fun _ a0 a1 a2 a3 => le_e (fun hn => e39_0 rfl hn) ((m39 hc hR).1 a0 a1 a2 a3 h)) ?_
  refine le_br3 (J := fun i l => J39 T i l h) (fun _ a0 a1 a2 => le_e (fun hn => e39_1 rfl hn) ((m39 hc hR).2 a0 a1 a2 h)) ?_
  exact le_fail _) n
theorem m40 {cf cf' : CallF} {R R' : Rec} (hc : ∀ f l h, le (cf f l h) (cf' f l h)) (hR : ∀ i l h, le (R i l h) (R' i l h)) :
  (∀ (a0 a1 : IV) (h : H), le (t40_0 cf R a0 a1 h) (t40_0 cf' R' a0 a1 h)) ∧
  (∀ (a0 a10 a11 a12 : IV) (h : H), le (t40_1 cf R a0 a10 a11 a12 h) (t40_1 cf' R' a0 a10 a11 a12 h)) ∧
  (∀ (a0 a10 a11 a12 : IV) (h : H), le (t40_2 cf R a0 a10 a11 a12 h) (t40_2 cf' R' a0 a10 a11 a12 h)) ∧
  (∀ (a0 a5 a10 a11 a12 a21 a22 a23 : IV) (h : H), le (t40_3 cf R a0 a5 a10 a11 a12 a21 a22 a23 h) (t40_3 cf' R' a0 a5 a10 a11 a12 a21 a22 a23 h)) ∧
  (∀ (a0 a5 a10 a11 a12 a36 a37 a38 : IV) (h : H), le (t40_4 cf R a0 a5 a10 a11 a12 a36 a37 a38 h) (t40_4 cf' R' a0 a5 a10 a11 a12 a36 a37 a38 h)) ∧
  (∀ (a0 a5 a10 a11 a12 a56 : IV) (h : H), le (t40_5 cf R a0 a5 a10 a11 a12 a56 h) (t40_5 cf' R' a0 a5 a10 a11 a12 a56 h)) := by
  refine ⟨?_, ?_, ?_, ?_, ?_, ?_⟩
  all_goals intros
  all_goals first | unfold t40_0 | unfold t40_1 | unfold t40_2 | unfold t40_3 | unfold t40_4 | unfold t40_5
  all_goals
  with_reducible repeat' first
    | refine le_obind fun _ => ?_
    | refine le_callP ?_ (fun _ _ => ?_) (fun _ _ => ?_)
    | refine le_condK ?_ ?_
    | exact hR _ _ _
    | refine le_obind2 fun _ _ => ?_
    | refine le_obindH fun _ => ?_
    | refine le_spanK (fun _ _ _ => ?_) (fun _ _ => ?_)
    | exact hc _ _ _
    | refine le_bif ?_ ?_
    | refine le_guardK ?_ ?_ ?_
    | refine le_mapK fun _ _ => ?_
    | refine le_panK fun _ _ => ?_
    | refine le_funK fun _ _ => ?_
    | exact le_refl _
    | apply_assumption
noncomputable def b40 (cf : CallF) (R : Rec) : Rec := fun i l h =>
 br2 i 0 l (fun a0 a1 => t40_0 cf R a0 a1 h) <|
 br4 i 1 l (fun a0 a10 a11 a12 => t40_1 cf R a0 a10 a11 a12 h) <|
 br4 i 2 l (fun a0 a10 a11 a12 => t40_2 cf R a0 a10 a11 a12 h) <|
 br8 i 3 l (fun a0 a5 a10 a11 a12 a21 a22 a23 => t40_3 cf R a0 a5 a10 a11 a12 a21 a22 a23 h) <|
 br8 i 4 l (fun a0 a5 a10 a11 a12 a36 a37 a38 => t40_4 cf R a0 a5 a10 a11 a12 a36 a37 a38 h) <|
 br6 i 5 l (fun a0 a5 a10 a11 a12 a56 => t40_5 cf R a0 a5 a10 a11 a12 a56 h) <|
 .fail
theorem r40 {T : Tab} {cf : CallF} (hc : leC cf (CL T)) (n : Nat) : leR (recN (b40 cf) n) (J40 T) := recN_le (fun R hR i l h => by
  unfold b40
  refine le_br2 (J := fun i l => J40 T i l h) (fun _ a0 a1 => le_e (fun hn => e40_0 rfl hn) ((m40 hc hR).1 a0 a1 h)) ?_
  refine le_br4 (J := fun i l => J40 T i l h) (fun _ a0 a10 a11 a12 => le_e (fun hn => e40_1 rfl hn) ((m40 hc hR).2.1 a0 a10 a11 a12 h)) ?_
  refine le_br4 (J := fun i l => J40 T i l h) (fun _ a0 a10 a11 a12 => le_e (fun hn => e40_2 rfl hn) ((m40 hc hR).2.2.1 a0 a10 a11 a12 h)) ?_
  refine le_br8 (J := fun i l => J40 T i l h) (fun _ a0 a5 a10 a11 a12 a21 a22 a23 => le_e (fun hn => e40_3 rfl hn) ((m40 hc hR).2.2.2.1 a0 a5 a10 a11 a12 a21 a22 a23 h)) ?_
  refine le_br8 (J := fun i l => J40 T i l h) (fun _ a0 a5 a10 a11 a12 a36 a37 a38 => le_e (fun hn => e40_4 rfl hn) ((m40 hc hR).2.2.2.2.1 a0 a5 a10 a11 a12 a36 a37 a38 h)) ?_
  refine le_br6 (J := fun i l => J40 T i l h) (fun _ a0 a5 a10 a11 a12 a56 => le_e (fun hn => e40_5 rfl hn) ((m40 hc hR).2.2.2.2.2 a0 a5 a10 a11 a12 a56 h)) ?_
  exact le_fail _) n
theorem m41 {cf cf' : CallF} {R R' : Rec} (hc : ∀ f l h, le (cf f l h) (cf' f l h)) (hR : ∀ i l h, le (R i l h) (R' i l h)) :
  (∀ (a0 a1 a2 : IV) (h : H), le (t41_0 cf R a0 a1 a2 h) (t41_0 cf' R' a0 a1 a2 h)) ∧
  (∀ (a0 a2 a9 a10 a11 : IV) (h : H), le (t41_1 cf R a0 a2 a9 a10 a11 h) (t41_1 cf' R' a0 a2 a9 a10 a11 h)) ∧
  (∀ (a0 a2 a9 a10 a11 : IV) (h : H), le (t41_2 cf R a0 a2 a9 a10 a11 h) (t41_2 cf' R' a0 a2 a9 a10 a11 h)) ∧
  (∀ (a0 a2 a7 a9 a10 a11 a16 a34 : IV) (h : H), le (t41_3 cf R a0 a2 a7 a9 a10 a11 a16 a34 h) (t41_3 cf' R' a0 a2 a7 a9 a10 a11 a16 a34 h)) := by
  refine ⟨?_, ?_, ?_, ?_⟩
  all_goals intros
  all_goals first | unfold t41_0 | unfold t41_1 | unfold t41_2 | unfold t41_3
  all_goals
  with_reducible repeat' first
    | refine le_obind fun _ => ?_
    | refine le_callP ?_ (fun _ _ => ?_) (fun _ _ => ?_)
    | refine le_condK ?_ ?_
    | exact hR _ _ _
    | refine le_obind2 fun _ _ => ?_
    | refine le_obindH fun _ => ?_
    | refine le_spanK (fun _ _ _ => ?_) (fun _ _ => ?_)
    | exact hc _ _ _
    | refine le_bif ?_ ?_
    | refine le_guardK ?_ ?_ ?_
    | refine le_mapK fun _ _ => ?_
    | refine le_panK fun _ _ => ?_
    | refine le_funK fun _ _ => ?_
    | exact le_refl _
    | apply_assumption
noncomputable def b41 (cf : CallF) (R : Rec) : Rec := fun i l h =>
 br3 i 0 l (fun a0 a1 a2 => t41_0 cf R a0 a1 a2 h) <|
 br5 i 1 l (fun a0 a2 a9 a10 a11 => t41_1 cf R a0 a2 a9 a10 a11 h) <|
 br5 i 2 l (fun a0 a2 a9 a10 a11 => t41_2 cf R a0 a2 a9 a10 a11 h) <|
 br8 i 3 l (fun a0 a2 a7 a9 a10 a11 a16 a34 => t41_3 cf R a0 a2 a7 a9 a10 a11 a16 a34 h) <|
 .fail
theorem r41 {T : Tab} {cf : CallF} (hc : leC cf (CL T)) (n : Nat) : leR (recN (b41 cf) n) (J41 T) := recN_le (fun R hR i l h => by
  unfold b41
  refine le_br3 (J := fun i l => J41 T i l h) (fun _ a0 a1 a2 => le_e (fun hn => e41_0 rfl hn) ((m41 hc hR).1 a0 a1 a2 h)) ?_
  refine le_br5 (J := fun i l => J41 T i l h) (fun _ a0 a2 a9 a10 a11 => le_e (fun hn => e41_1 rfl hn) ((m41 hc hR).2.1 a0 a2 a9 a10 a11 h)) ?_
  refine le_br5 (J := fun i l => J41 T i l h) (fun _ a0 a2 a9 a10 a11 => le_e (fun hn => e41_2 rfl hn) ((m41 hc hR).2.2.1 a0 a2 a9 a10 a11 h)) ?_
  refine le_br8 (J := fun i l => J41 T i l h) (fun _ a0 a2 a7 a9 a10 a11 a16 a34 => le_e (fun hn => e41_3 rfl hn) ((m41 hc hR).2.2.2 a0 a2 a7 a9 a10 a11 a16 a34 h)) ?_
  exact le_fail _) n
theorem m42 {cf cf' : CallF} {R R' : Rec} (hc : ∀ f l h, le (cf f l h) (cf' f l h)) (hR : ∀ i l h, le (R i l h) (R' i l h)) : (∀ (a0 : IV) (h : H), le (t42_0 cf R a0 h) (t42_0 cf' R' a0 h)) := by
  intros
  unfold t42_0
  with_reducible repeat' first
    | refine le_obind fun _ => ?_
    | refine le_callP ?_ (fun _ _ => ?_) (fun _ _ => ?_)
    | refine le_condK ?_ ?_
    | exact hR _ _ _
    | refine le_obind2 fun _ _ => ?_
    | refine le_obindH fun _ => ?_
    | refine le_spanK (fun _ _ _ => ?_) (fun _ _ => ?_)
    | exact hc _ _ _
    | refine le_bif ?_ ?_
    | refine le_guardK ?_ ?_ ?_
    | refine le_mapK fun _ _ => ?_
    | refine le_panK fun _ _ => ?_
    | refine le_funK fun _ _ => ?_
    | exact le_refl _
    | apply_assumption
noncomputable def b42 (cf : CallF) (R : Rec) : Rec := fun i l h =>
 br1 i 0 l (fun a0 => t42_0 cf R a0 h) <|
 .fail
theorem r42 {T : Tab} {cf : CallF} (hc : leC cf (CL T)) (n : Nat) : leR (recN (b42 cf) n) (J42 T) := recN_le (fun R hR i l h => by
  unfold b42
  refine le_br1 (J := fun i l => J42 T i l h) (fun _ a0 => le_e (fun hn => e42_0 rfl hn) ((m42 hc hR) a0 h)) ?_
  exact le_fail _) n
theorem m43 {cf cf' : CallF} {R R' : Rec} (hc : ∀ f l h, le (cf f l h) (cf' f l h)) (hR : ∀ i l h, le (R i l h) (R' i l h)) : (∀ (a0 : IV) (h : H), le (t43_0 cf R a0 h) (t43_0 cf' R' a0 h)) := by
  intros
  unfold t43_0
  with_reducible repeat' first
    | refine le_obind fun _ => ?_
    | refine le_callP ?_ (fun _ _ => ?_) (fun _ _ => ?_)
    | refine le_condK ?_ ?_
    | exact hR _ _ _
    | refine le_obind2 fun _ _ => ?_
    | refine le_obindH fun _ => ?_
    | refine le_spanK (fun _ _ _ => ?_) (fun _ _ => ?_)
    | exact hc _ _ _
    | refine le_bif ?_ ?_
    | refine le_guardK ?_ ?_ ?_
    | refine le_mapK fun _ _ => ?_
    | refine le_panK fun _ _ => ?_
    | refine le_funK fun _ _ => ?_
    | exact le_refl _
    | apply_assumption
noncomputable def b43 (cf : CallF) (R : Rec) : Rec := fun i l h =>
 br1 i 0 l (fun a0 => t43_0 cf R a0 h) <|
 .fail
theorem r43 {T : Tab} {cf : CallF} (hc : leC cf (CL T)) (n : Nat) : leR (recN (b43 cf) n) (J43 T) := recN_le (fun R hR i l h => by
  unfold b43
  refine le_br1 (J := fun i l => J43 T i l h) (fun _ a0 => le_e (fun hn => e43_0 rfl hn) ((m43 hc hR) a0 h)) ?_
  exact le_fail _) n
theorem m45 {cf cf' : CallF} {R R' : Rec} (hc : ∀ f l h, le (cf f l h) (cf' f l h)) (hR : ∀ i l h, le (R i l h) (R' i l h)) :
  (∀ (a0 a1 : IV) (h : H), le (t45_0 cf R a0 a1 h) (t45_0 cf' R' a0 a1 h)) ∧
  (∀ (a5 : IV) (h : H), le (t45_1 cf R a5 h) (t45_1 cf' R' a5 h)) ∧
  (∀ (a7 : IV) (h : H), le (t45_2 cf R a7 h) (t45_2 cf' R' a7 h)) ∧
  (∀ (a0 a3 : IV) (h : H), le (t45_3 cf R a0 a3 h) (t45_3 cf' R' a0 a3 h)) ∧
  (∀ (a10 : IV) (h : H), le (t45_4 cf R a10 h) (t45_4 cf' R' a10 h)) := by
  refine ⟨?_, ?_, ?_, ?_, ?_⟩
  all_goals intros
  all_goals first | unfold t45_0 | unfold t45_1 | unfold t45_2 | unfold t45_3 | unfold t45_4
  all_goals
  with_reducible repeat' first
    | refine le_obind fun _ => ?_
    | refine le_callP ?_ (fun _ _ => ?_) (fun _ _ => ?_)
    | refine le_condK ?_ ?_
    | exact hR _ _ _
    | refine le_obind2 fun _ _ => ?_
    | refine le_obindH fun _ => ?_
    | refine le_spanK (fun _ _ _ => ?_) (fun _ _ => ?_)
    | exact hc _ _ _
    | refine le_bif ?_ ?_
    | refine le_guardK ?_ ?_ ?_
    | refine le_mapK fun _ _ => ?_
    | refine le_panK fun _ _ => ?_
    | refine le_funK fun _ _ => ?_
    | exact le_refl _
    | apply_assumption
noncomputable def b45 (cf : CallF) (R : Rec) : Rec := fun i l h =>
 br2 i 0 l (fun a0 a1 => t45_0 cf R a0 a1 h) <|
 br1 i 1 l (fun a5 => t45_1 cf R a5 h) <|
 br1 i 2 l (fun a7 => t45_2 cf R a7 h) <|
 br2 i 3 l (fun a0 a3 => t45_3 cf R a0 a3 h) <|
 br1 i 4 l (fun a10 => t45_4 cf R a10 h) <|
 .fail
theorem r45 {T : Tab} {cf : CallF} (hc : leC cf (CL T)) (n : Nat) : leR (recN (b45 cf) n) (J45 T) := recN_le (fun R hR i l h => by
  unfold b45
  refine le_br2 (J := fun i l => J45 T i l h) (fun _ a0 a1 => le_e (fun hn => e45_0 rfl hn) ((m45 hc hR).1 a0 a1 h)) ?_
  refine le_br1 (J := fun i l => J45 T i l h) (fun _ a5 => le_e (fun hn => e45_1 rfl hn) ((m45 hc hR).2.1 a5 h)) ?_
  refine le_br1 (J := fun i l => J45 T i l h) (fun _ a7 => le_e (fun hn => e45_2 rfl hn) ((m45 hc hR).2.2.1 a7 h)) ?_
  refine le_br2 (J := fun i l => J45 T i l h) (fun _ a0 a3 => le_e (fun hn => e45_3 rfl hn) ((m45 hc hR).2.2.2.1 a0 a3 h)) ?_
  refine le_br1 (J := fun i l => J45 T i l h) (fun _ a10 => le_e (fun hn => e45_4 rfl hn) ((m45 hc hR).2.2.2.2 a10 h)) ?_
  exact le_fail _) n
theorem m48 {cf cf' : CallF} {R R' : Rec} (hc : ∀ f l h, le (cf f l h) (cf' f l h)) (hR : ∀ i l h, le (R i l h) (R' i l h)) : (∀ (a0 a1 : IV) (h : H), le (t48_0 cf R a0 a1 h) (t48_0 cf' R' a0 a1 h)) := by
  intros
  unfold t48_0
  with_reducible repeat' first
    | refine le_obind fun _ => ?_
    | refine le_callP ?_ (fun _ _ => ?_) (fun _ _ => ?_)
    | refine le_condK ?_ ?_
    | exact hR _ _ _
    | refine le_obind2 fun _ _ => ?_
    | refine le_obindH fun _ => ?_
    | refine le_spanK (fun _ _ _ => ?_) (fun _ _ => ?_)
    | exact hc _ _ _
    | refine le_bif ?_ ?_
    | refine le_guardK ?_ ?_ ?_
    | refine le_mapK fun _ _ => ?_
    | refine le_panK fun _ _ => ?_
    | refine le_funK fun _ _ => ?_
    | exact le_refl _
    | apply_assumption
noncomputable def b48 (cf : CallF) (R : Rec) : Rec := fun i l h =>
 br2 i 0 l (fun a0 a1 => t48_0 cf R a0 a1 h) <|
 .fail
theorem r48 {T : Tab} {cf : CallF} (hc : leC cf (CL T)) (n : Nat) : leR (recN (b48 cf) n) (J48 T) := recN_le (fun R hR i l h => by
  unfold b48
  refine le_br2 (J := fun i l => J48 T i l h) (fun _ a0 a1 => le_e (fun hn => e48_0 rfl hn) ((m48 hc hR) a0 a1 h)) ?_
  exact le_fail _) n
theorem m51 {cf cf' : CallF} {R R' : Rec} (hc : ∀ f l h, le (cf f l h) (cf' f l h)) (hR : ∀ i l h, le (R i l h) (R' i l h)) : (∀ (a0 : IV) (h : H), le (t51_0 cf R a0 h) (t51_0 cf' R' a0 h)) := by
  intros
  unfold t51_0
  with_reducible repeat' first
    | refine le_obind fun _ => ?_
    | refine le_callP ?_ (fun _ _ => ?_) (fun _ _ => ?_)
    | refine le_condK ?_ ?_
    | exact hR _ _ _
    | refine le_obind2 fun _ _ => ?_
    | refine le_obindH fun _ => ?_
    | refine le_spanK (fun _ _ _ => ?_) (fun _ _ => ?_)
    | exact hc _ _ _
    | refine le_bif ?_ ?_
    | refine le_guardK ?_ ?_ ?_
    | refine le_mapK fun _ _ => ?_
    | refine le_panK fun _ _ => ?_
    | refine le_funK fun _ _ => ?_
    | exact le_refl _
    | apply_assumption
noncomputable def q51_0p1 (cf : CallF) (R : Rec) (x8 : IV) (h9 : H) (a0 : IV) (x6 : IV) : CRes :=
 Qsp x8 true h9 (fun k11 =>
 Qo (Qleq a0 (.int .u8 90)) fun x14 =>
 k11 x14 h9) fun x12 h13 =>
 Qsp x6 false h13 (fun k15 =>
 Qo (Qpk x8 (some x12) (some (.bool false))) fun x18 =>
 k15 x18 h13) fun x16 h17 =>
 Qo (Qpk x6 (some (.bool true)) (some x16)) fun x19 =>
 Qsp x19 false h17 (fun k20 =>
 Qo (Qeql a0 (.int .u8 95)) fun x23 =>
 k20 x23 h17) fun x21 h22 =>
 Qo (Qpk x19 (some (.bool true)) (some x21)) fun x24 =>
 .ok x24 h22
noncomputable def q51_0 (cf : CallF) (R : Rec) (a0 : IV) (h : H) : CRes :=
 Qo (Qgeq a0 (.int .u8 97)) fun x1 =>
 Qsp x1 true h (fun k2 =>
 Qo (Qleq a0 (.int .u8 122)) fun x5 =>
 k2 x5 h) fun x3 h4 =>
 Qo (Qpk x1 (some x3) (some (.bool false))) fun x6 =>
 Qsp x6 false h4 (fun k7 =>
 Qo (Qgeq a0 (.int .u8 65)) fun x10 =>
 k7 x10 h4) fun x8 h9 =>
 q51_0p1 cf R x8 h9 a0 x6
theorem qe51_0 : q51_0 = t51_0 := by
  unfold q51_0 q51_0p1
  try simp only [QE]
  try rfl
noncomputable def bt51 (cf : CallF) (R : Rec) : Rec := fun i l h =>
 br1 i 0 l (fun a0 => t51_0 cf R a0 h) <|
 .fail
noncomputable def b51 (cf : CallF) (R : Rec) : Rec := fun i l h =>
 brQ1 i 0 l (fun a0 => q51_0 cf R a0 h) <|
 .fail
theorem be51 : b51 = bt51 := by
  unfold b51 bt51
  simp only [qe51_0, brQ1_eq]
theorem r51 {T : Tab} {cf : CallF} (hc : leC cf (CL T)) (n : Nat) : leR (recN (b51 cf) n) (J51 T) := be51 ▸ recN_le (fun R hR i l h => by
  unfold bt51
  refine le_br1 (J := fun i l => J51 T i l h) (fun _ a0 => le_e (fun hn => e51_0 rfl hn) ((m51 hc hR) a0 h)) ?_
  exact le_fail _) n
theorem m52 {cf cf' : CallF} {R R' : Rec} (hc : ∀ f l h, le (cf f l h) (cf' f l h)) (hR : ∀ i l h, le (R i l h) (R' i l h)) : (∀ (a0 : IV) (h : H), le (t52_0 cf R a0 h) (t52_0 cf' R' a0 h)) := by
  intros
  unfold t52_0
  with_reducible repeat' first
    | refine le_obind fun _ => ?_
    | refine le_callP ?_ (fun _ _ => ?_) (fun _ _ => ?_)
    | refine le_condK ?_ ?_
    | exact hR _ _ _
    | refine le_obind2 fun _ _ => ?_
    | refine le_obindH fun _ => ?_
    | refine le_spanK (fun _ _ _ => ?_) (fun _ _ => ?_)
    | exact hc _ _ _
    | refine le_bif ?_ ?_
    | refine le_guardK ?_ ?_ ?_
    | refine le_mapK fun _ _ => ?_
    | refine le_panK fun _ _ => ?_
    | refine le_funK fun _ _ => ?_
    | exact le_refl _
    | apply_assumption
noncomputable def q52_0 (cf : CallF) (R : Rec) (a0 : IV) (h : H) : CRes :=
 Qc (cf 51 [a0] h) .pan fun x1 h2 =>
 Qsp x1 false h2 (fun k3 =>
 Qc (cf 53 [a0] h2) .pan fun x6 h7 =>
 k3 x6 h7) fun x4 h5 =>
 Qo (Qpk x1 (some (.bool true)) (some x4)) fun x8 =>
 .ok x8 h5
theorem qe52_0 : q52_0 = t52_0 := by
  unfold q52_0
  try simp only [QE]
  try rfl
noncomputable def bt52 (cf : CallF) (R : Rec) : Rec := fun i l h =>
 br1 i 0 l (fun a0 => t52_0 cf R a0 h) <|
 .fail
noncomputable def b52 (cf : CallF) (R : Rec) : Rec := fun i l h =>
 brQ1 i 0 l (fun a0 => q52_0 cf R a0 h) <|
 .fail
theorem be52 : b52 = bt52 := by
  unfold b52 bt52
  simp only [qe52_0, brQ1_eq]
theorem r52 {T : Tab} {cf : CallF} (hc : leC cf (CL T)) (n : Nat) : leR (recN (b52 cf) n) (J52 T) := be52 ▸ recN_le (fun R hR i l h => by
  unfold bt52
  refine le_br1 (J := fun i l => J52 T i l h) (fun _ a0 => le_e (fun hn => e52_0 rfl hn) ((m52 hc hR) a0 h)) ?_
  exact le_fail _) n
theorem m53 {cf cf' : CallF} {R R' : Rec} (hc : ∀ f l h, le (cf f l h) (cf' f l h)) (hR : ∀ i l h, le (R i l h) (R' i l h)) : (∀ (a0 : IV) (h : H), le (t53_0 cf R a0 h) (t53_0 cf' R' a0 h)) := by
  intros
  unfold t53_0
  with_reducible repeat' first
    | refine le_obind fun _ => ?_
    | refine le_callP ?_ (fun _ _ => ?_) (fun _ _ => ?_)
    | refine le_condK ?_ ?_
    | exact hR _ _ _
    | refine le_obind2 fun _ _ => ?_
    | refine le_obindH fun _ => ?_
    | refine le_spanK (fun _ _ _ => ?_) (fun _ _ => ?_)
    | exact hc _ _ _
    | refine le_bif ?_ ?_
    | refine le_guardK ?_ ?_ ?_
    | refine le_mapK fun _ _ => ?_
    | refine le_panK fun _ _ => ?_
    | refine le_funK fun _ _ => ?_
    | exact le_refl _
    | apply_assumption
noncomputable def q53_0 (cf : CallF) (R : Rec) (a0 : IV) (h : H) : CRes :=
 Qo (Qgeq a0 (.int .u8 48)) fun x1 =>
 Qsp x1 true h (fun k2 =>
 Qo (Qleq a0 (.int .u8 57)) fun x5 =>
 k2 x5 h) fun x3 h4 =>
 Qo (Qpk x1 (some x3) (some (.bool false))) fun x6 =>
 .ok x6 h4
theorem qe53_0 : q53_0 = t53_0 := by
  unfold q53_0
  try simp only [QE]
  try rfl
noncomputable def bt53 (cf : CallF) (R : Rec) : Rec := fun i l h =>
 br1 i 0 l (fun a0 => t53_0 cf R a0 h) <|
 .fail
noncomputable def b53 (cf : CallF) (R : Rec) : Rec := fun i l h =>
 brQ1 i 0 l (fun a0 => q53_0 cf R a0 h) <|
 .fail
theorem be53 : b53 = bt53 := by
  unfold b53 bt53
  simp only [qe53_0, brQ1_eq]
theorem r53 {T : Tab} {cf : CallF} (hc : leC cf (CL T)) (n : Nat) : leR (recN (b53 cf) n) (J53 T) := be53 ▸ recN_le (fun R hR i l h => by
  unfold bt53
  refine le_br1 (J := fun i l => J53 T i l h) (fun _ a0 => le_e (fun hn => e53_0 rfl hn) ((m53 hc hR) a0 h)) ?_
  exact le_fail _) n
theorem m54 {cf cf' : CallF} {R R' : Rec} (hc : ∀ f l h, le (cf f l h) (cf' f l h)) (hR : ∀ i l h, le (R i l h) (R' i l h)) :
  (∀ (a0 : IV) (h : H), le (t54_0 cf R a0 h) (t54_0 cf' R' a0 h)) ∧
  (∀ (a0 a5 a6 : IV) (h : H), le (t54_1 cf R a0 a5 a6 h) (t54_1 cf' R' a0 a5 a6 h)) ∧
  (∀ (a0 a5 a6 : IV) (h : H), le (t54_2 cf R a0 a5 a6 h) (t54_2 cf' R' a0 a5 a6 h)) := by
  refine ⟨?_, ?_, ?_⟩
  all_goals intros
  all_goals first | unfold t54_0 | unfold t54_1 | unfold t54_2
  all_goals
  with_reducible repeat' first
    | refine le_obind fun _ => ?_
    | refine le_callP ?_ (fun _ _ => ?_) (fun _ _ => ?_)
    | refine le_condK ?_ ?_
    | exact hR _ _ _
    | refine le_obind2 fun _ _ => ?_
    | refine le_obindH fun _ => ?_
    | refine le_spanK (fun _ _ _ => ?_) (fun _ _ => ?_)
    | exact hc _ _ _
    | refine le_bif ?_ ?_
    | refine le_guardK ?_ ?_ ?_
    | refine le_mapK fun _ _ => ?_
    | refine le_panK fun _ _ => ?_
    | refine le_funK fun _ _ => ?_
    | exact le_refl _
    | apply_assumption
noncomputable def b54 (cf : CallF) (R : Rec) : Rec := fun i l h =>
 br1 i 0 l (fun a0 => t54_0 cf R a0 h) <|
 br3 i 1 l (fun a0 a5 a6 => t54_1 cf R a0 a5 a6 h) <|
 br3 i 2 l (fun a0 a5 a6 => t54_2 cf R a0 a5 a6 h) <|
 .fail
theorem r54 {T : Tab} {cf : CallF} (hc : leC cf (CL T)) (n : Nat) : leR (recN (b54 cf) n) (J54 T) := recN_le (fun R hR i l h => by
  unfold b54
  refine le_br1 (J := fun i l => J54 T i l h) (fun _ a0 => le_e (fun hn => e54_0 rfl hn) ((m54 hc hR).1 a0 h)) ?_
  refine le_br3 (J := fun i l => J54 T i l h) (fun _ a0 a5 a6 => le_e (fun hn => e54_1 rfl hn) ((m54 hc hR).2.1 a0 a5 a6 h)) ?_
  refine le_br3 (J := fun i l => J54 T i l h) (fun _ a0 a5 a6 => le_e (fun hn => e54_2 rfl hn) ((m54 hc hR).2.2 a0 a5 a6 h)) ?_
  exact le_fail _) n
theorem m55 {cf cf' : CallF} {R R' : Rec} (hc : ∀ f l h, le (cf f l h) (cf' f l h)) (hR : ∀ i l h, le (R i l h) (R' i l h)) :
  (∀ (a0 a1 : IV) (h : H), le (t55_0 cf R a0 a1 h) (t55_0 cf' R' a0 a1 h)) ∧
  (∀ (a0 a1 a5 a6 : IV) (h : H), le (t55_1 cf R a0 a1 a5 a6 h) (t55_1 cf' R' a0 a1 a5 a6 h)) ∧
  (∀ (a0 a1 a7 a8 : IV) (h : H), le (t55_2 cf R a0 a1 a7 a8 h) (t55_2 cf' R' a0 a1 a7 a8 h)) := by
  refine ⟨?_, ?_, ?_⟩
  all_goals intros
  all_goals first | unfold t55_0 | unfold t55_1 | unfold t55_2
  all_goals
  with_reducible repeat' first
    | refine le_obind fun _ => ?_
    | refine le_callP ?_ (fun _ _ => ?_) (fun _ _ => ?_)
    | refine le_condK ?_ ?_
    | exact hR _ _ _
    | refine le_obind2 fun _ _ => ?_
    | refine le_obindH fun _ => ?_
    | refine le_spanK (fun _ _ _ => ?_) (fun _ _ => ?_)
    | exact hc _ _ _
    | refine le_bif ?_ ?_
    | refine le_guardK ?_ ?_ ?_
    | refine le_mapK fun _ _ => ?_
    | refine le_panK fun _ _ => ?_
    | refine le_funK fun _ _ => ?_
    | exact le_refl _
    | apply_assumption
noncomputable def b55 (cf : CallF) (R : Rec) : Rec := fun i l h =>
 br2 i 0 l (fun a0 a1 => t55_0 cf R a0 a1 h) <|
 br4 i 1 l (fun a0 a1 a5 a6 => t55_1 cf R a0 a1 a5 a6 h) <|
 br4 i 2 l (fun a0 a1 a7 a8 => t55_2 cf R a0 a1 a7 a8 h) <|
 .fail
theorem r55 {T : Tab} {cf : CallF} (hc : leC cf (CL T)) (n : Nat) : leR (recN (b55 cf) n) (J55 T) := recN_le (fun R hR i l h => by
  unfold b55
  refine le_br2 (J := fun i l => J55 T i l h) (fun _ a0 a1 => le_e (fun hn => e55_0 rfl hn) ((m55 hc hR).1 a0 a1 h)) ?_
  refine le_br4 (J := fun i l => J55 T i l h) (fun _ a0 a1 a5 a6 => le_e (fun hn => e55_1 rfl hn) ((m55 hc hR).2.1 a0 a1 a5 a6 h)) ?_
  refine le_br4 (J := fun i l => J55 T i l h) (fun _ a0 a1 a7 a8 => le_e (fun hn => e55_2 rfl hn) ((m55 hc hR).2.2 a0 a1 a7 a8 h)) ?_
  exact le_fail _) n
theorem m56 {cf cf' : CallF} {R R' : Rec} (hc : ∀ f l h, le (cf f l h) (cf' f l h)) (hR : ∀ i l h, le (R i l h) (R' i l h)) : (∀ (a0 : IV) (h : H), le (t56_0 cf R a0 h) (t56_0 cf' R' a0 h)) := by
  intros
  unfold t56_0
  with_reducible repeat' first
    | refine le_obind fun _ => ?_
    | refine le_callP ?_ (fun _ _ => ?_) (fun _ _ => ?_)
    | refine le_condK ?_ ?_
    | exact hR _ _ _
    | refine le_obind2 fun _ _ => ?_
    | refine le_obindH fun _ => ?_
    | refine le_spanK (fun _ _ _ => ?_) (fun _ _ => ?_)
    | exact hc _ _ _
    | refine le_bif ?_ ?_
    | refine le_guardK ?_ ?_ ?_
    | refine le_mapK fun _ _ => ?_
    | refine le_panK fun _ _ => ?_
    | refine le_funK fun _ _ => ?_
    | exact le_refl _
    | apply_assumption
noncomputable def q56_0p1 (cf : CallF) (R : Rec) (x4 : IV) (h : H) (x3 : IV) : CRes :=
 Qo (Qfad 1 x4) fun x5 =>
 Qo (Ql0 h x5) fun x6 =>
 Qo (Qix 3 x3 x6) fun x7 =>
 Qo (Qfad 2 x7) fun x8 =>
 Qo (Ql0 h x8) fun x9 =>
 .ok x9 h
noncomputable def q56_0 (cf : CallF) (R : Rec) (a0 : IV) (h : H) : CRes :=
 Qo (Qnil a0) fun x1 =>
 Qo (Qfad 0 x1) fun x2 =>
 Qo (Ql0 h x2) fun x3 =>
 Qo (Qnil a0) fun x4 =>
 q56_0p1 cf R x4 h x3
theorem qe56_0 : q56_0 = t56_0 := by
  unfold q56_0 q56_0p1
  try simp only [QE]
  try rfl
noncomputable def bt56 (cf : CallF) (R : Rec) : Rec := fun i l h =>
 br1 i 0 l (fun a0 => t56_0 cf R a0 h) <|
 .fail
noncomputable def b56 (cf : CallF) (R : Rec) : Rec := fun i l h =>
 brQ1 i 0 l (fun a0 => q56_0 cf R a0 h) <|
 .fail
theorem be56 : b56 = bt56 := by
  unfold b56 bt56
  simp only [qe56_0, brQ1_eq]
theorem r56 {T : Tab} {cf : CallF} (hc : leC cf (CL T)) (n : Nat) : leR (recN (b56 cf) n) (J56 T) := be56 ▸ recN_le (fun R hR i l h => by
  unfold bt56
  refine le_br1 (J := fun i l => J56 T i l h) (fun _ a0 => le_e (fun hn => e56_0 rfl hn) ((m56 hc hR) a0 h)) ?_
  exact le_fail _) n
theorem m57 {cf cf' : CallF} {R R' : Rec} (hc : ∀ f l h, le (cf f l h) (cf' f l h)) (hR : ∀ i l h, le (R i l h) (R' i l h)) : (∀ (a0 a1 : IV) (h : H), le (t57_0 cf R a0 a1 h) (t57_0 cf' R' a0 a1 h)) := by
  intros
  unfold t57_0
  with_reducible repeat' first
    | refine le_obind fun _ => ?_
    | refine le_callP ?_ (fun _ _ => ?_) (fun _ _ => ?_)
    | refine le_condK ?_ ?_
    | exact hR _ _ _
    | refine le_obind2 fun _ _ => ?_
    | refine le_obindH fun _ => ?_
    | refine le_spanK (fun _ _ _ => ?_) (fun _ _ => ?_)
    | exact hc _ _ _
    | refine le_bif ?_ ?_
    | refine le_guardK ?_ ?_ ?_
    | refine le_mapK fun _ _ => ?_
    | refine le_panK fun _ _ => ?_
    | refine le_funK fun _ _ => ?_
    | exact le_refl _
    | apply_assumption
noncomputable def q57_0 (cf : CallF) (R : Rec) (a0 : IV) (a1 : IV) (h : H) : CRes :=
 Qc (cf 59 [a0, a1] h) .pan fun x1 h2 =>
 Qo (Qnot x1) fun x3 =>
 Qif x3
 (Qc (cf 82 [a0, (.int .i64 40)] h2) .pan fun x4 h5 =>
 .ok (.tup []) h5)
 (.ok (.tup []) h2)
theorem qe57_0 : q57_0 = t57_0 := by
  unfold q57_0
  try simp only [QE]
  try rfl
noncomputable def bt57 (cf : CallF) (R : Rec) : Rec := fun i l h =>
 br2 i 0 l (fun a0 a1 => t57_0 cf R a0 a1 h) <|
 .fail
noncomputable def b57 (cf : CallF) (R : Rec) : Rec := fun i l h =>
 brQ2 i 0 l (fun a0 a1 => q57_0 cf R a0 a1 h) <|
 .fail
theorem be57 : b57 = bt57 := by
  unfold b57 bt57
  simp only [qe57_0, brQ2_eq]
theorem r57 {T : Tab} {cf : CallF} (hc : leC cf (CL T)) (n : Nat) : leR (recN (b57 cf) n) (J57 T) := be57 ▸ recN_le (fun R hR i l h => by
  unfold bt57
  refine le_br2 (J := fun i l => J57 T i l h) (fun _ a0 a1 => le_e (fun hn => e57_0 rfl hn) ((m57 hc hR) a0 a1 h)) ?_
  exact le_fail _) n
theorem m58 {cf cf' : CallF} {R R' : Rec} (hc : ∀ f l h, le (cf f l h) (cf' f l h)) (hR : ∀ i l h, le (R i l h) (R' i l h)) : (∀ (a0 : IV) (h : H), le (t58_0 cf R a0 h) (t58_0 cf' R' a0 h)) := by
  intros
  unfold t58_0
  with_reducible repeat' first
    | refine le_obind fun _ => ?_
    | refine le_callP ?_ (fun _ _ => ?_) (fun _ _ => ?_)
    | refine le_condK ?_ ?_
    | exact hR _ _ _
    | refine le_obind2 fun _ _ => ?_
    | refine le_obindH fun _ => ?_
    | refine le_spanK (fun _ _ _ => ?_) (fun _ _ => ?_)
    | exact hc _ _ _
    | refine le_bif ?_ ?_
    | refine le_guardK ?_ ?_ ?_
    | refine le_mapK fun _ _ => ?_
    | refine le_panK fun _ _ => ?_
    | refine le_funK fun _ _ => ?_
    | exact le_refl _
    | apply_assumption
noncomputable def q58_0p3 (cf : CallF) (R : Rec) (h12 : H) (x17 : IV) (x15 : IV) : CRes :=
 Qo (Ql0 h12 x17) fun x18 =>
 Qo (Qsub x18 (.int .i64 1)) fun x19 =>
 Qo (Qix 3 x15 x19) fun x20 =>
 Qo (Qfad 1 x20) fun x21 =>
 Qo (Ql0 h12 x21) fun x22 =>
 .ok x22 h12
noncomputable def q58_0p2 (cf : CallF) (R : Rec) (x13 : IV) (h12 : H) (a0 : IV) : CRes :=
 Qo (Qfad 0 x13) fun x14 =>
 Qo (Ql0 h12 x14) fun x15 =>
 Qo (Qnil a0) fun x16 =>
 Qo (Qfad 1 x16) fun x17 =>
 q58_0p3 cf R h12 x17 x15
noncomputable def q58_0p1 (cf : CallF) (R : Rec) (a0 : IV) (h2 : H) (x9 : IV) : CRes :=
 Qo (Qnil a0) fun x10 =>
 Qo (Qfad 1 x10) fun x11 =>
 QoH (QsA 1 h2 x11 x9) fun h12 =>
 Qo (Qnil a0) fun x13 =>
 q58_0p2 cf R x13 h12 a0
noncomputable def q58_0 (cf : CallF) (R : Rec) (a0 : IV) (h : H) : CRes :=
 Qc (cf 83 [a0] h) .pan fun x1 h2 =>
 Qo (Qnot x1) fun x3 =>
 Qif x3
 (Qc (cf 82 [a0, (.int .i64 40)] h2) .pan fun x4 h5 =>
 .ok (.str ⟨0, 0⟩) h5)
 (Qo (Qnil a0) fun x6 =>
 Qo (Qfad 1 x6) fun x7 =>
 Qo (Ql0 h2 x7) fun x8 =>
 Qo (Qadd x8 (.int .i64 1)) fun x9 =>
 q58_0p1 cf R a0 h2 x9)
theorem qe58_0 : q58_0 = t58_0 := by
  unfold q58_0 q58_0p1 q58_0p2 q58_0p3
  try simp only [QE]
  try rfl
noncomputable def bt58 (cf : CallF) (R : Rec) : Rec := fun i l h =>
 br1 i 0 l (fun a0 => t58_0 cf R a0 h) <|
 .fail
noncomputable def b58 (cf : CallF) (R : Rec) : Rec := fun i l h =>
 brQ1 i 0 l (fun a0 => q58_0 cf R a0 h) <|
 .fail
theorem be58 : b58 = bt58 := by
  unfold b58 bt58
  simp only [qe58_0, brQ1_eq]
theorem r58 {T : Tab} {cf : CallF} (hc : leC cf (CL T)) (n : Nat) : leR (recN (b58 cf) n) (J58 T) := be58 ▸ recN_le (fun R hR i l h => by
  unfold bt58
  refine le_br1 (J := fun i l => J58 T i l h) (fun _ a0 => le_e (fun hn => e58_0 rfl hn) ((m58 hc hR) a0 h)) ?_
  exact le_fail _) n
theorem m59 {cf cf' : CallF} {R R' : Rec} (hc : ∀ f l h, le (cf f l h) (cf' f l h)) (hR : ∀ i l h, le (R i l h) (R' i l h)) : (∀ (a0 a1 : IV) (h : H), le (t59_0 cf R a0 a1 h) (t59_0 cf' R' a0 a1 h)) := by
  intros
  unfold t59_0
  with_reducible repeat' first
    | refine le_obind fun _ => ?_
    | refine le_callP ?_ (fun _ _ => ?_) (fun _ _ => ?_)
    | refine le_condK ?_ ?_
    | exact hR _ _ _
    | refine le_obind2 fun _ _ => ?_
    | refine le_obindH fun _ => ?_
    | refine le_spanK (fun _ _ _ => ?_) (fun _ _ => ?_)
    | exact hc _ _ _
    | refine le_bif ?_ ?_
    | refine le_guardK ?_ ?_ ?_
    | refine le_mapK fun _ _ => ?_
    | refine le_panK fun _ _ => ?_
    | refine le_funK fun _ _ => ?_
    | exact le_refl _
    | apply_assumption
noncomputable def q59_0p1 (cf : CallF) (R : Rec) (a0 : IV) (h2 : H) (x7 : IV) : CRes :=
 Qo (Qnil a0) fun x8 =>
 Qo (Qfad 1 x8) fun x9 =>
 QoH (QsA 1 h2 x9 x7) fun h10 =>
 .ok (.bool true) h10
noncomputable def q59_0 (cf : CallF) (R : Rec) (a0 : IV) (a1 : IV) (h : H) : CRes :=
 Qc (cf 84 [a0, a1] h) .pan fun x1 h2 =>
 Qo (Qnot x1) fun x3 =>
 Qif x3
 (.ok (.bool false) h2)
 (Qo (Qnil a0) fun x4 =>
 Qo (Qfad 1 x4) fun x5 =>
 Qo (Ql0 h2 x5) fun x6 =>
 Qo (Qadd x6 (.int .i64 1)) fun x7 =>
 q59_0p1 cf R a0 h2 x7)
theorem qe59_0 : q59_0 = t59_0 := by
  unfold q59_0 q59_0p1
  try simp only [QE]
  try rfl
noncomputable def bt59 (cf : CallF) (R : Rec) : Rec := fun i l h =>
 br2 i 0 l (fun a0 a1 => t59_0 cf R a0 a1 h) <|
 .fail
noncomputable def b59 (cf : CallF) (R : Rec) : Rec := fun i l h =>
 brQ2 i 0 l (fun a0 a1 => q59_0 cf R a0 a1 h) <|
 .fail
theorem be59 : b59 = bt59 := by
  unfold b59 bt59
  simp only [qe59_0, brQ2_eq]
theorem r59 {T : Tab} {cf : CallF} (hc : leC cf (CL T)) (n : Nat) : leR (recN (b59 cf) n) (J59 T) := be59 ▸ recN_le (fun R hR i l h => by
  unfold bt59
  refine le_br2 (J := fun i l => J59 T i l h) (fun _ a0 a1 => le_e (fun hn => e59_0 rfl hn) ((m59 hc hR) a0 a1 h)) ?_
  exact le_fail _) n
theorem m60 {cf cf' : CallF} {R R' : Rec} (hc : ∀ f l h, le (cf f l h) (cf' f l h)) (hR : ∀ i l h, le (R i l h) (R' i l h)) :
  (∀ (a0 : IV) (h : H), le (t60_0 cf R a0 h) (t60_0 cf' R' a0 h)) ∧
  (∀ (a0 a3 : IV) (h : H), le (t60_2 cf R a0 a3 h) (t60_2 cf' R' a0 a3 h)) ∧
  (∀ (a0 a3 : IV) (h : H), le (t60_1 cf R a0 a3 h) (t60_1 cf' R' a0 a3 h)) := by
  refine ⟨?_, ?_, ?_⟩
  all_goals intros
  all_goals first | unfold t60_0 | unfold t60_2 | unfold t60_1
  all_goals
  with_reducible repeat' first
    | refine le_obind fun _ => ?_
    | refine le_callP ?_ (fun _ _ => ?_) (fun _ _ => ?_)
    | refine le_condK ?_ ?_
    | exact hR _ _ _
    | refine le_obind2 fun _ _ => ?_
    | refine le_obindH fun _ => ?_
    | refine le_spanK (fun _ _ _ => ?_) (fun _ _ => ?_)
    | exact hc _ _ _
    | refine le_bif ?_ ?_
    | refine le_guardK ?_ ?_ ?_
    | refine le_mapK fun _ _ => ?_
    | refine le_panK fun _ _ => ?_
    | refine le_funK fun _ _ => ?_
    | exact le_refl _
    | apply_assumption
noncomputable def q60_0 (cf : CallF) (R : Rec) (a0 : IV) (h : H) : CRes :=
 Qc (cf 57 [a0, (.str ⟨1, 40⟩)] h) .pan fun x1 h2 =>
 R 2 [a0, .nilSlice] h2
theorem qe60_0 : q60_0 = t60_0 := by
  unfold q60_0
  try simp only [QE]
  try rfl
noncomputable def q60_2p4 (cf : CallF) (R : Rec) (x28 : IV) (a0 : IV) (x26 : IV) (h29 : H) : CRes :=
 Qo (Qnot x28) fun x30 =>
 Qif x30
 (R 1 [a0, x26] h29)
 (R 2 [a0, x26] h29)
noncomputable def q60_2p3 (cf : CallF) (R : Rec) (h22 : H) (x10 : IV) (a3 : IV) (a0 : IV) : CRes :=
 Qo (QlA 8 h22 x10) fun x23 =>
 Qo2 (Qbsl false 8 z5 1 [(0, x23)] h22) fun x24 h25 =>
 Qo2 (appK 8 104 h25 a3 x24) fun x26 h27 =>
 Qc (cf 59 [a0, (.str ⟨1, 44⟩)] h27) .pan fun x28 h29 =>
 q60_2p4 cf R x28 a0 x26 h29
noncomputable def q60_2p2 (cf : CallF) (R : Rec) (a0 : IV) (h16 : H) (x10 : IV) (a3 : IV) : CRes :=
 Qc (cf 57 [a0, (.str ⟨1, 61⟩)] h16) .pan fun x17 h18 =>
 Qc (cf 85 [a0, (.int .i64 1)] h18) .pan fun x19 h20 =>
 Qo (Qfad 1 x10) fun x21 =>
 QoH (QsA 6 h20 x21 x19) fun h22 =>
 q60_2p3 cf R h22 x10 a3 a0
noncomputable def q60_2p1 (cf : CallF) (R : Rec) (h11 : H) (x10 : IV) (x9 : IV) (a0 : IV) (a3 : IV) : CRes :=
 QoH (QsA 8 h11 x10 x9) fun h12 =>
 Qc (cf 58 [a0] h12) .pan fun x13 h14 =>
 Qo (Qfad 0 x10) fun x15 =>
 QoH (QsA 1 h14 x15 x13) fun h16 =>
 q60_2p2 cf R a0 h16 x10 a3
noncomputable def q60_2 (cf : CallF) (R : Rec) (a0 : IV) (a3 : IV) (h : H) : CRes :=
 Qc (cf 38 [a0] h) .pan fun x3 h4 =>
 Qif x3
 (Qc (cf 57 [a0, (.str ⟨9, 2110239404018478768496⟩)] h4) .pan fun x5 h6 =>
 Qc (cf 56 [a0] h6) .pan fun x7 h8 =>
 Qo (Qbld z5 p19 [(2, x7)]) fun x9 =>
 Qo2 (QnI h8 z5) fun x10 h11 =>
 q60_2p1 cf R h11 x10 x9 a0 a3)
 (R 1 [a0, a3] h4)
theorem qe60_2 : q60_2 = t60_2 := by
  unfold q60_2 q60_2p1 q60_2p2 q60_2p3 q60_2p4
  try simp only [QE]
  try rfl
noncomputable def q60_1 (cf : CallF) (R : Rec) (a0 : IV) (a3 : IV) (h : H) : CRes :=
 Qc (cf 57 [a0, (.str ⟨1, 41⟩)] h) .pan fun x31 h32 =>
 .ok a3 h32
theorem qe60_1 : q60_1 = t60_1 := by
  unfold q60_1
  try simp only [QE]
  try rfl
noncomputable def bt60 (cf : CallF) (R : Rec) : Rec := fun i l h =>
 br1 i 0 l (fun a0 => t60_0 cf R a0 h) <|
 br2 i 2 l (fun a0 a3 => t60_2 cf R a0 a3 h) <|
 br2 i 1 l (fun a0 a3 => t60_1 cf R a0 a3 h) <|
 .fail
noncomputable def b60 (cf : CallF) (R : Rec) : Rec := fun i l h =>
 brQ1 i 0 l (fun a0 => q60_0 cf R a0 h) <|
 brQ2 i 2 l (fun a0 a3 => q60_2 cf R a0 a3 h) <|
 brQ2 i 1 l (fun a0 a3 => q60_1 cf R a0 a3 h) <|
 .fail
theorem be60 : b60 = bt60 := by
  unfold b60 bt60
  simp only [qe60_0, qe60_2, qe60_1, brQ1_eq, brQ2_eq]
theorem r60 {T : Tab} {cf : CallF} (hc : leC cf (CL T)) (n : Nat) : leR (recN (b60 cf) n) (J60 T) := be60 ▸ recN_le (fun R hR i l h => by
  unfold bt60
  refine le_br1 (J := fun i l => J60 T i l h) (fun _ a0 => le_e (fun hn => e60_0 rfl hn) ((m60 hc hR).1 a0 h)) ?_
  refine le_br2 (J := fun i l => J60 T i l h) (fun _ a0 a3 => le_e (fun hn => e60_2 rfl hn) ((m60 hc hR).2.1 a0 a3 h)) ?_
  refine le_br2 (J := fun i l => J60 T i l h) (fun _ a0 a3 => le_e (fun hn => e60_1 rfl hn) ((m60 hc hR).2.2 a0 a3 h)) ?_
  exact le_fail _) n
theorem m61 {cf cf' : CallF} {R R' : Rec} (hc : ∀ f l h, le (cf f l h) (cf' f l h)) (hR : ∀ i l h, le (R i l h) (R' i l h)) :
  (∀ (a0 : IV) (h : H), le (t61_0 cf R a0 h) (t61_0 cf' R' a0 h)) ∧
  (∀ (a0 a2 a3 : IV) (h : H), le (t61_1 cf R a0 a2 a3 h) (t61_1 cf' R' a0 a2 a3 h)) := by
  refine ⟨?_, ?_⟩
  all_goals intros
  all_goals first | unfold t61_0 | unfold t61_1
  all_goals
  with_reducible repeat' first
    | refine le_obind fun _ => ?_
    | refine le_callP ?_ (fun _ _ => ?_) (fun _ _ => ?_)
    | refine le_condK ?_ ?_
    | exact hR _ _ _
    | refine le_obind2 fun _ _ => ?_
    | refine le_obindH fun _ => ?_
    | refine le_spanK (fun _ _ _ => ?_) (fun _ _ => ?_)
    | exact hc _ _ _
    | refine le_bif ?_ ?_
    | refine le_guardK ?_ ?_ ?_
    | refine le_mapK fun _ _ => ?_
    | refine le_panK fun _ _ => ?_
    | refine le_funK fun _ _ => ?_
    | exact le_refl _
    | apply_assumption
noncomputable def q61_0p1 (cf : CallF) (R : Rec) (h7 : H) (x6 : IV) (x5 : IV) (a0 : IV) (x1 : IV) : CRes :=
 QoH (QsA 17 h7 x6 x5) fun h8 =>
 Qc (cf 59 [a0, (.str ⟨6, 128047746676079⟩)] h8) .pan fun x9 h10 =>
 Qif x9
 (Qo (Qfad 0 x6) fun x11 =>
 QoH (QsA 1 h10 x11 (.bool true)) fun h12 =>
 Qc (cf 59 [a0, (.str ⟨3, 6776178⟩)] h12) .pan fun x13 h14 =>
 Qo (Qfad 1 x6) fun x15 =>
 QoH (QsA 1 h14 x15 x13) fun h16 =>
 R 1 [a0, x1, x6] h16)
 (Qc (cf 57 [a0, (.str ⟨5, 500186508905⟩)] h10) .pan fun x17 h18 =>
 R 1 [a0, x1, x6] h18)
noncomputable def q61_0 (cf : CallF) (R : Rec) (a0 : IV) (h : H) : CRes :=
 Qo2 (QnI h z9) fun x1 h2 =>
 Qc (cf 56 [a0] h2) .pan fun x3 h4 =>
 Qo (Qbld z9 p20 [(6, x3)]) fun x5 =>
 Qo2 (QnI h4 z9) fun x6 h7 =>
 q61_0p1 cf R h7 x6 x5 a0 x1
theorem qe61_0 : q61_0 = t61_0 := by
  unfold q61_0 q61_0p1
  try simp only [QE]
  try rfl
noncomputable def q61_1p3 (cf : CallF) (R : Rec) (h31 : H) (x32 : IV) (x30 : IV) (a3 : IV) (a2 : IV) : CRes :=
 QoH (QsA 1 h31 x32 x30) fun h33 =>
 Qo (QlA 17 h33 a3) fun x34 =>
 QoH (QsA 17 h33 a2 x34) fun h35 =>
 Qo (QlA 17 h35 a2) fun x36 =>
 .ok x36 h35
noncomputable def q61_1p2 (cf : CallF) (R : Rec) (a3 : IV) (h27 : H) (x23 : IV) (a0 : IV) (a2 : IV) : CRes :=
 Qo (Qfad 9 a3) fun x28 =>
 QoH (QsA 6 h27 x28 x23) fun h29 =>
 Qc (cf 58 [a0] h29) .pan fun x30 h31 =>
 Qo (Qfad 15 a3) fun x32 =>
 q61_1p3 cf R h31 x32 x30 a3 a2
noncomputable def q61_1p1 (cf : CallF) (R : Rec) (a3 : IV) (h20 : H) (x21 : IV) (x22 : IV) (x23 : IV) (a0 : IV) (a2 : IV) : CRes :=
 Qo (Qfad 2 a3) fun x24 =>
 QoH (QsA 1 h20 x24 x21) fun h25 =>
 Qo (Qfad 3 a3) fun x26 =>
 QoH (QsA 6 h25 x26 x22) fun h27 =>
 q61_1p2 cf R a3 h27 x23 a0 a2
noncomputable def q61_1 (cf : CallF) (R : Rec) (a0 : IV) (a2 : IV) (a3 : IV) (h : H) : CRes :=
 Qc (cf 86 [a0] h) .pan fun x19 h20 =>
 Qo (Qext x19 0) fun x21 =>
 Qo (Qext x19 1) fun x22 =>
 Qo (Qext x19 2) fun x23 =>
 q61_1p1 cf R a3 h20 x21 x22 x23 a0 a2
theorem qe61_1 : q61_1 = t61_1 := by
  unfold q61_1 q61_1p1 q61_1p2 q61_1p3
  try simp only [QE]
  try rfl
noncomputable def bt61 (cf : CallF) (R : Rec) : Rec := fun i l h =>
 br1 i 0 l (fun a0 => t61_0 cf R a0 h) <|
 br3 i 1 l (fun a0 a2 a3 => t61_1 cf R a0 a2 a3 h) <|
 .fail
noncomputable def b61 (cf : CallF) (R : Rec) : Rec := fun i l h =>
 brQ1 i 0 l (fun a0 => q61_0 cf R a0 h) <|
 brQ3 i 1 l (fun a0 a2 a3 => q61_1 cf R a0 a2 a3 h) <|
 .fail
theorem be61 : b61 = bt61 := by
  unfold b61 bt61
  simp only [qe61_0, qe61_1, brQ1_eq, brQ3_eq]
theorem r61 {T : Tab} {cf : CallF} (hc : leC cf (CL T)) (n : Nat) : leR (recN (b61 cf) n) (J61 T) := be61 ▸ recN_le (fun R hR i l h => by
  unfold bt61
  refine le_br1 (J := fun i l => J61 T i l h) (fun _ a0 => le_e (fun hn => e61_0 rfl hn) ((m61 hc hR).1 a0 h)) ?_
  refine le_br3 (J := fun i l => J61 T i l h) (fun _ a0 a2 a3 => le_e (fun hn => e61_1 rfl hn) ((m61 hc hR).2 a0 a2 a3 h)) ?_
  exact le_fail _) n
theorem m62 {cf cf' : CallF} {R R' : Rec} (hc : ∀ f l h, le (cf f l h) (cf' f l h)) (hR : ∀ i l h, le (R i l h) (R' i l h)) :
  (∀ (a0 a1 a2 : IV) (h : H), le (t62_0 cf R a0 a1 a2 h) (t62_0 cf' R' a0 a1 a2 h)) ∧
  (∀ (a0 a1 a2 a7 : IV) (h : H), le (t62_1 cf R a0 a1 a2 a7 h) (t62_1 cf' R' a0 a1 a2 a7 h)) := by
  refine ⟨?_, ?_⟩
  all_goals intros
  all_goals first | unfold t62_0 | unfold t62_1
  all_goals
  with_reducible repeat' first
    | refine le_obind fun _ => ?_
    | refine le_callP ?_ (fun _ _ => ?_) (fun _ _ => ?_)
    | refine le_condK ?_ ?_
    | exact hR _ _ _
    | refine le_obind2 fun _ _ => ?_
    | refine le_obindH fun _ => ?_
    | refine le_spanK (fun _ _ _ => ?_) (fun _ _ => ?_)
    | exact hc _ _ _
    | refine le_bif ?_ ?_
    | refine le_guardK ?_ ?_ ?_
    | refine le_mapK fun _ _ => ?_
    | refine le_panK fun _ _ => ?_
    | refine le_funK fun _ _ => ?_
    | exact le_refl _
    | apply_assumption
noncomputable def q62_0 (cf : CallF) (R : Rec) (a0 : IV) (a1 : IV) (a2 : IV) (h : H) : CRes :=
 R 1 [a0, a1, a2, .nilSlice] h
theorem qe62_0 : q62_0 = t62_0 := by
  unfold q62_0
  try simp only [QE]
  try rfl
noncomputable def q62_1 (cf : CallF) (R : Rec) (a0 : IV) (a1 : IV) (a2 : IV) (a7 : IV) (h : H) : CRes :=
 Qc (cf 38 [a0] h) .pan fun x1 h2 =>
 Qsp x1 true h2 (fun k3 =>
 Qc (cf 59 [a0, a1] h2) .pan fun x6 h7 =>
 Qo (Qnot x6) fun x8 =>
 k3 x8 h7) fun x4 h5 =>
 Qo (Qpk x1 (some x4) (some (.bool false))) fun x9 =>
 Qif x9
 (Qc (cf 87 [a0, a2] h5) .pan fun x10 h11 =>
 Qo2 (Qbsl false 48 z10 1 [(0, x10)] h11) fun x12 h13 =>
 Qo2 (appK 48 680 h13 a7 x12) fun x14 h15 =>
 R 1 [a0, a1, a2, x14] h15)
 (.ok a7 h5)
theorem qe62_1 : q62_1 = t62_1 := by
  unfold q62_1
  try simp only [QE]
  try rfl
noncomputable def bt62 (cf : CallF) (R : Rec) : Rec := fun i l h =>
 br3 i 0 l (fun a0 a1 a2 => t62_0 cf R a0 a1 a2 h) <|
 br4 i 1 l (fun a0 a1 a2 a7 => t62_1 cf R a0 a1 a2 a7 h) <|
 .fail
noncomputable def b62 (cf : CallF) (R : Rec) : Rec := fun i l h =>
 brQ3 i 0 l (fun a0 a1 a2 => q62_0 cf R a0 a1 a2 h) <|
 brQ4 i 1 l (fun a0 a1 a2 a7 => q62_1 cf R a0 a1 a2 a7 h) <|
 .fail
theorem be62 : b62 = bt62 := by
  unfold b62 bt62
  simp only [qe62_0, qe62_1, brQ3_eq, brQ4_eq]
theorem r62 {T : Tab} {cf : CallF} (hc : leC cf (CL T)) (n : Nat) : leR (recN (b62 cf) n) (J62 T) := be62 ▸ recN_le (fun R hR i l h => by
  unfold bt62
  refine le_br3 (J := fun i l => J62 T i l h) (fun _ a0 a1 a2 => le_e (fun hn => e62_0 rfl hn) ((m62 hc hR).1 a0 a1 a2 h)) ?_
  refine le_br4 (J := fun i l => J62 T i l h) (fun _ a0 a1 a2 a7 => le_e (fun hn => e62_1 rfl hn) ((m62 hc hR).2 a0 a1 a2 a7 h)) ?_
  exact le_fail _) n
theorem m63 {cf cf' : CallF} {R R' : Rec} (hc : ∀ f l h, le (cf f l h) (cf' f l h)) (hR : ∀ i l h, le (R i l h) (R' i l h)) :
  (∀ (a0 a1 a2 a3 a4 : IV) (h : H), le (t63_0 cf R a0 a1 a2 a3 a4 h) (t63_0 cf' R' a0 a1 a2 a3 a4 h)) ∧
  (∀ (a0 a2 a4 a11 a12 : IV) (h : H), le (t63_1 cf R a0 a2 a4 a11 a12 h) (t63_1 cf' R' a0 a2 a4 a11 a12 h)) ∧
  (∀ (a11 : IV) (h : H), le (t63_2 cf R a11 h) (t63_2 cf' R' a11 h)) := by
  refine ⟨?_, ?_, ?_⟩
  all_goals intros
  all_goals first | unfold t63_0 | unfold t63_1 | unfold t63_2
  all_goals
  with_reducible repeat' first
    | refine le_obind fun _ => ?_
    | refine le_callP ?_ (fun _ _ => ?_) (fun _ _ => ?_)
    | refine le_condK ?_ ?_
    | exact hR _ _ _
    | refine le_obind2 fun _ _ => ?_
    | refine le_obindH fun _ => ?_
    | refine le_spanK (fun _ _ _ => ?_) (fun _ _ => ?_)
    | exact hc _ _ _
    | refine le_bif ?_ ?_
    | refine le_guardK ?_ ?_ ?_
    | refine le_mapK fun _ _ => ?_
    | refine le_panK fun _ _ => ?_
    | refine le_funK fun _ _ => ?_
    | exact le_refl _
    | apply_assumption
noncomputable def b63 (cf : CallF) (R : Rec) : Rec := fun i l h =>
 br5 i 0 l (fun a0 a1 a2 a3 a4 => t63_0 cf R a0 a1 a2 a3 a4 h) <|
 br5 i 1 l (fun a0 a2 a4 a11 a12 => t63_1 cf R a0 a2 a4 a11 a12 h) <|
 br1 i 2 l (fun a11 => t63_2 cf R a11 h) <|
 .fail
theorem r63 {T : Tab} {cf : CallF} (hc : leC cf (CL T)) (n : Nat) : leR (recN (b63 cf) n) (J63 T) := recN_le (fun R hR i l h => by
  unfold b63
  refine le_br5 (J := fun i l => J63 T i l h) (fun _ a0 a1 a2 a3 a4 => le_e (fun hn => e63_0 rfl hn) ((m63 hc hR).1 a0 a1 a2 a3 a4 h)) ?_
  refine le_br5 (J := fun i l => J63 T i l h) (fun _ a0 a2 a4 a11 a12 => le_e (fun hn => e63_1 rfl hn) ((m63 hc hR).2.1 a0 a2 a4 a11 a12 h)) ?_
  refine le_br1 (J := fun i l => J63 T i l h) (fun _ a11 => le_e (fun hn => e63_2 rfl hn) ((m63 hc hR).2.2 a11 h)) ?_
  exact le_fail _) n
theorem m64 {cf cf' : CallF} {R R' : Rec} (hc : ∀ f l h, le (cf f l h) (cf' f l h)) (hR : ∀ i l h, le (R i l h) (R' i l h)) :
  (∀ (a0 a1 : IV) (h : H), le (t64_0 cf R a0 a1 h) (t64_0 cf' R' a0 a1 h)) ∧
  (∀ (a0 : IV) (h : H), le (t64_1 cf R a0 h) (t64_1 cf' R' a0 h)) := by
  refine ⟨?_, ?_⟩
  all_goals intros
  all_goals first | unfold t64_0 | unfold t64_1
  all_goals
  with_reducible repeat' first
    | refine le_obind fun _ => ?_
    | refine le_callP ?_ (fun _ _ => ?_) (fun _ _ => ?_)
    | refine le_condK ?_ ?_
    | exact hR _ _ _
    | refine le_obind2 fun _ _ => ?_
    | refine le_obindH fun _ => ?_
    | refine le_spanK (fun _ _ _ => ?_) (fun _ _ => ?_)
    | exact hc _ _ _
    | refine le_bif ?_ ?_
    | refine le_guardK ?_ ?_ ?_
    | refine le_mapK fun _ _ => ?_
    | refine le_panK fun _ _ => ?_
    | refine le_funK fun _ _ => ?_
    | exact le_refl _
    | apply_assumption
noncomputable def b64 (cf : CallF) (R : Rec) : Rec := fun i l h =>
 br2 i 0 l (fun a0 a1 => t64_0 cf R a0 a1 h) <|
 br1 i 1 l (fun a0 => t64_1 cf R a0 h) <|
 .fail
theorem r64 {T : Tab} {cf : CallF} (hc : leC cf (CL T)) (n : Nat) : leR (recN (b64 cf) n) (J64 T) := recN_le (fun R hR i l h => by
  unfold b64
  refine le_br2 (J := fun i l => J64 T i l h) (fun _ a0 a1 => le_e (fun hn => e64_0 rfl hn) ((m64 hc hR).1 a0 a1 h)) ?_
  refine le_br1 (J := fun i l => J64 T i l h) (fun _ a0 => le_e (fun hn => e64_1 rfl hn) ((m64 hc hR).2 a0 h)) ?_
  exact le_fail _) n
theorem m65 {cf cf' : CallF} {R R' : Rec} (hc : ∀ f l h, le (cf f l h) (cf' f l h)) (hR : ∀ i l h, le (R i l h) (R' i l h)) :
  (∀ (a0 a1 : IV) (h : H), le (t65_0 cf R a0 a1 h) (t65_0 cf' R' a0 a1 h)) ∧
  (∀ (a0 a3 : IV) (h : H), le (t65_1 cf R a0 a3 h) (t65_1 cf' R' a0 a3 h)) ∧
  (∀ (a0 a33 a34 a35 : IV) (h : H), le (t65_2 cf R a0 a33 a34 a35 h) (t65_2 cf' R' a0 a33 a34 a35 h)) := by
  refine ⟨?_, ?_, ?_⟩
  all_goals intros
  all_goals first | unfold t65_0 | unfold t65_1 | unfold t65_2
  all_goals
  with_reducible repeat' first
    | refine le_obind fun _ => ?_
    | refine le_callP ?_ (fun _ _ => ?_) (fun _ _ => ?_)
    | refine le_condK ?_ ?_
    | exact hR _ _ _
    | refine le_obind2 fun _ _ => ?_
    | refine le_obindH fun _ => ?_
    | refine le_spanK (fun _ _ _ => ?_) (fun _ _ => ?_)
    | exact hc _ _ _
    | refine le_bif ?_ ?_
    | refine le_guardK ?_ ?_ ?_
    | refine le_mapK fun _ _ => ?_
    | refine le_panK fun _ _ => ?_
    | refine le_funK fun _ _ => ?_
    | exact le_refl _
    | apply_assumption
noncomputable def b65 (cf : CallF) (R : Rec) : Rec := fun i l h =>
 br2 i 0 l (fun a0 a1 => t65_0 cf R a0 a1 h) <|
 br2 i 1 l (fun a0 a3 => t65_1 cf R a0 a3 h) <|
 br4 i 2 l (fun a0 a33 a34 a35 => t65_2 cf R a0 a33 a34 a35 h) <|
 .fail
theorem r65 {T : Tab} {cf : CallF} (hc : leC cf (CL T)) (n : Nat) : leR (recN (b65 cf) n) (J65 T) := recN_le (fun R hR i l h => by
  unfold b65
  refine le_br2 (J := fun i l => J65 T i l h) (fun _ a0 a1 => le_e (fun hn => e65_0 rfl hn) ((m65 hc hR).1 a0 a1 h)) ?_
  refine le_br2 (J := fun i l => J65 T i l h) (fun _ a0 a3 => le_e (fun hn => e65_1 rfl hn) ((m65 hc hR).2.1 a0 a3 h)) ?_
  refine le_br4 (J := fun i l => J65 T i l h) (fun _ a0 a33 a34 a35 => le_e (fun hn => e65_2 rfl hn) ((m65 hc hR).2.2 a0 a33 a34 a35 h)) ?_
  exact le_fail _) n
theorem m67 {cf cf' : CallF} {R R' : Rec} (hc : ∀ f l h, le (cf f l h) (cf' f l h)) (hR : ∀ i l h, le (R i l h) (R' i l h)) :
  (∀ (a0 a1 a2 : IV) (h : H), le (t67_0 cf R a0 a1 a2 h) (t67_0 cf' R' a0 a1 a2 h)) ∧
  (∀ (a0 a4 a6 : IV) (h : H), le (t67_1 cf R a0 a4 a6 h) (t67_1 cf' R' a0 a4 a6 h)) ∧
  (∀ (a0 a4 a6 a8 a9 a33 a34 a35 : IV) (h : H), le (t67_2 cf R a0 a4 a6 a8 a9 a33 a34 a35 h) (t67_2 cf' R' a0 a4 a6 a8 a9 a33 a34 a35 h)) ∧
  (∀ (a0 a4 a6 a8 a9 a44 a45 a46 : IV) (h : H), le (t67_3 cf R a0 a4 a6 a8 a9 a44 a45 a46 h) (t67_3 cf' R' a0 a4 a6 a8 a9 a44 a45 a46 h)) ∧
  (∀ (a0 a4 a6 a8 a9 a13 a44 a45 a46 : IV) (h : H), le (t67_4 cf R a0 a4 a6 a8 a9 a13 a44 a45 a46 h) (t67_4 cf' R' a0 a4 a6 a8 a9 a13 a44 a45 a46 h)) ∧
  (∀ (a0 a4 a6 a9 a64 a65 : IV) (h : H), le (t67_5 cf R a0 a4 a6 a9 a64 a65 h) (t67_5 cf' R' a0 a4 a6 a9 a64 a65 h)) ∧
  (∀ (a0 a9 a81 a82 a83 : IV) (h : H), le (t67_6 cf R a0 a9 a81 a82 a83 h) (t67_6 cf' R' a0 a9 a81 a82 a83 h)) ∧
  (∀ (a0 a9 a16 a17 a81 a82 a83 : IV) (h : H), le (t67_8 cf R a0 a9 a16 a17 a81 a82 a83 h) (t67_8 cf' R' a0 a9 a16 a17 a81 a82 a83 h)) ∧
  (∀ (a0 a9 a81 a82 a83 : IV) (h : H), le (t67_7 cf R a0 a9 a81 a82 a83 h) (t67_7 cf' R' a0 a9 a81 a82 a83 h)) ∧
  (∀ (a0 a9 a16 a81 a82 a83 : IV) (h : H), le (t67_9 cf R a0 a9 a16 a81 a82 a83 h) (t67_9 cf' R' a0 a9 a16 a81 a82 a83 h)) := by
  refine ⟨?_, ?_, ?_, ?_, ?_, ?_, ?_, ?_, ?_, ?_⟩
  all_goals intros
  all_goals first | unfold t67_0 | unfold t67_1 | unfold t67_2 | unfold t67_3 | unfold t67_4 | unfold t67_5 | unfold t67_6 | unfold t67_8 | unfold t67_7 | unfold t67_9
  all_goals
  with_reducible repeat' first
    | refine le_obind fun _ => ?_
    | refine le_callP ?_ (fun _ _ => ?_) (fun _ _ => ?_)
    | refine le_condK ?_ ?_
    | exact hR _ _ _
    | refine le_obind2 fun _ _ => ?_
    | refine le_obindH fun _ => ?_
    | refine le_spanK (fun _ _ _ => ?_) (fun _ _ => ?_)
    | exact hc _ _ _
    | refine le_bif ?_ ?_
    | refine le_guardK ?_ ?_ ?_
    | refine le_mapK fun _ _ => ?_
    | refine le_panK fun _ _ => ?_
    | refine le_funK fun _ _ => ?_
    | exact le_refl _
    | apply_assumption
noncomputable def b67 (cf : CallF) (R : Rec) : Rec := fun i l h =>
 br3 i 0 l (fun a0 a1 a2 => t67_0 cf R a0 a1 a2 h) <|
 br3 i 1 l (fun a0 a4 a6 => t67_1 cf R a0 a4 a6 h) <|
 br8 i 2 l (fun a0 a4 a6 a8 a9 a33 a34 a35 => t67_2 cf R a0 a4 a6 a8 a9 a33 a34 a35 h) <|
 br8 i 3 l (fun a0 a4 a6 a8 a9 a44 a45 a46 => t67_3 cf R a0 a4 a6 a8 a9 a44 a45 a46 h) <|
 br9 i 4 l (fun a0 a4 a6 a8 a9 a13 a44 a45 a46 => t67_4 cf R a0 a4 a6 a8 a9 a13 a44 a45 a46 h) <|
 br6 i 5 l (fun a0 a4 a6 a9 a64 a65 => t67_5 cf R a0 a4 a6 a9 a64 a65 h) <|
 br5 i 6 l (fun a0 a9 a81 a82 a83 => t67_6 cf R a0 a9 a81 a82 a83 h) <|
 br7 i 8 l (fun a0 a9 a16 a17 a81 a82 a83 => t67_8 cf R a0 a9 a16 a17 a81 a82 a83 h) <|
 br5 i 7 l (fun a0 a9 a81 a82 a83 => t67_7 cf R a0 a9 a81 a82 a83 h) <|
 br6 i 9 l (fun a0 a9 a16 a81 a82 a83 => t67_9 cf R a0 a9 a16 a81 a82 a83 h) <|
 .fail
theorem r67 {T : Tab} {cf : CallF} (hc : leC cf (CL T)) (n : Nat) : leR (recN (b67 cf) n) (J67 T) := recN_le (fun R hR i l h => by
  unfold b67
  refine le_br3 (J := fun i l => J67 T i l h) (fun _ a0 a1 a2 => le_e (fun hn => e67_0 rfl hn) ((m67 hc hR).1 a0 a1 a2 h)) ?_
  refine le_br3 (J := fun i l => J67 T i l h) (fun _ a0 a4 a6 => le_e (fun hn => e67_1 rfl hn) ((m67 hc hR).2.1 a0 a4 a6 h)) ?_
  refine le_br8 (J := fun i l => J67 T i l h) (fun _ a0 a4 a6 a8 a9 a33 a34 a35 => le_e (fun hn => e67_2 rfl hn) ((m67 hc hR).2.2.1 a0 a4 a6 a8 a9 a33 a34 a35 h)) ?_
  refine le_br8 (J := fun i l => J67 T i l h) (fun _ a0 a4 a6 a8 a9 a44 a45 a46 => le_e (fun hn => e67_3 rfl hn) ((m67 hc hR).2.2.2.1 a0 a4 a6 a8 a9 a44 a45 a46 h)) ?_
  refine le_br9 (J := fun i l => J67 T i l h) (fun _ a0 a4 a6 a8 a9 a13 a44 a45 a46 => le_e (fun hn => e67_4 rfl hn) ((m67 hc hR).2.2.2.2.1 a0 a4 a6 a8 a9 a13 a44 a45 a46 h)) ?_
  refine le_br6 (J := fun i l => J67 T i l h) (fun _ a0 a4 a6 a9 a64 a65 => le_e (fun hn => e67_5 rfl hn) ((m67 hc hR).2.2.2.2.2.1 a0 a4 a6 a9 a64 a65 h)) ?_
  refine le_br5 (J := fun i l => J67 T i l h) (fun _ a0 a9 a81 a82 a83 => le_e (fun hn => e67_6 rfl hn) ((m67 hc hR).2.2.2.2.2.2.1 a0 a9 a81 a82 a83 h)) ?_
  refine le_br7 (J := fun i l => J67 T i l h) (fun _ a0 a9 a16 a17 a81 a82 a83 => le_e (fun hn => e67_8 rfl hn) ((m67 hc hR).2.2.2.2.2.2.2.1 a0 a9 a16 a17 a81 a82 a83 h)) ?_
  refine le_br5 (J := fun i l => J67 T i l h) (fun _ a0 a9 a81 a82 a83 => le_e (fun hn => e67_7 rfl hn) ((m67 hc hR).2.2.2.2.2.2.2.2.1 a0 a9 a81 a82 a83 h)) ?_
  refine le_br6 (J := fun i l => J67 T i l h) (fun _ a0 a9 a16 a81 a82 a83 => le_e (fun hn => e67_9 rfl hn) ((m67 hc hR).2.2.2.2.2.2.2.2.2 a0 a9 a16 a81 a82 a83 h)) ?_
  exact le_fail _) n
end Go.Proofs.YtimjkkcondljeaaGreatDoor
