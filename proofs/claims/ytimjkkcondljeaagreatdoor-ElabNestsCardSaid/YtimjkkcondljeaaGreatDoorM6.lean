import Derived.Test.YtimjkkcondljeaaGreatDoorM5
import Derived.Test.YtimjkkcondljeaaGreatDoorM3
set_option linter.unusedVariables false
set_option maxRecDepth 100000
set_option linter.unusedSimpArgs false
namespace Go.Proofs.YtimjkkcondljeaaGreatDoor
open Go I
theorem m68 {cf cf' : CallF} {R R' : Rec} (hc : ∀ f l h, le (cf f l h) (cf' f l h)) (hR : ∀ i l h, le (R i l h) (R' i l h)) : (∀ (a0 : IV) (h : H), le (t68_0 cf R a0 h) (t68_0 cf' R' a0 h)) := by
  intros
  unfold t68_0
  with_reducible repeat' first
    | refine le_obind fun _ => ?_
    | refine le_callP ?_ (fun _ _ => ?_) (fun _ _ => ?_)
    | refine le_condK ?_ ?_
    | exact hR _ _ _
    | refine le_obind2 fun _ _ => ?_
    | refine le_obindH fun _ => ?_
    | refine le_spanK (fun _ _ _ => ?_) (fun _ _ => ?_)
    | exact hc _ _ _
    | refine le_bif ?_ ?_
    | refine le_guardK ?_ ?_ ?_
    | refine le_mapK fun _ _ => ?_
    | refine le_panK fun _ _ => ?_
    | refine le_funK fun _ _ => ?_
    | exact le_refl _
    | apply_assumption
noncomputable def b68 (cf : CallF) (R : Rec) : Rec := fun i l h =>
 br1 i 0 l (fun a0 => t68_0 cf R a0 h) <|
 .fail
theorem r68 {T : Tab} {cf : CallF} (hc : leC cf (CL T)) (n : Nat) : leR (recN (b68 cf) n) (J68 T) := recN_le (fun R hR i l h => by
  unfold b68
  refine le_br1 (J := fun i l => J68 T i l h) (fun _ a0 => le_e (fun hn => e68_0 rfl hn) ((m68 hc hR) a0 h)) ?_
  exact le_fail _) n
theorem m70 {cf cf' : CallF} {R R' : Rec} (hc : ∀ f l h, le (cf f l h) (cf' f l h)) (hR : ∀ i l h, le (R i l h) (R' i l h)) : (∀ (a0 a1 : IV) (h : H), le (t70_0 cf R a0 a1 h) (t70_0 cf' R' a0 a1 h)) := by
  intros
  unfold t70_0
  with_reducible repeat' first
    | refine le_obind fun _ => ?_
    | refine le_callP ?_ (fun _ _ => ?_) (fun _ _ => ?_)
    | refine le_condK ?_ ?_
    | exact hR _ _ _
    | refine le_obind2 fun _ _ => ?_
    | refine le_obindH fun _ => ?_
    | refine le_spanK (fun _ _ _ => ?_) (fun _ _ => ?_)
    | exact hc _ _ _
    | refine le_bif ?_ ?_
    | refine le_guardK ?_ ?_ ?_
    | refine le_mapK fun _ _ => ?_
    | refine le_panK fun _ _ => ?_
    | refine le_funK fun _ _ => ?_
    | exact le_refl _
    | apply_assumption
noncomputable def b70 (cf : CallF) (R : Rec) : Rec := fun i l h =>
 br2 i 0 l (fun a0 a1 => t70_0 cf R a0 a1 h) <|
 .fail
theorem r70 {T : Tab} {cf : CallF} (hc : leC cf (CL T)) (n : Nat) : leR (recN (b70 cf) n) (J70 T) := recN_le (fun R hR i l h => by
  unfold b70
  refine le_br2 (J := fun i l => J70 T i l h) (fun _ a0 a1 => le_e (fun hn => e70_0 rfl hn) ((m70 hc hR) a0 a1 h)) ?_
  exact le_fail _) n
theorem m72 {cf cf' : CallF} {R R' : Rec} (hc : ∀ f l h, le (cf f l h) (cf' f l h)) (hR : ∀ i l h, le (R i l h) (R' i l h)) :
  (∀ (a0 a1 a2 : IV) (h : H), le (t72_0 cf R a0 a1 a2 h) (t72_0 cf' R' a0 a1 a2 h)) ∧
  (∀ (a1 a2 a3 a73 : IV) (h : H), le (t72_1 cf R a1 a2 a3 a73 h) (t72_1 cf' R' a1 a2 a3 a73 h)) ∧
  (∀ (a1 a2 a3 : IV) (h : H), le (t72_2 cf R a1 a2 a3 h) (t72_2 cf' R' a1 a2 a3 h)) ∧
  (∀ (a1 a2 a3 : IV) (h : H), le (t72_3 cf R a1 a2 a3 h) (t72_3 cf' R' a1 a2 a3 h)) := by
  refine ⟨?_, ?_, ?_, ?_⟩
  all_goals intros
  all_goals first | unfold t72_0 | unfold t72_1 | unfold t72_2 | unfold t72_3
  all_goals
  with_reducible repeat' first
    | refine le_obind fun _ => ?_
    | refine le_callP ?_ (fun _ _ => ?_) (fun _ _ => ?_)
    | refine le_condK ?_ ?_
    | exact hR _ _ _
    | refine le_obind2 fun _ _ => ?_
    | refine le_obindH fun _ => ?_
    | refine le_spanK (fun _ _ _ => ?_) (fun _ _ => ?_)
    | exact hc _ _ _
    | refine le_bif ?_ ?_
    | refine le_guardK ?_ ?_ ?_
    | refine le_mapK fun _ _ => ?_
    | refine le_panK fun _ _ => ?_
    | refine le_funK fun _ _ => ?_
    | exact le_refl _
    | apply_assumption
noncomputable def b72 (cf : CallF) (R : Rec) : Rec := fun i l h =>
 br3 i 0 l (fun a0 a1 a2 => t72_0 cf R a0 a1 a2 h) <|
 br4 i 1 l (fun a1 a2 a3 a73 => t72_1 cf R a1 a2 a3 a73 h) <|
 br3 i 2 l (fun a1 a2 a3 => t72_2 cf R a1 a2 a3 h) <|
 br3 i 3 l (fun a1 a2 a3 => t72_3 cf R a1 a2 a3 h) <|
 .fail
theorem r72 {T : Tab} {cf : CallF} (hc : leC cf (CL T)) (n : Nat) : leR (recN (b72 cf) n) (J72 T) := recN_le (fun R hR i l h => by
  unfold b72
  refine le_br3 (J := fun i l => J72 T i l h) (fun _ a0 a1 a2 => le_e (fun hn => e72_0 rfl hn) ((m72 hc hR).1 a0 a1 a2 h)) ?_
  refine le_br4 (J := fun i l => J72 T i l h) (fun _ a1 a2 a3 a73 => le_e (fun hn => e72_1 rfl hn) ((m72 hc hR).2.1 a1 a2 a3 a73 h)) ?_
  refine le_br3 (J := fun i l => J72 T i l h) (fun _ a1 a2 a3 => le_e (fun hn => e72_2 rfl hn) ((m72 hc hR).2.2.1 a1 a2 a3 h)) ?_
  refine le_br3 (J := fun i l => J72 T i l h) (fun _ a1 a2 a3 => le_e (fun hn => e72_3 rfl hn) ((m72 hc hR).2.2.2 a1 a2 a3 h)) ?_
  exact le_fail _) n
noncomputable def u74_0 (cf : CallF) (L : List IV → I.Mode → H → Option (I.Mode × H)) (D : List IV → Rec) (R : Rec) (a0 a1 : IV) (h : H) : CRes :=
 obind2 (newI h (IV.cells a0)) fun x1 h2 =>
 obind2 (newI h2 (IV.cells a1)) fun x3 h4 =>
 obind2 (newI h4 [(.int .i64 0)]) fun x5 h6 =>
 obind2 (newI h6 [(.int .i64 0), (.int .i64 0)]) fun x7 h8 =>
 obind (ldA 2 h8 x1) fun x9 =>
 obind (ldA 6 h8 x3) fun x10 =>
 callP (cf 96 [x9, x10] h8) (dfP (L [x5, x7]) fun h11 =>
 obind (ld0 h11 x5) fun x12 =>
 obind (ldA 2 h11 x7) fun x13 =>
 .ok (.tup [x12, x13]) h11) fun x14 h15 =>
 obind (bldK [(.int .i64 0), (.int .i64 0)] [(0, 1), (1, 1)] []) fun x16 =>
 obindH (stA 1 h15 x5 x14) fun h17 =>
 obindH (stA 2 h17 x7 x16) fun h18 =>
 dfK (L [x5, x7] .ret h18) fun h19 =>
 obind (ld0 h19 x5) fun x20 =>
 obind (ldA 2 h19 x7) fun x21 =>
 .ok (.tup [x20, x21]) h19
theorem m74 {cf cf' : CallF} {L L' : List IV → I.Mode → H → Option (I.Mode × H)} {D D' : List IV → Rec} {R R' : Rec} (hc : ∀ f l h, le (cf f l h) (cf' f l h)) (hL : ∀ l st h, leO (L l st h) (L' l st h)) (hD : ∀ l i x h, le (D l i x h) (D' l i x h)) (hR : ∀ i l h, le (R i l h) (R' i l h)) : (∀ (a0 a1 : IV) (h : H), le (u74_0 cf L D R a0 a1 h) (u74_0 cf' L' D' R' a0 a1 h)) := by
  intros
  unfold u74_0
  with_reducible repeat' first
    | refine le_obind fun _ => ?_
    | refine le_callP ?_ (fun _ _ => ?_) (fun _ _ => ?_)
    | refine le_condK ?_ ?_
    | exact hR _ _ _
    | refine le_obind2 fun _ _ => ?_
    | refine le_obindH fun _ => ?_
    | refine le_spanK (fun _ _ _ => ?_) (fun _ _ => ?_)
    | exact hc _ _ _
    | refine le_bif ?_ ?_
    | refine le_guardK ?_ ?_ ?_
    | refine le_mapK fun _ _ => ?_
    | refine le_panK fun _ _ => ?_
    | refine le_funK fun _ _ => ?_
    | exact hD _ _ _ _
    | refine le_dfP (hL _) (fun _ => ?_)
    | refine le_dfK (hL _ _ _) (fun _ => ?_)
    | exact le_refl _
    | apply_assumption
noncomputable def b74 (cf : CallF) (R : Rec) : Rec := fun i l h =>
 br2 i 0 l (fun a0 a1 => u74_0 cf (L95 cf) (fun _ _ _ _ => .fail) R a0 a1 h) <|
 .fail
theorem r74 {T : Tab} {cf : CallF} (hc : leC cf (CL T)) (n : Nat) : leR (recN (b74 cf) n) (J74 T) := recN_le (fun R hR i l h => by
  unfold b74
  refine le_br2 (J := fun i l => J74 T i l h) (fun _ a0 a1 => le_e (fun hn => e74_0 (r := u74_0 (CL T) (fun l => LV Tryz.prog (CL T) 95 l) (fun _ _ _ _ => .fail) (J74 T) a0 a1 h) rfl hn) ((m74 hc (lle95 hc) (fun _ _ _ _ => le_fail _) hR) a0 a1 h)) ?_
  exact le_fail _) n
theorem m77 {cf cf' : CallF} {R R' : Rec} (hc : ∀ f l h, le (cf f l h) (cf' f l h)) (hR : ∀ i l h, le (R i l h) (R' i l h)) :
  (∀ (a0 a1 a2 : IV) (h : H), le (t77_0 cf R a0 a1 a2 h) (t77_0 cf' R' a0 a1 a2 h)) ∧
  (∀ (a0 a1 a7 a8 : IV) (h : H), le (t77_1 cf R a0 a1 a7 a8 h) (t77_1 cf' R' a0 a1 a7 a8 h)) := by
  refine ⟨?_, ?_⟩
  all_goals intros
  all_goals first | unfold t77_0 | unfold t77_1
  all_goals
  with_reducible repeat' first
    | refine le_obind fun _ => ?_
    | refine le_callP ?_ (fun _ _ => ?_) (fun _ _ => ?_)
    | refine le_condK ?_ ?_
    | exact hR _ _ _
    | refine le_obind2 fun _ _ => ?_
    | refine le_obindH fun _ => ?_
    | refine le_spanK (fun _ _ _ => ?_) (fun _ _ => ?_)
    | exact hc _ _ _
    | refine le_bif ?_ ?_
    | refine le_guardK ?_ ?_ ?_
    | refine le_mapK fun _ _ => ?_
    | refine le_panK fun _ _ => ?_
    | refine le_funK fun _ _ => ?_
    | exact le_refl _
    | apply_assumption
noncomputable def b77 (cf : CallF) (R : Rec) : Rec := fun i l h =>
 br3 i 0 l (fun a0 a1 a2 => t77_0 cf R a0 a1 a2 h) <|
 br4 i 1 l (fun a0 a1 a7 a8 => t77_1 cf R a0 a1 a7 a8 h) <|
 .fail
theorem r77 {T : Tab} {cf : CallF} (hc : leC cf (CL T)) (n : Nat) : leR (recN (b77 cf) n) (J77 T) := recN_le (fun R hR i l h => by
  unfold b77
  refine le_br3 (J := fun i l => J77 T i l h) (fun _ a0 a1 a2 => le_e (fun hn => e77_0 rfl hn) ((m77 hc hR).1 a0 a1 a2 h)) ?_
  refine le_br4 (J := fun i l => J77 T i l h) (fun _ a0 a1 a7 a8 => le_e (fun hn => e77_1 rfl hn) ((m77 hc hR).2 a0 a1 a7 a8 h)) ?_
  exact le_fail _) n
theorem m78 {cf cf' : CallF} {R R' : Rec} (hc : ∀ f l h, le (cf f l h) (cf' f l h)) (hR : ∀ i l h, le (R i l h) (R' i l h)) :
  (∀ (a0 a1 : IV) (h : H), le (t78_0 cf R a0 a1 h) (t78_0 cf' R' a0 a1 h)) ∧
  (∀ (a0 a5 a6 : IV) (h : H), le (t78_1 cf R a0 a5 a6 h) (t78_1 cf' R' a0 a5 a6 h)) := by
  refine ⟨?_, ?_⟩
  all_goals intros
  all_goals first | unfold t78_0 | unfold t78_1
  all_goals
  with_reducible repeat' first
    | refine le_obind fun _ => ?_
    | refine le_callP ?_ (fun _ _ => ?_) (fun _ _ => ?_)
    | refine le_condK ?_ ?_
    | exact hR _ _ _
    | refine le_obind2 fun _ _ => ?_
    | refine le_obindH fun _ => ?_
    | refine le_spanK (fun _ _ _ => ?_) (fun _ _ => ?_)
    | exact hc _ _ _
    | refine le_bif ?_ ?_
    | refine le_guardK ?_ ?_ ?_
    | refine le_mapK fun _ _ => ?_
    | refine le_panK fun _ _ => ?_
    | refine le_funK fun _ _ => ?_
    | exact le_refl _
    | apply_assumption
noncomputable def b78 (cf : CallF) (R : Rec) : Rec := fun i l h =>
 br2 i 0 l (fun a0 a1 => t78_0 cf R a0 a1 h) <|
 br3 i 1 l (fun a0 a5 a6 => t78_1 cf R a0 a5 a6 h) <|
 .fail
theorem r78 {T : Tab} {cf : CallF} (hc : leC cf (CL T)) (n : Nat) : leR (recN (b78 cf) n) (J78 T) := recN_le (fun R hR i l h => by
  unfold b78
  refine le_br2 (J := fun i l => J78 T i l h) (fun _ a0 a1 => le_e (fun hn => e78_0 rfl hn) ((m78 hc hR).1 a0 a1 h)) ?_
  refine le_br3 (J := fun i l => J78 T i l h) (fun _ a0 a5 a6 => le_e (fun hn => e78_1 rfl hn) ((m78 hc hR).2 a0 a5 a6 h)) ?_
  exact le_fail _) n
theorem m79 {cf cf' : CallF} {R R' : Rec} (hc : ∀ f l h, le (cf f l h) (cf' f l h)) (hR : ∀ i l h, le (R i l h) (R' i l h)) :
  (∀ (a0 a1 : IV) (h : H), le (t79_0 cf R a0 a1 h) (t79_0 cf' R' a0 a1 h)) ∧
  (∀ (a0 a1 a6 a7 : IV) (h : H), le (t79_1 cf R a0 a1 a6 a7 h) (t79_1 cf' R' a0 a1 a6 a7 h)) ∧
  (∀ (a0 a1 a6 a7 a8 : IV) (h : H), le (t79_2 cf R a0 a1 a6 a7 a8 h) (t79_2 cf' R' a0 a1 a6 a7 a8 h)) := by
  refine ⟨?_, ?_, ?_⟩
  all_goals intros
  all_goals first | unfold t79_0 | unfold t79_1 | unfold t79_2
  all_goals
  with_reducible repeat' first
    | refine le_obind fun _ => ?_
    | refine le_callP ?_ (fun _ _ => ?_) (fun _ _ => ?_)
    | refine le_condK ?_ ?_
    | exact hR _ _ _
    | refine le_obind2 fun _ _ => ?_
    | refine le_obindH fun _ => ?_
    | refine le_spanK (fun _ _ _ => ?_) (fun _ _ => ?_)
    | exact hc _ _ _
    | refine le_bif ?_ ?_
    | refine le_guardK ?_ ?_ ?_
    | refine le_mapK fun _ _ => ?_
    | refine le_panK fun _ _ => ?_
    | refine le_funK fun _ _ => ?_
    | exact le_refl _
    | apply_assumption
noncomputable def b79 (cf : CallF) (R : Rec) : Rec := fun i l h =>
 br2 i 0 l (fun a0 a1 => t79_0 cf R a0 a1 h) <|
 br4 i 1 l (fun a0 a1 a6 a7 => t79_1 cf R a0 a1 a6 a7 h) <|
 br5 i 2 l (fun a0 a1 a6 a7 a8 => t79_2 cf R a0 a1 a6 a7 a8 h) <|
 .fail
theorem r79 {T : Tab} {cf : CallF} (hc : leC cf (CL T)) (n : Nat) : leR (recN (b79 cf) n) (J79 T) := recN_le (fun R hR i l h => by
  unfold b79
  refine le_br2 (J := fun i l => J79 T i l h) (fun _ a0 a1 => le_e (fun hn => e79_0 rfl hn) ((m79 hc hR).1 a0 a1 h)) ?_
  refine le_br4 (J := fun i l => J79 T i l h) (fun _ a0 a1 a6 a7 => le_e (fun hn => e79_1 rfl hn) ((m79 hc hR).2.1 a0 a1 a6 a7 h)) ?_
  refine le_br5 (J := fun i l => J79 T i l h) (fun _ a0 a1 a6 a7 a8 => le_e (fun hn => e79_2 rfl hn) ((m79 hc hR).2.2 a0 a1 a6 a7 a8 h)) ?_
  exact le_fail _) n
theorem m80 {cf cf' : CallF} {R R' : Rec} (hc : ∀ f l h, le (cf f l h) (cf' f l h)) (hR : ∀ i l h, le (R i l h) (R' i l h)) :
  (∀ (a0 a1 : IV) (h : H), le (t80_0 cf R a0 a1 h) (t80_0 cf' R' a0 a1 h)) ∧
  (∀ (a0 a1 a5 a6 : IV) (h : H), le (t80_1 cf R a0 a1 a5 a6 h) (t80_1 cf' R' a0 a1 a5 a6 h)) := by
  refine ⟨?_, ?_⟩
  all_goals intros
  all_goals first | unfold t80_0 | unfold t80_1
  all_goals
  with_reducible repeat' first
    | refine le_obind fun _ => ?_
    | refine le_callP ?_ (fun _ _ => ?_) (fun _ _ => ?_)
    | refine le_condK ?_ ?_
    | exact hR _ _ _
    | refine le_obind2 fun _ _ => ?_
    | refine le_obindH fun _ => ?_
    | refine le_spanK (fun _ _ _ => ?_) (fun _ _ => ?_)
    | exact hc _ _ _
    | refine le_bif ?_ ?_
    | refine le_guardK ?_ ?_ ?_
    | refine le_mapK fun _ _ => ?_
    | refine le_panK fun _ _ => ?_
    | refine le_funK fun _ _ => ?_
    | exact le_refl _
    | apply_assumption
noncomputable def b80 (cf : CallF) (R : Rec) : Rec := fun i l h =>
 br2 i 0 l (fun a0 a1 => t80_0 cf R a0 a1 h) <|
 br4 i 1 l (fun a0 a1 a5 a6 => t80_1 cf R a0 a1 a5 a6 h) <|
 .fail
theorem r80 {T : Tab} {cf : CallF} (hc : leC cf (CL T)) (n : Nat) : leR (recN (b80 cf) n) (J80 T) := recN_le (fun R hR i l h => by
  unfold b80
  refine le_br2 (J := fun i l => J80 T i l h) (fun _ a0 a1 => le_e (fun hn => e80_0 rfl hn) ((m80 hc hR).1 a0 a1 h)) ?_
  refine le_br4 (J := fun i l => J80 T i l h) (fun _ a0 a1 a5 a6 => le_e (fun hn => e80_1 rfl hn) ((m80 hc hR).2 a0 a1 a5 a6 h)) ?_
  exact le_fail _) n
theorem m81 {cf cf' : CallF} {R R' : Rec} (hc : ∀ f l h, le (cf f l h) (cf' f l h)) (hR : ∀ i l h, le (R i l h) (R' i l h)) : (∀ (a0 a1 : IV) (h : H), le (t81_0 cf R a0 a1 h) (t81_0 cf' R' a0 a1 h)) := by
  intros
  unfold t81_0
  with_reducible repeat' first
    | refine le_obind fun _ => ?_
    | refine le_callP ?_ (fun _ _ => ?_) (fun _ _ => ?_)
    | refine le_condK ?_ ?_
    | exact hR _ _ _
    | refine le_obind2 fun _ _ => ?_
    | refine le_obindH fun _ => ?_
    | refine le_spanK (fun _ _ _ => ?_) (fun _ _ => ?_)
    | exact hc _ _ _
    | refine le_bif ?_ ?_
    | refine le_guardK ?_ ?_ ?_
    | refine le_mapK fun _ _ => ?_
    | refine le_panK fun _ _ => ?_
    | refine le_funK fun _ _ => ?_
    | exact le_refl _
    | apply_assumption
noncomputable def b81 (cf : CallF) (R : Rec) : Rec := fun i l h =>
 br2 i 0 l (fun a0 a1 => t81_0 cf R a0 a1 h) <|
 .fail
theorem r81 {T : Tab} {cf : CallF} (hc : leC cf (CL T)) (n : Nat) : leR (recN (b81 cf) n) (J81 T) := recN_le (fun R hR i l h => by
  unfold b81
  refine le_br2 (J := fun i l => J81 T i l h) (fun _ a0 a1 => le_e (fun hn => e81_0 rfl hn) ((m81 hc hR) a0 a1 h)) ?_
  exact le_fail _) n
theorem m83 {cf cf' : CallF} {R R' : Rec} (hc : ∀ f l h, le (cf f l h) (cf' f l h)) (hR : ∀ i l h, le (R i l h) (R' i l h)) : (∀ (a0 : IV) (h : H), le (t83_0 cf R a0 h) (t83_0 cf' R' a0 h)) := by
  intros
  unfold t83_0
  with_reducible repeat' first
    | refine le_obind fun _ => ?_
    | refine le_callP ?_ (fun _ _ => ?_) (fun _ _ => ?_)
    | refine le_condK ?_ ?_
    | exact hR _ _ _
    | refine le_obind2 fun _ _ => ?_
    | refine le_obindH fun _ => ?_
    | refine le_spanK (fun _ _ _ => ?_) (fun _ _ => ?_)
    | exact hc _ _ _
    | refine le_bif ?_ ?_
    | refine le_guardK ?_ ?_ ?_
    | refine le_mapK fun _ _ => ?_
    | refine le_panK fun _ _ => ?_
    | refine le_funK fun _ _ => ?_
    | exact le_refl _
    | apply_assumption
noncomputable def q83_0p3 (cf : CallF) (R : Rec) (x23 : IV) (h19 : H) (x9 : IV) : CRes :=
 Qsp x23 true h19 (fun k24 =>
 Qo (Qfad 1 x9) fun x27 =>
 Qo (Ql0 h19 x27) fun x28 =>
 Qc (cf 100 [x28] h19) .pan fun x29 h30 =>
 Qo (Qnot x29) fun x31 =>
 k24 x31 h30) fun x25 h26 =>
 Qo (Qpk x23 (some x25) (some (.bool false))) fun x32 =>
 .ok x32 h26
noncomputable def q83_0p2 (cf : CallF) (R : Rec) (h : H) (x7 : IV) (x8 : IV) (x5 : IV) (x6 : IV) (x2 : IV) (x3 : IV) (a0 : IV) : CRes :=
 Qo2 (QnI h z13) fun x9 h10 =>
 Qo (QlA 3 h10 x7) fun x11 =>
 bif IV.beq x11 x8 then
 Qo (Ql0 h10 x5) fun x12 =>
 bif IV.beq x12 x6 then
 Qo (Ql0 h10 x2) fun x13 =>
 bif IV.beq x13 x3 then
 QoH (QsA 3 h10 x9 x8) fun h14 =>
 Qc (cf 38 [a0] h14) .pan fun x15 h16 =>
 Qsp x15 true h16 (fun k17 =>
 Qo (Qfad 0 x9) fun x20 =>
 Qo (Ql0 h16 x20) fun x21 =>
 Qo (Qeql x21 (.int .i64 1)) fun x22 =>
 k17 x22 h16) fun x18 h19 =>
 Qo (Qpk x15 (some x18) (some (.bool false))) fun x23 =>
 q83_0p3 cf R x23 h19 x9
 else .fail
 else .fail
 else .fail
noncomputable def q83_0p1 (cf : CallF) (R : Rec) (x4 : IV) (h : H) (x3 : IV) (x2 : IV) (a0 : IV) : CRes :=
 Qo (Qfad 1 x4) fun x5 =>
 Qo (Ql0 h x5) fun x6 =>
 Qo (Qix 3 x3 x6) fun x7 =>
 Qo (QlA 3 h x7) fun x8 =>
 q83_0p2 cf R h x7 x8 x5 x6 x2 x3 a0
noncomputable def q83_0 (cf : CallF) (R : Rec) (a0 : IV) (h : H) : CRes :=
 Qo (Qnil a0) fun x1 =>
 Qo (Qfad 0 x1) fun x2 =>
 Qo (Ql0 h x2) fun x3 =>
 Qo (Qnil a0) fun x4 =>
 q83_0p1 cf R x4 h x3 x2 a0
theorem qe83_0 : q83_0 = t83_0 := by
  unfold q83_0 q83_0p1 q83_0p2 q83_0p3
  try simp only [QE]
  try rfl
noncomputable def bt83 (cf : CallF) (R : Rec) : Rec := fun i l h =>
 br1 i 0 l (fun a0 => t83_0 cf R a0 h) <|
 .fail
noncomputable def b83 (cf : CallF) (R : Rec) : Rec := fun i l h =>
 brQ1 i 0 l (fun a0 => q83_0 cf R a0 h) <|
 .fail
theorem be83 : b83 = bt83 := by
  unfold b83 bt83
  simp only [qe83_0, brQ1_eq]
theorem r83 {T : Tab} {cf : CallF} (hc : leC cf (CL T)) (n : Nat) : leR (recN (b83 cf) n) (J83 T) := be83 ▸ recN_le (fun R hR i l h => by
  unfold bt83
  refine le_br1 (J := fun i l => J83 T i l h) (fun _ a0 => le_e (fun hn => e83_0 rfl hn) ((m83 hc hR) a0 h)) ?_
  exact le_fail _) n
theorem m84 {cf cf' : CallF} {R R' : Rec} (hc : ∀ f l h, le (cf f l h) (cf' f l h)) (hR : ∀ i l h, le (R i l h) (R' i l h)) : (∀ (a0 a1 : IV) (h : H), le (t84_0 cf R a0 a1 h) (t84_0 cf' R' a0 a1 h)) := by
  intros
  unfold t84_0
  with_reducible repeat' first
    | refine le_obind fun _ => ?_
    | refine le_callP ?_ (fun _ _ => ?_) (fun _ _ => ?_)
    | refine le_condK ?_ ?_
    | exact hR _ _ _
    | refine le_obind2 fun _ _ => ?_
    | refine le_obindH fun _ => ?_
    | refine le_spanK (fun _ _ _ => ?_) (fun _ _ => ?_)
    | exact hc _ _ _
    | refine le_bif ?_ ?_
    | refine le_guardK ?_ ?_ ?_
    | refine le_mapK fun _ _ => ?_
    | refine le_panK fun _ _ => ?_
    | refine le_funK fun _ _ => ?_
    | exact le_refl _
    | apply_assumption
noncomputable def q84_0p4 (cf : CallF) (R : Rec) (x23 : IV) (h43 : H) (x25 : IV) (x42 : IV) : CRes :=
 Qsp x23 true h43 (fun k45 =>
 Qo (Qpk x25 (some (.bool true)) (some x42)) fun x48 =>
 k45 x48 h43) fun x46 h47 =>
 Qo (Qpk x23 (some x46) (some (.bool false))) fun x49 =>
 .ok x49 h47
noncomputable def q84_0p3 (cf : CallF) (R : Rec) (x23 : IV) (h19 : H) (x9 : IV) (a1 : IV) : CRes :=
 Qsp x23 true h19 (fun k24 =>
 Qo (Qfad 0 x9) fun x27 =>
 Qo (Ql0 h19 x27) fun x28 =>
 Qo (Qeql x28 (.int .i64 3)) fun x29 =>
 k24 x29 h19) fun x25 h26 =>
 Qsp x25 false h26 (fun k30 =>
 Qo (Qfad 0 x9) fun x33 =>
 Qo (Ql0 h26 x33) fun x34 =>
 Qo (Qeql x34 (.int .i64 1)) fun x35 =>
 k30 x35 h26) fun x31 h32 =>
 Qsp x31 true h32 (fun k36 =>
 Qc (cf 100 [a1] h32) .pan fun x39 h40 =>
 k36 x39 h40) fun x37 h38 =>
 Qsp x25 false h38 (fun k41 =>
 Qo (Qpk x31 (some x37) (some (.bool false))) fun x44 =>
 k41 x44 h38) fun x42 h43 =>
 q84_0p4 cf R x23 h43 x25 x42
noncomputable def q84_0p2 (cf : CallF) (R : Rec) (h : H) (x7 : IV) (x8 : IV) (x5 : IV) (x6 : IV) (x2 : IV) (x3 : IV) (a0 : IV) (a1 : IV) : CRes :=
 Qo2 (QnI h z13) fun x9 h10 =>
 Qo (QlA 3 h10 x7) fun x11 =>
 bif IV.beq x11 x8 then
 Qo (Ql0 h10 x5) fun x12 =>
 bif IV.beq x12 x6 then
 Qo (Ql0 h10 x2) fun x13 =>
 bif IV.beq x13 x3 then
 QoH (QsA 3 h10 x9 x8) fun h14 =>
 Qc (cf 38 [a0] h14) .pan fun x15 h16 =>
 Qsp x15 true h16 (fun k17 =>
 Qo (Qfad 1 x9) fun x20 =>
 Qo (Ql0 h16 x20) fun x21 =>
 Qo (Qse x21 a1) fun x22 =>
 k17 x22 h16) fun x18 h19 =>
 Qo (Qpk x15 (some x18) (some (.bool false))) fun x23 =>
 q84_0p3 cf R x23 h19 x9 a1
 else .fail
 else .fail
 else .fail
noncomputable def q84_0p1 (cf : CallF) (R : Rec) (x4 : IV) (h : H) (x3 : IV) (x2 : IV) (a0 : IV) (a1 : IV) : CRes :=
 Qo (Qfad 1 x4) fun x5 =>
 Qo (Ql0 h x5) fun x6 =>
 Qo (Qix 3 x3 x6) fun x7 =>
 Qo (QlA 3 h x7) fun x8 =>
 q84_0p2 cf R h x7 x8 x5 x6 x2 x3 a0 a1
noncomputable def q84_0 (cf : CallF) (R : Rec) (a0 : IV) (a1 : IV) (h : H) : CRes :=
 Qo (Qnil a0) fun x1 =>
 Qo (Qfad 0 x1) fun x2 =>
 Qo (Ql0 h x2) fun x3 =>
 Qo (Qnil a0) fun x4 =>
 q84_0p1 cf R x4 h x3 x2 a0 a1
theorem qe84_0 : q84_0 = t84_0 := by
  unfold q84_0 q84_0p1 q84_0p2 q84_0p3 q84_0p4
  try simp only [QE]
  try rfl
noncomputable def bt84 (cf : CallF) (R : Rec) : Rec := fun i l h =>
 br2 i 0 l (fun a0 a1 => t84_0 cf R a0 a1 h) <|
 .fail
noncomputable def b84 (cf : CallF) (R : Rec) : Rec := fun i l h =>
 brQ2 i 0 l (fun a0 a1 => q84_0 cf R a0 a1 h) <|
 .fail
theorem be84 : b84 = bt84 := by
  unfold b84 bt84
  simp only [qe84_0, brQ2_eq]
theorem r84 {T : Tab} {cf : CallF} (hc : leC cf (CL T)) (n : Nat) : leR (recN (b84 cf) n) (J84 T) := be84 ▸ recN_le (fun R hR i l h => by
  unfold bt84
  refine le_br2 (J := fun i l => J84 T i l h) (fun _ a0 a1 => le_e (fun hn => e84_0 rfl hn) ((m84 hc hR) a0 a1 h)) ?_
  exact le_fail _) n
theorem m85 {cf cf' : CallF} {R R' : Rec} (hc : ∀ f l h, le (cf f l h) (cf' f l h)) (hR : ∀ i l h, le (R i l h) (R' i l h)) :
  (∀ (a0 a1 : IV) (h : H), le (t85_0 cf R a0 a1 h) (t85_0 cf' R' a0 a1 h)) ∧
  (∀ (a0 a1 a4 : IV) (h : H), le (t85_1 cf R a0 a1 a4 h) (t85_1 cf' R' a0 a1 a4 h)) ∧
  (∀ (a0 a1 a4 : IV) (h : H), le (t85_2 cf R a0 a1 a4 h) (t85_2 cf' R' a0 a1 a4 h)) := by
  refine ⟨?_, ?_, ?_⟩
  all_goals intros
  all_goals first | unfold t85_0 | unfold t85_1 | unfold t85_2
  all_goals
  with_reducible repeat' first
    | refine le_obind fun _ => ?_
    | refine le_callP ?_ (fun _ _ => ?_) (fun _ _ => ?_)
    | refine le_condK ?_ ?_
    | exact hR _ _ _
    | refine le_obind2 fun _ _ => ?_
    | refine le_obindH fun _ => ?_
    | refine le_spanK (fun _ _ _ => ?_) (fun _ _ => ?_)
    | exact hc _ _ _
    | refine le_bif ?_ ?_
    | refine le_guardK ?_ ?_ ?_
    | refine le_mapK fun _ _ => ?_
    | refine le_panK fun _ _ => ?_
    | refine le_funK fun _ _ => ?_
    | exact le_refl _
    | apply_assumption
noncomputable def q85_0p1 (cf : CallF) (R : Rec) (x11 : IV) (a0 : IV) (h7 : H) (a1 : IV) (x1 : IV) : CRes :=
 Qif x11
 (Qc (cf 82 [a0, (.int .i64 40)] h7) .pan fun x12 h13 =>
 R 1 [a0, a1, x1] h13)
 (R 1 [a0, a1, x1] h7)
noncomputable def q85_0 (cf : CallF) (R : Rec) (a0 : IV) (a1 : IV) (h : H) : CRes :=
 Qo2 (QnI h z16) fun x1 h2 =>
 Qc (cf 38 [a0] h2) .pan fun x3 h4 =>
 Qsp x3 true h4 (fun k5 =>
 Qc (cf 101 [a0] h4) .pan fun x8 h9 =>
 Qo (Qnot x8) fun x10 =>
 k5 x10 h9) fun x6 h7 =>
 Qo (Qpk x3 (some x6) (some (.bool false))) fun x11 =>
 q85_0p1 cf R x11 a0 h7 a1 x1
theorem qe85_0 : q85_0 = t85_0 := by
  unfold q85_0 q85_0p1
  try simp only [QE]
  try rfl
noncomputable def q85_1 (cf : CallF) (R : Rec) (a0 : IV) (a1 : IV) (a4 : IV) (h : H) : CRes :=
 Qc (cf 38 [a0] h) .pan fun x14 h15 =>
 Qsp x14 true h15 (fun k16 =>
 Qo (Qgtr a1 (.int .i64 32)) fun x19 =>
 k16 x19 h15) fun x17 h18 =>
 Qo (Qpk x14 (some x17) (some (.bool false))) fun x20 =>
 Qif x20
 (Qc (cf 82 [a0, (.int .i64 41)] h18) .pan fun x21 h22 =>
 R 2 [a0, a1, a4] h22)
 (R 2 [a0, a1, a4] h18)
theorem qe85_1 : q85_1 = t85_1 := by
  unfold q85_1
  try simp only [QE]
  try rfl
noncomputable def q85_2p4 (cf : CallF) (R : Rec) (x56 : IV) (x57 : IV) (x58 : IV) (h55 : H) (x34 : IV) (a4 : IV) : CRes :=
 Qo2 (Qbsl false 6 z16 3 [(0, x56), (1, x57), (2, x58)] h55) fun x59 h60 =>
 Qo (Qbld z16 p17 [(0, (.int .i64 6)), (4, x59), (5, x34)]) fun x61 =>
 QoH (QsA 6 h60 a4 x61) fun h62 =>
 Qo (QlA 6 h62 a4) fun x63 =>
 .ok x63 h62
noncomputable def q85_2p3 (cf : CallF) (R : Rec) (h54 : H) (x53 : IV) (x51 : IV) (x31 : IV) (x45 : IV) (x34 : IV) (a4 : IV) : CRes :=
 QoH (QsA 6 h54 x53 x51) fun h55 =>
 Qo (QlA 6 h55 x31) fun x56 =>
 Qo (QlA 6 h55 x45) fun x57 =>
 Qo (QlA 6 h55 x53) fun x58 =>
 q85_2p4 cf R x56 x57 x58 h55 x34 a4
noncomputable def q85_2p2 (cf : CallF) (R : Rec) (a0 : IV) (h47 : H) (a1 : IV) (x31 : IV) (x45 : IV) (x34 : IV) (a4 : IV) : CRes :=
 Qc (cf 57 [a0, (.str ⟨1, 58⟩)] h47) .pan fun x48 h49 =>
 Qo (Qadd a1 (.int .i64 1)) fun x50 =>
 Qc (cf 85 [a0, x50] h49) .pan fun x51 h52 =>
 Qo2 (QnI h52 z16) fun x53 h54 =>
 q85_2p3 cf R h54 x53 x51 x31 x45 x34 a4
noncomputable def q85_2p1 (cf : CallF) (R : Rec) (a0 : IV) (h35 : H) (x31 : IV) (a4 : IV) (a1 : IV) (x34 : IV) : CRes :=
 Qc (cf 59 [a0, (.str ⟨1, 63⟩)] h35) .pan fun x36 h37 =>
 Qo (Qnot x36) fun x38 =>
 Qif x38
 (Qo (QlA 6 h37 x31) fun x39 =>
 QoH (QsA 6 h37 a4 x39) fun h40 =>
 Qo (QlA 6 h40 a4) fun x41 =>
 .ok x41 h40)
 (Qo (Qadd a1 (.int .i64 1)) fun x42 =>
 Qc (cf 85 [a0, x42] h37) .pan fun x43 h44 =>
 Qo2 (QnI h44 z16) fun x45 h46 =>
 QoH (QsA 6 h46 x45 x43) fun h47 =>
 q85_2p2 cf R a0 h47 a1 x31 x45 x34 a4)
noncomputable def q85_2 (cf : CallF) (R : Rec) (a0 : IV) (a1 : IV) (a4 : IV) (h : H) : CRes :=
 Qc (cf 38 [a0] h) .pan fun x23 h24 =>
 Qo (Qnot x23) fun x25 =>
 Qif x25
 (Qo (Qbld z16 p17 []) fun x26 =>
 QoH (QsA 6 h24 a4 x26) fun h27 =>
 Qo (QlA 6 h27 a4) fun x28 =>
 .ok x28 h27)
 (Qc (cf 102 [a0, (.int .i64 1), a1] h24) .pan fun x29 h30 =>
 Qo2 (QnI h30 z16) fun x31 h32 =>
 QoH (QsA 6 h32 x31 x29) fun h33 =>
 Qc (cf 56 [a0] h33) .pan fun x34 h35 =>
 q85_2p1 cf R a0 h35 x31 a4 a1 x34)
theorem qe85_2 : q85_2 = t85_2 := by
  unfold q85_2 q85_2p1 q85_2p2 q85_2p3 q85_2p4
  try simp only [QE]
  try rfl
noncomputable def bt85 (cf : CallF) (R : Rec) : Rec := fun i l h =>
 br2 i 0 l (fun a0 a1 => t85_0 cf R a0 a1 h) <|
 br3 i 1 l (fun a0 a1 a4 => t85_1 cf R a0 a1 a4 h) <|
 br3 i 2 l (fun a0 a1 a4 => t85_2 cf R a0 a1 a4 h) <|
 .fail
noncomputable def b85 (cf : CallF) (R : Rec) : Rec := fun i l h =>
 brQ2 i 0 l (fun a0 a1 => q85_0 cf R a0 a1 h) <|
 brQ3 i 1 l (fun a0 a1 a4 => q85_1 cf R a0 a1 a4 h) <|
 brQ3 i 2 l (fun a0 a1 a4 => q85_2 cf R a0 a1 a4 h) <|
 .fail
theorem be85 : b85 = bt85 := by
  unfold b85 bt85
  simp only [qe85_0, qe85_1, qe85_2, brQ2_eq, brQ3_eq]
theorem r85 {T : Tab} {cf : CallF} (hc : leC cf (CL T)) (n : Nat) : leR (recN (b85 cf) n) (J85 T) := be85 ▸ recN_le (fun R hR i l h => by
  unfold bt85
  refine le_br2 (J := fun i l => J85 T i l h) (fun _ a0 a1 => le_e (fun hn => e85_0 rfl hn) ((m85 hc hR).1 a0 a1 h)) ?_
  refine le_br3 (J := fun i l => J85 T i l h) (fun _ a0 a1 a4 => le_e (fun hn => e85_1 rfl hn) ((m85 hc hR).2.1 a0 a1 a4 h)) ?_
  refine le_br3 (J := fun i l => J85 T i l h) (fun _ a0 a1 a4 => le_e (fun hn => e85_2 rfl hn) ((m85 hc hR).2.2 a0 a1 a4 h)) ?_
  exact le_fail _) n
theorem m86 {cf cf' : CallF} {R R' : Rec} (hc : ∀ f l h, le (cf f l h) (cf' f l h)) (hR : ∀ i l h, le (R i l h) (R' i l h)) : (∀ (a0 : IV) (h : H), le (t86_0 cf R a0 h) (t86_0 cf' R' a0 h)) := by
  intros
  unfold t86_0
  with_reducible repeat' first
    | refine le_obind fun _ => ?_
    | refine le_callP ?_ (fun _ _ => ?_) (fun _ _ => ?_)
    | refine le_condK ?_ ?_
    | exact hR _ _ _
    | refine le_obind2 fun _ _ => ?_
    | refine le_obindH fun _ => ?_
    | refine le_spanK (fun _ _ _ => ?_) (fun _ _ => ?_)
    | exact hc _ _ _
    | refine le_bif ?_ ?_
    | refine le_guardK ?_ ?_ ?_
    | refine le_mapK fun _ _ => ?_
    | refine le_panK fun _ _ => ?_
    | refine le_funK fun _ _ => ?_
    | exact le_refl _
    | apply_assumption
noncomputable def q86_0p4 (cf : CallF) (R : Rec) (x31 : IV) (x29 : IV) (h30 : H) (x3 : IV) (x1 : IV) : CRes :=
 bif IV.beq x31 x29 then
 QoH (QsA 6 h30 x3 x29) fun h32 =>
 Qo (QlA 6 h32 x1) fun x33 =>
 Qo (QlA 6 h32 x3) fun x34 =>
 .ok (.tup [(.bool true), x33, x34]) h32
 else .fail
noncomputable def q86_0p3 (cf : CallF) (R : Rec) (h27 : H) (x16 : IV) (x23 : IV) (x1 : IV) (x3 : IV) : CRes :=
 Qo (QlA 6 h27 x16) fun x28 =>
 Qo (QlA 6 h27 x23) fun x29 =>
 QoH (QsA 6 h27 x1 x28) fun h30 =>
 Qo (QlA 6 h30 x23) fun x31 =>
 q86_0p4 cf R x31 x29 h30 x3 x1
noncomputable def q86_0p2 (cf : CallF) (R : Rec) (a0 : IV) (h20 : H) (x16 : IV) (x1 : IV) (x3 : IV) : CRes :=
 Qc (cf 85 [a0, (.int .i64 1)] h20) .pan fun x21 h22 =>
 Qo2 (QnI h22 z16) fun x23 h24 =>
 QoH (QsA 6 h24 x23 x21) fun h25 =>
 Qc (cf 57 [a0, (.str ⟨1, 93⟩)] h25) .pan fun x26 h27 =>
 q86_0p3 cf R h27 x16 x23 x1 x3
noncomputable def q86_0p1 (cf : CallF) (R : Rec) (x7 : IV) (h6 : H) (x1 : IV) (x3 : IV) (a0 : IV) : CRes :=
 Qif x7
 (Qo (Qbld z16 p17 []) fun x8 =>
 Qo (Qbld z16 p17 []) fun x9 =>
 QoH (QsA 6 h6 x1 x8) fun h10 =>
 QoH (QsA 6 h10 x3 x9) fun h11 =>
 Qo (QlA 6 h11 x1) fun x12 =>
 Qo (QlA 6 h11 x3) fun x13 =>
 .ok (.tup [(.bool false), x12, x13]) h11)
 (Qc (cf 85 [a0, (.int .i64 1)] h6) .pan fun x14 h15 =>
 Qo2 (QnI h15 z16) fun x16 h17 =>
 QoH (QsA 6 h17 x16 x14) fun h18 =>
 Qc (cf 57 [a0, (.str ⟨1, 58⟩)] h18) .pan fun x19 h20 =>
 q86_0p2 cf R a0 h20 x16 x1 x3)
noncomputable def q86_0 (cf : CallF) (R : Rec) (a0 : IV) (h : H) : CRes :=
 Qo2 (QnI h z16) fun x1 h2 =>
 Qo2 (QnI h2 z16) fun x3 h4 =>
 Qc (cf 59 [a0, (.str ⟨1, 91⟩)] h4) .pan fun x5 h6 =>
 Qo (Qnot x5) fun x7 =>
 q86_0p1 cf R x7 h6 x1 x3 a0
theorem qe86_0 : q86_0 = t86_0 := by
  unfold q86_0 q86_0p1 q86_0p2 q86_0p3 q86_0p4
  try simp only [QE]
  try rfl
noncomputable def bt86 (cf : CallF) (R : Rec) : Rec := fun i l h =>
 br1 i 0 l (fun a0 => t86_0 cf R a0 h) <|
 .fail
noncomputable def b86 (cf : CallF) (R : Rec) : Rec := fun i l h =>
 brQ1 i 0 l (fun a0 => q86_0 cf R a0 h) <|
 .fail
theorem be86 : b86 = bt86 := by
  unfold b86 bt86
  simp only [qe86_0, brQ1_eq]
theorem r86 {T : Tab} {cf : CallF} (hc : leC cf (CL T)) (n : Nat) : leR (recN (b86 cf) n) (J86 T) := be86 ▸ recN_le (fun R hR i l h => by
  unfold bt86
  refine le_br1 (J := fun i l => J86 T i l h) (fun _ a0 => le_e (fun hn => e86_0 rfl hn) ((m86 hc hR) a0 h)) ?_
  exact le_fail _) n
theorem m87 {cf cf' : CallF} {R R' : Rec} (hc : ∀ f l h, le (cf f l h) (cf' f l h)) (hR : ∀ i l h, le (R i l h) (R' i l h)) :
  (∀ (a0 a1 : IV) (h : H), le (t87_0 cf R a0 a1 h) (t87_0 cf' R' a0 a1 h)) ∧
  (∀ (a0 a1 a4 : IV) (h : H), le (t87_1 cf R a0 a1 a4 h) (t87_1 cf' R' a0 a1 a4 h)) ∧
  (∀ (a0 a1 a4 : IV) (h : H), le (t87_2 cf R a0 a1 a4 h) (t87_2 cf' R' a0 a1 a4 h)) ∧
  (∀ (a4 a5 : IV) (h : H), le (t87_3 cf R a4 a5 h) (t87_3 cf' R' a4 a5 h)) ∧
  (∀ (a0 a4 a5 : IV) (h : H), le (t87_4 cf R a0 a4 a5 h) (t87_4 cf' R' a0 a4 a5 h)) := by
  refine ⟨?_, ?_, ?_, ?_, ?_⟩
  all_goals intros
  all_goals first | unfold t87_0 | unfold t87_1 | unfold t87_2 | unfold t87_3 | unfold t87_4
  all_goals
  with_reducible repeat' first
    | refine le_obind fun _ => ?_
    | refine le_callP ?_ (fun _ _ => ?_) (fun _ _ => ?_)
    | refine le_condK ?_ ?_
    | exact hR _ _ _
    | refine le_obind2 fun _ _ => ?_
    | refine le_obindH fun _ => ?_
    | refine le_spanK (fun _ _ _ => ?_) (fun _ _ => ?_)
    | exact hc _ _ _
    | refine le_bif ?_ ?_
    | refine le_guardK ?_ ?_ ?_
    | refine le_mapK fun _ _ => ?_
    | refine le_panK fun _ _ => ?_
    | refine le_funK fun _ _ => ?_
    | exact le_refl _
    | apply_assumption
noncomputable def q87_0p1 (cf : CallF) (R : Rec) (x11 : IV) (a0 : IV) (h7 : H) (a1 : IV) (x1 : IV) : CRes :=
 Qif x11
 (Qc (cf 82 [a0, (.int .i64 40)] h7) .pan fun x12 h13 =>
 R 1 [a0, a1, x1] h13)
 (R 1 [a0, a1, x1] h7)
noncomputable def q87_0 (cf : CallF) (R : Rec) (a0 : IV) (a1 : IV) (h : H) : CRes :=
 Qo2 (QnI h z10) fun x1 h2 =>
 Qc (cf 38 [a0] h2) .pan fun x3 h4 =>
 Qsp x3 true h4 (fun k5 =>
 Qc (cf 103 [a0] h4) .pan fun x8 h9 =>
 Qo (Qnot x8) fun x10 =>
 k5 x10 h9) fun x6 h7 =>
 Qo (Qpk x3 (some x6) (some (.bool false))) fun x11 =>
 q87_0p1 cf R x11 a0 h7 a1 x1
theorem qe87_0 : q87_0 = t87_0 := by
  unfold q87_0 q87_0p1
  try simp only [QE]
  try rfl
noncomputable def q87_1 (cf : CallF) (R : Rec) (a0 : IV) (a1 : IV) (a4 : IV) (h : H) : CRes :=
 Qc (cf 38 [a0] h) .pan fun x14 h15 =>
 Qsp x14 true h15 (fun k16 =>
 Qo (Qgtr a1 (.int .i64 32)) fun x19 =>
 k16 x19 h15) fun x17 h18 =>
 Qo (Qpk x14 (some x17) (some (.bool false))) fun x20 =>
 Qif x20
 (Qc (cf 82 [a0, (.int .i64 41)] h18) .pan fun x21 h22 =>
 R 2 [a0, a1, a4] h22)
 (R 2 [a0, a1, a4] h18)
theorem qe87_1 : q87_1 = t87_1 := by
  unfold q87_1
  try simp only [QE]
  try rfl
noncomputable def q87_2p2 (cf : CallF) (R : Rec) (h54 : H) (x55 : IV) (x53 : IV) (a0 : IV) (x32 : IV) (a4 : IV) : CRes :=
 QoH (QsA 1 h54 x55 x53) fun h56 =>
 Qc (cf 57 [a0, (.str ⟨1, 61⟩)] h56) .pan fun x57 h58 =>
 Qc (cf 85 [a0, (.int .i64 1)] h58) .pan fun x59 h60 =>
 Qo (Qfad 23 x32) fun x61 =>
 QoH (QsA 6 h60 x61 x59) fun h62 =>
 Qc (cf 57 [a0, (.str ⟨1, 59⟩)] h62) .pan fun x63 h64 =>
 R 3 [a4, x32] h64
noncomputable def q87_2p3 (cf : CallF) (R : Rec) (h89 : H) (x90 : IV) (x88 : IV) (a0 : IV) (x32 : IV) (a4 : IV) : CRes :=
 QoH (QsA 1 h89 x90 x88) fun h91 =>
 Qc (cf 59 [a0, (.str ⟨1, 35⟩)] h91) .pan fun x92 h93 =>
 Qif x92
 (Qc (cf 57 [a0, (.str ⟨1, 40⟩)] h93) .pan fun x94 h95 =>
 Qc (cf 108 [a0, (.bool true)] h95) .pan fun x96 h97 =>
 Qo (Qfad 43 x32) fun x98 =>
 QoH (QsA 1 h97 x98 x96) fun h99 =>
 R 4 [a0, a4, x32] h99)
 (R 4 [a0, a4, x32] h93)
noncomputable def q87_2p1 (cf : CallF) (R : Rec) (a0 : IV) (h34 : H) (x32 : IV) (a4 : IV) (a1 : IV) : CRes :=
 Qc (cf 59 [a0, (.str ⟨4, 1701996919⟩)] h34) .pan fun x35 h36 =>
 Qif x35
 (Qo (QlA 48 h36 x32) fun x37 =>
 Qc (cf 104 [a0, x37, (.int .i64 1)] h36) .pan fun x38 h39 =>
 QoH (QsA 48 h39 a4 x38) fun h40 =>
 Qo (QlA 48 h40 a4) fun x41 =>
 .ok x41 h40)
 (Qc (cf 59 [a0, (.str ⟨3, 6776178⟩)] h36) .pan fun x42 h43 =>
 Qif x42
 (Qo (QlA 48 h43 x32) fun x44 =>
 Qc (cf 104 [a0, x44, (.int .i64 2)] h43) .pan fun x45 h46 =>
 QoH (QsA 48 h46 a4 x45) fun h47 =>
 Qo (QlA 48 h47 a4) fun x48 =>
 .ok x48 h47)
 (Qc (cf 59 [a0, (.str ⟨10, 516535522800345012203372⟩)] h43) .pan fun x49 h50 =>
 Qif x49
 (Qo (Qfad 0 x32) fun x51 =>
 QoH (QsA 1 h50 x51 (.int .i64 3)) fun h52 =>
 Qc (cf 58 [a0] h52) .pan fun x53 h54 =>
 Qo (Qfad 1 x32) fun x55 =>
 q87_2p2 cf R h54 x55 x53 a0 x32 a4)
 (Qc (cf 59 [a0, (.str ⟨6, 121390429860705⟩)] h50) .pan fun x65 h66 =>
 Qif x65
 (Qo (QlA 48 h66 x32) fun x67 =>
 Qc (cf 105 [a0, x67] h66) .pan fun x68 h69 =>
 QoH (QsA 48 h69 a4 x68) fun h70 =>
 Qo (QlA 48 h70 a4) fun x71 =>
 .ok x71 h70)
 (Qc (cf 59 [a0, (.str ⟨6, 126965163453537⟩)] h66) .pan fun x72 h73 =>
 Qif x72
 (Qo (QlA 48 h73 x32) fun x74 =>
 Qc (cf 106 [a0, x74] h73) .pan fun x75 h76 =>
 QoH (QsA 48 h76 a4 x75) fun h77 =>
 Qo (QlA 48 h77 a4) fun x78 =>
 .ok x78 h77)
 (Qc (cf 59 [a0, (.str ⟨3, 7499622⟩)] h73) .pan fun x79 h80 =>
 Qif x79
 (Qo (QlA 48 h80 x32) fun x81 =>
 Qc (cf 107 [a0, x81, a1] h80) .pan fun x82 h83 =>
 QoH (QsA 48 h83 a4 x82) fun h84 =>
 Qo (QlA 48 h84 a4) fun x85 =>
 .ok x85 h84)
 (Qo (Qfad 0 x32) fun x86 =>
 QoH (QsA 1 h80 x86 (.int .i64 7)) fun h87 =>
 Qc (cf 58 [a0] h87) .pan fun x88 h89 =>
 Qo (Qfad 42 x32) fun x90 =>
 q87_2p3 cf R h89 x90 x88 a0 x32 a4))))))
noncomputable def q87_2 (cf : CallF) (R : Rec) (a0 : IV) (a1 : IV) (a4 : IV) (h : H) : CRes :=
 Qc (cf 38 [a0] h) .pan fun x23 h24 =>
 Qo (Qnot x23) fun x25 =>
 Qif x25
 (Qo (Qbld z10 p21 []) fun x26 =>
 QoH (QsA 48 h24 a4 x26) fun h27 =>
 Qo (QlA 48 h27 a4) fun x28 =>
 .ok x28 h27)
 (Qc (cf 56 [a0] h24) .pan fun x29 h30 =>
 Qo (Qbld z10 p21 [(17, x29)]) fun x31 =>
 Qo2 (QnI h30 z10) fun x32 h33 =>
 QoH (QsA 48 h33 x32 x31) fun h34 =>
 q87_2p1 cf R a0 h34 x32 a4 a1)
theorem qe87_2 : q87_2 = t87_2 := by
  unfold q87_2 q87_2p1 q87_2p3 q87_2p2
  try simp only [QE]
  try rfl
noncomputable def q87_3 (cf : CallF) (R : Rec) (a4 : IV) (a5 : IV) (h : H) : CRes :=
 Qo (QlA 48 h a5) fun x100 =>
 QoH (QsA 48 h a4 x100) fun h101 =>
 Qo (QlA 48 h101 a4) fun x102 =>
 .ok x102 h101
theorem qe87_3 : q87_3 = t87_3 := by
  unfold q87_3
  try simp only [QE]
  try rfl
noncomputable def q87_4p1 (cf : CallF) (R : Rec) (a0 : IV) (h108 : H) (a5 : IV) (a4 : IV) : CRes :=
 Qc (cf 108 [a0, (.bool false)] h108) .pan fun x109 h110 =>
 Qo (Qfad 44 a5) fun x111 =>
 QoH (QsA 1 h110 x111 x109) fun h112 =>
 Qc (cf 57 [a0, (.str ⟨1, 59⟩)] h112) .pan fun x113 h114 =>
 R 3 [a4, a5] h114
noncomputable def q87_4 (cf : CallF) (R : Rec) (a0 : IV) (a4 : IV) (a5 : IV) (h : H) : CRes :=
 Qc (cf 58 [a0] h) .pan fun x103 h104 =>
 Qo (Qfad 1 a5) fun x105 =>
 QoH (QsA 1 h104 x105 x103) fun h106 =>
 Qc (cf 57 [a0, (.str ⟨1, 40⟩)] h106) .pan fun x107 h108 =>
 q87_4p1 cf R a0 h108 a5 a4
theorem qe87_4 : q87_4 = t87_4 := by
  unfold q87_4 q87_4p1
  try simp only [QE]
  try rfl
noncomputable def bt87 (cf : CallF) (R : Rec) : Rec := fun i l h =>
 br2 i 0 l (fun a0 a1 => t87_0 cf R a0 a1 h) <|
 br3 i 1 l (fun a0 a1 a4 => t87_1 cf R a0 a1 a4 h) <|
 br3 i 2 l (fun a0 a1 a4 => t87_2 cf R a0 a1 a4 h) <|
 br2 i 3 l (fun a4 a5 => t87_3 cf R a4 a5 h) <|
 br3 i 4 l (fun a0 a4 a5 => t87_4 cf R a0 a4 a5 h) <|
 .fail
noncomputable def b87 (cf : CallF) (R : Rec) : Rec := fun i l h =>
 brQ2 i 0 l (fun a0 a1 => q87_0 cf R a0 a1 h) <|
 brQ3 i 1 l (fun a0 a1 a4 => q87_1 cf R a0 a1 a4 h) <|
 brQ3 i 2 l (fun a0 a1 a4 => q87_2 cf R a0 a1 a4 h) <|
 brQ2 i 3 l (fun a4 a5 => q87_3 cf R a4 a5 h) <|
 brQ3 i 4 l (fun a0 a4 a5 => q87_4 cf R a0 a4 a5 h) <|
 .fail
theorem be87 : b87 = bt87 := by
  unfold b87 bt87
  simp only [qe87_0, qe87_1, qe87_2, qe87_3, qe87_4, brQ2_eq, brQ3_eq]
theorem r87 {T : Tab} {cf : CallF} (hc : leC cf (CL T)) (n : Nat) : leR (recN (b87 cf) n) (J87 T) := be87 ▸ recN_le (fun R hR i l h => by
  unfold bt87
  refine le_br2 (J := fun i l => J87 T i l h) (fun _ a0 a1 => le_e (fun hn => e87_0 rfl hn) ((m87 hc hR).1 a0 a1 h)) ?_
  refine le_br3 (J := fun i l => J87 T i l h) (fun _ a0 a1 a4 => le_e (fun hn => e87_1 rfl hn) ((m87 hc hR).2.1 a0 a1 a4 h)) ?_
  refine le_br3 (J := fun i l => J87 T i l h) (fun _ a0 a1 a4 => le_e (fun hn => e87_2 rfl hn) ((m87 hc hR).2.2.1 a0 a1 a4 h)) ?_
  refine le_br2 (J := fun i l => J87 T i l h) (fun _ a4 a5 => le_e (fun hn => e87_3 rfl hn) ((m87 hc hR).2.2.2.1 a4 a5 h)) ?_
  refine le_br3 (J := fun i l => J87 T i l h) (fun _ a0 a4 a5 => le_e (fun hn => e87_4 rfl hn) ((m87 hc hR).2.2.2.2 a0 a4 a5 h)) ?_
  exact le_fail _) n
theorem m88 {cf cf' : CallF} {R R' : Rec} (hc : ∀ f l h, le (cf f l h) (cf' f l h)) (hR : ∀ i l h, le (R i l h) (R' i l h)) :
  (∀ (a0 a1 : IV) (h : H), le (t88_0 cf R a0 a1 h) (t88_0 cf' R' a0 a1 h)) ∧
  (∀ (a0 a1 : IV) (h : H), le (t88_1 cf R a0 a1 h) (t88_1 cf' R' a0 a1 h)) := by
  refine ⟨?_, ?_⟩
  all_goals intros
  all_goals first | unfold t88_0 | unfold t88_1
  all_goals
  with_reducible repeat' first
    | refine le_obind fun _ => ?_
    | refine le_callP ?_ (fun _ _ => ?_) (fun _ _ => ?_)
    | refine le_condK ?_ ?_
    | exact hR _ _ _
    | refine le_obind2 fun _ _ => ?_
    | refine le_obindH fun _ => ?_
    | refine le_spanK (fun _ _ _ => ?_) (fun _ _ => ?_)
    | exact hc _ _ _
    | refine le_bif ?_ ?_
    | refine le_guardK ?_ ?_ ?_
    | refine le_mapK fun _ _ => ?_
    | refine le_panK fun _ _ => ?_
    | refine le_funK fun _ _ => ?_
    | exact le_refl _
    | apply_assumption
noncomputable def b88 (cf : CallF) (R : Rec) : Rec := fun i l h =>
 br2 i 0 l (fun a0 a1 => t88_0 cf R a0 a1 h) <|
 br2 i 1 l (fun a0 a1 => t88_1 cf R a0 a1 h) <|
 .fail
theorem r88 {T : Tab} {cf : CallF} (hc : leC cf (CL T)) (n : Nat) : leR (recN (b88 cf) n) (J88 T) := recN_le (fun R hR i l h => by
  unfold b88
  refine le_br2 (J := fun i l => J88 T i l h) (fun _ a0 a1 => le_e (fun hn => e88_0 rfl hn) ((m88 hc hR).1 a0 a1 h)) ?_
  refine le_br2 (J := fun i l => J88 T i l h) (fun _ a0 a1 => le_e (fun hn => e88_1 rfl hn) ((m88 hc hR).2 a0 a1 h)) ?_
  exact le_fail _) n
theorem m89 {cf cf' : CallF} {R R' : Rec} (hc : ∀ f l h, le (cf f l h) (cf' f l h)) (hR : ∀ i l h, le (R i l h) (R' i l h)) : (∀ (a0 : IV) (h : H), le (t89_0 cf R a0 h) (t89_0 cf' R' a0 h)) := by
  intros
  unfold t89_0
  with_reducible repeat' first
    | refine le_obind fun _ => ?_
    | refine le_callP ?_ (fun _ _ => ?_) (fun _ _ => ?_)
    | refine le_condK ?_ ?_
    | exact hR _ _ _
    | refine le_obind2 fun _ _ => ?_
    | refine le_obindH fun _ => ?_
    | refine le_spanK (fun _ _ _ => ?_) (fun _ _ => ?_)
    | exact hc _ _ _
    | refine le_bif ?_ ?_
    | refine le_guardK ?_ ?_ ?_
    | refine le_mapK fun _ _ => ?_
    | refine le_panK fun _ _ => ?_
    | refine le_funK fun _ _ => ?_
    | exact le_refl _
    | apply_assumption
noncomputable def b89 (cf : CallF) (R : Rec) : Rec := fun i l h =>
 br1 i 0 l (fun a0 => t89_0 cf R a0 h) <|
 .fail
theorem r89 {T : Tab} {cf : CallF} (hc : leC cf (CL T)) (n : Nat) : leR (recN (b89 cf) n) (J89 T) := recN_le (fun R hR i l h => by
  unfold b89
  refine le_br1 (J := fun i l => J89 T i l h) (fun _ a0 => le_e (fun hn => e89_0 rfl hn) ((m89 hc hR) a0 h)) ?_
  exact le_fail _) n
theorem m92 {cf cf' : CallF} {R R' : Rec} (hc : ∀ f l h, le (cf f l h) (cf' f l h)) (hR : ∀ i l h, le (R i l h) (R' i l h)) : (∀ (a0 : IV) (h : H), le (t92_0 cf R a0 h) (t92_0 cf' R' a0 h)) := by
  intros
  unfold t92_0
  with_reducible repeat' first
    | refine le_obind fun _ => ?_
    | refine le_callP ?_ (fun _ _ => ?_) (fun _ _ => ?_)
    | refine le_condK ?_ ?_
    | exact hR _ _ _
    | refine le_obind2 fun _ _ => ?_
    | refine le_obindH fun _ => ?_
    | refine le_spanK (fun _ _ _ => ?_) (fun _ _ => ?_)
    | exact hc _ _ _
    | refine le_bif ?_ ?_
    | refine le_guardK ?_ ?_ ?_
    | refine le_mapK fun _ _ => ?_
    | refine le_panK fun _ _ => ?_
    | refine le_funK fun _ _ => ?_
    | exact le_refl _
    | apply_assumption
noncomputable def b92 (cf : CallF) (R : Rec) : Rec := fun i l h =>
 br1 i 0 l (fun a0 => t92_0 cf R a0 h) <|
 .fail
theorem r92 {T : Tab} {cf : CallF} (hc : leC cf (CL T)) (n : Nat) : leR (recN (b92 cf) n) (J92 T) := recN_le (fun R hR i l h => by
  unfold b92
  refine le_br1 (J := fun i l => J92 T i l h) (fun _ a0 => le_e (fun hn => e92_0 rfl hn) ((m92 hc hR) a0 h)) ?_
  exact le_fail _) n
theorem m93 {cf cf' : CallF} {R R' : Rec} (hc : ∀ f l h, le (cf f l h) (cf' f l h)) (hR : ∀ i l h, le (R i l h) (R' i l h)) : (∀ (a0 : IV) (h : H), le (t93_0 cf R a0 h) (t93_0 cf' R' a0 h)) := by
  intros
  unfold t93_0
  with_reducible repeat' first
    | refine le_obind fun _ => ?_
    | refine le_callP ?_ (fun _ _ => ?_) (fun _ _ => ?_)
    | refine le_condK ?_ ?_
    | exact hR _ _ _
    | refine le_obind2 fun _ _ => ?_
    | refine le_obindH fun _ => ?_
    | refine le_spanK (fun _ _ _ => ?_) (fun _ _ => ?_)
    | exact hc _ _ _
    | refine le_bif ?_ ?_
    | refine le_guardK ?_ ?_ ?_
    | refine le_mapK fun _ _ => ?_
    | refine le_panK fun _ _ => ?_
    | refine le_funK fun _ _ => ?_
    | exact le_refl _
    | apply_assumption
noncomputable def b93 (cf : CallF) (R : Rec) : Rec := fun i l h =>
 br1 i 0 l (fun a0 => t93_0 cf R a0 h) <|
 .fail
theorem r93 {T : Tab} {cf : CallF} (hc : leC cf (CL T)) (n : Nat) : leR (recN (b93 cf) n) (J93 T) := recN_le (fun R hR i l h => by
  unfold b93
  refine le_br1 (J := fun i l => J93 T i l h) (fun _ a0 => le_e (fun hn => e93_0 rfl hn) ((m93 hc hR) a0 h)) ?_
  exact le_fail _) n
theorem m94 {cf cf' : CallF} {R R' : Rec} (hc : ∀ f l h, le (cf f l h) (cf' f l h)) (hR : ∀ i l h, le (R i l h) (R' i l h)) :
  (∀ (a0 a1 : IV) (h : H), le (t94_0 cf R a0 a1 h) (t94_0 cf' R' a0 a1 h)) ∧
  (∀ (a0 a1 a5 a8 a9 : IV) (h : H), le (t94_1 cf R a0 a1 a5 a8 a9 h) (t94_1 cf' R' a0 a1 a5 a8 a9 h)) := by
  refine ⟨?_, ?_⟩
  all_goals intros
  all_goals first | unfold t94_0 | unfold t94_1
  all_goals
  with_reducible repeat' first
    | refine le_obind fun _ => ?_
    | refine le_callP ?_ (fun _ _ => ?_) (fun _ _ => ?_)
    | refine le_condK ?_ ?_
    | exact hR _ _ _
    | refine le_obind2 fun _ _ => ?_
    | refine le_obindH fun _ => ?_
    | refine le_spanK (fun _ _ _ => ?_) (fun _ _ => ?_)
    | exact hc _ _ _
    | refine le_bif ?_ ?_
    | refine le_guardK ?_ ?_ ?_
    | refine le_mapK fun _ _ => ?_
    | refine le_panK fun _ _ => ?_
    | refine le_funK fun _ _ => ?_
    | exact le_refl _
    | apply_assumption
noncomputable def b94 (cf : CallF) (R : Rec) : Rec := fun i l h =>
 br2 i 0 l (fun a0 a1 => t94_0 cf R a0 a1 h) <|
 br5 i 1 l (fun a0 a1 a5 a8 a9 => t94_1 cf R a0 a1 a5 a8 a9 h) <|
 .fail
theorem r94 {T : Tab} {cf : CallF} (hc : leC cf (CL T)) (n : Nat) : leR (recN (b94 cf) n) (J94 T) := recN_le (fun R hR i l h => by
  unfold b94
  refine le_br2 (J := fun i l => J94 T i l h) (fun _ a0 a1 => le_e (fun hn => e94_0 rfl hn) ((m94 hc hR).1 a0 a1 h)) ?_
  refine le_br5 (J := fun i l => J94 T i l h) (fun _ a0 a1 a5 a8 a9 => le_e (fun hn => e94_1 rfl hn) ((m94 hc hR).2 a0 a1 a5 a8 a9 h)) ?_
  exact le_fail _) n
theorem m96 {cf cf' : CallF} {R R' : Rec} (hc : ∀ f l h, le (cf f l h) (cf' f l h)) (hR : ∀ i l h, le (R i l h) (R' i l h)) :
  (∀ (a0 a1 : IV) (h : H), le (t96_0 cf R a0 a1 h) (t96_0 cf' R' a0 a1 h)) ∧
  (∀ (a2 a3 : IV) (h : H), le (t96_1 cf R a2 a3 h) (t96_1 cf' R' a2 a3 h)) ∧
  (∀ (a2 a3 a5 a6 : IV) (h : H), le (t96_2 cf R a2 a3 a5 a6 h) (t96_2 cf' R' a2 a3 a5 a6 h)) ∧
  (∀ (a2 a3 a5 a6 a23 a24 a25 : IV) (h : H), le (t96_3 cf R a2 a3 a5 a6 a23 a24 a25 h) (t96_3 cf' R' a2 a3 a5 a6 a23 a24 a25 h)) ∧
  (∀ (a3 a5 a6 a10 : IV) (h : H), le (t96_4 cf R a3 a5 a6 a10 h) (t96_4 cf' R' a3 a5 a6 a10 h)) ∧
  (∀ (a2 a3 a5 a6 a11 : IV) (h : H), le (t96_5 cf R a2 a3 a5 a6 a11 h) (t96_5 cf' R' a2 a3 a5 a6 a11 h)) ∧
  (∀ (a3 : IV) (h : H), le (t96_6 cf R a3 h) (t96_6 cf' R' a3 h)) ∧
  (∀ (a6 : IV) (h : H), le (t96_7 cf R a6 h) (t96_7 cf' R' a6 h)) ∧
  (∀ (a5 a74 a103 : IV) (h : H), le (t96_8 cf R a5 a74 a103 h) (t96_8 cf' R' a5 a74 a103 h)) ∧
  (∀ (a5 a74 a111 : IV) (h : H), le (t96_9 cf R a5 a74 a111 h) (t96_9 cf' R' a5 a74 a111 h)) := by
  refine ⟨?_, ?_, ?_, ?_, ?_, ?_, ?_, ?_, ?_, ?_⟩
  all_goals intros
  all_goals first | unfold t96_0 | unfold t96_1 | unfold t96_2 | unfold t96_3 | unfold t96_4 | unfold t96_5 | unfold t96_6 | unfold t96_7 | unfold t96_8 | unfold t96_9
  all_goals
  with_reducible repeat' first
    | refine le_obind fun _ => ?_
    | refine le_callP ?_ (fun _ _ => ?_) (fun _ _ => ?_)
    | refine le_condK ?_ ?_
    | exact hR _ _ _
    | refine le_obind2 fun _ _ => ?_
    | refine le_obindH fun _ => ?_
    | refine le_spanK (fun _ _ _ => ?_) (fun _ _ => ?_)
    | exact hc _ _ _
    | refine le_bif ?_ ?_
    | refine le_guardK ?_ ?_ ?_
    | refine le_mapK fun _ _ => ?_
    | refine le_panK fun _ _ => ?_
    | refine le_funK fun _ _ => ?_
    | exact le_refl _
    | apply_assumption
noncomputable def b96 (cf : CallF) (R : Rec) : Rec := fun i l h =>
 br2 i 0 l (fun a0 a1 => t96_0 cf R a0 a1 h) <|
 br2 i 1 l (fun a2 a3 => t96_1 cf R a2 a3 h) <|
 br4 i 2 l (fun a2 a3 a5 a6 => t96_2 cf R a2 a3 a5 a6 h) <|
 br7 i 3 l (fun a2 a3 a5 a6 a23 a24 a25 => t96_3 cf R a2 a3 a5 a6 a23 a24 a25 h) <|
 br4 i 4 l (fun a3 a5 a6 a10 => t96_4 cf R a3 a5 a6 a10 h) <|
 br5 i 5 l (fun a2 a3 a5 a6 a11 => t96_5 cf R a2 a3 a5 a6 a11 h) <|
 br1 i 6 l (fun a3 => t96_6 cf R a3 h) <|
 br1 i 7 l (fun a6 => t96_7 cf R a6 h) <|
 br3 i 8 l (fun a5 a74 a103 => t96_8 cf R a5 a74 a103 h) <|
 br3 i 9 l (fun a5 a74 a111 => t96_9 cf R a5 a74 a111 h) <|
 .fail
theorem r96 {T : Tab} {cf : CallF} (hc : leC cf (CL T)) (n : Nat) : leR (recN (b96 cf) n) (J96 T) := recN_le (fun R hR i l h => by
  unfold b96
  refine le_br2 (J := fun i l => J96 T i l h) (fun _ a0 a1 => le_e (fun hn => e96_0 rfl hn) ((m96 hc hR).1 a0 a1 h)) ?_
  refine le_br2 (J := fun i l => J96 T i l h) (fun _ a2 a3 => le_e (fun hn => e96_1 rfl hn) ((m96 hc hR).2.1 a2 a3 h)) ?_
  refine le_br4 (J := fun i l => J96 T i l h) (fun _ a2 a3 a5 a6 => le_e (fun hn => e96_2 rfl hn) ((m96 hc hR).2.2.1 a2 a3 a5 a6 h)) ?_
  refine le_br7 (J := fun i l => J96 T i l h) (fun _ a2 a3 a5 a6 a23 a24 a25 => le_e (fun hn => e96_3 rfl hn) ((m96 hc hR).2.2.2.1 a2 a3 a5 a6 a23 a24 a25 h)) ?_
  refine le_br4 (J := fun i l => J96 T i l h) (fun _ a3 a5 a6 a10 => le_e (fun hn => e96_4 rfl hn) ((m96 hc hR).2.2.2.2.1 a3 a5 a6 a10 h)) ?_
  refine le_br5 (J := fun i l => J96 T i l h) (fun _ a2 a3 a5 a6 a11 => le_e (fun hn => e96_5 rfl hn) ((m96 hc hR).2.2.2.2.2.1 a2 a3 a5 a6 a11 h)) ?_
  refine le_br1 (J := fun i l => J96 T i l h) (fun _ a3 => le_e (fun hn => e96_6 rfl hn) ((m96 hc hR).2.2.2.2.2.2.1 a3 h)) ?_
  refine le_br1 (J := fun i l => J96 T i l h) (fun _ a6 => le_e (fun hn => e96_7 rfl hn) ((m96 hc hR).2.2.2.2.2.2.2.1 a6 h)) ?_
  refine le_br3 (J := fun i l => J96 T i l h) (fun _ a5 a74 a103 => le_e (fun hn => e96_8 rfl hn) ((m96 hc hR).2.2.2.2.2.2.2.2.1 a5 a74 a103 h)) ?_
  refine le_br3 (J := fun i l => J96 T i l h) (fun _ a5 a74 a111 => le_e (fun hn => e96_9 rfl hn) ((m96 hc hR).2.2.2.2.2.2.2.2.2 a5 a74 a111 h)) ?_
  exact le_fail _) n
theorem m99 {cf cf' : CallF} {R R' : Rec} (hc : ∀ f l h, le (cf f l h) (cf' f l h)) (hR : ∀ i l h, le (R i l h) (R' i l h)) :
  (∀ (a0 : IV) (h : H), le (t99_0 cf R a0 h) (t99_0 cf' R' a0 h)) ∧
  (∀ (a3 : IV) (h : H), le (t99_1 cf R a3 h) (t99_1 cf' R' a3 h)) := by
  refine ⟨?_, ?_⟩
  all_goals intros
  all_goals first | unfold t99_0 | unfold t99_1
  all_goals
  with_reducible repeat' first
    | refine le_obind fun _ => ?_
    | refine le_callP ?_ (fun _ _ => ?_) (fun _ _ => ?_)
    | refine le_condK ?_ ?_
    | exact hR _ _ _
    | refine le_obind2 fun _ _ => ?_
    | refine le_obindH fun _ => ?_
    | refine le_spanK (fun _ _ _ => ?_) (fun _ _ => ?_)
    | exact hc _ _ _
    | refine le_bif ?_ ?_
    | refine le_guardK ?_ ?_ ?_
    | refine le_mapK fun _ _ => ?_
    | refine le_panK fun _ _ => ?_
    | refine le_funK fun _ _ => ?_
    | exact le_refl _
    | apply_assumption
noncomputable def b99 (cf : CallF) (R : Rec) : Rec := fun i l h =>
 br1 i 0 l (fun a0 => t99_0 cf R a0 h) <|
 br1 i 1 l (fun a3 => t99_1 cf R a3 h) <|
 .fail
theorem r99 {T : Tab} {cf : CallF} (hc : leC cf (CL T)) (n : Nat) : leR (recN (b99 cf) n) (J99 T) := recN_le (fun R hR i l h => by
  unfold b99
  refine le_br1 (J := fun i l => J99 T i l h) (fun _ a0 => le_e (fun hn => e99_0 rfl hn) ((m99 hc hR).1 a0 h)) ?_
  refine le_br1 (J := fun i l => J99 T i l h) (fun _ a3 => le_e (fun hn => e99_1 rfl hn) ((m99 hc hR).2 a3 h)) ?_
  exact le_fail _) n
theorem m100 {cf cf' : CallF} {R R' : Rec} (hc : ∀ f l h, le (cf f l h) (cf' f l h)) (hR : ∀ i l h, le (R i l h) (R' i l h)) :
  (∀ (a0 : IV) (h : H), le (t100_0 cf R a0 h) (t100_0 cf' R' a0 h)) ∧
  (∀ (a0 a3 a4 : IV) (h : H), le (t100_1 cf R a0 a3 a4 h) (t100_1 cf' R' a0 a3 a4 h)) := by
  refine ⟨?_, ?_⟩
  all_goals intros
  all_goals first | unfold t100_0 | unfold t100_1
  all_goals
  with_reducible repeat' first
    | refine le_obind fun _ => ?_
    | refine le_callP ?_ (fun _ _ => ?_) (fun _ _ => ?_)
    | refine le_condK ?_ ?_
    | exact hR _ _ _
    | refine le_obind2 fun _ _ => ?_
    | refine le_obindH fun _ => ?_
    | refine le_spanK (fun _ _ _ => ?_) (fun _ _ => ?_)
    | exact hc _ _ _
    | refine le_bif ?_ ?_
    | refine le_guardK ?_ ?_ ?_
    | refine le_mapK fun _ _ => ?_
    | refine le_panK fun _ _ => ?_
    | refine le_funK fun _ _ => ?_
    | exact le_refl _
    | apply_assumption
noncomputable def b100 (cf : CallF) (R : Rec) : Rec := fun i l h =>
 br1 i 0 l (fun a0 => t100_0 cf R a0 h) <|
 br3 i 1 l (fun a0 a3 a4 => t100_1 cf R a0 a3 a4 h) <|
 .fail
theorem r100 {T : Tab} {cf : CallF} (hc : leC cf (CL T)) (n : Nat) : leR (recN (b100 cf) n) (J100 T) := recN_le (fun R hR i l h => by
  unfold b100
  refine le_br1 (J := fun i l => J100 T i l h) (fun _ a0 => le_e (fun hn => e100_0 rfl hn) ((m100 hc hR).1 a0 h)) ?_
  refine le_br3 (J := fun i l => J100 T i l h) (fun _ a0 a3 a4 => le_e (fun hn => e100_1 rfl hn) ((m100 hc hR).2 a0 a3 a4 h)) ?_
  exact le_fail _) n
theorem m101 {cf cf' : CallF} {R R' : Rec} (hc : ∀ f l h, le (cf f l h) (cf' f l h)) (hR : ∀ i l h, le (R i l h) (R' i l h)) : (∀ (a0 : IV) (h : H), le (t101_0 cf R a0 h) (t101_0 cf' R' a0 h)) := by
  intros
  unfold t101_0
  with_reducible repeat' first
    | refine le_obind fun _ => ?_
    | refine le_callP ?_ (fun _ _ => ?_) (fun _ _ => ?_)
    | refine le_condK ?_ ?_
    | exact hR _ _ _
    | refine le_obind2 fun _ _ => ?_
    | refine le_obindH fun _ => ?_
    | refine le_spanK (fun _ _ _ => ?_) (fun _ _ => ?_)
    | exact hc _ _ _
    | refine le_bif ?_ ?_
    | refine le_guardK ?_ ?_ ?_
    | refine le_mapK fun _ _ => ?_
    | refine le_panK fun _ _ => ?_
    | refine le_funK fun _ _ => ?_
    | exact le_refl _
    | apply_assumption
noncomputable def q101_0p4 (cf : CallF) (R : Rec) (x22 : IV) (h21 : H) (x9 : IV) : CRes :=
 Qsp x22 false h21 (fun k23 =>
 Qo (Qfad 1 x9) fun x26 =>
 Qo (Ql0 h21 x26) fun x27 =>
 Qo (Qse x27 (.str ⟨1, 40⟩)) fun x28 =>
 k23 x28 h21) fun x24 h25 =>
 Qo (Qpk x22 (some (.bool true)) (some x24)) fun x29 =>
 Qsp x29 false h25 (fun k30 =>
 Qo (Qfad 1 x9) fun x33 =>
 Qo (Ql0 h25 x33) fun x34 =>
 Qo (Qse x34 (.str ⟨1, 123⟩)) fun x35 =>
 k30 x35 h25) fun x31 h32 =>
 Qo (Qpk x29 (some (.bool true)) (some x31)) fun x36 =>
 .ok x36 h32
noncomputable def q101_0p3 (cf : CallF) (R : Rec) (x17 : IV) (x9 : IV) (h14 : H) (a0 : IV) : CRes :=
 Qif x17
 (Qo (Qfad 1 x9) fun x18 =>
 Qo (Ql0 h14 x18) fun x19 =>
 Qc (cf 120 [x19] h14) .pan fun x20 h21 =>
 Qo (Qgtr x20 (.int .i64 0)) fun x22 =>
 q101_0p4 cf R x22 h21 x9)
 (Qo (Qfad 0 x9) fun x37 =>
 Qo (Ql0 h14 x37) fun x38 =>
 Qo (Qeql x38 (.int .i64 2)) fun x39 =>
 Qsp x39 false h14 (fun k40 =>
 Qc (cf 83 [a0] h14) .pan fun x43 h44 =>
 k40 x43 h44) fun x41 h42 =>
 Qo (Qpk x39 (some (.bool true)) (some x41)) fun x45 =>
 .ok x45 h42)
noncomputable def q101_0p2 (cf : CallF) (R : Rec) (h : H) (x7 : IV) (x8 : IV) (x5 : IV) (x6 : IV) (x2 : IV) (x3 : IV) (a0 : IV) : CRes :=
 Qo2 (QnI h z13) fun x9 h10 =>
 Qo (QlA 3 h10 x7) fun x11 =>
 bif IV.beq x11 x8 then
 Qo (Ql0 h10 x5) fun x12 =>
 bif IV.beq x12 x6 then
 Qo (Ql0 h10 x2) fun x13 =>
 bif IV.beq x13 x3 then
 QoH (QsA 3 h10 x9 x8) fun h14 =>
 Qo (Qfad 0 x9) fun x15 =>
 Qo (Ql0 h14 x15) fun x16 =>
 Qo (Qeql x16 (.int .i64 3)) fun x17 =>
 q101_0p3 cf R x17 x9 h14 a0
 else .fail
 else .fail
 else .fail
noncomputable def q101_0p1 (cf : CallF) (R : Rec) (x4 : IV) (h : H) (x3 : IV) (x2 : IV) (a0 : IV) : CRes :=
 Qo (Qfad 1 x4) fun x5 =>
 Qo (Ql0 h x5) fun x6 =>
 Qo (Qix 3 x3 x6) fun x7 =>
 Qo (QlA 3 h x7) fun x8 =>
 q101_0p2 cf R h x7 x8 x5 x6 x2 x3 a0
noncomputable def q101_0 (cf : CallF) (R : Rec) (a0 : IV) (h : H) : CRes :=
 Qo (Qnil a0) fun x1 =>
 Qo (Qfad 0 x1) fun x2 =>
 Qo (Ql0 h x2) fun x3 =>
 Qo (Qnil a0) fun x4 =>
 q101_0p1 cf R x4 h x3 x2 a0
theorem qe101_0 : q101_0 = t101_0 := by
  unfold q101_0 q101_0p1 q101_0p2 q101_0p3 q101_0p4
  try simp only [QE]
  try rfl
noncomputable def bt101 (cf : CallF) (R : Rec) : Rec := fun i l h =>
 br1 i 0 l (fun a0 => t101_0 cf R a0 h) <|
 .fail
noncomputable def b101 (cf : CallF) (R : Rec) : Rec := fun i l h =>
 brQ1 i 0 l (fun a0 => q101_0 cf R a0 h) <|
 .fail
theorem be101 : b101 = bt101 := by
  unfold b101 bt101
  simp only [qe101_0, brQ1_eq]
theorem r101 {T : Tab} {cf : CallF} (hc : leC cf (CL T)) (n : Nat) : leR (recN (b101 cf) n) (J101 T) := be101 ▸ recN_le (fun R hR i l h => by
  unfold bt101
  refine le_br1 (J := fun i l => J101 T i l h) (fun _ a0 => le_e (fun hn => e101_0 rfl hn) ((m101 hc hR) a0 h)) ?_
  exact le_fail _) n
theorem m102 {cf cf' : CallF} {R R' : Rec} (hc : ∀ f l h, le (cf f l h) (cf' f l h)) (hR : ∀ i l h, le (R i l h) (R' i l h)) :
  (∀ (a0 a1 a2 : IV) (h : H), le (t102_0 cf R a0 a1 a2 h) (t102_0 cf' R' a0 a1 a2 h)) ∧
  (∀ (a0 a1 a2 a6 a7 : IV) (h : H), le (t102_2 cf R a0 a1 a2 a6 a7 h) (t102_2 cf' R' a0 a1 a2 a6 a7 h)) ∧
  (∀ (a0 a1 a2 a6 a7 a37 : IV) (h : H), le (t102_3 cf R a0 a1 a2 a6 a7 a37 h) (t102_3 cf' R' a0 a1 a2 a6 a7 a37 h)) ∧
  (∀ (a6 a7 : IV) (h : H), le (t102_1 cf R a6 a7 h) (t102_1 cf' R' a6 a7 h)) := by
  refine ⟨?_, ?_, ?_, ?_⟩
  all_goals intros
  all_goals first | unfold t102_0 | unfold t102_2 | unfold t102_3 | unfold t102_1
  all_goals
  with_reducible repeat' first
    | refine le_obind fun _ => ?_
    | refine le_callP ?_ (fun _ _ => ?_) (fun _ _ => ?_)
    | refine le_condK ?_ ?_
    | exact hR _ _ _
    | refine le_obind2 fun _ _ => ?_
    | refine le_obindH fun _ => ?_
    | refine le_spanK (fun _ _ _ => ?_) (fun _ _ => ?_)
    | exact hc _ _ _
    | refine le_bif ?_ ?_
    | refine le_guardK ?_ ?_ ?_
    | refine le_mapK fun _ _ => ?_
    | refine le_panK fun _ _ => ?_
    | refine le_funK fun _ _ => ?_
    | exact le_refl _
    | apply_assumption
noncomputable def q102_0 (cf : CallF) (R : Rec) (a0 : IV) (a1 : IV) (a2 : IV) (h : H) : CRes :=
 Qo2 (QnI h z16) fun x1 h2 =>
 Qo (Qgtr a1 (.int .i64 9)) fun x3 =>
 Qif x3
 (Qc (cf 121 [a0, a2] h2) .pan fun x4 h5 =>
 QoH (QsA 6 h5 x1 x4) fun h6 =>
 Qo (QlA 6 h6 x1) fun x7 =>
 .ok x7 h6)
 (Qo (Qadd a1 (.int .i64 1)) fun x8 =>
 Qc (cf 102 [a0, x8, a2] h2) .pan fun x9 h10 =>
 Qo2 (QnI h10 z16) fun x11 h12 =>
 QoH (QsA 6 h12 x11 x9) fun h13 =>
 R 2 [a0, a1, a2, x1, x11] h13)
theorem qe102_0 : q102_0 = t102_0 := by
  unfold q102_0
  try simp only [QE]
  try rfl
noncomputable def q102_2p1 (cf : CallF) (R : Rec) (x21 : IV) (h17 : H) (x20 : IV) (a0 : IV) (a1 : IV) (a2 : IV) (a6 : IV) (a7 : IV) : CRes :=
 Qo (Qfad 1 x21) fun x22 =>
 Qo (Ql0 h17 x22) fun x23 =>
 Qo (Qix 3 x20 x23) fun x24 =>
 Qo (Qfad 0 x24) fun x25 =>
 Qo (Ql0 h17 x25) fun x26 =>
 Qo (Qeql x26 (.int .i64 3)) fun x27 =>
 R 3 [a0, a1, a2, a6, a7, x27] h17
noncomputable def q102_2 (cf : CallF) (R : Rec) (a0 : IV) (a1 : IV) (a2 : IV) (a6 : IV) (a7 : IV) (h : H) : CRes :=
 Qc (cf 38 [a0] h) (fun v14 h15 =>
 .pan v14 h15) fun x16 h17 =>
 guardK x16 (Qo (Qnil a0) fun x18 =>
 Qo (Qfad 0 x18) fun x19 =>
 Qo (Ql0 h17 x19) fun x20 =>
 Qo (Qnil a0) fun x21 =>
 q102_2p1 cf R x21 h17 x20 a0 a1 a2 a6 a7)
 (R 3 [a0, a1, a2, a6, a7, (.bool false)] h17)
 (CRes.fail)
theorem qe102_2 : q102_2 = t102_2 := by
  unfold q102_2 q102_2p1
  try simp only [QE]
  try rfl
noncomputable def q102_3p6 (cf : CallF) (R : Rec) (h58 : H) (a7 : IV) (x56 : IV) (x42 : IV) (x44 : IV) (a0 : IV) (a1 : IV) (a2 : IV) (a6 : IV) : CRes :=
 Qo (QlA 6 h58 a7) fun x59 =>
 Qo (QlA 6 h58 x56) fun x60 =>
 Qo2 (Qbsl false 6 z16 2 [(0, x59), (1, x60)] h58) fun x61 h62 =>
 Qo (Qbld z16 p17 [(0, x42), (4, x61), (5, x44)]) fun x63 =>
 QoH (QsA 6 h62 a7 x63) fun h64 =>
 R 2 [a0, a1, a2, a6, a7] h64
noncomputable def q102_3p5 (cf : CallF) (R : Rec) (a1 : IV) (a0 : IV) (a2 : IV) (h52 : H) (a7 : IV) (x42 : IV) (x44 : IV) (a6 : IV) : CRes :=
 Qo (Qadd a1 (.int .i64 1)) fun x53 =>
 Qc (cf 102 [a0, x53, a2] h52) .pan fun x54 h55 =>
 Qo2 (QnI h55 z16) fun x56 h57 =>
 QoH (QsA 6 h57 x56 x54) fun h58 =>
 q102_3p6 cf R h58 a7 x56 x42 x44 a0 a1 a2 a6
noncomputable def q102_3p4 (cf : CallF) (R : Rec) (x48 : IV) (a0 : IV) (h45 : H) (a1 : IV) (a2 : IV) (a7 : IV) (x42 : IV) (x44 : IV) (a6 : IV) : CRes :=
 Qo (Qadd x48 (.int .i64 1)) fun x49 =>
 Qo (Qnil a0) fun x50 =>
 Qo (Qfad 1 x50) fun x51 =>
 QoH (QsA 1 h45 x51 x49) fun h52 =>
 q102_3p5 cf R a1 a0 a2 h52 a7 x42 x44 a6
noncomputable def q102_3p3 (cf : CallF) (R : Rec) (x41 : IV) (a1 : IV) (a6 : IV) (a7 : IV) (h40 : H) (a0 : IV) (a2 : IV) (x42 : IV) : CRes :=
 Qo (Qneq x41 a1) fun x43 =>
 Qif x43
 (R 1 [a6, a7] h40)
 (Qc (cf 56 [a0] h40) .pan fun x44 h45 =>
 Qo (Qnil a0) fun x46 =>
 Qo (Qfad 1 x46) fun x47 =>
 Qo (Ql0 h45 x47) fun x48 =>
 q102_3p4 cf R x48 a0 h45 a1 a2 a7 x42 x44 a6)
noncomputable def q102_3p2 (cf : CallF) (R : Rec) (h : H) (x35 : IV) (a1 : IV) (a6 : IV) (a7 : IV) (a0 : IV) (a2 : IV) : CRes :=
 Qo (Ql0 h x35) fun x36 =>
 Qc (cf 122 [x36] h) (fun v37 h38 =>
 .pan v37 h38) fun x39 h40 =>
 Qo (Qext x39 0) fun x41 =>
 Qo (Qext x39 1) fun x42 =>
 q102_3p3 cf R x41 a1 a6 a7 h40 a0 a2 x42
noncomputable def q102_3p1 (cf : CallF) (R : Rec) (x31 : IV) (h : H) (x30 : IV) (a1 : IV) (a6 : IV) (a7 : IV) (a0 : IV) (a2 : IV) : CRes :=
 Qo (Qfad 1 x31) fun x32 =>
 Qo (Ql0 h x32) fun x33 =>
 Qo (Qix 3 x30 x33) fun x34 =>
 Qo (Qfad 1 x34) fun x35 =>
 q102_3p2 cf R h x35 a1 a6 a7 a0 a2
noncomputable def q102_3 (cf : CallF) (R : Rec) (a0 : IV) (a1 : IV) (a2 : IV) (a6 : IV) (a7 : IV) (a37 : IV) (h : H) : CRes :=
 Qif a37
 (Qo (Qnil a0) fun x28 =>
 Qo (Qfad 0 x28) fun x29 =>
 Qo (Ql0 h x29) fun x30 =>
 Qo (Qnil a0) fun x31 =>
 q102_3p1 cf R x31 h x30 a1 a6 a7 a0 a2)
 (R 1 [a6, a7] h)
theorem qe102_3 : q102_3 = t102_3 := by
  unfold q102_3 q102_3p1 q102_3p2 q102_3p3 q102_3p4 q102_3p5 q102_3p6
  try simp only [QE]
  try rfl
noncomputable def q102_1 (cf : CallF) (R : Rec) (a6 : IV) (a7 : IV) (h : H) : CRes :=
 Qo (QlA 6 h a7) fun x65 =>
 QoH (QsA 6 h a6 x65) fun h66 =>
 Qo (QlA 6 h66 a6) fun x67 =>
 .ok x67 h66
theorem qe102_1 : q102_1 = t102_1 := by
  unfold q102_1
  try simp only [QE]
  try rfl
noncomputable def bt102 (cf : CallF) (R : Rec) : Rec := fun i l h =>
 br3 i 0 l (fun a0 a1 a2 => t102_0 cf R a0 a1 a2 h) <|
 br5 i 2 l (fun a0 a1 a2 a6 a7 => t102_2 cf R a0 a1 a2 a6 a7 h) <|
 br6 i 3 l (fun a0 a1 a2 a6 a7 a37 => t102_3 cf R a0 a1 a2 a6 a7 a37 h) <|
 br2 i 1 l (fun a6 a7 => t102_1 cf R a6 a7 h) <|
 .fail
noncomputable def b102 (cf : CallF) (R : Rec) : Rec := fun i l h =>
 brQ3 i 0 l (fun a0 a1 a2 => q102_0 cf R a0 a1 a2 h) <|
 brQ5 i 2 l (fun a0 a1 a2 a6 a7 => q102_2 cf R a0 a1 a2 a6 a7 h) <|
 brQ6 i 3 l (fun a0 a1 a2 a6 a7 a37 => q102_3 cf R a0 a1 a2 a6 a7 a37 h) <|
 brQ2 i 1 l (fun a6 a7 => q102_1 cf R a6 a7 h) <|
 .fail
theorem be102 : b102 = bt102 := by
  unfold b102 bt102
  simp only [qe102_0, qe102_2, qe102_3, qe102_1, brQ2_eq, brQ3_eq, brQ5_eq, brQ6_eq]
theorem r102 {T : Tab} {cf : CallF} (hc : leC cf (CL T)) (n : Nat) : leR (recN (b102 cf) n) (J102 T) := be102 ▸ recN_le (fun R hR i l h => by
  unfold bt102
  refine le_br3 (J := fun i l => J102 T i l h) (fun _ a0 a1 a2 => le_e (fun hn => e102_0 rfl hn) ((m102 hc hR).1 a0 a1 a2 h)) ?_
  refine le_br5 (J := fun i l => J102 T i l h) (fun _ a0 a1 a2 a6 a7 => le_e (fun hn => e102_2 rfl hn) ((m102 hc hR).2.1 a0 a1 a2 a6 a7 h)) ?_
  refine le_br6 (J := fun i l => J102 T i l h) (fun _ a0 a1 a2 a6 a7 a37 => le_e (fun hn => e102_3 rfl hn) ((m102 hc hR).2.2.1 a0 a1 a2 a6 a7 a37 h)) ?_
  refine le_br2 (J := fun i l => J102 T i l h) (fun _ a6 a7 => le_e (fun hn => e102_1 rfl hn) ((m102 hc hR).2.2.2 a6 a7 h)) ?_
  exact le_fail _) n
theorem m103 {cf cf' : CallF} {R R' : Rec} (hc : ∀ f l h, le (cf f l h) (cf' f l h)) (hR : ∀ i l h, le (R i l h) (R' i l h)) : (∀ (a0 : IV) (h : H), le (t103_0 cf R a0 h) (t103_0 cf' R' a0 h)) := by
  intros
  unfold t103_0
  with_reducible repeat' first
    | refine le_obind fun _ => ?_
    | refine le_callP ?_ (fun _ _ => ?_) (fun _ _ => ?_)
    | refine le_condK ?_ ?_
    | exact hR _ _ _
    | refine le_obind2 fun _ _ => ?_
    | refine le_obindH fun _ => ?_
    | refine le_spanK (fun _ _ _ => ?_) (fun _ _ => ?_)
    | exact hc _ _ _
    | refine le_bif ?_ ?_
    | refine le_guardK ?_ ?_ ?_
    | refine le_mapK fun _ _ => ?_
    | refine le_panK fun _ _ => ?_
    | refine le_funK fun _ _ => ?_
    | exact le_refl _
    | apply_assumption
noncomputable def q103_0p2 (cf : CallF) (R : Rec) (x20 : IV) (x22 : IV) (h23 : H) (a0 : IV) : CRes :=
 Qo (Qpk x20 (some (.bool true)) (some x22)) fun x26 =>
 Qsp x26 false h23 (fun k27 =>
 Qc (cf 84 [a0, (.str ⟨6, 126965163453537⟩)] h23) .pan fun x30 h31 =>
 k27 x30 h31) fun x28 h29 =>
 Qo (Qpk x26 (some (.bool true)) (some x28)) fun x32 =>
 Qsp x32 false h29 (fun k33 =>
 Qc (cf 84 [a0, (.str ⟨3, 7499622⟩)] h29) .pan fun x36 h37 =>
 k33 x36 h37) fun x34 h35 =>
 Qo (Qpk x32 (some (.bool true)) (some x34)) fun x38 =>
 .ok x38 h35
noncomputable def q103_0p1 (cf : CallF) (R : Rec) (x8 : IV) (x10 : IV) (h11 : H) (a0 : IV) : CRes :=
 Qo (Qpk x8 (some (.bool true)) (some x10)) fun x14 =>
 Qsp x14 false h11 (fun k15 =>
 Qc (cf 84 [a0, (.str ⟨10, 516535522800345012203372⟩)] h11) .pan fun x18 h19 =>
 k15 x18 h19) fun x16 h17 =>
 Qo (Qpk x14 (some (.bool true)) (some x16)) fun x20 =>
 Qsp x20 false h17 (fun k21 =>
 Qc (cf 84 [a0, (.str ⟨6, 121390429860705⟩)] h17) .pan fun x24 h25 =>
 k21 x24 h25) fun x22 h23 =>
 q103_0p2 cf R x20 x22 h23 a0
noncomputable def q103_0 (cf : CallF) (R : Rec) (a0 : IV) (h : H) : CRes :=
 Qc (cf 83 [a0] h) .pan fun x1 h2 =>
 Qsp x1 false h2 (fun k3 =>
 Qc (cf 84 [a0, (.str ⟨4, 1701996919⟩)] h2) .pan fun x6 h7 =>
 k3 x6 h7) fun x4 h5 =>
 Qo (Qpk x1 (some (.bool true)) (some x4)) fun x8 =>
 Qsp x8 false h5 (fun k9 =>
 Qc (cf 84 [a0, (.str ⟨3, 6776178⟩)] h5) .pan fun x12 h13 =>
 k9 x12 h13) fun x10 h11 =>
 q103_0p1 cf R x8 x10 h11 a0
theorem qe103_0 : q103_0 = t103_0 := by
  unfold q103_0 q103_0p1 q103_0p2
  try simp only [QE]
  try rfl
noncomputable def bt103 (cf : CallF) (R : Rec) : Rec := fun i l h =>
 br1 i 0 l (fun a0 => t103_0 cf R a0 h) <|
 .fail
noncomputable def b103 (cf : CallF) (R : Rec) : Rec := fun i l h =>
 brQ1 i 0 l (fun a0 => q103_0 cf R a0 h) <|
 .fail
theorem be103 : b103 = bt103 := by
  unfold b103 bt103
  simp only [qe103_0, brQ1_eq]
theorem r103 {T : Tab} {cf : CallF} (hc : leC cf (CL T)) (n : Nat) : leR (recN (b103 cf) n) (J103 T) := be103 ▸ recN_le (fun R hR i l h => by
  unfold bt103
  refine le_br1 (J := fun i l => J103 T i l h) (fun _ a0 => le_e (fun hn => e103_0 rfl hn) ((m103 hc hR) a0 h)) ?_
  exact le_fail _) n
theorem m108 {cf cf' : CallF} {R R' : Rec} (hc : ∀ f l h, le (cf f l h) (cf' f l h)) (hR : ∀ i l h, le (R i l h) (R' i l h)) :
  (∀ (a0 a1 : IV) (h : H), le (t108_0 cf R a0 a1 h) (t108_0 cf' R' a0 a1 h)) ∧
  (∀ (a0 a5 : IV) (h : H), le (t108_2 cf R a0 a5 h) (t108_2 cf' R' a0 a5 h)) ∧
  (∀ (a0 a5 : IV) (h : H), le (t108_1 cf R a0 a5 h) (t108_1 cf' R' a0 a5 h)) := by
  refine ⟨?_, ?_, ?_⟩
  all_goals intros
  all_goals first | unfold t108_0 | unfold t108_2 | unfold t108_1
  all_goals
  with_reducible repeat' first
    | refine le_obind fun _ => ?_
    | refine le_callP ?_ (fun _ _ => ?_) (fun _ _ => ?_)
    | refine le_condK ?_ ?_
    | exact hR _ _ _
    | refine le_obind2 fun _ _ => ?_
    | refine le_obindH fun _ => ?_
    | refine le_spanK (fun _ _ _ => ?_) (fun _ _ => ?_)
    | exact hc _ _ _
    | refine le_bif ?_ ?_
    | refine le_guardK ?_ ?_ ?_
    | refine le_mapK fun _ _ => ?_
    | refine le_panK fun _ _ => ?_
    | refine le_funK fun _ _ => ?_
    | exact le_refl _
    | apply_assumption
noncomputable def q108_0 (cf : CallF) (R : Rec) (a0 : IV) (a1 : IV) (h : H) : CRes :=
 Qo (Qnot a1) fun x1 =>
 Qsp x1 true h (fun k2 =>
 Qc (cf 59 [a0, (.str ⟨1, 41⟩)] h) .pan fun x5 h6 =>
 k2 x5 h6) fun x3 h4 =>
 Qo (Qpk x1 (some x3) (some (.bool false))) fun x7 =>
 Qif x7
 (.ok .nilSlice h4)
 (R 2 [a0, .nilSlice] h4)
theorem qe108_0 : q108_0 = t108_0 := by
  unfold q108_0
  try simp only [QE]
  try rfl
noncomputable def q108_2p4 (cf : CallF) (R : Rec) (a0 : IV) (h34 : H) (x33 : IV) : CRes :=
 Qc (cf 59 [a0, (.str ⟨1, 44⟩)] h34) .pan fun x35 h36 =>
 Qo (Qnot x35) fun x37 =>
 Qif x37
 (R 1 [a0, x33] h36)
 (R 2 [a0, x33] h36)
noncomputable def q108_2p3 (cf : CallF) (R : Rec) (a0 : IV) (h27 : H) (x13 : IV) (a5 : IV) : CRes :=
 Qc (cf 57 [a0, (.str ⟨1, 41⟩)] h27) .pan fun x28 h29 =>
 Qo (QlA 8 h29 x13) fun x30 =>
 Qo2 (Qbsl false 8 z5 1 [(0, x30)] h29) fun x31 h32 =>
 Qo2 (appK 8 104 h32 a5 x31) fun x33 h34 =>
 q108_2p4 cf R a0 h34 x33
noncomputable def q108_2p2 (cf : CallF) (R : Rec) (a0 : IV) (h21 : H) (x13 : IV) (a5 : IV) : CRes :=
 Qc (cf 57 [a0, (.str ⟨1, 40⟩)] h21) .pan fun x22 h23 =>
 Qc (cf 85 [a0, (.int .i64 1)] h23) .pan fun x24 h25 =>
 Qo (Qfad 1 x13) fun x26 =>
 QoH (QsA 6 h25 x26 x24) fun h27 =>
 q108_2p3 cf R a0 h27 x13 a5
noncomputable def q108_2p1 (cf : CallF) (R : Rec) (a0 : IV) (h15 : H) (x13 : IV) (a5 : IV) : CRes :=
 Qc (cf 57 [a0, (.str ⟨1, 46⟩)] h15) .pan fun x16 h17 =>
 Qc (cf 58 [a0] h17) .pan fun x18 h19 =>
 Qo (Qfad 0 x13) fun x20 =>
 QoH (QsA 1 h19 x20 x18) fun h21 =>
 q108_2p2 cf R a0 h21 x13 a5
noncomputable def q108_2 (cf : CallF) (R : Rec) (a0 : IV) (a5 : IV) (h : H) : CRes :=
 Qc (cf 38 [a0] h) .pan fun x8 h9 =>
 Qif x8
 (Qc (cf 56 [a0] h9) .pan fun x10 h11 =>
 Qo (Qbld z5 p19 [(2, x10)]) fun x12 =>
 Qo2 (QnI h11 z5) fun x13 h14 =>
 QoH (QsA 8 h14 x13 x12) fun h15 =>
 q108_2p1 cf R a0 h15 x13 a5)
 (R 1 [a0, a5] h9)
theorem qe108_2 : q108_2 = t108_2 := by
  unfold q108_2 q108_2p1 q108_2p2 q108_2p3 q108_2p4
  try simp only [QE]
  try rfl
noncomputable def q108_1 (cf : CallF) (R : Rec) (a0 : IV) (a5 : IV) (h : H) : CRes :=
 Qc (cf 57 [a0, (.str ⟨1, 41⟩)] h) .pan fun x38 h39 =>
 .ok a5 h39
theorem qe108_1 : q108_1 = t108_1 := by
  unfold q108_1
  try simp only [QE]
  try rfl
noncomputable def bt108 (cf : CallF) (R : Rec) : Rec := fun i l h =>
 br2 i 0 l (fun a0 a1 => t108_0 cf R a0 a1 h) <|
 br2 i 2 l (fun a0 a5 => t108_2 cf R a0 a5 h) <|
 br2 i 1 l (fun a0 a5 => t108_1 cf R a0 a5 h) <|
 .fail
noncomputable def b108 (cf : CallF) (R : Rec) : Rec := fun i l h =>
 brQ2 i 0 l (fun a0 a1 => q108_0 cf R a0 a1 h) <|
 brQ2 i 2 l (fun a0 a5 => q108_2 cf R a0 a5 h) <|
 brQ2 i 1 l (fun a0 a5 => q108_1 cf R a0 a5 h) <|
 .fail
theorem be108 : b108 = bt108 := by
  unfold b108 bt108
  simp only [qe108_0, qe108_2, qe108_1, brQ2_eq]
theorem r108 {T : Tab} {cf : CallF} (hc : leC cf (CL T)) (n : Nat) : leR (recN (b108 cf) n) (J108 T) := be108 ▸ recN_le (fun R hR i l h => by
  unfold bt108
  refine le_br2 (J := fun i l => J108 T i l h) (fun _ a0 a1 => le_e (fun hn => e108_0 rfl hn) ((m108 hc hR).1 a0 a1 h)) ?_
  refine le_br2 (J := fun i l => J108 T i l h) (fun _ a0 a5 => le_e (fun hn => e108_2 rfl hn) ((m108 hc hR).2.1 a0 a5 h)) ?_
  refine le_br2 (J := fun i l => J108 T i l h) (fun _ a0 a5 => le_e (fun hn => e108_1 rfl hn) ((m108 hc hR).2.2 a0 a5 h)) ?_
  exact le_fail _) n
theorem m111 {cf cf' : CallF} {R R' : Rec} (hc : ∀ f l h, le (cf f l h) (cf' f l h)) (hR : ∀ i l h, le (R i l h) (R' i l h)) : (∀ (a0 a1 : IV) (h : H), le (t111_0 cf R a0 a1 h) (t111_0 cf' R' a0 a1 h)) := by
  intros
  unfold t111_0
  with_reducible repeat' first
    | refine le_obind fun _ => ?_
    | refine le_callP ?_ (fun _ _ => ?_) (fun _ _ => ?_)
    | refine le_condK ?_ ?_
    | exact hR _ _ _
    | refine le_obind2 fun _ _ => ?_
    | refine le_obindH fun _ => ?_
    | refine le_spanK (fun _ _ _ => ?_) (fun _ _ => ?_)
    | exact hc _ _ _
    | refine le_bif ?_ ?_
    | refine le_guardK ?_ ?_ ?_
    | refine le_mapK fun _ _ => ?_
    | refine le_panK fun _ _ => ?_
    | refine le_funK fun _ _ => ?_
    | exact le_refl _
    | apply_assumption
noncomputable def b111 (cf : CallF) (R : Rec) : Rec := fun i l h =>
 br2 i 0 l (fun a0 a1 => t111_0 cf R a0 a1 h) <|
 .fail
theorem r111 {T : Tab} {cf : CallF} (hc : leC cf (CL T)) (n : Nat) : leR (recN (b111 cf) n) (J111 T) := recN_le (fun R hR i l h => by
  unfold b111
  refine le_br2 (J := fun i l => J111 T i l h) (fun _ a0 a1 => le_e (fun hn => e111_0 rfl hn) ((m111 hc hR) a0 a1 h)) ?_
  exact le_fail _) n
theorem m112 {cf cf' : CallF} {R R' : Rec} (hc : ∀ f l h, le (cf f l h) (cf' f l h)) (hR : ∀ i l h, le (R i l h) (R' i l h)) : (∀ (a0 a1 : IV) (h : H), le (t112_0 cf R a0 a1 h) (t112_0 cf' R' a0 a1 h)) := by
  intros
  unfold t112_0
  with_reducible repeat' first
    | refine le_obind fun _ => ?_
    | refine le_callP ?_ (fun _ _ => ?_) (fun _ _ => ?_)
    | refine le_condK ?_ ?_
    | exact hR _ _ _
    | refine le_obind2 fun _ _ => ?_
    | refine le_obindH fun _ => ?_
    | refine le_spanK (fun _ _ _ => ?_) (fun _ _ => ?_)
    | exact hc _ _ _
    | refine le_bif ?_ ?_
    | refine le_guardK ?_ ?_ ?_
    | refine le_mapK fun _ _ => ?_
    | refine le_panK fun _ _ => ?_
    | refine le_funK fun _ _ => ?_
    | exact le_refl _
    | apply_assumption
noncomputable def b112 (cf : CallF) (R : Rec) : Rec := fun i l h =>
 br2 i 0 l (fun a0 a1 => t112_0 cf R a0 a1 h) <|
 .fail
theorem r112 {T : Tab} {cf : CallF} (hc : leC cf (CL T)) (n : Nat) : leR (recN (b112 cf) n) (J112 T) := recN_le (fun R hR i l h => by
  unfold b112
  refine le_br2 (J := fun i l => J112 T i l h) (fun _ a0 a1 => le_e (fun hn => e112_0 rfl hn) ((m112 hc hR) a0 a1 h)) ?_
  exact le_fail _) n
theorem m113 {cf cf' : CallF} {R R' : Rec} (hc : ∀ f l h, le (cf f l h) (cf' f l h)) (hR : ∀ i l h, le (R i l h) (R' i l h)) : (∀ (a0 : IV) (h : H), le (t113_0 cf R a0 h) (t113_0 cf' R' a0 h)) := by
  intros
  unfold t113_0
  with_reducible repeat' first
    | refine le_obind fun _ => ?_
    | refine le_callP ?_ (fun _ _ => ?_) (fun _ _ => ?_)
    | refine le_condK ?_ ?_
    | exact hR _ _ _
    | refine le_obind2 fun _ _ => ?_
    | refine le_obindH fun _ => ?_
    | refine le_spanK (fun _ _ _ => ?_) (fun _ _ => ?_)
    | exact hc _ _ _
    | refine le_bif ?_ ?_
    | refine le_guardK ?_ ?_ ?_
    | refine le_mapK fun _ _ => ?_
    | refine le_panK fun _ _ => ?_
    | refine le_funK fun _ _ => ?_
    | exact le_refl _
    | apply_assumption
noncomputable def b113 (cf : CallF) (R : Rec) : Rec := fun i l h =>
 br1 i 0 l (fun a0 => t113_0 cf R a0 h) <|
 .fail
theorem r113 {T : Tab} {cf : CallF} (hc : leC cf (CL T)) (n : Nat) : leR (recN (b113 cf) n) (J113 T) := recN_le (fun R hR i l h => by
  unfold b113
  refine le_br1 (J := fun i l => J113 T i l h) (fun _ a0 => le_e (fun hn => e113_0 rfl hn) ((m113 hc hR) a0 h)) ?_
  exact le_fail _) n
theorem m119 {cf cf' : CallF} {R R' : Rec} (hc : ∀ f l h, le (cf f l h) (cf' f l h)) (hR : ∀ i l h, le (R i l h) (R' i l h)) : (∀ (h : H), le (t119_0 cf R h) (t119_0 cf' R' h)) := by
  intros
  unfold t119_0
  with_reducible repeat' first
    | refine le_obind fun _ => ?_
    | refine le_callP ?_ (fun _ _ => ?_) (fun _ _ => ?_)
    | refine le_condK ?_ ?_
    | exact hR _ _ _
    | refine le_obind2 fun _ _ => ?_
    | refine le_obindH fun _ => ?_
    | refine le_spanK (fun _ _ _ => ?_) (fun _ _ => ?_)
    | exact hc _ _ _
    | refine le_bif ?_ ?_
    | refine le_guardK ?_ ?_ ?_
    | refine le_mapK fun _ _ => ?_
    | refine le_panK fun _ _ => ?_
    | refine le_funK fun _ _ => ?_
    | exact le_refl _
    | apply_assumption
noncomputable def b119 (cf : CallF) (R : Rec) : Rec := fun i l h =>
 br0 i 0 l (t119_0 cf R h) <|
 .fail
theorem r119 {T : Tab} {cf : CallF} (hc : leC cf (CL T)) (n : Nat) : leR (recN (b119 cf) n) (J119 T) := recN_le (fun R hR i l h => by
  unfold b119
  refine le_br0 (J := fun i l => J119 T i l h) (fun _ => le_e (fun hn => e119_0 rfl hn) ((m119 hc hR) h)) ?_
  exact le_fail _) n
theorem m120 {cf cf' : CallF} {R R' : Rec} (hc : ∀ f l h, le (cf f l h) (cf' f l h)) (hR : ∀ i l h, le (R i l h) (R' i l h)) :
  (∀ (a0 : IV) (h : H), le (t120_0 cf R a0 h) (t120_0 cf' R' a0 h)) ∧
  (∀ (a0 a3 a4 : IV) (h : H), le (t120_1 cf R a0 a3 a4 h) (t120_1 cf' R' a0 a3 a4 h)) := by
  refine ⟨?_, ?_⟩
  all_goals intros
  all_goals first | unfold t120_0 | unfold t120_1
  all_goals
  with_reducible repeat' first
    | refine le_obind fun _ => ?_
    | refine le_callP ?_ (fun _ _ => ?_) (fun _ _ => ?_)
    | refine le_condK ?_ ?_
    | exact hR _ _ _
    | refine le_obind2 fun _ _ => ?_
    | refine le_obindH fun _ => ?_
    | refine le_spanK (fun _ _ _ => ?_) (fun _ _ => ?_)
    | exact hc _ _ _
    | refine le_bif ?_ ?_
    | refine le_guardK ?_ ?_ ?_
    | refine le_mapK fun _ _ => ?_
    | refine le_panK fun _ _ => ?_
    | refine le_funK fun _ _ => ?_
    | exact le_refl _
    | apply_assumption
noncomputable def b120 (cf : CallF) (R : Rec) : Rec := fun i l h =>
 br1 i 0 l (fun a0 => t120_0 cf R a0 h) <|
 br3 i 1 l (fun a0 a3 a4 => t120_1 cf R a0 a3 a4 h) <|
 .fail
theorem r120 {T : Tab} {cf : CallF} (hc : leC cf (CL T)) (n : Nat) : leR (recN (b120 cf) n) (J120 T) := recN_le (fun R hR i l h => by
  unfold b120
  refine le_br1 (J := fun i l => J120 T i l h) (fun _ a0 => le_e (fun hn => e120_0 rfl hn) ((m120 hc hR).1 a0 h)) ?_
  refine le_br3 (J := fun i l => J120 T i l h) (fun _ a0 a3 a4 => le_e (fun hn => e120_1 rfl hn) ((m120 hc hR).2 a0 a3 a4 h)) ?_
  exact le_fail _) n
theorem m121 {cf cf' : CallF} {R R' : Rec} (hc : ∀ f l h, le (cf f l h) (cf' f l h)) (hR : ∀ i l h, le (R i l h) (R' i l h)) :
  (∀ (a0 a1 : IV) (h : H), le (t121_0 cf R a0 a1 h) (t121_0 cf' R' a0 a1 h)) ∧
  (∀ (a0 a1 a4 : IV) (h : H), le (t121_1 cf R a0 a1 a4 h) (t121_1 cf' R' a0 a1 a4 h)) := by
  refine ⟨?_, ?_⟩
  all_goals intros
  all_goals first | unfold t121_0 | unfold t121_1
  all_goals
  with_reducible repeat' first
    | refine le_obind fun _ => ?_
    | refine le_callP ?_ (fun _ _ => ?_) (fun _ _ => ?_)
    | refine le_condK ?_ ?_
    | exact hR _ _ _
    | refine le_obind2 fun _ _ => ?_
    | refine le_obindH fun _ => ?_
    | refine le_spanK (fun _ _ _ => ?_) (fun _ _ => ?_)
    | exact hc _ _ _
    | refine le_bif ?_ ?_
    | refine le_guardK ?_ ?_ ?_
    | refine le_mapK fun _ _ => ?_
    | refine le_panK fun _ _ => ?_
    | refine le_funK fun _ _ => ?_
    | exact le_refl _
    | apply_assumption
noncomputable def q121_0p1 (cf : CallF) (R : Rec) (x11 : IV) (a0 : IV) (h7 : H) (a1 : IV) (x1 : IV) : CRes :=
 Qif x11
 (Qc (cf 82 [a0, (.int .i64 40)] h7) .pan fun x12 h13 =>
 R 1 [a0, a1, x1] h13)
 (R 1 [a0, a1, x1] h7)
noncomputable def q121_0 (cf : CallF) (R : Rec) (a0 : IV) (a1 : IV) (h : H) : CRes :=
 Qo2 (QnI h z16) fun x1 h2 =>
 Qc (cf 38 [a0] h2) .pan fun x3 h4 =>
 Qsp x3 true h4 (fun k5 =>
 Qc (cf 101 [a0] h4) .pan fun x8 h9 =>
 Qo (Qnot x8) fun x10 =>
 k5 x10 h9) fun x6 h7 =>
 Qo (Qpk x3 (some x6) (some (.bool false))) fun x11 =>
 q121_0p1 cf R x11 a0 h7 a1 x1
theorem qe121_0 : q121_0 = t121_0 := by
  unfold q121_0 q121_0p1
  try simp only [QE]
  try rfl
noncomputable def q121_1p7 (cf : CallF) (R : Rec) (h52 : H) (x62 : IV) (x63 : IV) (h59 : H) (x36 : IV) (x60 : IV) (h61 : H) (a4 : IV) : CRes :=
 Qo (Ql0 h52 x62) fun x64 =>
 bif IV.beq x64 x63 then
 Qo (Ql0 h59 x62) fun x65 =>
 bif IV.beq x65 x63 then
 Qo (Qbld z16 p17 [(0, x36), (4, x60), (5, x63)]) fun x66 =>
 QoH (QsA 6 h61 a4 x66) fun h67 =>
 Qo (QlA 6 h67 a4) fun x68 =>
 .ok x68 h67
 else .fail
 else .fail
noncomputable def q121_1p6 (cf : CallF) (R : Rec) (a0 : IV) (x53 : IV) (h52 : H) (x28 : IV) (x36 : IV) (a4 : IV) : CRes :=
 Qc (cf 138 [a0, x53] h52) (fun v54 h55 =>
 Qo (Qfad 2 x28) fun x56 =>
 Qo (Ql0 h52 x56) fun x57 =>
 .pan v54 h55) fun x58 h59 =>
 Qo2 (Qbsl false 6 z16 1 [(0, x58)] h59) fun x60 h61 =>
 Qo (Qfad 2 x28) fun x62 =>
 Qo (Ql0 h61 x62) fun x63 =>
 q121_1p7 cf R h52 x62 x63 h59 x36 x60 h61 a4
noncomputable def q121_1p5 (cf : CallF) (R : Rec) (a0 : IV) (h43 : H) (x49 : IV) (a1 : IV) (x28 : IV) (x36 : IV) (a4 : IV) : CRes :=
 Qo (Qnil a0) fun x50 =>
 Qo (Qfad 1 x50) fun x51 =>
 QoH (QsA 1 h43 x51 x49) fun h52 =>
 Qo (Qadd a1 (.int .i64 1)) fun x53 =>
 q121_1p6 cf R a0 x53 h52 x28 x36 a4
noncomputable def q121_1p4 (cf : CallF) (R : Rec) (x40 : IV) (x42 : IV) (a0 : IV) (h43 : H) (a1 : IV) (x28 : IV) (x36 : IV) (a4 : IV) : CRes :=
 Qo (Qpk x40 (some x42) (some (.bool false))) fun x45 =>
 Qif x45
 (Qo (Qnil a0) fun x46 =>
 Qo (Qfad 1 x46) fun x47 =>
 Qo (Ql0 h43 x47) fun x48 =>
 Qo (Qadd x48 (.int .i64 1)) fun x49 =>
 q121_1p5 cf R a0 h43 x49 a1 x28 x36 a4)
 (Qc (cf 123 [a0, a1] h43) .pan fun x69 h70 =>
 QoH (QsA 6 h70 a4 x69) fun h71 =>
 Qo (QlA 6 h71 a4) fun x72 =>
 .ok x72 h71)
noncomputable def q121_1p3 (cf : CallF) (R : Rec) (x28 : IV) (h37 : H) (x36 : IV) (a0 : IV) (a1 : IV) (a4 : IV) : CRes :=
 Qo (Qfad 0 x28) fun x38 =>
 Qo (Ql0 h37 x38) fun x39 =>
 Qo (Qeql x39 (.int .i64 3)) fun x40 =>
 Qsp x40 true h37 (fun k41 =>
 Qo (Qgtr x36 (.int .i64 0)) fun x44 =>
 k41 x44 h37) fun x42 h43 =>
 q121_1p4 cf R x40 x42 a0 h43 a1 x28 x36 a4
noncomputable def q121_1p2 (cf : CallF) (R : Rec) (h15 : H) (x26 : IV) (x27 : IV) (x24 : IV) (x25 : IV) (x21 : IV) (x22 : IV) (a0 : IV) (a1 : IV) (a4 : IV) : CRes :=
 Qo2 (QnI h15 z13) fun x28 h29 =>
 Qo (QlA 3 h29 x26) fun x30 =>
 bif IV.beq x30 x27 then
 Qo (Ql0 h29 x24) fun x31 =>
 bif IV.beq x31 x25 then
 Qo (Ql0 h29 x21) fun x32 =>
 bif IV.beq x32 x22 then
 QoH (QsA 3 h29 x28 x27) fun h33 =>
 Qo (Qfad 1 x28) fun x34 =>
 Qo (Ql0 h33 x34) fun x35 =>
 Qc (cf 120 [x35] h33) .pan fun x36 h37 =>
 q121_1p3 cf R x28 h37 x36 a0 a1 a4
 else .fail
 else .fail
 else .fail
noncomputable def q121_1p1 (cf : CallF) (R : Rec) (x23 : IV) (h15 : H) (x22 : IV) (x21 : IV) (a0 : IV) (a1 : IV) (a4 : IV) : CRes :=
 Qo (Qfad 1 x23) fun x24 =>
 Qo (Ql0 h15 x24) fun x25 =>
 Qo (Qix 3 x22 x25) fun x26 =>
 Qo (QlA 3 h15 x26) fun x27 =>
 q121_1p2 cf R h15 x26 x27 x24 x25 x21 x22 a0 a1 a4
noncomputable def q121_1 (cf : CallF) (R : Rec) (a0 : IV) (a1 : IV) (a4 : IV) (h : H) : CRes :=
 Qc (cf 38 [a0] h) .pan fun x14 h15 =>
 Qo (Qnot x14) fun x16 =>
 Qif x16
 (Qo (Qbld z16 p17 []) fun x17 =>
 QoH (QsA 6 h15 a4 x17) fun h18 =>
 Qo (QlA 6 h18 a4) fun x19 =>
 .ok x19 h18)
 (Qo (Qnil a0) fun x20 =>
 Qo (Qfad 0 x20) fun x21 =>
 Qo (Ql0 h15 x21) fun x22 =>
 Qo (Qnil a0) fun x23 =>
 q121_1p1 cf R x23 h15 x22 x21 a0 a1 a4)
theorem qe121_1 : q121_1 = t121_1 := by
  unfold q121_1 q121_1p1 q121_1p2 q121_1p3 q121_1p4 q121_1p5 q121_1p6 q121_1p7
  try simp only [QE]
  try rfl
noncomputable def bt121 (cf : CallF) (R : Rec) : Rec := fun i l h =>
 br2 i 0 l (fun a0 a1 => t121_0 cf R a0 a1 h) <|
 br3 i 1 l (fun a0 a1 a4 => t121_1 cf R a0 a1 a4 h) <|
 .fail
noncomputable def b121 (cf : CallF) (R : Rec) : Rec := fun i l h =>
 brQ2 i 0 l (fun a0 a1 => q121_0 cf R a0 a1 h) <|
 brQ3 i 1 l (fun a0 a1 a4 => q121_1 cf R a0 a1 a4 h) <|
 .fail
theorem be121 : b121 = bt121 := by
  unfold b121 bt121
  simp only [qe121_0, qe121_1, brQ2_eq, brQ3_eq]
theorem r121 {T : Tab} {cf : CallF} (hc : leC cf (CL T)) (n : Nat) : leR (recN (b121 cf) n) (J121 T) := be121 ▸ recN_le (fun R hR i l h => by
  unfold bt121
  refine le_br2 (J := fun i l => J121 T i l h) (fun _ a0 a1 => le_e (fun hn => e121_0 rfl hn) ((m121 hc hR).1 a0 a1 h)) ?_
  refine le_br3 (J := fun i l => J121 T i l h) (fun _ a0 a1 a4 => le_e (fun hn => e121_1 rfl hn) ((m121 hc hR).2 a0 a1 a4 h)) ?_
  exact le_fail _) n
theorem m122 {cf cf' : CallF} {R R' : Rec} (hc : ∀ f l h, le (cf f l h) (cf' f l h)) (hR : ∀ i l h, le (R i l h) (R' i l h)) :
  (∀ (a0 : IV) (h : H), le (t122_0 cf R a0 h) (t122_0 cf' R' a0 h)) ∧
  (∀ (a0 a4 a5 a6 a7 : IV) (h : H), le (t122_1 cf R a0 a4 a5 a6 a7 h) (t122_1 cf' R' a0 a4 a5 a6 a7 h)) := by
  refine ⟨?_, ?_⟩
  all_goals intros
  all_goals first | unfold t122_0 | unfold t122_1
  all_goals
  with_reducible repeat' first
    | refine le_obind fun _ => ?_
    | refine le_callP ?_ (fun _ _ => ?_) (fun _ _ => ?_)
    | refine le_condK ?_ ?_
    | exact hR _ _ _
    | refine le_obind2 fun _ _ => ?_
    | refine le_obindH fun _ => ?_
    | refine le_spanK (fun _ _ _ => ?_) (fun _ _ => ?_)
    | exact hc _ _ _
    | refine le_bif ?_ ?_
    | refine le_guardK ?_ ?_ ?_
    | refine le_mapK fun _ _ => ?_
    | refine le_panK fun _ _ => ?_
    | refine le_funK fun _ _ => ?_
    | exact le_refl _
    | apply_assumption
noncomputable def b122 (cf : CallF) (R : Rec) : Rec := fun i l h =>
 br1 i 0 l (fun a0 => t122_0 cf R a0 h) <|
 br5 i 1 l (fun a0 a4 a5 a6 a7 => t122_1 cf R a0 a4 a5 a6 a7 h) <|
 .fail
theorem r122 {T : Tab} {cf : CallF} (hc : leC cf (CL T)) (n : Nat) : leR (recN (b122 cf) n) (J122 T) := recN_le (fun R hR i l h => by
  unfold b122
  refine le_br1 (J := fun i l => J122 T i l h) (fun _ a0 => le_e (fun hn => e122_0 rfl hn) ((m122 hc hR).1 a0 h)) ?_
  refine le_br5 (J := fun i l => J122 T i l h) (fun _ a0 a4 a5 a6 a7 => le_e (fun hn => e122_1 rfl hn) ((m122 hc hR).2 a0 a4 a5 a6 a7 h)) ?_
  exact le_fail _) n
theorem m123 {cf cf' : CallF} {R R' : Rec} (hc : ∀ f l h, le (cf f l h) (cf' f l h)) (hR : ∀ i l h, le (R i l h) (R' i l h)) :
  (∀ (a0 a1 : IV) (h : H), le (t123_0 cf R a0 a1 h) (t123_0 cf' R' a0 a1 h)) ∧
  (∀ (a0 a1 a4 a10 : IV) (h : H), le (t123_1 cf R a0 a1 a4 a10 h) (t123_1 cf' R' a0 a1 a4 a10 h)) ∧
  (∀ (a0 a4 a11 : IV) (h : H), le (t123_2 cf R a0 a4 a11 h) (t123_2 cf' R' a0 a4 a11 h)) := by
  refine ⟨?_, ?_, ?_⟩
  all_goals intros
  all_goals first | unfold t123_0 | unfold t123_1 | unfold t123_2
  all_goals
  with_reducible repeat' first
    | refine le_obind fun _ => ?_
    | refine le_callP ?_ (fun _ _ => ?_) (fun _ _ => ?_)
    | refine le_condK ?_ ?_
    | exact hR _ _ _
    | refine le_obind2 fun _ _ => ?_
    | refine le_obindH fun _ => ?_
    | refine le_spanK (fun _ _ _ => ?_) (fun _ _ => ?_)
    | exact hc _ _ _
    | refine le_bif ?_ ?_
    | refine le_guardK ?_ ?_ ?_
    | refine le_mapK fun _ _ => ?_
    | refine le_panK fun _ _ => ?_
    | refine le_funK fun _ _ => ?_
    | exact le_refl _
    | apply_assumption
noncomputable def q123_0p6 (cf : CallF) (R : Rec) (x29 : IV) (x11 : IV) (h30 : H) (x31 : IV) (x32 : IV) (x1 : IV) : CRes :=
 Qo (Qext x29 2) fun x33 =>
 Qo (Qfad 2 x11) fun x34 =>
 Qo (Ql0 h30 x34) fun x35 =>
 Qo (Qbld z16 p17 [(0, (.int .i64 1)), (2, x31), (3, x32), (5, x35)]) fun x36 =>
 QoH (QsA 6 h30 x1 x36) fun h37 =>
 Qo (QlA 6 h37 x1) fun x38 =>
 .ok x38 h37
noncomputable def q123_0p5 (cf : CallF) (R : Rec) (h26 : H) (x27 : IV) (x11 : IV) (x1 : IV) : CRes :=
 Qo (Ql0 h26 x27) fun x28 =>
 Qc (cf 54 [x28] h26) .pan fun x29 h30 =>
 Qo (Qext x29 0) fun x31 =>
 Qo (Qext x29 1) fun x32 =>
 q123_0p6 cf R x29 x11 h30 x31 x32 x1
noncomputable def q123_0p4 (cf : CallF) (R : Rec) (a0 : IV) (h16 : H) (x23 : IV) (x11 : IV) (x1 : IV) : CRes :=
 Qo (Qnil a0) fun x24 =>
 Qo (Qfad 1 x24) fun x25 =>
 QoH (QsA 1 h16 x25 x23) fun h26 =>
 Qo (Qfad 1 x11) fun x27 =>
 q123_0p5 cf R h26 x27 x11 x1
noncomputable def q123_0p7 (cf : CallF) (R : Rec) (a0 : IV) (h46 : H) (x44 : IV) (x1 : IV) : CRes :=
 Qc (cf 57 [a0, (.str ⟨1, 41⟩)] h46) .pan fun x47 h48 =>
 Qo (QlA 6 h48 x44) fun x49 =>
 QoH (QsA 6 h48 x1 x49) fun h50 =>
 Qo (QlA 6 h50 x1) fun x51 =>
 .ok x51 h50
noncomputable def q123_0p8 (cf : CallF) (R : Rec) (h62 : H) (x63 : IV) (h53 : H) (h60 : H) (x61 : IV) (a0 : IV) (a1 : IV) (x1 : IV) : CRes :=
 Qo (Ql0 h62 x63) fun x64 =>
 Qo (Ql0 h53 x63) fun x65 =>
 bif IV.beq x65 x64 then
 Qo (Ql0 h60 x63) fun x66 =>
 bif IV.beq x66 x64 then
 Qo (Qbld z16 p17 [(0, (.int .i64 5)), (4, x61), (5, x64)]) fun x67 =>
 Qo2 (QnI h62 z16) fun x68 h69 =>
 Qo (Ql0 h69 x63) fun x70 =>
 bif IV.beq x70 x64 then
 QoH (QsA 6 h69 x68 x67) fun h71 =>
 R 1 [a0, a1, x1, x68] h71
 else .fail
 else .fail
 else .fail
noncomputable def q123_0p12 (cf : CallF) (R : Rec) (a1 : IV) (a0 : IV) (h104 : H) (x105 : IV) (x106 : IV) (x82 : IV) (x1 : IV) : CRes :=
 Qo (Qadd a1 (.int .i64 1)) fun x107 =>
 Qc (cf 85 [a0, x107] h104) (fun v108 h109 =>
 .pan v108 h109) fun x110 h111 =>
 Qo (Ql0 h111 x105) fun x112 =>
 bif IV.beq x112 x106 then
 Qo2 (Qbsl false 6 z16 1 [(0, x110)] h111) fun x113 h114 =>
 Qo (Ql0 h114 x105) fun x115 =>
 bif IV.beq x115 x106 then
 Qo2 (appK 6 80 h114 x106 x113) fun x116 h117 =>
 Qo (Qfad 4 x82) fun x118 =>
 QoH (QsA 1 h117 x118 x116) fun h119 =>
 R 2 [a0, x1, x82] h119
 else .fail
 else .fail
noncomputable def q123_0p11 (cf : CallF) (R : Rec) (x101 : IV) (x82 : IV) (h102 : H) (a1 : IV) (a0 : IV) (x1 : IV) : CRes :=
 Qif x101
 (Qo (Qfad 0 x82) fun x103 =>
 QoH (QsA 1 h102 x103 (.int .i64 4)) fun h104 =>
 Qo (Qfad 4 x82) fun x105 =>
 Qo (Ql0 h104 x105) fun x106 =>
 q123_0p12 cf R a1 a0 h104 x105 x106 x82 x1)
 (R 2 [a0, x1, x82] h102)
noncomputable def q123_0p10 (cf : CallF) (R : Rec) (x95 : IV) (h96 : H) (x82 : IV) (a0 : IV) (a1 : IV) (x1 : IV) : CRes :=
 Qo2 (Qbsl false 6 z16 1 [(0, x95)] h96) fun x97 h98 =>
 Qo (Qfad 4 x82) fun x99 =>
 QoH (QsA 1 h98 x99 x97) fun h100 =>
 Qc (cf 59 [a0, (.str ⟨1, 58⟩)] h100) .pan fun x101 h102 =>
 q123_0p11 cf R x101 x82 h102 a1 a0 x1
noncomputable def q123_0p9 (cf : CallF) (R : Rec) (x80 : IV) (x79 : IV) (x76 : IV) (h77 : H) (x78 : IV) (a0 : IV) (x1 : IV) (a1 : IV) : CRes :=
 bif IV.beq x80 x79 then
 Qo (Qbld z16 p17 [(0, (.int .i64 2)), (1, x76), (5, x79)]) fun x81 =>
 Qo2 (QnI h77 z16) fun x82 h83 =>
 Qo (Ql0 h83 x78) fun x84 =>
 bif IV.beq x84 x79 then
 QoH (QsA 6 h83 x82 x81) fun h85 =>
 Qc (cf 59 [a0, (.str ⟨1, 91⟩)] h85) .pan fun x86 h87 =>
 Qo (Qnot x86) fun x88 =>
 Qif x88
 (Qo (QlA 6 h87 x82) fun x89 =>
 QoH (QsA 6 h87 x1 x89) fun h90 =>
 Qo (QlA 6 h90 x1) fun x91 =>
 .ok x91 h90)
 (Qo (Qfad 0 x82) fun x92 =>
 QoH (QsA 1 h87 x92 (.int .i64 3)) fun h93 =>
 Qo (Qadd a1 (.int .i64 1)) fun x94 =>
 Qc (cf 85 [a0, x94] h93) .pan fun x95 h96 =>
 q123_0p10 cf R x95 h96 x82 a0 a1 x1)
 else .fail
 else .fail
noncomputable def q123_0p3 (cf : CallF) (R : Rec) (x19 : IV) (a0 : IV) (h16 : H) (x11 : IV) (x1 : IV) (a1 : IV) : CRes :=
 Qif x19
 (Qo (Qnil a0) fun x20 =>
 Qo (Qfad 1 x20) fun x21 =>
 Qo (Ql0 h16 x21) fun x22 =>
 Qo (Qadd x22 (.int .i64 1)) fun x23 =>
 q123_0p4 cf R a0 h16 x23 x11 x1)
 (Qc (cf 59 [a0, (.str ⟨1, 40⟩)] h16) .pan fun x39 h40 =>
 Qif x39
 (Qo (Qadd a1 (.int .i64 1)) fun x41 =>
 Qc (cf 85 [a0, x41] h40) .pan fun x42 h43 =>
 Qo2 (QnI h43 z16) fun x44 h45 =>
 QoH (QsA 6 h45 x44 x42) fun h46 =>
 q123_0p7 cf R a0 h46 x44 x1)
 (Qc (cf 59 [a0, (.str ⟨1, 123⟩)] h40) .pan fun x52 h53 =>
 Qif x52
 (Qo (Qadd a1 (.int .i64 1)) fun x54 =>
 Qc (cf 85 [a0, x54] h53) (fun v55 h56 =>
 Qo (Qfad 2 x11) fun x57 =>
 Qo (Ql0 h53 x57) fun x58 =>
 .pan v55 h56) fun x59 h60 =>
 Qo2 (Qbsl false 6 z16 1 [(0, x59)] h60) fun x61 h62 =>
 Qo (Qfad 2 x11) fun x63 =>
 q123_0p8 cf R h62 x63 h53 h60 x61 a0 a1 x1)
 (Qc (cf 58 [a0] h53) (fun v72 h73 =>
 Qo (Qfad 2 x11) fun x74 =>
 Qo (Ql0 h53 x74) fun x75 =>
 .pan v72 h73) fun x76 h77 =>
 Qo (Qfad 2 x11) fun x78 =>
 Qo (Ql0 h77 x78) fun x79 =>
 Qo (Ql0 h53 x78) fun x80 =>
 q123_0p9 cf R x80 x79 x76 h77 x78 a0 x1 a1)))
noncomputable def q123_0p2 (cf : CallF) (R : Rec) (h2 : H) (x9 : IV) (x7 : IV) (x8 : IV) (x4 : IV) (x5 : IV) (a0 : IV) (x1 : IV) (a1 : IV) : CRes :=
 Qo (QlA 3 h2 x9) fun x10 =>
 Qo2 (QnI h2 z13) fun x11 h12 =>
 Qo (QlA 3 h12 x9) fun x13 =>
 bif IV.beq x13 x10 then
 Qo (Ql0 h12 x7) fun x14 =>
 bif IV.beq x14 x8 then
 Qo (Ql0 h12 x4) fun x15 =>
 bif IV.beq x15 x5 then
 QoH (QsA 3 h12 x11 x10) fun h16 =>
 Qo (Qfad 0 x11) fun x17 =>
 Qo (Ql0 h16 x17) fun x18 =>
 Qo (Qeql x18 (.int .i64 2)) fun x19 =>
 q123_0p3 cf R x19 a0 h16 x11 x1 a1
 else .fail
 else .fail
 else .fail
noncomputable def q123_0p1 (cf : CallF) (R : Rec) (a0 : IV) (h2 : H) (x5 : IV) (x4 : IV) (x1 : IV) (a1 : IV) : CRes :=
 Qo (Qnil a0) fun x6 =>
 Qo (Qfad 1 x6) fun x7 =>
 Qo (Ql0 h2 x7) fun x8 =>
 Qo (Qix 3 x5 x8) fun x9 =>
 q123_0p2 cf R h2 x9 x7 x8 x4 x5 a0 x1 a1
noncomputable def q123_0 (cf : CallF) (R : Rec) (a0 : IV) (a1 : IV) (h : H) : CRes :=
 Qo2 (QnI h z16) fun x1 h2 =>
 Qo (Qnil a0) fun x3 =>
 Qo (Qfad 0 x3) fun x4 =>
 Qo (Ql0 h2 x4) fun x5 =>
 q123_0p1 cf R a0 h2 x5 x4 x1 a1
theorem qe123_0 : q123_0 = t123_0 := by
  unfold q123_0 q123_0p1 q123_0p2 q123_0p3 q123_0p9 q123_0p10 q123_0p11 q123_0p12 q123_0p8 q123_0p7 q123_0p4 q123_0p5 q123_0p6
  try simp only [QE]
  try rfl
noncomputable def q123_1p1 (cf : CallF) (R : Rec) (h128 : H) (x122 : IV) (x123 : IV) (x127 : IV) (a10 : IV) (a0 : IV) (a1 : IV) (a4 : IV) : CRes :=
 Qo (Ql0 h128 x122) fun x129 =>
 bif IV.beq x129 x123 then
 Qo2 (Qbsl false 6 z16 1 [(0, x127)] h128) fun x130 h131 =>
 Qo (Ql0 h131 x122) fun x132 =>
 bif IV.beq x132 x123 then
 Qo2 (appK 6 80 h131 x123 x130) fun x133 h134 =>
 Qo (Qfad 4 a10) fun x135 =>
 QoH (QsA 1 h134 x135 x133) fun h136 =>
 R 1 [a0, a1, a4, a10] h136
 else .fail
 else .fail
noncomputable def q123_1 (cf : CallF) (R : Rec) (a0 : IV) (a1 : IV) (a4 : IV) (a10 : IV) (h : H) : CRes :=
 Qc (cf 59 [a0, (.str ⟨1, 44⟩)] h) .pan fun x120 h121 =>
 Qif x120
 (Qo (Qfad 4 a10) fun x122 =>
 Qo (Ql0 h121 x122) fun x123 =>
 Qo (Qadd a1 (.int .i64 1)) fun x124 =>
 Qc (cf 85 [a0, x124] h121) (fun v125 h126 =>
 .pan v125 h126) fun x127 h128 =>
 q123_1p1 cf R h128 x122 x123 x127 a10 a0 a1 a4)
 (Qc (cf 57 [a0, (.str ⟨1, 125⟩)] h121) .pan fun x137 h138 =>
 Qo (QlA 6 h138 a10) fun x139 =>
 QoH (QsA 6 h138 a4 x139) fun h140 =>
 Qo (QlA 6 h140 a4) fun x141 =>
 .ok x141 h140)
theorem qe123_1 : q123_1 = t123_1 := by
  unfold q123_1 q123_1p1
  try simp only [QE]
  try rfl
noncomputable def q123_2 (cf : CallF) (R : Rec) (a0 : IV) (a4 : IV) (a11 : IV) (h : H) : CRes :=
 Qc (cf 57 [a0, (.str ⟨1, 93⟩)] h) .pan fun x142 h143 =>
 Qo (QlA 6 h143 a11) fun x144 =>
 QoH (QsA 6 h143 a4 x144) fun h145 =>
 Qo (QlA 6 h145 a4) fun x146 =>
 .ok x146 h145
theorem qe123_2 : q123_2 = t123_2 := by
  unfold q123_2
  try simp only [QE]
  try rfl
noncomputable def bt123 (cf : CallF) (R : Rec) : Rec := fun i l h =>
 br2 i 0 l (fun a0 a1 => t123_0 cf R a0 a1 h) <|
 br4 i 1 l (fun a0 a1 a4 a10 => t123_1 cf R a0 a1 a4 a10 h) <|
 br3 i 2 l (fun a0 a4 a11 => t123_2 cf R a0 a4 a11 h) <|
 .fail
noncomputable def b123 (cf : CallF) (R : Rec) : Rec := fun i l h =>
 brQ2 i 0 l (fun a0 a1 => q123_0 cf R a0 a1 h) <|
 brQ4 i 1 l (fun a0 a1 a4 a10 => q123_1 cf R a0 a1 a4 a10 h) <|
 brQ3 i 2 l (fun a0 a4 a11 => q123_2 cf R a0 a4 a11 h) <|
 .fail
theorem be123 : b123 = bt123 := by
  unfold b123 bt123
  simp only [qe123_0, qe123_1, qe123_2, brQ2_eq, brQ3_eq, brQ4_eq]
theorem r123 {T : Tab} {cf : CallF} (hc : leC cf (CL T)) (n : Nat) : leR (recN (b123 cf) n) (J123 T) := be123 ▸ recN_le (fun R hR i l h => by
  unfold bt123
  refine le_br2 (J := fun i l => J123 T i l h) (fun _ a0 a1 => le_e (fun hn => e123_0 rfl hn) ((m123 hc hR).1 a0 a1 h)) ?_
  refine le_br4 (J := fun i l => J123 T i l h) (fun _ a0 a1 a4 a10 => le_e (fun hn => e123_1 rfl hn) ((m123 hc hR).2.1 a0 a1 a4 a10 h)) ?_
  refine le_br3 (J := fun i l => J123 T i l h) (fun _ a0 a4 a11 => le_e (fun hn => e123_2 rfl hn) ((m123 hc hR).2.2 a0 a4 a11 h)) ?_
  exact le_fail _) n
theorem m127 {cf cf' : CallF} {R R' : Rec} (hc : ∀ f l h, le (cf f l h) (cf' f l h)) (hR : ∀ i l h, le (R i l h) (R' i l h)) :
  (∀ (a0 : IV) (h : H), le (t127_0 cf R a0 h) (t127_0 cf' R' a0 h)) ∧
  (∀ (a0 a2 a4 : IV) (h : H), le (t127_1 cf R a0 a2 a4 h) (t127_1 cf' R' a0 a2 a4 h)) := by
  refine ⟨?_, ?_⟩
  all_goals intros
  all_goals first | unfold t127_0 | unfold t127_1
  all_goals
  with_reducible repeat' first
    | refine le_obind fun _ => ?_
    | refine le_callP ?_ (fun _ _ => ?_) (fun _ _ => ?_)
    | refine le_condK ?_ ?_
    | exact hR _ _ _
    | refine le_obind2 fun _ _ => ?_
    | refine le_obindH fun _ => ?_
    | refine le_spanK (fun _ _ _ => ?_) (fun _ _ => ?_)
    | exact hc _ _ _
    | refine le_bif ?_ ?_
    | refine le_guardK ?_ ?_ ?_
    | refine le_mapK fun _ _ => ?_
    | refine le_panK fun _ _ => ?_
    | refine le_funK fun _ _ => ?_
    | exact le_refl _
    | apply_assumption
noncomputable def b127 (cf : CallF) (R : Rec) : Rec := fun i l h =>
 br1 i 0 l (fun a0 => t127_0 cf R a0 h) <|
 br3 i 1 l (fun a0 a2 a4 => t127_1 cf R a0 a2 a4 h) <|
 .fail
theorem r127 {T : Tab} {cf : CallF} (hc : leC cf (CL T)) (n : Nat) : leR (recN (b127 cf) n) (J127 T) := recN_le (fun R hR i l h => by
  unfold b127
  refine le_br1 (J := fun i l => J127 T i l h) (fun _ a0 => le_e (fun hn => e127_0 rfl hn) ((m127 hc hR).1 a0 h)) ?_
  refine le_br3 (J := fun i l => J127 T i l h) (fun _ a0 a2 a4 => le_e (fun hn => e127_1 rfl hn) ((m127 hc hR).2 a0 a2 a4 h)) ?_
  exact le_fail _) n
theorem m128 {cf cf' : CallF} {R R' : Rec} (hc : ∀ f l h, le (cf f l h) (cf' f l h)) (hR : ∀ i l h, le (R i l h) (R' i l h)) :
  (∀ (a0 a1 : IV) (h : H), le (t128_0 cf R a0 a1 h) (t128_0 cf' R' a0 a1 h)) ∧
  (∀ (a0 a1 : IV) (h : H), le (t128_2 cf R a0 a1 h) (t128_2 cf' R' a0 a1 h)) ∧
  (∀ (a0 : IV) (h : H), le (t128_1 cf R a0 h) (t128_1 cf' R' a0 h)) := by
  refine ⟨?_, ?_, ?_⟩
  all_goals intros
  all_goals first | unfold t128_0 | unfold t128_2 | unfold t128_1
  all_goals
  with_reducible repeat' first
    | refine le_obind fun _ => ?_
    | refine le_callP ?_ (fun _ _ => ?_) (fun _ _ => ?_)
    | refine le_condK ?_ ?_
    | exact hR _ _ _
    | refine le_obind2 fun _ _ => ?_
    | refine le_obindH fun _ => ?_
    | refine le_spanK (fun _ _ _ => ?_) (fun _ _ => ?_)
    | exact hc _ _ _
    | refine le_bif ?_ ?_
    | refine le_guardK ?_ ?_ ?_
    | refine le_mapK fun _ _ => ?_
    | refine le_panK fun _ _ => ?_
    | refine le_funK fun _ _ => ?_
    | exact le_refl _
    | apply_assumption
noncomputable def b128 (cf : CallF) (R : Rec) : Rec := fun i l h =>
 br2 i 0 l (fun a0 a1 => t128_0 cf R a0 a1 h) <|
 br2 i 2 l (fun a0 a1 => t128_2 cf R a0 a1 h) <|
 br1 i 1 l (fun a0 => t128_1 cf R a0 h) <|
 .fail
theorem r128 {T : Tab} {cf : CallF} (hc : leC cf (CL T)) (n : Nat) : leR (recN (b128 cf) n) (J128 T) := recN_le (fun R hR i l h => by
  unfold b128
  refine le_br2 (J := fun i l => J128 T i l h) (fun _ a0 a1 => le_e (fun hn => e128_0 rfl hn) ((m128 hc hR).1 a0 a1 h)) ?_
  refine le_br2 (J := fun i l => J128 T i l h) (fun _ a0 a1 => le_e (fun hn => e128_2 rfl hn) ((m128 hc hR).2.1 a0 a1 h)) ?_
  refine le_br1 (J := fun i l => J128 T i l h) (fun _ a0 => le_e (fun hn => e128_1 rfl hn) ((m128 hc hR).2.2 a0 h)) ?_
  exact le_fail _) n
theorem m129 {cf cf' : CallF} {R R' : Rec} (hc : ∀ f l h, le (cf f l h) (cf' f l h)) (hR : ∀ i l h, le (R i l h) (R' i l h)) :
  (∀ (a0 a1 : IV) (h : H), le (t129_0 cf R a0 a1 h) (t129_0 cf' R' a0 a1 h)) ∧
  (∀ (a0 a1 : IV) (h : H), le (t129_2 cf R a0 a1 h) (t129_2 cf' R' a0 a1 h)) ∧
  (∀ (a0 : IV) (h : H), le (t129_1 cf R a0 h) (t129_1 cf' R' a0 h)) := by
  refine ⟨?_, ?_, ?_⟩
  all_goals intros
  all_goals first | unfold t129_0 | unfold t129_2 | unfold t129_1
  all_goals
  with_reducible repeat' first
    | refine le_obind fun _ => ?_
    | refine le_callP ?_ (fun _ _ => ?_) (fun _ _ => ?_)
    | refine le_condK ?_ ?_
    | exact hR _ _ _
    | refine le_obind2 fun _ _ => ?_
    | refine le_obindH fun _ => ?_
    | refine le_spanK (fun _ _ _ => ?_) (fun _ _ => ?_)
    | exact hc _ _ _
    | refine le_bif ?_ ?_
    | refine le_guardK ?_ ?_ ?_
    | refine le_mapK fun _ _ => ?_
    | refine le_panK fun _ _ => ?_
    | refine le_funK fun _ _ => ?_
    | exact le_refl _
    | apply_assumption
noncomputable def b129 (cf : CallF) (R : Rec) : Rec := fun i l h =>
 br2 i 0 l (fun a0 a1 => t129_0 cf R a0 a1 h) <|
 br2 i 2 l (fun a0 a1 => t129_2 cf R a0 a1 h) <|
 br1 i 1 l (fun a0 => t129_1 cf R a0 h) <|
 .fail
theorem r129 {T : Tab} {cf : CallF} (hc : leC cf (CL T)) (n : Nat) : leR (recN (b129 cf) n) (J129 T) := recN_le (fun R hR i l h => by
  unfold b129
  refine le_br2 (J := fun i l => J129 T i l h) (fun _ a0 a1 => le_e (fun hn => e129_0 rfl hn) ((m129 hc hR).1 a0 a1 h)) ?_
  refine le_br2 (J := fun i l => J129 T i l h) (fun _ a0 a1 => le_e (fun hn => e129_2 rfl hn) ((m129 hc hR).2.1 a0 a1 h)) ?_
  refine le_br1 (J := fun i l => J129 T i l h) (fun _ a0 => le_e (fun hn => e129_1 rfl hn) ((m129 hc hR).2.2 a0 h)) ?_
  exact le_fail _) n
theorem m132 {cf cf' : CallF} {R R' : Rec} (hc : ∀ f l h, le (cf f l h) (cf' f l h)) (hR : ∀ i l h, le (R i l h) (R' i l h)) :
  (∀ (a0 a1 : IV) (h : H), le (t132_0 cf R a0 a1 h) (t132_0 cf' R' a0 a1 h)) ∧
  (∀ (a0 a5 : IV) (h : H), le (t132_1 cf R a0 a5 h) (t132_1 cf' R' a0 a5 h)) ∧
  (∀ (a0 a1 : IV) (h : H), le (t132_2 cf R a0 a1 h) (t132_2 cf' R' a0 a1 h)) ∧
  (∀ (a0 a6 a8 : IV) (h : H), le (t132_3 cf R a0 a6 a8 h) (t132_3 cf' R' a0 a6 a8 h)) ∧
  (∀ (a1 a45 : IV) (h : H), le (t132_4 cf R a1 a45 h) (t132_4 cf' R' a1 a45 h)) := by
  refine ⟨?_, ?_, ?_, ?_, ?_⟩
  all_goals intros
  all_goals first | unfold t132_0 | unfold t132_1 | unfold t132_2 | unfold t132_3 | unfold t132_4
  all_goals
  with_reducible repeat' first
    | refine le_obind fun _ => ?_
    | refine le_callP ?_ (fun _ _ => ?_) (fun _ _ => ?_)
    | refine le_condK ?_ ?_
    | exact hR _ _ _
    | refine le_obind2 fun _ _ => ?_
    | refine le_obindH fun _ => ?_
    | refine le_spanK (fun _ _ _ => ?_) (fun _ _ => ?_)
    | exact hc _ _ _
    | refine le_bif ?_ ?_
    | refine le_guardK ?_ ?_ ?_
    | refine le_mapK fun _ _ => ?_
    | refine le_panK fun _ _ => ?_
    | refine le_funK fun _ _ => ?_
    | exact le_refl _
    | apply_assumption
noncomputable def b132 (cf : CallF) (R : Rec) : Rec := fun i l h =>
 br2 i 0 l (fun a0 a1 => t132_0 cf R a0 a1 h) <|
 br2 i 1 l (fun a0 a5 => t132_1 cf R a0 a5 h) <|
 br2 i 2 l (fun a0 a1 => t132_2 cf R a0 a1 h) <|
 br3 i 3 l (fun a0 a6 a8 => t132_3 cf R a0 a6 a8 h) <|
 br2 i 4 l (fun a1 a45 => t132_4 cf R a1 a45 h) <|
 .fail
theorem r132 {T : Tab} {cf : CallF} (hc : leC cf (CL T)) (n : Nat) : leR (recN (b132 cf) n) (J132 T) := recN_le (fun R hR i l h => by
  unfold b132
  refine le_br2 (J := fun i l => J132 T i l h) (fun _ a0 a1 => le_e (fun hn => e132_0 rfl hn) ((m132 hc hR).1 a0 a1 h)) ?_
  refine le_br2 (J := fun i l => J132 T i l h) (fun _ a0 a5 => le_e (fun hn => e132_1 rfl hn) ((m132 hc hR).2.1 a0 a5 h)) ?_
  refine le_br2 (J := fun i l => J132 T i l h) (fun _ a0 a1 => le_e (fun hn => e132_2 rfl hn) ((m132 hc hR).2.2.1 a0 a1 h)) ?_
  refine le_br3 (J := fun i l => J132 T i l h) (fun _ a0 a6 a8 => le_e (fun hn => e132_3 rfl hn) ((m132 hc hR).2.2.2.1 a0 a6 a8 h)) ?_
  refine le_br2 (J := fun i l => J132 T i l h) (fun _ a1 a45 => le_e (fun hn => e132_4 rfl hn) ((m132 hc hR).2.2.2.2 a1 a45 h)) ?_
  exact le_fail _) n
theorem m138 {cf cf' : CallF} {R R' : Rec} (hc : ∀ f l h, le (cf f l h) (cf' f l h)) (hR : ∀ i l h, le (R i l h) (R' i l h)) :
  (∀ (a0 a1 : IV) (h : H), le (t138_0 cf R a0 a1 h) (t138_0 cf' R' a0 a1 h)) ∧
  (∀ (a0 a1 a4 : IV) (h : H), le (t138_1 cf R a0 a1 a4 h) (t138_1 cf' R' a0 a1 a4 h)) := by
  refine ⟨?_, ?_⟩
  all_goals intros
  all_goals first | unfold t138_0 | unfold t138_1
  all_goals
  with_reducible repeat' first
    | refine le_obind fun _ => ?_
    | refine le_callP ?_ (fun _ _ => ?_) (fun _ _ => ?_)
    | refine le_condK ?_ ?_
    | exact hR _ _ _
    | refine le_obind2 fun _ _ => ?_
    | refine le_obindH fun _ => ?_
    | refine le_spanK (fun _ _ _ => ?_) (fun _ _ => ?_)
    | exact hc _ _ _
    | refine le_bif ?_ ?_
    | refine le_guardK ?_ ?_ ?_
    | refine le_mapK fun _ _ => ?_
    | refine le_panK fun _ _ => ?_
    | refine le_funK fun _ _ => ?_
    | exact le_refl _
    | apply_assumption
noncomputable def q138_0p1 (cf : CallF) (R : Rec) (x10 : IV) (h7 : H) (a1 : IV) (a0 : IV) (x1 : IV) : CRes :=
 Qsp x10 true h7 (fun k11 =>
 Qo (Qgtr a1 (.int .i64 32)) fun x14 =>
 k11 x14 h7) fun x12 h13 =>
 Qo (Qpk x10 (some x12) (some (.bool false))) fun x15 =>
 Qif x15
 (Qc (cf 82 [a0, (.int .i64 41)] h13) .pan fun x16 h17 =>
 R 1 [a0, a1, x1] h17)
 (R 1 [a0, a1, x1] h13)
noncomputable def q138_0 (cf : CallF) (R : Rec) (a0 : IV) (a1 : IV) (h : H) : CRes :=
 Qo2 (QnI h z16) fun x1 h2 =>
 Qc (cf 38 [a0] h2) .pan fun x3 h4 =>
 Qsp x3 true h4 (fun k5 =>
 Qc (cf 101 [a0] h4) .pan fun x8 h9 =>
 k5 x8 h9) fun x6 h7 =>
 Qo (Qpk x3 (some x6) (some (.bool false))) fun x10 =>
 q138_0p1 cf R x10 h7 a1 a0 x1
theorem qe138_0 : q138_0 = t138_0 := by
  unfold q138_0 q138_0p1
  try simp only [QE]
  try rfl
noncomputable def q138_1 (cf : CallF) (R : Rec) (a0 : IV) (a1 : IV) (a4 : IV) (h : H) : CRes :=
 Qc (cf 121 [a0, a1] h) .pan fun x18 h19 =>
 QoH (QsA 6 h19 a4 x18) fun h20 =>
 Qo (QlA 6 h20 a4) fun x21 =>
 .ok x21 h20
theorem qe138_1 : q138_1 = t138_1 := by
  unfold q138_1
  try simp only [QE]
  try rfl
noncomputable def bt138 (cf : CallF) (R : Rec) : Rec := fun i l h =>
 br2 i 0 l (fun a0 a1 => t138_0 cf R a0 a1 h) <|
 br3 i 1 l (fun a0 a1 a4 => t138_1 cf R a0 a1 a4 h) <|
 .fail
noncomputable def b138 (cf : CallF) (R : Rec) : Rec := fun i l h =>
 brQ2 i 0 l (fun a0 a1 => q138_0 cf R a0 a1 h) <|
 brQ3 i 1 l (fun a0 a1 a4 => q138_1 cf R a0 a1 a4 h) <|
 .fail
theorem be138 : b138 = bt138 := by
  unfold b138 bt138
  simp only [qe138_0, qe138_1, brQ2_eq, brQ3_eq]
theorem r138 {T : Tab} {cf : CallF} (hc : leC cf (CL T)) (n : Nat) : leR (recN (b138 cf) n) (J138 T) := be138 ▸ recN_le (fun R hR i l h => by
  unfold bt138
  refine le_br2 (J := fun i l => J138 T i l h) (fun _ a0 a1 => le_e (fun hn => e138_0 rfl hn) ((m138 hc hR).1 a0 a1 h)) ?_
  refine le_br3 (J := fun i l => J138 T i l h) (fun _ a0 a1 a4 => le_e (fun hn => e138_1 rfl hn) ((m138 hc hR).2 a0 a1 a4 h)) ?_
  exact le_fail _) n
theorem m140 {cf cf' : CallF} {R R' : Rec} (hc : ∀ f l h, le (cf f l h) (cf' f l h)) (hR : ∀ i l h, le (R i l h) (R' i l h)) : (∀ (a0 a1 : IV) (h : H), le (t140_0 cf R a0 a1 h) (t140_0 cf' R' a0 a1 h)) := by
  intros
  unfold t140_0
  with_reducible repeat' first
    | refine le_obind fun _ => ?_
    | refine le_callP ?_ (fun _ _ => ?_) (fun _ _ => ?_)
    | refine le_condK ?_ ?_
    | exact hR _ _ _
    | refine le_obind2 fun _ _ => ?_
    | refine le_obindH fun _ => ?_
    | refine le_spanK (fun _ _ _ => ?_) (fun _ _ => ?_)
    | exact hc _ _ _
    | refine le_bif ?_ ?_
    | refine le_guardK ?_ ?_ ?_
    | refine le_mapK fun _ _ => ?_
    | refine le_panK fun _ _ => ?_
    | refine le_funK fun _ _ => ?_
    | exact le_refl _
    | apply_assumption
noncomputable def b140 (cf : CallF) (R : Rec) : Rec := fun i l h =>
 br2 i 0 l (fun a0 a1 => t140_0 cf R a0 a1 h) <|
 .fail
theorem r140 {T : Tab} {cf : CallF} (hc : leC cf (CL T)) (n : Nat) : leR (recN (b140 cf) n) (J140 T) := recN_le (fun R hR i l h => by
  unfold b140
  refine le_br2 (J := fun i l => J140 T i l h) (fun _ a0 a1 => le_e (fun hn => e140_0 rfl hn) ((m140 hc hR) a0 a1 h)) ?_
  exact le_fail _) n
theorem m145 {cf cf' : CallF} {R R' : Rec} (hc : ∀ f l h, le (cf f l h) (cf' f l h)) (hR : ∀ i l h, le (R i l h) (R' i l h)) : (∀ (a0 : IV) (h : H), le (t145_0 cf R a0 h) (t145_0 cf' R' a0 h)) := by
  intros
  unfold t145_0
  with_reducible repeat' first
    | refine le_obind fun _ => ?_
    | refine le_callP ?_ (fun _ _ => ?_) (fun _ _ => ?_)
    | refine le_condK ?_ ?_
    | exact hR _ _ _
    | refine le_obind2 fun _ _ => ?_
    | refine le_obindH fun _ => ?_
    | refine le_spanK (fun _ _ _ => ?_) (fun _ _ => ?_)
    | exact hc _ _ _
    | refine le_bif ?_ ?_
    | refine le_guardK ?_ ?_ ?_
    | refine le_mapK fun _ _ => ?_
    | refine le_panK fun _ _ => ?_
    | refine le_funK fun _ _ => ?_
    | exact le_refl _
    | apply_assumption
noncomputable def b145 (cf : CallF) (R : Rec) : Rec := fun i l h =>
 br1 i 0 l (fun a0 => t145_0 cf R a0 h) <|
 .fail
theorem r145 {T : Tab} {cf : CallF} (hc : leC cf (CL T)) (n : Nat) : leR (recN (b145 cf) n) (J145 T) := recN_le (fun R hR i l h => by
  unfold b145
  refine le_br1 (J := fun i l => J145 T i l h) (fun _ a0 => le_e (fun hn => e145_0 rfl hn) ((m145 hc hR) a0 h)) ?_
  exact le_fail _) n
def tabB (f : FuncId) : Bool := [55, 100, 122, 120, 54, 7, 68, 92].any fun x => Nat.beq f x
noncomputable def cfB (T : Tab) (cf : CallF) : CallF := fun f l h =>
 @Bool.rec (fun _ => CRes) (@Bool.rec (fun _ => CRes) (@Bool.rec (fun _ => CRes) (@Bool.rec (fun _ => CRes) (@Bool.rec (fun _ => CRes) (@Bool.rec (fun _ => CRes) (brQ1 f 3 l (fun a0 => QsP (recN (b3 cf) 1000000 0 [a0] ⟨h.next, h.objs, T.pol 3, h.tys⟩) h.pol) .fail) (brQ1 f 4 l (fun a0 => QsP (recN (b4 cf) 1000000 0 [a0] ⟨h.next, h.objs, T.pol 4, h.tys⟩) h.pol) .fail) (Nat.ble 4 f)) (@Bool.rec (fun _ => CRes) (brQ2 f 5 l (fun a0 a1 => QsP (recN (b5 cf) 1000000 0 [a0, a1] ⟨h.next, h.objs, T.pol 5, h.tys⟩) h.pol) .fail) (@Bool.rec (fun _ => CRes) (brQ1 f 6 l (fun a0 => QsP (recN (b6 cf) 1000000 0 [a0] ⟨h.next, h.objs, T.pol 6, h.tys⟩) h.pol) .fail) (brQ0 f 7 l (ovK (T.ov 7) [] h (QsP (recN (b7 cf) 1000000 0 [] ⟨h.next, h.objs, T.pol 7, h.tys⟩) h.pol)) .fail) (Nat.ble 7 f)) (Nat.ble 6 f)) (Nat.ble 5 f)) (@Bool.rec (fun _ => CRes) (@Bool.rec (fun _ => CRes) (brQ1 f 8 l (fun a0 => QsP (recN (b8 cf) 1000000 0 [a0] ⟨h.next, h.objs, T.pol 8, h.tys⟩) h.pol) .fail) (@Bool.rec (fun _ => CRes) (brQ2 f 10 l (fun a0 a1 => QsP (recN (b10 cf) 1000000 0 [a0, a1] ⟨h.next, h.objs, T.pol 10, h.tys⟩) h.pol) .fail) (brQ4 f 11 l (fun a0 a1 a2 a3 => QsP (recN (b11 cf) 1000000 0 [a0, a1, a2, a3] ⟨h.next, h.objs, T.pol 11, h.tys⟩) h.pol) .fail) (Nat.ble 11 f)) (Nat.ble 10 f)) (@Bool.rec (fun _ => CRes) (brQ0 f 12 l (QsP (recN (b12 cf) 1000000 0 [] ⟨h.next, h.objs, T.pol 12, h.tys⟩) h.pol) .fail) (@Bool.rec (fun _ => CRes) (brQ3 f 13 l (fun a0 a1 a2 => QsP (recN (b13 cf) 1000000 0 [a0, a1, a2] ⟨h.next, h.objs, T.pol 13, h.tys⟩) h.pol) .fail) (brQ2 f 14 l (fun a0 a1 => QsP (recN (b14 cf) 1000000 0 [a0, a1] ⟨h.next, h.objs, T.pol 14, h.tys⟩) h.pol) .fail) (Nat.ble 14 f)) (Nat.ble 13 f)) (Nat.ble 12 f)) (Nat.ble 8 f)) (@Bool.rec (fun _ => CRes) (@Bool.rec (fun _ => CRes) (@Bool.rec (fun _ => CRes) (brQ4 f 15 l (fun a0 a1 a2 a3 => QsP (recN (b15 cf) 1000000 0 [a0, a1, a2, a3] ⟨h.next, h.objs, T.pol 15, h.tys⟩) h.pol) .fail) (@Bool.rec (fun _ => CRes) (brQ3 f 16 l (fun a0 a1 a2 => QsP (recN (b16 cf) 1000000 0 [a0, a1, a2] ⟨h.next, h.objs, T.pol 16, h.tys⟩) h.pol) .fail) (brQ1 f 17 l (fun a0 => QsP (recN (b17 cf) 1000000 0 [a0] ⟨h.next, h.objs, T.pol 17, h.tys⟩) h.pol) .fail) (Nat.ble 17 f)) (Nat.ble 16 f)) (@Bool.rec (fun _ => CRes) (brQ1 f 18 l (fun a0 => QsP (recN (b18 cf) 1000000 0 [a0] ⟨h.next, h.objs, T.pol 18, h.tys⟩) h.pol) .fail) (@Bool.rec (fun _ => CRes) (brQ2 f 21 l (fun a0 a1 => QsP (recN (b21 cf) 1000000 0 [a0, a1] ⟨h.next, h.objs, T.pol 21, h.tys⟩) h.pol) .fail) (brQ3 f 22 l (fun a0 a1 a2 => QsP (recN (b22 cf) 1000000 0 [a0, a1, a2] ⟨h.next, h.objs, T.pol 22, h.tys⟩) h.pol) .fail) (Nat.ble 22 f)) (Nat.ble 21 f)) (Nat.ble 18 f)) (@Bool.rec (fun _ => CRes) (@Bool.rec (fun _ => CRes) (brQ2 f 23 l (fun a0 a1 => QsP (recN (b23 cf) 1000000 0 [a0, a1] ⟨h.next, h.objs, T.pol 23, h.tys⟩) h.pol) .fail) (@Bool.rec (fun _ => CRes) (brQ8 f 24 l (fun a0 a1 a2 a3 a4 a5 a6 a7 => QsP (recN (b24 cf) 1000000 0 [a0, a1, a2, a3, a4, a5, a6, a7] ⟨h.next, h.objs, T.pol 24, h.tys⟩) h.pol) .fail) (brQ5 f 26 l (fun a0 a1 a2 a3 a4 => QsP (recN (b26 cf) 1000000 0 [a0, a1, a2, a3, a4] ⟨h.next, h.objs, T.pol 26, h.tys⟩) h.pol) .fail) (Nat.ble 26 f)) (Nat.ble 24 f)) (@Bool.rec (fun _ => CRes) (brQ3 f 27 l (fun a0 a1 a2 => QsP (recN (b27 cf) 1000000 0 [a0, a1, a2] ⟨h.next, h.objs, T.pol 27, h.tys⟩) h.pol) .fail) (@Bool.rec (fun _ => CRes) (brQ3 f 28 l (fun a0 a1 a2 => QsP (recN (b28 cf) 1000000 0 [a0, a1, a2] ⟨h.next, h.objs, T.pol 28, h.tys⟩) h.pol) .fail) (brQ3 f 29 l (fun a0 a1 a2 => QsP (recN (b29 cf) 1000000 0 [a0, a1, a2] ⟨h.next, h.objs, T.pol 29, h.tys⟩) h.pol) .fail) (Nat.ble 29 f)) (Nat.ble 28 f)) (Nat.ble 27 f)) (Nat.ble 23 f)) (Nat.ble 15 f)) (@Bool.rec (fun _ => CRes) (@Bool.rec (fun _ => CRes) (@Bool.rec (fun _ => CRes) (@Bool.rec (fun _ => CRes) (brQ3 f 31 l (fun a0 a1 a2 => QsP (recN (b31 cf) 1000000 0 [a0, a1, a2] ⟨h.next, h.objs, T.pol 31, h.tys⟩) h.pol) .fail) (brQ3 f 34 l (fun a0 a1 a2 => QsP (recN (b34 cf) 1000000 0 [a0, a1, a2] ⟨h.next, h.objs, T.pol 34, h.tys⟩) h.pol) .fail) (Nat.ble 34 f)) (@Bool.rec (fun _ => CRes) (brQ2 f 36 l (fun a0 a1 => QsP (recN (b36 cf) 1000000 0 [a0, a1] ⟨h.next, h.objs, T.pol 36, h.tys⟩) h.pol) .fail) (@Bool.rec (fun _ => CRes) (brQ1 f 37 l (fun a0 => QsP (recN (b37 cf) 1000000 0 [a0] ⟨h.next, h.objs, T.pol 37, h.tys⟩) h.pol) .fail) (brQ1 f 38 l (fun a0 => QsP (recN (b38 cf) 1000000 0 [a0] ⟨h.next, h.objs, T.pol 38, h.tys⟩) h.pol) .fail) (Nat.ble 38 f)) (Nat.ble 37 f)) (Nat.ble 36 f)) (@Bool.rec (fun _ => CRes) (@Bool.rec (fun _ => CRes) (brQ4 f 39 l (fun a0 a1 a2 a3 => QsP (recN (b39 cf) 1000000 0 [a0, a1, a2, a3] ⟨h.next, h.objs, T.pol 39, h.tys⟩) h.pol) .fail) (@Bool.rec (fun _ => CRes) (brQ2 f 40 l (fun a0 a1 => QsP (recN (b40 cf) 1000000 0 [a0, a1] ⟨h.next, h.objs, T.pol 40, h.tys⟩) h.pol) .fail) (brQ3 f 41 l (fun a0 a1 a2 => QsP (recN (b41 cf) 1000000 0 [a0, a1, a2] ⟨h.next, h.objs, T.pol 41, h.tys⟩) h.pol) .fail) (Nat.ble 41 f)) (Nat.ble 40 f)) (@Bool.rec (fun _ => CRes) (brQ1 f 42 l (fun a0 => QsP (recN (b42 cf) 1000000 0 [a0] ⟨h.next, h.objs, T.pol 42, h.tys⟩) h.pol) .fail) (@Bool.rec (fun _ => CRes) (brQ1 f 43 l (fun a0 => QsP (recN (b43 cf) 1000000 0 [a0] ⟨h.next, h.objs, T.pol 43, h.tys⟩) h.pol) .fail) (brQ2 f 45 l (fun a0 a1 => QsP (recN (b45 cf) 1000000 0 [a0, a1] ⟨h.next, h.objs, T.pol 45, h.tys⟩) h.pol) .fail) (Nat.ble 45 f)) (Nat.ble 43 f)) (Nat.ble 42 f)) (Nat.ble 39 f)) (@Bool.rec (fun _ => CRes) (@Bool.rec (fun _ => CRes) (@Bool.rec (fun _ => CRes) (brQ2 f 48 l (fun a0 a1 => QsP (recN (b48 cf) 1000000 0 [a0, a1] ⟨h.next, h.objs, T.pol 48, h.tys⟩) h.pol) .fail) (@Bool.rec (fun _ => CRes) (brQ1 f 51 l (fun a0 => QsP (recN (b51 cf) 1000000 0 [a0] ⟨h.next, h.objs, T.pol 51, h.tys⟩) h.pol) .fail) (brQ1 f 52 l (fun a0 => QsP (recN (b52 cf) 1000000 0 [a0] ⟨h.next, h.objs, T.pol 52, h.tys⟩) h.pol) .fail) (Nat.ble 52 f)) (Nat.ble 51 f)) (@Bool.rec (fun _ => CRes) (brQ1 f 53 l (fun a0 => QsP (recN (b53 cf) 1000000 0 [a0] ⟨h.next, h.objs, T.pol 53, h.tys⟩) h.pol) .fail) (@Bool.rec (fun _ => CRes) (brQ1 f 54 l (fun a0 => ovK (T.ov 54) [a0] h (QsP (recN (b54 cf) 1000000 0 [a0] ⟨h.next, h.objs, T.pol 54, h.tys⟩) h.pol)) .fail) (brQ2 f 55 l (fun a0 a1 => ovK (T.ov 55) [a0, a1] h (QsP (recN (b55 cf) 1000000 0 [a0, a1] ⟨h.next, h.objs, T.pol 55, h.tys⟩) h.pol)) .fail) (Nat.ble 55 f)) (Nat.ble 54 f)) (Nat.ble 53 f)) (@Bool.rec (fun _ => CRes) (@Bool.rec (fun _ => CRes) (brQ1 f 56 l (fun a0 => QsP (recN (b56 cf) 1000000 0 [a0] ⟨h.next, h.objs, T.pol 56, h.tys⟩) h.pol) .fail) (@Bool.rec (fun _ => CRes) (brQ2 f 57 l (fun a0 a1 => QsP (recN (b57 cf) 1000000 0 [a0, a1] ⟨h.next, h.objs, T.pol 57, h.tys⟩) h.pol) .fail) (brQ1 f 58 l (fun a0 => QsP (recN (b58 cf) 1000000 0 [a0] ⟨h.next, h.objs, T.pol 58, h.tys⟩) h.pol) .fail) (Nat.ble 58 f)) (Nat.ble 57 f)) (@Bool.rec (fun _ => CRes) (brQ2 f 59 l (fun a0 a1 => QsP (recN (b59 cf) 1000000 0 [a0, a1] ⟨h.next, h.objs, T.pol 59, h.tys⟩) h.pol) .fail) (@Bool.rec (fun _ => CRes) (brQ1 f 60 l (fun a0 => QsP (recN (b60 cf) 1000000 0 [a0] ⟨h.next, h.objs, T.pol 60, h.tys⟩) h.pol) .fail) (brQ1 f 61 l (fun a0 => QsP (recN (b61 cf) 1000000 0 [a0] ⟨h.next, h.objs, T.pol 61, h.tys⟩) h.pol) .fail) (Nat.ble 61 f)) (Nat.ble 60 f)) (Nat.ble 59 f)) (Nat.ble 56 f)) (Nat.ble 48 f)) (Nat.ble 31 f)) (@Bool.rec (fun _ => CRes) (@Bool.rec (fun _ => CRes) (@Bool.rec (fun _ => CRes) (@Bool.rec (fun _ => CRes) (@Bool.rec (fun _ => CRes) (brQ3 f 62 l (fun a0 a1 a2 => QsP (recN (b62 cf) 1000000 0 [a0, a1, a2] ⟨h.next, h.objs, T.pol 62, h.tys⟩) h.pol) .fail) (brQ5 f 63 l (fun a0 a1 a2 a3 a4 => QsP (recN (b63 cf) 1000000 0 [a0, a1, a2, a3, a4] ⟨h.next, h.objs, T.pol 63, h.tys⟩) h.pol) .fail) (Nat.ble 63 f)) (@Bool.rec (fun _ => CRes) (brQ2 f 64 l (fun a0 a1 => QsP (recN (b64 cf) 1000000 0 [a0, a1] ⟨h.next, h.objs, T.pol 64, h.tys⟩) h.pol) .fail) (@Bool.rec (fun _ => CRes) (brQ2 f 65 l (fun a0 a1 => QsP (recN (b65 cf) 1000000 0 [a0, a1] ⟨h.next, h.objs, T.pol 65, h.tys⟩) h.pol) .fail) (brQ3 f 67 l (fun a0 a1 a2 => QsP (recN (b67 cf) 1000000 0 [a0, a1, a2] ⟨h.next, h.objs, T.pol 67, h.tys⟩) h.pol) .fail) (Nat.ble 67 f)) (Nat.ble 65 f)) (Nat.ble 64 f)) (@Bool.rec (fun _ => CRes) (@Bool.rec (fun _ => CRes) (brQ1 f 68 l (fun a0 => ovK (T.ov 68) [a0] h (QsP (recN (b68 cf) 1000000 0 [a0] ⟨h.next, h.objs, T.pol 68, h.tys⟩) h.pol)) .fail) (@Bool.rec (fun _ => CRes) (brQ2 f 70 l (fun a0 a1 => QsP (recN (b70 cf) 1000000 0 [a0, a1] ⟨h.next, h.objs, T.pol 70, h.tys⟩) h.pol) .fail) (brQ3 f 72 l (fun a0 a1 a2 => QsP (recN (b72 cf) 1000000 0 [a0, a1, a2] ⟨h.next, h.objs, T.pol 72, h.tys⟩) h.pol) .fail) (Nat.ble 72 f)) (Nat.ble 70 f)) (@Bool.rec (fun _ => CRes) (brQ2 f 74 l (fun a0 a1 => QsP (recN (b74 cf) 1000000 0 [a0, a1] ⟨h.next, h.objs, T.pol 74, h.tys⟩) h.pol) .fail) (@Bool.rec (fun _ => CRes) (brQ3 f 77 l (fun a0 a1 a2 => QsP (recN (b77 cf) 1000000 0 [a0, a1, a2] ⟨h.next, h.objs, T.pol 77, h.tys⟩) h.pol) .fail) (brQ2 f 78 l (fun a0 a1 => QsP (recN (b78 cf) 1000000 0 [a0, a1] ⟨h.next, h.objs, T.pol 78, h.tys⟩) h.pol) .fail) (Nat.ble 78 f)) (Nat.ble 77 f)) (Nat.ble 74 f)) (Nat.ble 68 f)) (@Bool.rec (fun _ => CRes) (@Bool.rec (fun _ => CRes) (@Bool.rec (fun _ => CRes) (brQ2 f 79 l (fun a0 a1 => QsP (recN (b79 cf) 1000000 0 [a0, a1] ⟨h.next, h.objs, T.pol 79, h.tys⟩) h.pol) .fail) (@Bool.rec (fun _ => CRes) (brQ2 f 80 l (fun a0 a1 => QsP (recN (b80 cf) 1000000 0 [a0, a1] ⟨h.next, h.objs, T.pol 80, h.tys⟩) h.pol) .fail) (brQ2 f 81 l (fun a0 a1 => QsP (recN (b81 cf) 1000000 0 [a0, a1] ⟨h.next, h.objs, T.pol 81, h.tys⟩) h.pol) .fail) (Nat.ble 81 f)) (Nat.ble 80 f)) (@Bool.rec (fun _ => CRes) (brQ1 f 83 l (fun a0 => QsP (recN (b83 cf) 1000000 0 [a0] ⟨h.next, h.objs, T.pol 83, h.tys⟩) h.pol) .fail) (@Bool.rec (fun _ => CRes) (brQ2 f 84 l (fun a0 a1 => QsP (recN (b84 cf) 1000000 0 [a0, a1] ⟨h.next, h.objs, T.pol 84, h.tys⟩) h.pol) .fail) (brQ2 f 85 l (fun a0 a1 => QsP (recN (b85 cf) 1000000 0 [a0, a1] ⟨h.next, h.objs, T.pol 85, h.tys⟩) h.pol) .fail) (Nat.ble 85 f)) (Nat.ble 84 f)) (Nat.ble 83 f)) (@Bool.rec (fun _ => CRes) (@Bool.rec (fun _ => CRes) (brQ1 f 86 l (fun a0 => QsP (recN (b86 cf) 1000000 0 [a0] ⟨h.next, h.objs, T.pol 86, h.tys⟩) h.pol) .fail) (@Bool.rec (fun _ => CRes) (brQ2 f 87 l (fun a0 a1 => QsP (recN (b87 cf) 1000000 0 [a0, a1] ⟨h.next, h.objs, T.pol 87, h.tys⟩) h.pol) .fail) (brQ2 f 88 l (fun a0 a1 => QsP (recN (b88 cf) 1000000 0 [a0, a1] ⟨h.next, h.objs, T.pol 88, h.tys⟩) h.pol) .fail) (Nat.ble 88 f)) (Nat.ble 87 f)) (@Bool.rec (fun _ => CRes) (brQ1 f 89 l (fun a0 => QsP (recN (b89 cf) 1000000 0 [a0] ⟨h.next, h.objs, T.pol 89, h.tys⟩) h.pol) .fail) (@Bool.rec (fun _ => CRes) (brQ1 f 92 l (fun a0 => ovK (T.ov 92) [a0] h (QsP (recN (b92 cf) 1000000 0 [a0] ⟨h.next, h.objs, T.pol 92, h.tys⟩) h.pol)) .fail) (brQ1 f 93 l (fun a0 => QsP (recN (b93 cf) 1000000 0 [a0] ⟨h.next, h.objs, T.pol 93, h.tys⟩) h.pol) .fail) (Nat.ble 93 f)) (Nat.ble 92 f)) (Nat.ble 89 f)) (Nat.ble 86 f)) (Nat.ble 79 f)) (@Bool.rec (fun _ => CRes) (@Bool.rec (fun _ => CRes) (@Bool.rec (fun _ => CRes) (@Bool.rec (fun _ => CRes) (brQ2 f 94 l (fun a0 a1 => QsP (recN (b94 cf) 1000000 0 [a0, a1] ⟨h.next, h.objs, T.pol 94, h.tys⟩) h.pol) .fail) (brQ2 f 96 l (fun a0 a1 => QsP (recN (b96 cf) 1000000 0 [a0, a1] ⟨h.next, h.objs, T.pol 96, h.tys⟩) h.pol) .fail) (Nat.ble 96 f)) (@Bool.rec (fun _ => CRes) (brQ1 f 99 l (fun a0 => QsP (recN (b99 cf) 1000000 0 [a0] ⟨h.next, h.objs, T.pol 99, h.tys⟩) h.pol) .fail) (@Bool.rec (fun _ => CRes) (brQ1 f 100 l (fun a0 => ovK (T.ov 100) [a0] h (QsP (recN (b100 cf) 1000000 0 [a0] ⟨h.next, h.objs, T.pol 100, h.tys⟩) h.pol)) .fail) (brQ1 f 101 l (fun a0 => QsP (recN (b101 cf) 1000000 0 [a0] ⟨h.next, h.objs, T.pol 101, h.tys⟩) h.pol) .fail) (Nat.ble 101 f)) (Nat.ble 100 f)) (Nat.ble 99 f)) (@Bool.rec (fun _ => CRes) (@Bool.rec (fun _ => CRes) (brQ3 f 102 l (fun a0 a1 a2 => QsP (recN (b102 cf) 1000000 0 [a0, a1, a2] ⟨h.next, h.objs, T.pol 102, h.tys⟩) h.pol) .fail) (@Bool.rec (fun _ => CRes) (brQ1 f 103 l (fun a0 => QsP (recN (b103 cf) 1000000 0 [a0] ⟨h.next, h.objs, T.pol 103, h.tys⟩) h.pol) .fail) (brQ2 f 108 l (fun a0 a1 => QsP (recN (b108 cf) 1000000 0 [a0, a1] ⟨h.next, h.objs, T.pol 108, h.tys⟩) h.pol) .fail) (Nat.ble 108 f)) (Nat.ble 103 f)) (@Bool.rec (fun _ => CRes) (brQ2 f 111 l (fun a0 a1 => QsP (recN (b111 cf) 1000000 0 [a0, a1] ⟨h.next, h.objs, T.pol 111, h.tys⟩) h.pol) .fail) (@Bool.rec (fun _ => CRes) (brQ2 f 112 l (fun a0 a1 => QsP (recN (b112 cf) 1000000 0 [a0, a1] ⟨h.next, h.objs, T.pol 112, h.tys⟩) h.pol) .fail) (brQ1 f 113 l (fun a0 => QsP (recN (b113 cf) 1000000 0 [a0] ⟨h.next, h.objs, T.pol 113, h.tys⟩) h.pol) .fail) (Nat.ble 113 f)) (Nat.ble 112 f)) (Nat.ble 111 f)) (Nat.ble 102 f)) (@Bool.rec (fun _ => CRes) (@Bool.rec (fun _ => CRes) (@Bool.rec (fun _ => CRes) (brQ0 f 119 l (QsP (recN (b119 cf) 1000000 0 [] ⟨h.next, h.objs, T.pol 119, h.tys⟩) h.pol) .fail) (@Bool.rec (fun _ => CRes) (brQ1 f 120 l (fun a0 => ovK (T.ov 120) [a0] h (QsP (recN (b120 cf) 1000000 0 [a0] ⟨h.next, h.objs, T.pol 120, h.tys⟩) h.pol)) .fail) (brQ2 f 121 l (fun a0 a1 => QsP (recN (b121 cf) 1000000 0 [a0, a1] ⟨h.next, h.objs, T.pol 121, h.tys⟩) h.pol) .fail) (Nat.ble 121 f)) (Nat.ble 120 f)) (@Bool.rec (fun _ => CRes) (brQ1 f 122 l (fun a0 => ovK (T.ov 122) [a0] h (QsP (recN (b122 cf) 1000000 0 [a0] ⟨h.next, h.objs, T.pol 122, h.tys⟩) h.pol)) .fail) (@Bool.rec (fun _ => CRes) (brQ2 f 123 l (fun a0 a1 => QsP (recN (b123 cf) 1000000 0 [a0, a1] ⟨h.next, h.objs, T.pol 123, h.tys⟩) h.pol) .fail) (brQ1 f 127 l (fun a0 => QsP (recN (b127 cf) 1000000 0 [a0] ⟨h.next, h.objs, T.pol 127, h.tys⟩) h.pol) .fail) (Nat.ble 127 f)) (Nat.ble 123 f)) (Nat.ble 122 f)) (@Bool.rec (fun _ => CRes) (@Bool.rec (fun _ => CRes) (brQ2 f 128 l (fun a0 a1 => QsP (recN (b128 cf) 1000000 0 [a0, a1] ⟨h.next, h.objs, T.pol 128, h.tys⟩) h.pol) .fail) (@Bool.rec (fun _ => CRes) (brQ2 f 129 l (fun a0 a1 => QsP (recN (b129 cf) 1000000 0 [a0, a1] ⟨h.next, h.objs, T.pol 129, h.tys⟩) h.pol) .fail) (brQ2 f 132 l (fun a0 a1 => QsP (recN (b132 cf) 1000000 0 [a0, a1] ⟨h.next, h.objs, T.pol 132, h.tys⟩) h.pol) .fail) (Nat.ble 132 f)) (Nat.ble 129 f)) (@Bool.rec (fun _ => CRes) (brQ2 f 138 l (fun a0 a1 => QsP (recN (b138 cf) 1000000 0 [a0, a1] ⟨h.next, h.objs, T.pol 138, h.tys⟩) h.pol) .fail) (@Bool.rec (fun _ => CRes) (brQ2 f 140 l (fun a0 a1 => QsP (recN (b140 cf) 1000000 0 [a0, a1] ⟨h.next, h.objs, T.pol 140, h.tys⟩) h.pol) .fail) (brQ1 f 145 l (fun a0 => QsP (recN (b145 cf) 1000000 0 [a0] ⟨h.next, h.objs, T.pol 145, h.tys⟩) h.pol) .fail) (Nat.ble 145 f)) (Nat.ble 140 f)) (Nat.ble 138 f)) (Nat.ble 128 f)) (Nat.ble 119 f)) (Nat.ble 94 f)) (Nat.ble 62 f)
theorem cfB_le {T : Tab} (hN : ∀ f, tabB f = false → T.ov f = none) (cf : CallF) (hc : leC cf (CL T)) (f : FuncId) (l : List IV) (h : H) : le (cfB T cf f l h) (CL T f l h) := by
  unfold cfB
  simp only [QsP_eq, brQ0_eq, brQ1_eq, brQ2_eq, brQ3_eq, brQ4_eq, brQ5_eq, brQ8_eq]
  refine le_brec ?_ ?_
  · refine le_brec ?_ ?_
    · refine le_brec ?_ ?_
      · refine le_brec ?_ ?_
        · refine le_brec ?_ ?_
          · refine le_brec ?_ ?_
            · refine le_brec ?_ ?_
              · exact le_br1 (J := fun f l => CL T f l h) (fun e a0 => call_le (hN 145 rfl) Tryz.func145 rfl rfl rfl (r145 hc _ 0 _ _)) (le_fail _)
              · exact le_br2 (J := fun f l => CL T f l h) (fun e a0 a1 => call_le (hN 140 rfl) Tryz.func140 rfl rfl rfl (r140 hc _ 0 _ _)) (le_fail _)
            · exact le_br2 (J := fun f l => CL T f l h) (fun e a0 a1 => call_le (hN 138 rfl) Tryz.func138 rfl rfl rfl (r138 hc _ 0 _ _)) (le_fail _)
          · refine le_brec ?_ ?_
            · refine le_brec ?_ ?_
              · exact le_br2 (J := fun f l => CL T f l h) (fun e a0 a1 => call_le (hN 132 rfl) Tryz.func132 rfl rfl rfl (r132 hc _ 0 _ _)) (le_fail _)
              · exact le_br2 (J := fun f l => CL T f l h) (fun e a0 a1 => call_le (hN 129 rfl) Tryz.func129 rfl rfl rfl (r129 hc _ 0 _ _)) (le_fail _)
            · exact le_br2 (J := fun f l => CL T f l h) (fun e a0 a1 => call_le (hN 128 rfl) Tryz.func128 rfl rfl rfl (r128 hc _ 0 _ _)) (le_fail _)
        · refine le_brec ?_ ?_
          · refine le_brec ?_ ?_
            · refine le_brec ?_ ?_
              · exact le_br1 (J := fun f l => CL T f l h) (fun e a0 => call_le (hN 127 rfl) Tryz.func127 rfl rfl rfl (r127 hc _ 0 _ _)) (le_fail _)
              · exact le_br2 (J := fun f l => CL T f l h) (fun e a0 a1 => call_le (hN 123 rfl) Tryz.func123 rfl rfl rfl (r123 hc _ 0 _ _)) (le_fail _)
            · exact le_br1 (J := fun f l => CL T f l h) (fun e a0 => le_ovK fun ho => call_le ho Tryz.func122 rfl rfl rfl (r122 hc _ 0 _ _)) (le_fail _)
          · refine le_brec ?_ ?_
            · refine le_brec ?_ ?_
              · exact le_br2 (J := fun f l => CL T f l h) (fun e a0 a1 => call_le (hN 121 rfl) Tryz.func121 rfl rfl rfl (r121 hc _ 0 _ _)) (le_fail _)
              · exact le_br1 (J := fun f l => CL T f l h) (fun e a0 => le_ovK fun ho => call_le ho Tryz.func120 rfl rfl rfl (r120 hc _ 0 _ _)) (le_fail _)
            · exact le_br0 (J := fun f l => CL T f l h) (fun e => call_le (hN 119 rfl) Tryz.func119 rfl rfl rfl (r119 hc _ 0 _ _)) (le_fail _)
      · refine le_brec ?_ ?_
        · refine le_brec ?_ ?_
          · refine le_brec ?_ ?_
            · refine le_brec ?_ ?_
              · exact le_br1 (J := fun f l => CL T f l h) (fun e a0 => call_le (hN 113 rfl) Tryz.func113 rfl rfl rfl (r113 hc _ 0 _ _)) (le_fail _)
              · exact le_br2 (J := fun f l => CL T f l h) (fun e a0 a1 => call_le (hN 112 rfl) Tryz.func112 rfl rfl rfl (r112 hc _ 0 _ _)) (le_fail _)
            · exact le_br2 (J := fun f l => CL T f l h) (fun e a0 a1 => call_le (hN 111 rfl) Tryz.func111 rfl rfl rfl (r111 hc _ 0 _ _)) (le_fail _)
          · refine le_brec ?_ ?_
            · refine le_brec ?_ ?_
              · exact le_br2 (J := fun f l => CL T f l h) (fun e a0 a1 => call_le (hN 108 rfl) Tryz.func108 rfl rfl rfl (r108 hc _ 0 _ _)) (le_fail _)
              · exact le_br1 (J := fun f l => CL T f l h) (fun e a0 => call_le (hN 103 rfl) Tryz.func103 rfl rfl rfl (r103 hc _ 0 _ _)) (le_fail _)
            · exact le_br3 (J := fun f l => CL T f l h) (fun e a0 a1 a2 => call_le (hN 102 rfl) Tryz.func102 rfl rfl rfl (r102 hc _ 0 _ _)) (le_fail _)
        · refine le_brec ?_ ?_
          · refine le_brec ?_ ?_
            · refine le_brec ?_ ?_
              · exact le_br1 (J := fun f l => CL T f l h) (fun e a0 => call_le (hN 101 rfl) Tryz.func101 rfl rfl rfl (r101 hc _ 0 _ _)) (le_fail _)
              · exact le_br1 (J := fun f l => CL T f l h) (fun e a0 => le_ovK fun ho => call_le ho Tryz.func100 rfl rfl rfl (r100 hc _ 0 _ _)) (le_fail _)
            · exact le_br1 (J := fun f l => CL T f l h) (fun e a0 => call_le (hN 99 rfl) Tryz.func99 rfl rfl rfl (r99 hc _ 0 _ _)) (le_fail _)
          · refine le_brec ?_ ?_
            · exact le_br2 (J := fun f l => CL T f l h) (fun e a0 a1 => call_le (hN 96 rfl) Tryz.func96 rfl rfl rfl (r96 hc _ 0 _ _)) (le_fail _)
            · exact le_br2 (J := fun f l => CL T f l h) (fun e a0 a1 => call_le (hN 94 rfl) Tryz.func94 rfl rfl rfl (r94 hc _ 0 _ _)) (le_fail _)
    · refine le_brec ?_ ?_
      · refine le_brec ?_ ?_
        · refine le_brec ?_ ?_
          · refine le_brec ?_ ?_
            · refine le_brec ?_ ?_
              · exact le_br1 (J := fun f l => CL T f l h) (fun e a0 => call_le (hN 93 rfl) Tryz.func93 rfl rfl rfl (r93 hc _ 0 _ _)) (le_fail _)
              · exact le_br1 (J := fun f l => CL T f l h) (fun e a0 => le_ovK fun ho => call_le ho Tryz.func92 rfl rfl rfl (r92 hc _ 0 _ _)) (le_fail _)
            · exact le_br1 (J := fun f l => CL T f l h) (fun e a0 => call_le (hN 89 rfl) Tryz.func89 rfl rfl rfl (r89 hc _ 0 _ _)) (le_fail _)
          · refine le_brec ?_ ?_
            · refine le_brec ?_ ?_
              · exact le_br2 (J := fun f l => CL T f l h) (fun e a0 a1 => call_le (hN 88 rfl) Tryz.func88 rfl rfl rfl (r88 hc _ 0 _ _)) (le_fail _)
              · exact le_br2 (J := fun f l => CL T f l h) (fun e a0 a1 => call_le (hN 87 rfl) Tryz.func87 rfl rfl rfl (r87 hc _ 0 _ _)) (le_fail _)
            · exact le_br1 (J := fun f l => CL T f l h) (fun e a0 => call_le (hN 86 rfl) Tryz.func86 rfl rfl rfl (r86 hc _ 0 _ _)) (le_fail _)
        · refine le_brec ?_ ?_
          · refine le_brec ?_ ?_
            · refine le_brec ?_ ?_
              · exact le_br2 (J := fun f l => CL T f l h) (fun e a0 a1 => call_le (hN 85 rfl) Tryz.func85 rfl rfl rfl (r85 hc _ 0 _ _)) (le_fail _)
              · exact le_br2 (J := fun f l => CL T f l h) (fun e a0 a1 => call_le (hN 84 rfl) Tryz.func84 rfl rfl rfl (r84 hc _ 0 _ _)) (le_fail _)
            · exact le_br1 (J := fun f l => CL T f l h) (fun e a0 => call_le (hN 83 rfl) Tryz.func83 rfl rfl rfl (r83 hc _ 0 _ _)) (le_fail _)
          · refine le_brec ?_ ?_
            · refine le_brec ?_ ?_
              · exact le_br2 (J := fun f l => CL T f l h) (fun e a0 a1 => call_le (hN 81 rfl) Tryz.func81 rfl rfl rfl (r81 hc _ 0 _ _)) (le_fail _)
              · exact le_br2 (J := fun f l => CL T f l h) (fun e a0 a1 => call_le (hN 80 rfl) Tryz.func80 rfl rfl rfl (r80 hc _ 0 _ _)) (le_fail _)
            · exact le_br2 (J := fun f l => CL T f l h) (fun e a0 a1 => call_le (hN 79 rfl) Tryz.func79 rfl rfl rfl (r79 hc _ 0 _ _)) (le_fail _)
      · refine le_brec ?_ ?_
        · refine le_brec ?_ ?_
          · refine le_brec ?_ ?_
            · refine le_brec ?_ ?_
              · exact le_br2 (J := fun f l => CL T f l h) (fun e a0 a1 => call_le (hN 78 rfl) Tryz.func78 rfl rfl rfl (r78 hc _ 0 _ _)) (le_fail _)
              · exact le_br3 (J := fun f l => CL T f l h) (fun e a0 a1 a2 => call_le (hN 77 rfl) Tryz.func77 rfl rfl rfl (r77 hc _ 0 _ _)) (le_fail _)
            · exact le_br2 (J := fun f l => CL T f l h) (fun e a0 a1 => call_le (hN 74 rfl) Tryz.func74 rfl rfl rfl (r74 hc _ 0 _ _)) (le_fail _)
          · refine le_brec ?_ ?_
            · refine le_brec ?_ ?_
              · exact le_br3 (J := fun f l => CL T f l h) (fun e a0 a1 a2 => call_le (hN 72 rfl) Tryz.func72 rfl rfl rfl (r72 hc _ 0 _ _)) (le_fail _)
              · exact le_br2 (J := fun f l => CL T f l h) (fun e a0 a1 => call_le (hN 70 rfl) Tryz.func70 rfl rfl rfl (r70 hc _ 0 _ _)) (le_fail _)
            · exact le_br1 (J := fun f l => CL T f l h) (fun e a0 => le_ovK fun ho => call_le ho Tryz.func68 rfl rfl rfl (r68 hc _ 0 _ _)) (le_fail _)
        · refine le_brec ?_ ?_
          · refine le_brec ?_ ?_
            · refine le_brec ?_ ?_
              · exact le_br3 (J := fun f l => CL T f l h) (fun e a0 a1 a2 => call_le (hN 67 rfl) Tryz.func67 rfl rfl rfl (r67 hc _ 0 _ _)) (le_fail _)
              · exact le_br2 (J := fun f l => CL T f l h) (fun e a0 a1 => call_le (hN 65 rfl) Tryz.func65 rfl rfl rfl (r65 hc _ 0 _ _)) (le_fail _)
            · exact le_br2 (J := fun f l => CL T f l h) (fun e a0 a1 => call_le (hN 64 rfl) Tryz.func64 rfl rfl rfl (r64 hc _ 0 _ _)) (le_fail _)
          · refine le_brec ?_ ?_
            · exact le_br5 (J := fun f l => CL T f l h) (fun e a0 a1 a2 a3 a4 => call_le (hN 63 rfl) Tryz.func63 rfl rfl rfl (r63 hc _ 0 _ _)) (le_fail _)
            · exact le_br3 (J := fun f l => CL T f l h) (fun e a0 a1 a2 => call_le (hN 62 rfl) Tryz.func62 rfl rfl rfl (r62 hc _ 0 _ _)) (le_fail _)
  · refine le_brec ?_ ?_
    · refine le_brec ?_ ?_
      · refine le_brec ?_ ?_
        · refine le_brec ?_ ?_
          · refine le_brec ?_ ?_
            · refine le_brec ?_ ?_
              · exact le_br1 (J := fun f l => CL T f l h) (fun e a0 => call_le (hN 61 rfl) Tryz.func61 rfl rfl rfl (r61 hc _ 0 _ _)) (le_fail _)
              · exact le_br1 (J := fun f l => CL T f l h) (fun e a0 => call_le (hN 60 rfl) Tryz.func60 rfl rfl rfl (r60 hc _ 0 _ _)) (le_fail _)
            · exact le_br2 (J := fun f l => CL T f l h) (fun e a0 a1 => call_le (hN 59 rfl) Tryz.func59 rfl rfl rfl (r59 hc _ 0 _ _)) (le_fail _)
          · refine le_brec ?_ ?_
            · refine le_brec ?_ ?_
              · exact le_br1 (J := fun f l => CL T f l h) (fun e a0 => call_le (hN 58 rfl) Tryz.func58 rfl rfl rfl (r58 hc _ 0 _ _)) (le_fail _)
              · exact le_br2 (J := fun f l => CL T f l h) (fun e a0 a1 => call_le (hN 57 rfl) Tryz.func57 rfl rfl rfl (r57 hc _ 0 _ _)) (le_fail _)
            · exact le_br1 (J := fun f l => CL T f l h) (fun e a0 => call_le (hN 56 rfl) Tryz.func56 rfl rfl rfl (r56 hc _ 0 _ _)) (le_fail _)
        · refine le_brec ?_ ?_
          · refine le_brec ?_ ?_
            · refine le_brec ?_ ?_
              · exact le_br2 (J := fun f l => CL T f l h) (fun e a0 a1 => le_ovK fun ho => call_le ho Tryz.func55 rfl rfl rfl (r55 hc _ 0 _ _)) (le_fail _)
              · exact le_br1 (J := fun f l => CL T f l h) (fun e a0 => le_ovK fun ho => call_le ho Tryz.func54 rfl rfl rfl (r54 hc _ 0 _ _)) (le_fail _)
            · exact le_br1 (J := fun f l => CL T f l h) (fun e a0 => call_le (hN 53 rfl) Tryz.func53 rfl rfl rfl (r53 hc _ 0 _ _)) (le_fail _)
          · refine le_brec ?_ ?_
            · refine le_brec ?_ ?_
              · exact le_br1 (J := fun f l => CL T f l h) (fun e a0 => call_le (hN 52 rfl) Tryz.func52 rfl rfl rfl (r52 hc _ 0 _ _)) (le_fail _)
              · exact le_br1 (J := fun f l => CL T f l h) (fun e a0 => call_le (hN 51 rfl) Tryz.func51 rfl rfl rfl (r51 hc _ 0 _ _)) (le_fail _)
            · exact le_br2 (J := fun f l => CL T f l h) (fun e a0 a1 => call_le (hN 48 rfl) Tryz.func48 rfl rfl rfl (r48 hc _ 0 _ _)) (le_fail _)
      · refine le_brec ?_ ?_
        · refine le_brec ?_ ?_
          · refine le_brec ?_ ?_
            · refine le_brec ?_ ?_
              · exact le_br2 (J := fun f l => CL T f l h) (fun e a0 a1 => call_le (hN 45 rfl) Tryz.func45 rfl rfl rfl (r45 hc _ 0 _ _)) (le_fail _)
              · exact le_br1 (J := fun f l => CL T f l h) (fun e a0 => call_le (hN 43 rfl) Tryz.func43 rfl rfl rfl (r43 hc _ 0 _ _)) (le_fail _)
            · exact le_br1 (J := fun f l => CL T f l h) (fun e a0 => call_le (hN 42 rfl) Tryz.func42 rfl rfl rfl (r42 hc _ 0 _ _)) (le_fail _)
          · refine le_brec ?_ ?_
            · refine le_brec ?_ ?_
              · exact le_br3 (J := fun f l => CL T f l h) (fun e a0 a1 a2 => call_le (hN 41 rfl) Tryz.func41 rfl rfl rfl (r41 hc _ 0 _ _)) (le_fail _)
              · exact le_br2 (J := fun f l => CL T f l h) (fun e a0 a1 => call_le (hN 40 rfl) Tryz.func40 rfl rfl rfl (r40 hc _ 0 _ _)) (le_fail _)
            · exact le_br4 (J := fun f l => CL T f l h) (fun e a0 a1 a2 a3 => call_le (hN 39 rfl) Tryz.func39 rfl rfl rfl (r39 hc _ 0 _ _)) (le_fail _)
        · refine le_brec ?_ ?_
          · refine le_brec ?_ ?_
            · refine le_brec ?_ ?_
              · exact le_br1 (J := fun f l => CL T f l h) (fun e a0 => call_le (hN 38 rfl) Tryz.func38 rfl rfl rfl (r38 hc _ 0 _ _)) (le_fail _)
              · exact le_br1 (J := fun f l => CL T f l h) (fun e a0 => call_le (hN 37 rfl) Tryz.func37 rfl rfl rfl (r37 hc _ 0 _ _)) (le_fail _)
            · exact le_br2 (J := fun f l => CL T f l h) (fun e a0 a1 => call_le (hN 36 rfl) Tryz.func36 rfl rfl rfl (r36 hc _ 0 _ _)) (le_fail _)
          · refine le_brec ?_ ?_
            · exact le_br3 (J := fun f l => CL T f l h) (fun e a0 a1 a2 => call_le (hN 34 rfl) Tryz.func34 rfl rfl rfl (r34 hc _ 0 _ _)) (le_fail _)
            · exact le_br3 (J := fun f l => CL T f l h) (fun e a0 a1 a2 => call_le (hN 31 rfl) Tryz.func31 rfl rfl rfl (r31 hc _ 0 _ _)) (le_fail _)
    · refine le_brec ?_ ?_
      · refine le_brec ?_ ?_
        · refine le_brec ?_ ?_
          · refine le_brec ?_ ?_
            · refine le_brec ?_ ?_
              · exact le_br3 (J := fun f l => CL T f l h) (fun e a0 a1 a2 => call_le (hN 29 rfl) Tryz.func29 rfl rfl rfl (r29 hc _ 0 _ _)) (le_fail _)
              · exact le_br3 (J := fun f l => CL T f l h) (fun e a0 a1 a2 => call_le (hN 28 rfl) Tryz.func28 rfl rfl rfl (r28 hc _ 0 _ _)) (le_fail _)
            · exact le_br3 (J := fun f l => CL T f l h) (fun e a0 a1 a2 => call_le (hN 27 rfl) Tryz.func27 rfl rfl rfl (r27 hc _ 0 _ _)) (le_fail _)
          · refine le_brec ?_ ?_
            · refine le_brec ?_ ?_
              · exact le_br5 (J := fun f l => CL T f l h) (fun e a0 a1 a2 a3 a4 => call_le (hN 26 rfl) Tryz.func26 rfl rfl rfl (r26 hc _ 0 _ _)) (le_fail _)
              · exact le_br8 (J := fun f l => CL T f l h) (fun e a0 a1 a2 a3 a4 a5 a6 a7 => call_le (hN 24 rfl) Tryz.func24 rfl rfl rfl (r24 hc _ 0 _ _)) (le_fail _)
            · exact le_br2 (J := fun f l => CL T f l h) (fun e a0 a1 => call_le (hN 23 rfl) Tryz.func23 rfl rfl rfl (r23 hc _ 0 _ _)) (le_fail _)
        · refine le_brec ?_ ?_
          · refine le_brec ?_ ?_
            · refine le_brec ?_ ?_
              · exact le_br3 (J := fun f l => CL T f l h) (fun e a0 a1 a2 => call_le (hN 22 rfl) Tryz.func22 rfl rfl rfl (r22 hc _ 0 _ _)) (le_fail _)
              · exact le_br2 (J := fun f l => CL T f l h) (fun e a0 a1 => call_le (hN 21 rfl) Tryz.func21 rfl rfl rfl (r21 hc _ 0 _ _)) (le_fail _)
            · exact le_br1 (J := fun f l => CL T f l h) (fun e a0 => call_le (hN 18 rfl) Tryz.func18 rfl rfl rfl (r18 hc _ 0 _ _)) (le_fail _)
          · refine le_brec ?_ ?_
            · refine le_brec ?_ ?_
              · exact le_br1 (J := fun f l => CL T f l h) (fun e a0 => call_le (hN 17 rfl) Tryz.func17 rfl rfl rfl (r17 hc _ 0 _ _)) (le_fail _)
              · exact le_br3 (J := fun f l => CL T f l h) (fun e a0 a1 a2 => call_le (hN 16 rfl) Tryz.func16 rfl rfl rfl (r16 hc _ 0 _ _)) (le_fail _)
            · exact le_br4 (J := fun f l => CL T f l h) (fun e a0 a1 a2 a3 => call_le (hN 15 rfl) Tryz.func15 rfl rfl rfl (r15 hc _ 0 _ _)) (le_fail _)
      · refine le_brec ?_ ?_
        · refine le_brec ?_ ?_
          · refine le_brec ?_ ?_
            · refine le_brec ?_ ?_
              · exact le_br2 (J := fun f l => CL T f l h) (fun e a0 a1 => call_le (hN 14 rfl) Tryz.func14 rfl rfl rfl (r14 hc _ 0 _ _)) (le_fail _)
              · exact le_br3 (J := fun f l => CL T f l h) (fun e a0 a1 a2 => call_le (hN 13 rfl) Tryz.func13 rfl rfl rfl (r13 hc _ 0 _ _)) (le_fail _)
            · exact le_br0 (J := fun f l => CL T f l h) (fun e => call_le (hN 12 rfl) Tryz.func12 rfl rfl rfl (r12 hc _ 0 _ _)) (le_fail _)
          · refine le_brec ?_ ?_
            · refine le_brec ?_ ?_
              · exact le_br4 (J := fun f l => CL T f l h) (fun e a0 a1 a2 a3 => call_le (hN 11 rfl) Tryz.func11 rfl rfl rfl (r11 hc _ 0 _ _)) (le_fail _)
              · exact le_br2 (J := fun f l => CL T f l h) (fun e a0 a1 => call_le (hN 10 rfl) Tryz.func10 rfl rfl rfl (r10 hc _ 0 _ _)) (le_fail _)
            · exact le_br1 (J := fun f l => CL T f l h) (fun e a0 => call_le (hN 8 rfl) Tryz.func8 rfl rfl rfl (r8 hc _ 0 _ _)) (le_fail _)
        · refine le_brec ?_ ?_
          · refine le_brec ?_ ?_
            · refine le_brec ?_ ?_
              · exact le_br0 (J := fun f l => CL T f l h) (fun e => le_ovK fun ho => call_le ho Tryz.func7 rfl rfl rfl (r7 hc _ 0 _ _)) (le_fail _)
              · exact le_br1 (J := fun f l => CL T f l h) (fun e a0 => call_le (hN 6 rfl) Tryz.func6 rfl rfl rfl (r6 hc _ 0 _ _)) (le_fail _)
            · exact le_br2 (J := fun f l => CL T f l h) (fun e a0 a1 => call_le (hN 5 rfl) Tryz.func5 rfl rfl rfl (r5 hc _ 0 _ _)) (le_fail _)
          · refine le_brec ?_ ?_
            · exact le_br1 (J := fun f l => CL T f l h) (fun e a0 => call_le (hN 4 rfl) Tryz.func4 rfl rfl rfl (r4 hc _ 0 _ _)) (le_fail _)
            · exact le_br1 (J := fun f l => CL T f l h) (fun e a0 => call_le (hN 3 rfl) Tryz.func3 rfl rfl rfl (r3 hc _ 0 _ _)) (le_fail _)
noncomputable def CN (T : Tab) (n : Nat) : CallF := @Nat.rec (fun _ => CallF) (fun _ _ _ => .fail) (fun _ cf => cfB T cf) n
theorem CN_le {T : Tab} (hN : ∀ f, tabB f = false → T.ov f = none) (n : Nat) : leC (CN T n) (CL T) := by
  induction n with
  | zero => exact fun _ _ _ => le_fail _
  | succ n ih => exact fun f l h => cfB_le hN _ ih f l h
theorem CN_val {T : Tab} (hN : ∀ f, tabB f = false → T.ov f = none) {n : Nat} {f : FuncId} {args : List IV} {h : H} {v : IV} (e : (CN T n f args h).val = some v) : ∃ h', CL T f args h = .ok v h' := run_val (CN_le hN n) e
def pol (f : FuncId) : Bool := !Nat.beq f 24
noncomputable def tab0 : Tab := ⟨ovOf [], pol⟩
theorem step0 : OvStep tab0 := ovStep_of fun x hx args g => by cases hx
theorem sound0 : ∀ w₀ S, CallS Tryz.prog w₀ S (CL tab0) := call_sound (fun w₀ S => ovS_of fun x hx => by cases hx) Tryz.checked.mixed noNum
theorem no0 : ∀ f, tabB f = false → tab0.ov f = none := fun _ _ => rfl
theorem awake7 : ∃ h', CL tab0 7 [] H0 = .ok (.bool true) h' := CN_val no0 (n := 60) (by kernel_rfl)
theorem lenStr_raw (s : Str) : lenStr (.str s) = some (.int .i64 (s.len : Nat)) := rfl
theorem binS_raw (a b : Str) : binS .eql (.str a) (.str b) = some (.bool (a.eq b)) := rfl
theorem slc_raw (s : Str) (a b : Nat) (h1 : a ≤ b) (h2 : b ≤ s.len) : slcStr (.str s) (some (.int .i64 (a : Nat))) (some (.int .i64 (b : Nat))) = some (.str (s.ext a b)) := by
  simp only [slcStr, boundI]
  rw [if_pos ⟨by omega, by omega⟩]
  simp only
  rw [if_pos ⟨by omega, by omega⟩]
  simp
theorem begins34 {h : H} (g : Gd h) (s t : Str) (n : Nat) (hs : s.len ≤ 131072) (hn : n ≤ s.len) (ht : t.len ≤ 2) : CL tab0 34 [.str s, .int .i64 (n : Nat), .str t] h = .ok (.bool (decide (n + t.len ≤ s.len) && Str.eq (s.ext n (n + t.len)) t)) h := by
  refine c34 step0 rfl rfl g ?_ (by simp)
  have e2 : wr .i64 ((s.len : Int) - (n : Nat)) = (s.len : Int) - (n : Nat) := wr_i64 (by omega) (by omega)
  have e9 : wr .i64 ((n : Int) + (t.len : Nat)) = ((n + t.len : Nat) : Int) := by rw [wr_i64 (by omega) (by omega)]; omega
  by_cases hc : n + t.len ≤ s.len
  · have h4 : ((t.len : Nat) : Int) ≤ (s.len : Int) - (n : Nat) := by omega
    simp only [t34_0, lenStr_raw, W, decide_eq_true_eq, decide_true, decide_false, Bool.not_true, Bool.not_false, not_true_eq_false, not_false_eq_true, and_true, true_and, and_false, false_and, ne_eq, Nat.zero_add, Nat.add_zero, cond_true, cond_false, Bool.false_eq_true, List.getElem?_cons_zero, List.getElem?_cons_succ, decide_eq_false_iff_not, Bool.not_eq_true', ↓reduceIte, reduceCtorEq, Nat.reduceAdd, Int.reduceEq, Int.reduceNe, Int.reduceLT, Int.reduceLE, Int.reduceAdd, Int.reduceSub, Int.reduceMul, Int.reduceNeg, Nat.reduceMul, e2, h4, e9, slc_raw s n (n + t.len) (by omega) hc, binS_raw, hc, decide_true, Bool.true_and]
  · have h4 : ¬ ((t.len : Nat) : Int) ≤ (s.len : Int) - (n : Nat) := by omega
    simp only [t34_0, lenStr_raw, W, decide_eq_true_eq, decide_true, decide_false, Bool.not_true, Bool.not_false, not_true_eq_false, not_false_eq_true, and_true, true_and, and_false, false_and, ne_eq, Nat.zero_add, Nat.add_zero, cond_true, cond_false, Bool.false_eq_true, List.getElem?_cons_zero, List.getElem?_cons_succ, decide_eq_false_iff_not, Bool.not_eq_true', ↓reduceIte, reduceCtorEq, Nat.reduceAdd, Int.reduceEq, Int.reduceNe, Int.reduceLT, Int.reduceLE, Int.reduceAdd, Int.reduceSub, Int.reduceMul, Int.reduceNeg, Nat.reduceMul, e2, h4, hc, decide_false, Bool.false_and]
def twos : List Str := [⟨2, 9766⟩, ⟨2, 31868⟩, ⟨2, 15677⟩, ⟨2, 15649⟩, ⟨2, 15676⟩, ⟨2, 15678⟩, ⟨2, 15420⟩, ⟨2, 15934⟩]
def ones : Str := ⟨24, 1035797962038895658522808901809198590842054073607314417960⟩
def hit (s : Str) (n : Nat) (t : Str) : Bool := decide (n + t.len ≤ s.len) && Str.eq (s.ext n (n + t.len)) t
def twoE (s : Str) (n : Nat) : List Str → Option Str
  | [] => none
  | t :: l => if hit s n t = true then some t else twoE s n l
theorem loop1 {h : H} (g : Gd h) {b : Nat} (c : Cs h b false true (twos.map IV.str)) (s : Str) (n : Nat) (hs : s.len ≤ 131072) (hn : n ≤ s.len) : ∀ (k i : Nat), i + k = 8 → ∀ r : CRes, r ≠ .fail → J55 tab0 2 [.str s, .int .i64 (n : Nat), .str ones, .int .i64 0] h = r →
    J55 tab0 1 [.str s, .int .i64 (n : Nat), .slice b 0 8 1, .int .i64 (i : Nat)] h = (match twoE s n (twos.drop i) with | some t => .ok (.str t) h | none => r) := by
  intro k
  induction k with
  | zero =>
    intro i hi r hr e
    have hi8 : i = 8 := by omega
    subst hi8
    have hd : twos.drop 8 = [] := rfl
    rw [hd]
    simp only [twoE]
    refine e55_1 ?_ hr
    have : ¬ ((8 : Nat) : Int) < ((8 : Nat) : Int) := by omega
    simp only [t55_1, lenS, W, decide_eq_true_eq, decide_true, decide_false, Bool.not_true, Bool.not_false, not_true_eq_false, not_false_eq_true, and_true, true_and, and_false, false_and, ne_eq, Nat.zero_add, Nat.add_zero, cond_true, cond_false, Bool.false_eq_true, List.getElem?_cons_zero, List.getElem?_cons_succ, decide_eq_false_iff_not, Bool.not_eq_true', ↓reduceIte, reduceCtorEq, Nat.reduceAdd, Int.reduceEq, Int.reduceNe, Int.reduceLT, Int.reduceLE, Int.reduceAdd, Int.reduceSub, Int.reduceMul, Int.reduceNeg, Nat.reduceMul, this]
    exact e
  | succ k ih =>
    intro i hi r hr e
    have hlt : i < twos.length := by show i < 8; omega
    have hx : twos[i]? = some twos[i] := List.getElem?_eq_getElem hlt
    have hlt' : ((i : Nat) : Int) < ((8 : Nat) : Int) := by omega
    have eix : ixS 1 (.slice b 0 8 1) (.int .i64 (i : Nat)) = some (.ptr b i) := by
      rw [ixS_eq]; simp only [ixS0]; rw [if_pos ⟨trivial, by omega, by omega⟩]; simp
    have eld : I.ld0 h (.ptr b i) = some (.str twos[i]) := by
      rw [c.ld0 i, List.getElem?_map, hx]; rfl
    have ht2 : ∀ t ∈ twos, t.len ≤ 2 := by decide
    have e34 := begins34 g s twos[i] n hs hn (ht2 _ (List.getElem_mem hlt))
    have hd : twos.drop i = twos[i] :: twos.drop (i + 1) := List.drop_eq_getElem_cons hlt
    have ei : wr .i64 ((i : Int) + 1) = ((i + 1 : Nat) : Int) := by rw [wr_i64 (by omega) (by omega)]; omega
    rw [hd]
    simp only [twoE]
    by_cases hh : hit s n twos[i] = true
    · rw [if_pos hh]
      refine e55_1 ?_ (by simp)
      have e34' : CL tab0 34 [.str s, .int .i64 (n : Nat), .str twos[i]] h = .ok (.bool true) h := by rw [e34]; unfold hit at hh; rw [hh]
      simp only [t55_1, lenS, W, decide_eq_true_eq, decide_true, decide_false, Bool.not_true, Bool.not_false, not_true_eq_false, not_false_eq_true, and_true, true_and, and_false, false_and, ne_eq, Nat.zero_add, Nat.add_zero, cond_true, cond_false, Bool.false_eq_true, List.getElem?_cons_zero, List.getElem?_cons_succ, decide_eq_false_iff_not, Bool.not_eq_true', ↓reduceIte, reduceCtorEq, Nat.reduceAdd, Int.reduceEq, Int.reduceNe, Int.reduceLT, Int.reduceLE, Int.reduceAdd, Int.reduceSub, Int.reduceMul, Int.reduceNeg, Nat.reduceMul, hlt', eix, eld, e34']
    · rw [if_neg hh]
      have e34' : CL tab0 34 [.str s, .int .i64 (n : Nat), .str twos[i]] h = .ok (.bool false) h := by rw [e34]; unfold hit at hh; simp only [Bool.not_eq_true] at hh; rw [hh]
      refine e55_1 ?_ (by split <;> simp [hr])
      simp only [t55_1, lenS, W, decide_eq_true_eq, decide_true, decide_false, Bool.not_true, Bool.not_false, not_true_eq_false, not_false_eq_true, and_true, true_and, and_false, false_and, ne_eq, Nat.zero_add, Nat.add_zero, cond_true, cond_false, Bool.false_eq_true, List.getElem?_cons_zero, List.getElem?_cons_succ, decide_eq_false_iff_not, Bool.not_eq_true', ↓reduceIte, reduceCtorEq, Nat.reduceAdd, Int.reduceEq, Int.reduceNe, Int.reduceLT, Int.reduceLE, Int.reduceAdd, Int.reduceSub, Int.reduceMul, Int.reduceNeg, Nat.reduceMul, hlt', eix, eld, e34', ei]
      exact ih (i + 1) (by omega) r hr e
def oneR (c : Nat) : Nat → Nat → IV
  | 0, i => .str ⟨0, 0⟩
  | k + 1, i => if c = ones.at i then .str (ones.ext i (i + 1)) else oneR c k (i + 1)
theorem loop2 {h : H} (s : Str) (n : Nat) (hn : n < s.len) : ∀ (k i : Nat), i + k = 24 → J55 tab0 2 [.str s, .int .i64 (n : Nat), .str ones, .int .i64 (i : Nat)] h = .ok (oneR (s.at n) k i) h := by
  intro k
  induction k with
  | zero =>
    intro i hi
    have hi8 : i = 24 := by omega
    subst hi8
    refine e55_2 ?_ (by simp)
    have hl : lenStr (.str ones) = some (.int .i64 24) := rfl
    have : ¬ ((24 : Nat) : Int) < 24 := by omega
    simp only [t55_2, hl, W, decide_eq_true_eq, decide_true, decide_false, Bool.not_true, Bool.not_false, not_true_eq_false, not_false_eq_true, and_true, true_and, and_false, false_and, ne_eq, Nat.zero_add, Nat.add_zero, cond_true, cond_false, Bool.false_eq_true, List.getElem?_cons_zero, List.getElem?_cons_succ, decide_eq_false_iff_not, Bool.not_eq_true', ↓reduceIte, reduceCtorEq, Nat.reduceAdd, Int.reduceEq, Int.reduceNe, Int.reduceLT, Int.reduceLE, Int.reduceAdd, Int.reduceSub, Int.reduceMul, Int.reduceNeg, Nat.reduceMul, this, oneR]
  | succ k ih =>
    intro i hi
    refine e55_2 ?_ (by simp)
    have hl : lenStr (.str ones) = some (.int .i64 24) := rfl
    have hlt : ((i : Nat) : Int) < 24 := by omega
    have e14 : ixStr (.str s) (.int .i64 (n : Nat)) = some (.int .u8 (s.at n : Nat)) := by
      rw [ixStr_eq]; simp only [ixStr0]; rw [if_pos ⟨by omega, by omega⟩]; simp
    have e15 : ixStr (.str ones) (.int .i64 (i : Nat)) = some (.int .u8 (ones.at i : Nat)) := by
      rw [ixStr_eq]; simp only [ixStr0]; rw [if_pos ⟨by omega, by show ((i : Nat) : Int) < (24 : Nat); omega⟩]; simp
    have ei : wr .i64 ((i : Int) + 1) = ((i + 1 : Nat) : Int) := by rw [wr_i64 (by omega) (by omega)]; omega
    have e18 : slcStr (.str ones) (some (.int .i64 (i : Nat))) (some (.int .i64 ((i + 1 : Nat) : Int))) = some (.str (ones.ext i (i + 1))) := slc_raw ones i (i + 1) (by omega) (by show i + 1 ≤ 24; omega)
    by_cases hc : s.at n = ones.at i
    · have hc' : ((s.at n : Nat) : Int) = (ones.at i : Nat) := by rw [hc]
      simp only [t55_2, hl, W, decide_eq_true_eq, decide_true, decide_false, Bool.not_true, Bool.not_false, not_true_eq_false, not_false_eq_true, and_true, true_and, and_false, false_and, ne_eq, Nat.zero_add, Nat.add_zero, cond_true, cond_false, Bool.false_eq_true, List.getElem?_cons_zero, List.getElem?_cons_succ, decide_eq_false_iff_not, Bool.not_eq_true', ↓reduceIte, reduceCtorEq, Nat.reduceAdd, Int.reduceEq, Int.reduceNe, Int.reduceLT, Int.reduceLE, Int.reduceAdd, Int.reduceSub, Int.reduceMul, Int.reduceNeg, Nat.reduceMul, hlt, e14, e15, hc', ei, e18]
      unfold oneR
      rw [if_pos hc]
    · have hc' : ¬ ((s.at n : Nat) : Int) = (ones.at i : Nat) := by omega
      simp only [t55_2, hl, W, decide_eq_true_eq, decide_true, decide_false, Bool.not_true, Bool.not_false, not_true_eq_false, not_false_eq_true, and_true, true_and, and_false, false_and, ne_eq, Nat.zero_add, Nat.add_zero, cond_true, cond_false, Bool.false_eq_true, List.getElem?_cons_zero, List.getElem?_cons_succ, decide_eq_false_iff_not, Bool.not_eq_true', ↓reduceIte, reduceCtorEq, Nat.reduceAdd, Int.reduceEq, Int.reduceNe, Int.reduceLT, Int.reduceLE, Int.reduceAdd, Int.reduceSub, Int.reduceMul, Int.reduceNeg, Nat.reduceMul, hlt, e14, e15, hc', ei]
      rw [oneR, if_neg hc]
      exact ih (i + 1) (by omega)
def oneB (c : Nat) : Bool := [40, 41, 91, 93, 123, 125, 44, 59, 58, 46, 35, 64, 63, 43, 45, 126, 33, 38, 124, 94, 61, 60, 42, 62].any fun x => Nat.beq x c
def oneV (c : Nat) : IV := bif oneB c then .str ⟨1, c⟩ else .str ⟨0, 0⟩
theorem oneR_eq (c : Nat) (hc : c < 256) : oneR c 24 0 = oneV c := by
  have h : ((List.range 256).all fun c => IV.beq (oneR c 24 0) (oneV c)) = true := by kernel_rfl
  exact IV.beq_eq (List.all_eq_true.1 h c (List.mem_range.2 hc))
def twoB (s : Str) (n : Nat) : Bool := [9766, 31868, 15677, 15649, 15676, 15678, 15420, 15934].any fun x => Nat.beq x (Nat.mod (Nat.div s.val (Nat.pow 256 n)) 65536)
def g55 (args : List IV) : Option IV :=
  match args with
  | [.str s, .int .i64 (.ofNat n)] => bif (Nat.ble (Nat.succ n) s.len && Nat.ble s.len 131072) then
      (bif (Nat.ble (Nat.add n 2) s.len && twoB s n) then T.fN (Nat.mod (Nat.div s.val (Nat.pow 256 n)) 65536) fun x => some (.str ⟨2, x⟩) else T.fN (Nat.mod (Nat.div s.val (Nat.pow 256 n)) 256) fun x => some (oneV x)) else none
  | _ => none
theorem twoE_any (s : Str) (n : Nat) (hn : n + 2 ≤ s.len) : twoE s n twos = bif twoB s n then some ⟨2, s.val / 256 ^ n % 65536⟩ else none := by
  have he : s.ext n (n + 2) = ⟨2, s.val / 256 ^ n % 65536⟩ := by
    simp only [Str.ext]
    rw [show n + 2 - n = 2 by omega]
  have hh : ∀ x : Nat, hit s n ⟨2, x⟩ = Nat.beq x (s.val / 256 ^ n % 65536) := by
    intro x
    unfold hit
    simp only [decide_eq_true hn, Bool.true_and, he, Str.eq]
    have : Nat.beq 2 2 = true := rfl
    rw [this, Bool.true_and, T.nbeq, T.nbeq]
    by_cases hx : x = s.val / 256 ^ n % 65536
    · simp [hx]
    · have hx' : ¬ s.val / 256 ^ n % 65536 = x := fun e => hx e.symm
      simp [hx, hx']
  unfold twoB
  have hp : Nat.mod (Nat.div s.val (Nat.pow 256 n)) 65536 = s.val / 256 ^ n % 65536 := rfl
  rw [hp]
  generalize s.val / 256 ^ n % 65536 = v at *
  simp only [twos, twoE, hh, List.any_cons, List.any_nil, T.nbeq, decide_eq_true_eq]
  repeat' split
  all_goals simp_all
theorem twoE_none (s : Str) (n : Nat) (hn : ¬ n + 2 ≤ s.len) : twoE s n twos = none := by
  have hh : ∀ x : Nat, hit s n ⟨2, x⟩ = false := by
    intro x
    unfold hit
    simp only [decide_eq_false hn, Bool.false_and]
  simp [twos, twoE, hh]
theorem t55 : PureT Tryz.prog (CL tab0) 55 g55 := ⟨⟨_, _, Tryz.func55, rfl⟩, fun args v hv => by
  unfold g55 at hv
  split at hv
  · rename_i s n
    refine ⟨rfl, ?_, true, ?_⟩
    all_goals
      cases hc : (Nat.ble (Nat.succ n) s.len && Nat.ble s.len 131072) with
      | false => rw [hc] at hv; cases hv
      | true => ?_
    · rw [hc] at hv
      simp only [cond_true, T.fN_eq] at hv
      cases ht : (Nat.ble (Nat.add n 2) s.len && twoB s n) with
      | true => rw [ht] at hv; injection hv with hv; subst hv; rfl
      | false =>
        rw [ht] at hv; injection hv with hv; subst hv
        unfold oneV
        cases oneB (Nat.mod (Nat.div s.val (Nat.pow 256 n)) 256) <;> rfl
    · rw [hc] at hv
      simp only [cond_true, T.fN_eq] at hv
      rw [nble, nble, Bool.and_eq_true, decide_eq_true_eq, decide_eq_true_eq] at hc
      obtain ⟨h1, h2⟩ := hc
      have h1 : n < s.len := h1
      obtain ⟨h', e, x, c⟩ := bslK_imm (z := [.str ⟨0, 0⟩]) (vs := twos.map IV.str) (show Gd H0 from ⟨fun b _ => rfl, rfl⟩) (es := 1) rfl (by intro w hw; obtain ⟨t, _, rfl⟩ := List.mem_map.1 hw; rfl) rfl
      have hco : cellsOf (twos.map IV.str) = twos.map IV.str := rfl
      rw [hco] at c
      have el2 := loop2 (h := h') s n h1 24 0 rfl
      rw [oneR_eq (s.at n) (Nat.mod_lt _ (by omega))] at el2
      have el1 := loop1 x.gd c s n h2 (by omega) 8 0 rfl _ (by simp) el2
      rw [List.drop_zero] at el1
      refine ⟨h', c55 step0 rfl rfl (show Gd H0 from ⟨fun b _ => rfl, rfl⟩) ?_ (by simp)⟩
      have e' : bslK false 1 [.str ⟨0, 0⟩] 8 [(0, (.str ⟨2, 9766⟩)), (1, (.str ⟨2, 31868⟩)), (2, (.str ⟨2, 15677⟩)), (3, (.str ⟨2, 15649⟩)), (4, (.str ⟨2, 15676⟩)), (5, (.str ⟨2, 15678⟩)), (6, (.str ⟨2, 15420⟩)), (7, (.str ⟨2, 15934⟩))] ⟨0, .leaf, true, .leaf⟩ = some (.slice 0 0 8 1, h') := e
      simp only [t55_0, e', W, decide_eq_true_eq, decide_true, decide_false, Bool.not_true, Bool.not_false, not_true_eq_false, not_false_eq_true, and_true, true_and, and_false, false_and, ne_eq, Nat.zero_add, Nat.add_zero, cond_true, cond_false, Bool.false_eq_true, List.getElem?_cons_zero, List.getElem?_cons_succ, decide_eq_false_iff_not, Bool.not_eq_true', ↓reduceIte, reduceCtorEq, Nat.reduceAdd, Int.reduceEq, Int.reduceNe, Int.reduceLT, Int.reduceLE, Int.reduceAdd, Int.reduceSub, Int.reduceMul, Int.reduceNeg, Nat.reduceMul]
      refine Eq.trans el1 ?_
      by_cases h3 : n + 2 ≤ s.len
      · rw [twoE_any s n h3]
        have h3' : Nat.ble (Nat.add n 2) s.len = true := by rw [nble]; exact decide_eq_true h3
        rw [h3', Bool.true_and] at hv
        cases htb : twoB s n with
        | true => rw [htb] at hv; injection hv with hv; subst hv; rfl
        | false => rw [htb] at hv; injection hv with hv; subst hv; rfl
      · rw [twoE_none s n h3]
        have h3' : Nat.ble (Nat.add n 2) s.len = false := by rw [nble]; exact decide_eq_false h3
        rw [h3', Bool.false_and] at hv
        injection hv with hv; subst hv; rfl
  · cases hv⟩
def tbl100 : List (Str × IV) := [(⟨1, 87⟩, .bool false), (⟨1, 97⟩, .bool false), (⟨1, 117⟩, .bool false), (⟨6, 111516500389741⟩, .bool true), (⟨9, 2110239404018478768496⟩, .bool true), (⟨5, 500186508905⟩, .bool true), (⟨9, 1870936414602775522917⟩, .bool true), (⟨2, 12397⟩, .bool false), (⟨2, 12653⟩, .bool false), (⟨2, 12909⟩, .bool false), (⟨2, 13165⟩, .bool false), (⟨2, 13421⟩, .bool false), (⟨2, 13677⟩, .bool false), (⟨2, 13933⟩, .bool false), (⟨2, 14189⟩, .bool false), (⟨2, 14445⟩, .bool false), (⟨2, 14701⟩, .bool false), (⟨3, 3158381⟩, .bool false), (⟨3, 3223917⟩, .bool false), (⟨3, 3289453⟩, .bool false), (⟨3, 3354989⟩, .bool false), (⟨3, 3420525⟩, .bool false), (⟨3, 3486061⟩, .bool false), (⟨3, 3551597⟩, .bool false), (⟨3, 3617133⟩, .bool false), (⟨3, 3682669⟩, .bool false), (⟨3, 3748205⟩, .bool false)]
def tbl122 : List (Str × IV) := [(⟨1, 40⟩, .tup [.int .i64 0, .int .i64 0]), (⟨1, 41⟩, .tup [.int .i64 0, .int .i64 0]), (⟨1, 35⟩, .tup [.int .i64 0, .int .i64 0]), (⟨1, 91⟩, .tup [.int .i64 0, .int .i64 0]), (⟨1, 93⟩, .tup [.int .i64 0, .int .i64 0]), (⟨1, 123⟩, .tup [.int .i64 0, .int .i64 0]), (⟨1, 125⟩, .tup [.int .i64 0, .int .i64 0]), (⟨1, 46⟩, .tup [.int .i64 0, .int .i64 0]), (⟨1, 44⟩, .tup [.int .i64 0, .int .i64 0]), (⟨1, 59⟩, .tup [.int .i64 0, .int .i64 0]), (⟨1, 58⟩, .tup [.int .i64 0, .int .i64 0]), (⟨1, 61⟩, .tup [.int .i64 0, .int .i64 0]), (⟨1, 45⟩, .tup [.int .i64 9, .int .i64 14]), (⟨1, 43⟩, .tup [.int .i64 9, .int .i64 13])]
def tbl120 : List (Str × IV) := [(⟨1, 87⟩, .int .i64 0), (⟨1, 97⟩, .int .i64 0), (⟨1, 49⟩, .int .i64 0), (⟨1, 48⟩, .int .i64 0), (⟨4, 811738929⟩, .int .i64 0), (⟨1, 40⟩, .int .i64 0), (⟨1, 41⟩, .int .i64 0), (⟨1, 35⟩, .int .i64 0), (⟨1, 91⟩, .int .i64 0), (⟨1, 93⟩, .int .i64 0), (⟨1, 123⟩, .int .i64 0), (⟨1, 125⟩, .int .i64 0), (⟨1, 46⟩, .int .i64 0), (⟨1, 44⟩, .int .i64 0), (⟨1, 59⟩, .int .i64 0), (⟨1, 58⟩, .int .i64 0), (⟨1, 61⟩, .int .i64 0), (⟨1, 45⟩, .int .i64 9), (⟨1, 43⟩, .int .i64 0), (⟨5, 500186508905⟩, .int .i64 0), (⟨9, 1870936414602775522917⟩, .int .i64 0)]
def tbl54 : List (Str × IV) := [(⟨1, 49⟩, .tup [.str ⟨32, 22248470822666314938692568397119675677137950638191323448941735236079264477232⟩, .bool true, .int .i64 0]), (⟨1, 48⟩, .tup [.str ⟨32, 21796157974083048550319244236929488537086114760591164995662604048548353814576⟩, .bool true, .int .i64 0]), (⟨4, 811738929⟩, .tup [.str ⟨1, 48⟩, .bool false, .int .i64 0])]
def tbl68 : List (Str × IV) := [(⟨32, 22248470822666314938692568397119675677137950638191323448941735236079264477232⟩, .tup [.int .i64 1, .int .i64 0]), (⟨32, 21796157974083048550319244236929488537086114760591164995662604048548353814576⟩, .tup [.int .i64 0, .int .i64 0])]
def tbl92 : List (Str × IV) := [(⟨1, 48⟩, .int .i64 0)]
theorem t100 : PureT Tryz.prog (CL tab0) 100 (gT tbl100) := pureT_tbl (CN_le no0 60) Tryz.func100 rfl (by kernel_rfl)
theorem t122 : PureT Tryz.prog (CL tab0) 122 (gT tbl122) := pureT_tbl (CN_le no0 60) Tryz.func122 rfl (by kernel_rfl)
theorem t120 : PureT Tryz.prog (CL tab0) 120 (gT tbl120) := pureT_tbl (CN_le no0 60) Tryz.func120 rfl (by kernel_rfl)
theorem t54 : PureT Tryz.prog (CL tab0) 54 (gT tbl54) := pureT_tbl (CN_le no0 60) Tryz.func54 rfl (by kernel_rfl)
theorem t68 : PureT Tryz.prog (CL tab0) 68 (gT tbl68) := pureT_tbl (CN_le no0 60) Tryz.func68 rfl (by kernel_rfl)
theorem t92 : PureT Tryz.prog (CL tab0) 92 (gT tbl92) := pureT_tbl (CN_le no0 60) Tryz.func92 rfl (by kernel_rfl)
def g7 (args : List IV) : Option IV :=
  match args with
  | [] => some (.bool true)
  | _ => none
theorem t7 : PureT Tryz.prog (CL tab0) 7 g7 := ⟨⟨_, _, Tryz.func7, rfl⟩, fun args v h => by
  unfold g7 at h
  split at h
  · injection h with h; subst h
    obtain ⟨h', e⟩ := awake7
    exact ⟨rfl, rfl, true, h', e⟩
  · cases h⟩
noncomputable def tab1 : Tab := ⟨ovQ [(55, pureF g55), (100, pureF (gT tbl100)), (122, pureF (gT tbl122)), (120, pureF (gT tbl120)), (54, pureF (gT tbl54)), (68, pureF (gT tbl68)), (92, pureF (gT tbl92)), (7, pureF g7)], pol⟩
theorem tab1_eq : tab1 = ⟨ovOf [(55, pureF g55), (100, pureF (gT tbl100)), (122, pureF (gT tbl122)), (120, pureF (gT tbl120)), (54, pureF (gT tbl54)), (68, pureF (gT tbl68)), (92, pureF (gT tbl92)), (7, pureF g7)], pol⟩ := by unfold tab1; rw [ovQ_eq]
theorem no1 : ∀ f, tabB f = false → tab1.ov f = none := by
  intro f hf
  rw [tab1_eq]
  simp only [tabB, List.any_cons, List.any_nil, Bool.or_false, Bool.or_eq_false_iff] at hf
  simp only [ovOf, hf, cond_false]
theorem step1 : OvStep tab1 := tab1_eq ▸ ovStep_of fun x hx args g => by
  simp only [List.mem_cons, List.not_mem_nil, or_false] at hx
  rcases hx with rfl | rfl | rfl | rfl | rfl | rfl | rfl | rfl
  all_goals exact pureF_step _ args g
theorem sound1 : ∀ w₀ S, CallS Tryz.prog w₀ S (CL tab1) := tab1_eq ▸ call_sound (fun w₀ S => ovS_of fun x hx => by
  simp only [List.mem_cons, List.not_mem_nil, or_false] at hx
  rcases hx with rfl | rfl | rfl | rfl | rfl | rfl | rfl | rfl
  · exact pureF_S sound0 noNum t55 w₀ S
  · exact pureF_S sound0 noNum t100 w₀ S
  · exact pureF_S sound0 noNum t122 w₀ S
  · exact pureF_S sound0 noNum t120 w₀ S
  · exact pureF_S sound0 noNum t54 w₀ S
  · exact pureF_S sound0 noNum t68 w₀ S
  · exact pureF_S sound0 noNum t92 w₀ S
  · exact pureF_S sound0 noNum t7 w₀ S) Tryz.checked.mixed noNum
theorem maskN (q : Int) (k : Nat) (m : Int) (hk : k ≤ 16) (hm : m = 2 ^ k - 1) : binN .and (.int .i64 q) (.int .i64 m) = some (.int .i64 (q % 2 ^ k)) := by
  subst hm
  rw [binN_and]
  have hp : (2 : Int) ^ k = ((2 ^ k : Nat) : Int) := by norm_cast
  have hle : (2 : Nat) ^ k ≤ 2 ^ 16 := Nat.pow_le_pow_right (by omega) hk
  have hpos : 0 < (2 : Nat) ^ k := Nat.pow_pos (by omega)
  have e : (BitVec.ofInt 64 q &&& BitVec.ofInt 64 (2 ^ k - 1)).toNat = (q % 2 ^ k).toNat := by
    rw [BitVec.toNat_and]
    have h7 : (BitVec.ofInt 64 ((2 : Int) ^ k - 1)).toNat = 2 ^ k - 1 := by
      rw [BitVec.toNat_ofInt, hp]
      generalize 2 ^ k = w at *
      have : (((w : Nat) : Int) - 1) % ((2 ^ 64 : Nat) : Int) = (w : Int) - 1 := Int.emod_eq_of_lt (by omega) (by omega)
      rw [this]; omega
    rw [h7, Nat.and_two_pow_sub_one_eq_mod, BitVec.toNat_ofInt, hp]
    have hd : ((2 ^ k : Nat) : Int) ∣ ((2 ^ 64 : Nat) : Int) := by
      refine Int.natCast_dvd_natCast.2 (Nat.pow_dvd_pow 2 (by omega))
    have h1 : 0 ≤ q % ((2 ^ 64 : Nat) : Int) := Int.emod_nonneg _ (by omega)
    have h2 : (q % ((2 ^ 64 : Nat) : Int)) % ((2 ^ k : Nat) : Int) = q % ((2 ^ k : Nat) : Int) := Int.emod_emod_of_dvd q hd
    rw [← h2]
    generalize q % ((2 ^ 64 : Nat) : Int) = z at *
    have h3 : z = (z.toNat : Int) := by omega
    rw [h3]
    norm_cast
  show some (IV.int .i64 (IntKind.i64.wrap (BitVec.ofInt 64 q &&& BitVec.ofInt 64 (2 ^ k - 1)).toNat)) = _
  rw [e]
  have h0 : 0 ≤ q % 2 ^ k := by rw [hp]; exact Int.emod_nonneg _ (by omega)
  have h1 : q % 2 ^ k < 2 ^ k := by rw [hp]; exact Int.emod_lt_of_pos _ (by omega)
  have h2 : (2 : Int) ^ k ≤ 65536 := by rw [hp]; omega
  rw [← wr_eq, wr_i64] <;> congr 2 <;> omega
theorem tmod_nn (a b : Int) (h : 0 ≤ a) : a.tmod b = a % b := Int.tmod_eq_emod_of_nonneg h
theorem gd0 : Gd H0 := ⟨fun b _ => rfl, rfl⟩
def s3 : IV := (.str ⟨58, 1934425782397992271362103357473152888963287078813908562939048253085999369380628355729689063135902783462526880103223200883948040172513554285⟩)
noncomputable def run3 (n : Int) : Option IV := (recN (b3 (CN tab1 200)) 1000 1 [.int .i64 n, s3, .int .i64 1] H0).val
theorem of_run3 {n : Int} (e : run3 n = some (.bool true)) : ∃ h', J3 tab1 1 [.int .i64 n, s3, .int .i64 1] H0 = .ok (.bool true) h' := by
  obtain ⟨h', e'⟩ := CRes.of_val e
  refine ⟨h', ?_⟩
  have := r3 (CN_le no1 200) 1000 1 [.int .i64 n, s3, .int .i64 1] H0 (by rw [e']; simp)
  rw [e'] at this; exact this
theorem nests3 (hall : ∀ n : Nat, n < 20 → run3 n = some (.bool true)) (a : Int) : ∃ h', CL tab1 3 [.int .i64 a] H0 = .ok (.bool true) h' := by
  have hp : 0 ≤ a % 2 ^ 5 % 20 ∧ a % 2 ^ 5 % 20 < 20 := by omega
  generalize hpe : a % 2 ^ 5 % 20 = p at hp
  obtain ⟨h', e⟩ := of_run3 (hall p.toNat (by omega))
  have e1 : ((p.toNat : Nat) : Int) = p := by omega
  rw [e1] at e
  refine ⟨h', c3 step1 rfl rfl gd0 ?_ (by simp)⟩
  have t1 : (a % 2 ^ 5).tmod 20 = p := by rw [tmod_nn _ _ (by omega)]; exact hpe
  unfold t3_0
  simp only [maskN a 5 31 (by omega) (by rfl), obind_some, binN_rem _ _ _ (show (20 : Int) ≠ 0 by omega), t1]
  exact e
end Go.Proofs.YtimjkkcondljeaaGreatDoor
