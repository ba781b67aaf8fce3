import Derived.Test.YtelhoddamlkfhaaGreatDoorM3
import Derived.Test.YtelhoddamlkfhaaGreatDoorM4
set_option linter.unusedVariables false
set_option maxRecDepth 100000
namespace Go.Proofs.YtelhoddamlkfhaaGreatDoor
open Go I
theorem m40 {cf cf' : CallF} {R R' : Rec} (hc : ∀ f l h, le (cf f l h) (cf' f l h)) (hR : ∀ i l h, le (R i l h) (R' i l h)) : (∀ (a0 a1 a5 : IV) (h : H), le (t40_0 cf R a0 a1 a5 h) (t40_0 cf' R' a0 a1 a5 h)) := by
  intros
  unfold t40_0
  with_reducible repeat' first
    | refine le_obind fun _ => ?_
    | refine le_callP ?_ (fun _ _ => ?_) (fun _ _ => ?_)
    | refine le_condK ?_ ?_
    | exact hR _ _ _
    | refine le_obind2 fun _ _ => ?_
    | refine le_obindH fun _ => ?_
    | refine le_spanK (fun _ _ _ => ?_) (fun _ _ => ?_)
    | exact hc _ _ _
    | refine le_bif ?_ ?_
    | refine le_guardK ?_ ?_ ?_
    | refine le_mapK fun _ _ => ?_
    | refine le_panK fun _ _ => ?_
    | refine le_funK fun _ _ => ?_
    | exact le_refl _
    | apply_assumption
noncomputable def b40 (cf : CallF) (R : Rec) : Rec := fun i l h =>
 br3 i 0 l (fun a0 a1 a5 => t40_0 cf R a0 a1 a5 h) <|
 .fail
theorem r40 {T : Tab} {cf : CallF} (hc : leC cf (CL T)) (n : Nat) : leR (recN (b40 cf) n) (J40 T) := recN_le (fun R hR i l h => by
  unfold b40
  refine le_br3 (J := fun i l => J40 T i l h) (fun _ a0 a1 a5 => le_e (fun hn => e40_0 rfl hn) ((m40 hc hR) a0 a1 a5 h)) ?_
  exact le_fail _) n
noncomputable def L40 (cf : CallF) (l : List IV) (st : I.Mode) (h : H) : Option (I.Mode × H) :=
 match l with
 | [a0, a1] => lvM st (lvK (t40_0 cf (recN (b40 cf) 1000000) a0 a1 (recV st) h))
 | _ => none
theorem lle40 {T : Tab} {cf : CallF} (hc : leC cf (CL T)) (l : List IV) (st : I.Mode) (h : H) : leO (L40 cf l st h) (LV Tryz.prog (CL T) 40 l st h) := by
  unfold L40
  split
  · exact lvM_le fun hst => lvK_le ((m40 hc (r40 hc _)) _ _ _ h) fun v h' e => l40 hst e
  · intro z hz; cases hz
theorem m98 {cf cf' : CallF} {R R' : Rec} (hc : ∀ f l h, le (cf f l h) (cf' f l h)) (hR : ∀ i l h, le (R i l h) (R' i l h)) : (∀ (a0 a1 a5 : IV) (h : H), le (t98_0 cf R a0 a1 a5 h) (t98_0 cf' R' a0 a1 a5 h)) := by
  intros
  unfold t98_0
  with_reducible repeat' first
    | refine le_obind fun _ => ?_
    | refine le_callP ?_ (fun _ _ => ?_) (fun _ _ => ?_)
    | refine le_condK ?_ ?_
    | exact hR _ _ _
    | refine le_obind2 fun _ _ => ?_
    | refine le_obindH fun _ => ?_
    | refine le_spanK (fun _ _ _ => ?_) (fun _ _ => ?_)
    | exact hc _ _ _
    | refine le_bif ?_ ?_
    | refine le_guardK ?_ ?_ ?_
    | refine le_mapK fun _ _ => ?_
    | refine le_panK fun _ _ => ?_
    | refine le_funK fun _ _ => ?_
    | exact le_refl _
    | apply_assumption
noncomputable def b98 (cf : CallF) (R : Rec) : Rec := fun i l h =>
 br3 i 0 l (fun a0 a1 a5 => t98_0 cf R a0 a1 a5 h) <|
 .fail
theorem r98 {T : Tab} {cf : CallF} (hc : leC cf (CL T)) (n : Nat) : leR (recN (b98 cf) n) (J98 T) := recN_le (fun R hR i l h => by
  unfold b98
  refine le_br3 (J := fun i l => J98 T i l h) (fun _ a0 a1 a5 => le_e (fun hn => e98_0 rfl hn) ((m98 hc hR) a0 a1 a5 h)) ?_
  exact le_fail _) n
noncomputable def L98 (cf : CallF) (l : List IV) (st : I.Mode) (h : H) : Option (I.Mode × H) :=
 match l with
 | [a0, a1] => lvM st (lvK (t98_0 cf (recN (b98 cf) 1000000) a0 a1 (recV st) h))
 | _ => none
theorem lle98 {T : Tab} {cf : CallF} (hc : leC cf (CL T)) (l : List IV) (st : I.Mode) (h : H) : leO (L98 cf l st h) (LV Tryz.prog (CL T) 98 l st h) := by
  unfold L98
  split
  · exact lvM_le fun hst => lvK_le ((m98 hc (r98 hc _)) _ _ _ h) fun v h' e => l98 hst e
  · intro z hz; cases hz
theorem m7 {cf cf' : CallF} {R R' : Rec} (hc : ∀ f l h, le (cf f l h) (cf' f l h)) (hR : ∀ i l h, le (R i l h) (R' i l h)) :
  (∀ (a0 a1 a2 : IV) (h : H), le (t7_0 cf R a0 a1 a2 h) (t7_0 cf' R' a0 a1 a2 h)) ∧
  (∀ (a2 a8 a10 a12 a13 a14 a71 : IV) (h : H), le (t7_2 cf R a2 a8 a10 a12 a13 a14 a71 h) (t7_2 cf' R' a2 a8 a10 a12 a13 a14 a71 h)) ∧
  (∀ (a2 a8 a10 a12 a13 a14 : IV) (h : H), le (t7_1 cf R a2 a8 a10 a12 a13 a14 h) (t7_1 cf' R' a2 a8 a10 a12 a13 a14 h)) ∧
  (∀ (a13 a15 : IV) (h : H), le (t7_3 cf R a13 a15 h) (t7_3 cf' R' a13 a15 h)) := by
  refine ⟨?_, ?_, ?_, ?_⟩
  all_goals intros
  all_goals first | unfold t7_0 | unfold t7_2 | unfold t7_1 | unfold t7_3
  all_goals
  with_reducible repeat' first
    | refine le_obind fun _ => ?_
    | refine le_callP ?_ (fun _ _ => ?_) (fun _ _ => ?_)
    | refine le_condK ?_ ?_
    | exact hR _ _ _
    | refine le_obind2 fun _ _ => ?_
    | refine le_obindH fun _ => ?_
    | refine le_spanK (fun _ _ _ => ?_) (fun _ _ => ?_)
    | exact hc _ _ _
    | refine le_bif ?_ ?_
    | refine le_guardK ?_ ?_ ?_
    | refine le_mapK fun _ _ => ?_
    | refine le_panK fun _ _ => ?_
    | refine le_funK fun _ _ => ?_
    | exact le_refl _
    | apply_assumption
noncomputable def b7 (cf : CallF) (R : Rec) : Rec := fun i l h =>
 br3 i 0 l (fun a0 a1 a2 => t7_0 cf R a0 a1 a2 h) <|
 br7 i 2 l (fun a2 a8 a10 a12 a13 a14 a71 => t7_2 cf R a2 a8 a10 a12 a13 a14 a71 h) <|
 br6 i 1 l (fun a2 a8 a10 a12 a13 a14 => t7_1 cf R a2 a8 a10 a12 a13 a14 h) <|
 br2 i 3 l (fun a13 a15 => t7_3 cf R a13 a15 h) <|
 .fail
theorem r7 {T : Tab} {cf : CallF} (hc : leC cf (CL T)) (n : Nat) : leR (recN (b7 cf) n) (J7 T) := recN_le (fun R hR i l h => by
  unfold b7
  refine le_br3 (J := fun i l => J7 T i l h) (fun _ a0 a1 a2 => le_e (fun hn => e7_0 rfl hn) ((m7 hc hR).1 a0 a1 a2 h)) ?_
  refine le_br7 (J := fun i l => J7 T i l h) (fun _ a2 a8 a10 a12 a13 a14 a71 => le_e (fun hn => e7_2 rfl hn) ((m7 hc hR).2.1 a2 a8 a10 a12 a13 a14 a71 h)) ?_
  refine le_br6 (J := fun i l => J7 T i l h) (fun _ a2 a8 a10 a12 a13 a14 => le_e (fun hn => e7_1 rfl hn) ((m7 hc hR).2.2.1 a2 a8 a10 a12 a13 a14 h)) ?_
  refine le_br2 (J := fun i l => J7 T i l h) (fun _ a13 a15 => le_e (fun hn => e7_3 rfl hn) ((m7 hc hR).2.2.2 a13 a15 h)) ?_
  exact le_fail _) n
theorem m9 {cf cf' : CallF} {R R' : Rec} (hc : ∀ f l h, le (cf f l h) (cf' f l h)) (hR : ∀ i l h, le (R i l h) (R' i l h)) :
  (∀ (a0 : IV) (h : H), le (t9_0 cf R a0 h) (t9_0 cf' R' a0 h)) ∧
  (∀ (a3 a5 : IV) (h : H), le (t9_1 cf R a3 a5 h) (t9_1 cf' R' a3 a5 h)) := by
  refine ⟨?_, ?_⟩
  all_goals intros
  all_goals first | unfold t9_0 | unfold t9_1
  all_goals
  with_reducible repeat' first
    | refine le_obind fun _ => ?_
    | refine le_callP ?_ (fun _ _ => ?_) (fun _ _ => ?_)
    | refine le_condK ?_ ?_
    | exact hR _ _ _
    | refine le_obind2 fun _ _ => ?_
    | refine le_obindH fun _ => ?_
    | refine le_spanK (fun _ _ _ => ?_) (fun _ _ => ?_)
    | exact hc _ _ _
    | refine le_bif ?_ ?_
    | refine le_guardK ?_ ?_ ?_
    | refine le_mapK fun _ _ => ?_
    | refine le_panK fun _ _ => ?_
    | refine le_funK fun _ _ => ?_
    | exact le_refl _
    | apply_assumption
noncomputable def b9 (cf : CallF) (R : Rec) : Rec := fun i l h =>
 br1 i 0 l (fun a0 => t9_0 cf R a0 h) <|
 br2 i 1 l (fun a3 a5 => t9_1 cf R a3 a5 h) <|
 .fail
theorem r9 {T : Tab} {cf : CallF} (hc : leC cf (CL T)) (n : Nat) : leR (recN (b9 cf) n) (J9 T) := recN_le (fun R hR i l h => by
  unfold b9
  refine le_br1 (J := fun i l => J9 T i l h) (fun _ a0 => le_e (fun hn => e9_0 rfl hn) ((m9 hc hR).1 a0 h)) ?_
  refine le_br2 (J := fun i l => J9 T i l h) (fun _ a3 a5 => le_e (fun hn => e9_1 rfl hn) ((m9 hc hR).2 a3 a5 h)) ?_
  exact le_fail _) n
theorem m10 {cf cf' : CallF} {R R' : Rec} (hc : ∀ f l h, le (cf f l h) (cf' f l h)) (hR : ∀ i l h, le (R i l h) (R' i l h)) :
  (∀ (a0 : IV) (h : H), le (t10_0 cf R a0 h) (t10_0 cf' R' a0 h)) ∧
  (∀ (a4 a24 : IV) (h : H), le (t10_1 cf R a4 a24 h) (t10_1 cf' R' a4 a24 h)) := by
  refine ⟨?_, ?_⟩
  all_goals intros
  all_goals first | unfold t10_0 | unfold t10_1
  all_goals
  with_reducible repeat' first
    | refine le_obind fun _ => ?_
    | refine le_callP ?_ (fun _ _ => ?_) (fun _ _ => ?_)
    | refine le_condK ?_ ?_
    | exact hR _ _ _
    | refine le_obind2 fun _ _ => ?_
    | refine le_obindH fun _ => ?_
    | refine le_spanK (fun _ _ _ => ?_) (fun _ _ => ?_)
    | exact hc _ _ _
    | refine le_bif ?_ ?_
    | refine le_guardK ?_ ?_ ?_
    | refine le_mapK fun _ _ => ?_
    | refine le_panK fun _ _ => ?_
    | refine le_funK fun _ _ => ?_
    | exact le_refl _
    | apply_assumption
noncomputable def b10 (cf : CallF) (R : Rec) : Rec := fun i l h =>
 br1 i 0 l (fun a0 => t10_0 cf R a0 h) <|
 br2 i 1 l (fun a4 a24 => t10_1 cf R a4 a24 h) <|
 .fail
theorem r10 {T : Tab} {cf : CallF} (hc : leC cf (CL T)) (n : Nat) : leR (recN (b10 cf) n) (J10 T) := recN_le (fun R hR i l h => by
  unfold b10
  refine le_br1 (J := fun i l => J10 T i l h) (fun _ a0 => le_e (fun hn => e10_0 rfl hn) ((m10 hc hR).1 a0 h)) ?_
  refine le_br2 (J := fun i l => J10 T i l h) (fun _ a4 a24 => le_e (fun hn => e10_1 rfl hn) ((m10 hc hR).2 a4 a24 h)) ?_
  exact le_fail _) n
theorem m12 {cf cf' : CallF} {R R' : Rec} (hc : ∀ f l h, le (cf f l h) (cf' f l h)) (hR : ∀ i l h, le (R i l h) (R' i l h)) : (∀ (h : H), le (t12_0 cf R h) (t12_0 cf' R' h)) := by
  intros
  unfold t12_0
  with_reducible repeat' first
    | refine le_obind fun _ => ?_
    | refine le_callP ?_ (fun _ _ => ?_) (fun _ _ => ?_)
    | refine le_condK ?_ ?_
    | exact hR _ _ _
    | refine le_obind2 fun _ _ => ?_
    | refine le_obindH fun _ => ?_
    | refine le_spanK (fun _ _ _ => ?_) (fun _ _ => ?_)
    | exact hc _ _ _
    | refine le_bif ?_ ?_
    | refine le_guardK ?_ ?_ ?_
    | refine le_mapK fun _ _ => ?_
    | refine le_panK fun _ _ => ?_
    | refine le_funK fun _ _ => ?_
    | exact le_refl _
    | apply_assumption
noncomputable def b12 (cf : CallF) (R : Rec) : Rec := fun i l h =>
 br0 i 0 l (t12_0 cf R h) <|
 .fail
theorem r12 {T : Tab} {cf : CallF} (hc : leC cf (CL T)) (n : Nat) : leR (recN (b12 cf) n) (J12 T) := recN_le (fun R hR i l h => by
  unfold b12
  refine le_br0 (J := fun i l => J12 T i l h) (fun _ => le_e (fun hn => e12_0 rfl hn) ((m12 hc hR) h)) ?_
  exact le_fail _) n
theorem m14 {cf cf' : CallF} {R R' : Rec} (hc : ∀ f l h, le (cf f l h) (cf' f l h)) (hR : ∀ i l h, le (R i l h) (R' i l h)) :
  (∀ (a0 : IV) (h : H), le (t14_0 cf R a0 h) (t14_0 cf' R' a0 h)) ∧
  (∀ (a4 a45 : IV) (h : H), le (t14_1 cf R a4 a45 h) (t14_1 cf' R' a4 a45 h)) := by
  refine ⟨?_, ?_⟩
  all_goals intros
  all_goals first | unfold t14_0 | unfold t14_1
  all_goals
  with_reducible repeat' first
    | refine le_obind fun _ => ?_
    | refine le_callP ?_ (fun _ _ => ?_) (fun _ _ => ?_)
    | refine le_condK ?_ ?_
    | exact hR _ _ _
    | refine le_obind2 fun _ _ => ?_
    | refine le_obindH fun _ => ?_
    | refine le_spanK (fun _ _ _ => ?_) (fun _ _ => ?_)
    | exact hc _ _ _
    | refine le_bif ?_ ?_
    | refine le_guardK ?_ ?_ ?_
    | refine le_mapK fun _ _ => ?_
    | refine le_panK fun _ _ => ?_
    | refine le_funK fun _ _ => ?_
    | exact le_refl _
    | apply_assumption
noncomputable def b14 (cf : CallF) (R : Rec) : Rec := fun i l h =>
 br1 i 0 l (fun a0 => t14_0 cf R a0 h) <|
 br2 i 1 l (fun a4 a45 => t14_1 cf R a4 a45 h) <|
 .fail
theorem r14 {T : Tab} {cf : CallF} (hc : leC cf (CL T)) (n : Nat) : leR (recN (b14 cf) n) (J14 T) := recN_le (fun R hR i l h => by
  unfold b14
  refine le_br1 (J := fun i l => J14 T i l h) (fun _ a0 => le_e (fun hn => e14_0 rfl hn) ((m14 hc hR).1 a0 h)) ?_
  refine le_br2 (J := fun i l => J14 T i l h) (fun _ a4 a45 => le_e (fun hn => e14_1 rfl hn) ((m14 hc hR).2 a4 a45 h)) ?_
  exact le_fail _) n
theorem m17 {cf cf' : CallF} {R R' : Rec} (hc : ∀ f l h, le (cf f l h) (cf' f l h)) (hR : ∀ i l h, le (R i l h) (R' i l h)) : (∀ (a0 : IV) (h : H), le (t17_0 cf R a0 h) (t17_0 cf' R' a0 h)) := by
  intros
  unfold t17_0
  with_reducible repeat' first
    | refine le_obind fun _ => ?_
    | refine le_callP ?_ (fun _ _ => ?_) (fun _ _ => ?_)
    | refine le_condK ?_ ?_
    | exact hR _ _ _
    | refine le_obind2 fun _ _ => ?_
    | refine le_obindH fun _ => ?_
    | refine le_spanK (fun _ _ _ => ?_) (fun _ _ => ?_)
    | exact hc _ _ _
    | refine le_bif ?_ ?_
    | refine le_guardK ?_ ?_ ?_
    | refine le_mapK fun _ _ => ?_
    | refine le_panK fun _ _ => ?_
    | refine le_funK fun _ _ => ?_
    | exact le_refl _
    | apply_assumption
noncomputable def b17 (cf : CallF) (R : Rec) : Rec := fun i l h =>
 br1 i 0 l (fun a0 => t17_0 cf R a0 h) <|
 .fail
theorem r17 {T : Tab} {cf : CallF} (hc : leC cf (CL T)) (n : Nat) : leR (recN (b17 cf) n) (J17 T) := recN_le (fun R hR i l h => by
  unfold b17
  refine le_br1 (J := fun i l => J17 T i l h) (fun _ a0 => le_e (fun hn => e17_0 rfl hn) ((m17 hc hR) a0 h)) ?_
  exact le_fail _) n
theorem m18 {cf cf' : CallF} {R R' : Rec} (hc : ∀ f l h, le (cf f l h) (cf' f l h)) (hR : ∀ i l h, le (R i l h) (R' i l h)) :
  (∀ (a0 : IV) (h : H), le (t18_0 cf R a0 h) (t18_0 cf' R' a0 h)) ∧
  (∀ (a0 a4 a5 a6 : IV) (h : H), le (t18_1 cf R a0 a4 a5 a6 h) (t18_1 cf' R' a0 a4 a5 a6 h)) ∧
  (∀ (a0 a4 a5 a6 : IV) (h : H), le (t18_2 cf R a0 a4 a5 a6 h) (t18_2 cf' R' a0 a4 a5 a6 h)) := by
  refine ⟨?_, ?_, ?_⟩
  all_goals intros
  all_goals first | unfold t18_0 | unfold t18_1 | unfold t18_2
  all_goals
  with_reducible repeat' first
    | refine le_obind fun _ => ?_
    | refine le_callP ?_ (fun _ _ => ?_) (fun _ _ => ?_)
    | refine le_condK ?_ ?_
    | exact hR _ _ _
    | refine le_obind2 fun _ _ => ?_
    | refine le_obindH fun _ => ?_
    | refine le_spanK (fun _ _ _ => ?_) (fun _ _ => ?_)
    | exact hc _ _ _
    | refine le_bif ?_ ?_
    | refine le_guardK ?_ ?_ ?_
    | refine le_mapK fun _ _ => ?_
    | refine le_panK fun _ _ => ?_
    | refine le_funK fun _ _ => ?_
    | exact le_refl _
    | apply_assumption
noncomputable def b18 (cf : CallF) (R : Rec) : Rec := fun i l h =>
 br1 i 0 l (fun a0 => t18_0 cf R a0 h) <|
 br4 i 1 l (fun a0 a4 a5 a6 => t18_1 cf R a0 a4 a5 a6 h) <|
 br4 i 2 l (fun a0 a4 a5 a6 => t18_2 cf R a0 a4 a5 a6 h) <|
 .fail
theorem r18 {T : Tab} {cf : CallF} (hc : leC cf (CL T)) (n : Nat) : leR (recN (b18 cf) n) (J18 T) := recN_le (fun R hR i l h => by
  unfold b18
  refine le_br1 (J := fun i l => J18 T i l h) (fun _ a0 => le_e (fun hn => e18_0 rfl hn) ((m18 hc hR).1 a0 h)) ?_
  refine le_br4 (J := fun i l => J18 T i l h) (fun _ a0 a4 a5 a6 => le_e (fun hn => e18_1 rfl hn) ((m18 hc hR).2.1 a0 a4 a5 a6 h)) ?_
  refine le_br4 (J := fun i l => J18 T i l h) (fun _ a0 a4 a5 a6 => le_e (fun hn => e18_2 rfl hn) ((m18 hc hR).2.2 a0 a4 a5 a6 h)) ?_
  exact le_fail _) n
theorem m19 {cf cf' : CallF} {R R' : Rec} (hc : ∀ f l h, le (cf f l h) (cf' f l h)) (hR : ∀ i l h, le (R i l h) (R' i l h)) :
  (∀ (a0 : IV) (h : H), le (t19_0 cf R a0 h) (t19_0 cf' R' a0 h)) ∧
  (∀ (a4 a5 : IV) (h : H), le (t19_1 cf R a4 a5 h) (t19_1 cf' R' a4 a5 h)) ∧
  (∀ (a4 a5 a27 : IV) (h : H), le (t19_2 cf R a4 a5 a27 h) (t19_2 cf' R' a4 a5 a27 h)) := by
  refine ⟨?_, ?_, ?_⟩
  all_goals intros
  all_goals first | unfold t19_0 | unfold t19_1 | unfold t19_2
  all_goals
  with_reducible repeat' first
    | refine le_obind fun _ => ?_
    | refine le_callP ?_ (fun _ _ => ?_) (fun _ _ => ?_)
    | refine le_condK ?_ ?_
    | exact hR _ _ _
    | refine le_obind2 fun _ _ => ?_
    | refine le_obindH fun _ => ?_
    | refine le_spanK (fun _ _ _ => ?_) (fun _ _ => ?_)
    | exact hc _ _ _
    | refine le_bif ?_ ?_
    | refine le_guardK ?_ ?_ ?_
    | refine le_mapK fun _ _ => ?_
    | refine le_panK fun _ _ => ?_
    | refine le_funK fun _ _ => ?_
    | exact le_refl _
    | apply_assumption
noncomputable def b19 (cf : CallF) (R : Rec) : Rec := fun i l h =>
 br1 i 0 l (fun a0 => t19_0 cf R a0 h) <|
 br2 i 1 l (fun a4 a5 => t19_1 cf R a4 a5 h) <|
 br3 i 2 l (fun a4 a5 a27 => t19_2 cf R a4 a5 a27 h) <|
 .fail
theorem r19 {T : Tab} {cf : CallF} (hc : leC cf (CL T)) (n : Nat) : leR (recN (b19 cf) n) (J19 T) := recN_le (fun R hR i l h => by
  unfold b19
  refine le_br1 (J := fun i l => J19 T i l h) (fun _ a0 => le_e (fun hn => e19_0 rfl hn) ((m19 hc hR).1 a0 h)) ?_
  refine le_br2 (J := fun i l => J19 T i l h) (fun _ a4 a5 => le_e (fun hn => e19_1 rfl hn) ((m19 hc hR).2.1 a4 a5 h)) ?_
  refine le_br3 (J := fun i l => J19 T i l h) (fun _ a4 a5 a27 => le_e (fun hn => e19_2 rfl hn) ((m19 hc hR).2.2 a4 a5 a27 h)) ?_
  exact le_fail _) n
noncomputable def u20_0 (cf : CallF) (L : List IV → I.Mode → H → Option (I.Mode × H)) (D : List IV → Rec) (R : Rec) (a0 : IV) (h : H) : CRes :=
 obind2 (newI h [(.str ⟨0, 0⟩)]) fun x1 h2 =>
 obind2 (newI h2 [(.bool false)]) fun x3 h4 =>
 obind (bldK [.nilPtr, .nilSlice] [(0, 2)] []) fun x5 =>
 obind2 (newB h4 (IV.cells x5) 93) fun x6 h7 =>
 funK a0 fun f13 c14 => callP (cf f13 ([x6] ++ c14) h7) (dfP (L [x1, x3]) fun h8 =>
 obind (ld0 h8 x1) fun x9 =>
 obind (ld0 h8 x3) fun x10 =>
 .ok (.tup [x9, x10]) h8) fun x11 h12 =>
 obind (nilI x6) fun x15 =>
 obind (fadK 0 x15) fun x16 =>
 callP (cf 41 [x16] h12) (fun v17 h18 =>
 obind (nilI x6) fun x22 =>
 obind (fadK 0 x22) fun x23 =>
 (dfP (L [x1, x3]) fun h19 =>
 obind (ld0 h19 x1) fun x20 =>
 obind (ld0 h19 x3) fun x21 =>
 .ok (.tup [x20, x21]) h19) v17 h18) fun x24 h25 =>
 obind (nilI x6) fun x26 =>
 obind (fadK 0 x26) fun x27 =>
 callP (cf 42 [x27] h25) (fun v28 h29 =>
 (dfP (L [x1, x3]) fun h30 =>
 obind (ld0 h30 x1) fun x31 =>
 obind (ld0 h30 x3) fun x32 =>
 .ok (.tup [x31, x32]) h30) v28 h29) fun x33 h34 =>
 obind (binN .leq x33 (.int .i64 65536)) fun x35 =>
 obindH (stA 1 h34 x1 x24) fun h36 =>
 obind (binN .leq x33 (.int .i64 65536)) fun x37 =>
 bif IV.beq x37 x35 then
 obindH (stA 1 h36 x3 x35) fun h38 =>
 dfK (L [x1, x3] .ret h38) fun h39 =>
 obind (ld0 h39 x1) fun x40 =>
 obind (ld0 h39 x3) fun x41 =>
 .ok (.tup [x40, x41]) h39
 else .fail
theorem m20 {cf cf' : CallF} {L L' : List IV → I.Mode → H → Option (I.Mode × H)} {D D' : List IV → Rec} {R R' : Rec} (hc : ∀ f l h, le (cf f l h) (cf' f l h)) (hL : ∀ l st h, leO (L l st h) (L' l st h)) (hD : ∀ l i x h, le (D l i x h) (D' l i x h)) (hR : ∀ i l h, le (R i l h) (R' i l h)) : (∀ (a0 : IV) (h : H), le (u20_0 cf L D R a0 h) (u20_0 cf' L' D' R' a0 h)) := by
  intros
  unfold u20_0
  with_reducible repeat' first
    | refine le_obind fun _ => ?_
    | refine le_callP ?_ (fun _ _ => ?_) (fun _ _ => ?_)
    | refine le_condK ?_ ?_
    | exact hR _ _ _
    | refine le_obind2 fun _ _ => ?_
    | refine le_obindH fun _ => ?_
    | refine le_spanK (fun _ _ _ => ?_) (fun _ _ => ?_)
    | exact hc _ _ _
    | refine le_bif ?_ ?_
    | refine le_guardK ?_ ?_ ?_
    | refine le_mapK fun _ _ => ?_
    | refine le_panK fun _ _ => ?_
    | refine le_funK fun _ _ => ?_
    | exact hD _ _ _ _
    | refine le_dfP (hL _) (fun _ => ?_)
    | refine le_dfK (hL _ _ _) (fun _ => ?_)
    | exact le_refl _
    | apply_assumption
noncomputable def b20 (cf : CallF) (R : Rec) : Rec := fun i l h =>
 br1 i 0 l (fun a0 => u20_0 cf (L40 cf) (fun _ _ _ _ => .fail) R a0 h) <|
 .fail
theorem r20 {T : Tab} {cf : CallF} (hc : leC cf (CL T)) (n : Nat) : leR (recN (b20 cf) n) (J20 T) := recN_le (fun R hR i l h => by
  unfold b20
  refine le_br1 (J := fun i l => J20 T i l h) (fun _ a0 => le_e (fun hn => e20_0 (r := u20_0 (CL T) (fun l => LV Tryz.prog (CL T) 40 l) (fun _ _ _ _ => .fail) (J20 T) a0 h) rfl hn) ((m20 hc (lle40 hc) (fun _ _ _ _ => le_fail _) hR) a0 h)) ?_
  exact le_fail _) n
theorem m21 {cf cf' : CallF} {R R' : Rec} (hc : ∀ f l h, le (cf f l h) (cf' f l h)) (hR : ∀ i l h, le (R i l h) (R' i l h)) :
  (∀ (a0 a1 : IV) (h : H), le (t21_0 cf R a0 a1 h) (t21_0 cf' R' a0 a1 h)) ∧
  (∀ (a0 a5 a6 a7 : IV) (h : H), le (t21_1 cf R a0 a5 a6 a7 h) (t21_1 cf' R' a0 a5 a6 a7 h)) := by
  refine ⟨?_, ?_⟩
  all_goals intros
  all_goals first | unfold t21_0 | unfold t21_1
  all_goals
  with_reducible repeat' first
    | refine le_obind fun _ => ?_
    | refine le_callP ?_ (fun _ _ => ?_) (fun _ _ => ?_)
    | refine le_condK ?_ ?_
    | exact hR _ _ _
    | refine le_obind2 fun _ _ => ?_
    | refine le_obindH fun _ => ?_
    | refine le_spanK (fun _ _ _ => ?_) (fun _ _ => ?_)
    | exact hc _ _ _
    | refine le_bif ?_ ?_
    | refine le_guardK ?_ ?_ ?_
    | refine le_mapK fun _ _ => ?_
    | refine le_panK fun _ _ => ?_
    | refine le_funK fun _ _ => ?_
    | exact le_refl _
    | apply_assumption
noncomputable def b21 (cf : CallF) (R : Rec) : Rec := fun i l h =>
 br2 i 0 l (fun a0 a1 => t21_0 cf R a0 a1 h) <|
 br4 i 1 l (fun a0 a5 a6 a7 => t21_1 cf R a0 a5 a6 a7 h) <|
 .fail
theorem r21 {T : Tab} {cf : CallF} (hc : leC cf (CL T)) (n : Nat) : leR (recN (b21 cf) n) (J21 T) := recN_le (fun R hR i l h => by
  unfold b21
  refine le_br2 (J := fun i l => J21 T i l h) (fun _ a0 a1 => le_e (fun hn => e21_0 rfl hn) ((m21 hc hR).1 a0 a1 h)) ?_
  refine le_br4 (J := fun i l => J21 T i l h) (fun _ a0 a5 a6 a7 => le_e (fun hn => e21_1 rfl hn) ((m21 hc hR).2 a0 a5 a6 a7 h)) ?_
  exact le_fail _) n
theorem m22 {cf cf' : CallF} {R R' : Rec} (hc : ∀ f l h, le (cf f l h) (cf' f l h)) (hR : ∀ i l h, le (R i l h) (R' i l h)) :
  (∀ (a0 a1 : IV) (h : H), le (t22_0 cf R a0 a1 h) (t22_0 cf' R' a0 a1 h)) ∧
  (∀ (a2 a3 : IV) (h : H), le (t22_1 cf R a2 a3 h) (t22_1 cf' R' a2 a3 h)) ∧
  (∀ (a2 a42 a43 a44 : IV) (h : H), le (t22_2 cf R a2 a42 a43 a44 h) (t22_2 cf' R' a2 a42 a43 a44 h)) := by
  refine ⟨?_, ?_, ?_⟩
  all_goals intros
  all_goals first | unfold t22_0 | unfold t22_1 | unfold t22_2
  all_goals
  with_reducible repeat' first
    | refine le_obind fun _ => ?_
    | refine le_callP ?_ (fun _ _ => ?_) (fun _ _ => ?_)
    | refine le_condK ?_ ?_
    | exact hR _ _ _
    | refine le_obind2 fun _ _ => ?_
    | refine le_obindH fun _ => ?_
    | refine le_spanK (fun _ _ _ => ?_) (fun _ _ => ?_)
    | exact hc _ _ _
    | refine le_bif ?_ ?_
    | refine le_guardK ?_ ?_ ?_
    | refine le_mapK fun _ _ => ?_
    | refine le_panK fun _ _ => ?_
    | refine le_funK fun _ _ => ?_
    | exact le_refl _
    | apply_assumption
noncomputable def b22 (cf : CallF) (R : Rec) : Rec := fun i l h =>
 br2 i 0 l (fun a0 a1 => t22_0 cf R a0 a1 h) <|
 br2 i 1 l (fun a2 a3 => t22_1 cf R a2 a3 h) <|
 br4 i 2 l (fun a2 a42 a43 a44 => t22_2 cf R a2 a42 a43 a44 h) <|
 .fail
theorem r22 {T : Tab} {cf : CallF} (hc : leC cf (CL T)) (n : Nat) : leR (recN (b22 cf) n) (J22 T) := recN_le (fun R hR i l h => by
  unfold b22
  refine le_br2 (J := fun i l => J22 T i l h) (fun _ a0 a1 => le_e (fun hn => e22_0 rfl hn) ((m22 hc hR).1 a0 a1 h)) ?_
  refine le_br2 (J := fun i l => J22 T i l h) (fun _ a2 a3 => le_e (fun hn => e22_1 rfl hn) ((m22 hc hR).2.1 a2 a3 h)) ?_
  refine le_br4 (J := fun i l => J22 T i l h) (fun _ a2 a42 a43 a44 => le_e (fun hn => e22_2 rfl hn) ((m22 hc hR).2.2 a2 a42 a43 a44 h)) ?_
  exact le_fail _) n
theorem m23 {cf cf' : CallF} {R R' : Rec} (hc : ∀ f l h, le (cf f l h) (cf' f l h)) (hR : ∀ i l h, le (R i l h) (R' i l h)) :
  (∀ (a0 a1 a2 : IV) (h : H), le (t23_0 cf R a0 a1 a2 h) (t23_0 cf' R' a0 a1 a2 h)) ∧
  (∀ (a1 a2 a15 a16 a17 : IV) (h : H), le (t23_1 cf R a1 a2 a15 a16 a17 h) (t23_1 cf' R' a1 a2 a15 a16 a17 h)) := by
  refine ⟨?_, ?_⟩
  all_goals intros
  all_goals first | unfold t23_0 | unfold t23_1
  all_goals
  with_reducible repeat' first
    | refine le_obind fun _ => ?_
    | refine le_callP ?_ (fun _ _ => ?_) (fun _ _ => ?_)
    | refine le_condK ?_ ?_
    | exact hR _ _ _
    | refine le_obind2 fun _ _ => ?_
    | refine le_obindH fun _ => ?_
    | refine le_spanK (fun _ _ _ => ?_) (fun _ _ => ?_)
    | exact hc _ _ _
    | refine le_bif ?_ ?_
    | refine le_guardK ?_ ?_ ?_
    | refine le_mapK fun _ _ => ?_
    | refine le_panK fun _ _ => ?_
    | refine le_funK fun _ _ => ?_
    | exact le_refl _
    | apply_assumption
noncomputable def b23 (cf : CallF) (R : Rec) : Rec := fun i l h =>
 br3 i 0 l (fun a0 a1 a2 => t23_0 cf R a0 a1 a2 h) <|
 br5 i 1 l (fun a1 a2 a15 a16 a17 => t23_1 cf R a1 a2 a15 a16 a17 h) <|
 .fail
theorem r23 {T : Tab} {cf : CallF} (hc : leC cf (CL T)) (n : Nat) : leR (recN (b23 cf) n) (J23 T) := recN_le (fun R hR i l h => by
  unfold b23
  refine le_br3 (J := fun i l => J23 T i l h) (fun _ a0 a1 a2 => le_e (fun hn => e23_0 rfl hn) ((m23 hc hR).1 a0 a1 a2 h)) ?_
  refine le_br5 (J := fun i l => J23 T i l h) (fun _ a1 a2 a15 a16 a17 => le_e (fun hn => e23_1 rfl hn) ((m23 hc hR).2 a1 a2 a15 a16 a17 h)) ?_
  exact le_fail _) n
theorem m24 {cf cf' : CallF} {R R' : Rec} (hc : ∀ f l h, le (cf f l h) (cf' f l h)) (hR : ∀ i l h, le (R i l h) (R' i l h)) : (∀ (a0 : IV) (h : H), le (t24_0 cf R a0 h) (t24_0 cf' R' a0 h)) := by
  intros
  unfold t24_0
  with_reducible repeat' first
    | refine le_obind fun _ => ?_
    | refine le_callP ?_ (fun _ _ => ?_) (fun _ _ => ?_)
    | refine le_condK ?_ ?_
    | exact hR _ _ _
    | refine le_obind2 fun _ _ => ?_
    | refine le_obindH fun _ => ?_
    | refine le_spanK (fun _ _ _ => ?_) (fun _ _ => ?_)
    | exact hc _ _ _
    | refine le_bif ?_ ?_
    | refine le_guardK ?_ ?_ ?_
    | refine le_mapK fun _ _ => ?_
    | refine le_panK fun _ _ => ?_
    | refine le_funK fun _ _ => ?_
    | exact le_refl _
    | apply_assumption
noncomputable def b24 (cf : CallF) (R : Rec) : Rec := fun i l h =>
 br1 i 0 l (fun a0 => t24_0 cf R a0 h) <|
 .fail
theorem r24 {T : Tab} {cf : CallF} (hc : leC cf (CL T)) (n : Nat) : leR (recN (b24 cf) n) (J24 T) := recN_le (fun R hR i l h => by
  unfold b24
  refine le_br1 (J := fun i l => J24 T i l h) (fun _ a0 => le_e (fun hn => e24_0 rfl hn) ((m24 hc hR) a0 h)) ?_
  exact le_fail _) n
theorem m25 {cf cf' : CallF} {R R' : Rec} (hc : ∀ f l h, le (cf f l h) (cf' f l h)) (hR : ∀ i l h, le (R i l h) (R' i l h)) : (∀ (a0 a1 : IV) (h : H), le (t25_0 cf R a0 a1 h) (t25_0 cf' R' a0 a1 h)) := by
  intros
  unfold t25_0
  with_reducible repeat' first
    | refine le_obind fun _ => ?_
    | refine le_callP ?_ (fun _ _ => ?_) (fun _ _ => ?_)
    | refine le_condK ?_ ?_
    | exact hR _ _ _
    | refine le_obind2 fun _ _ => ?_
    | refine le_obindH fun _ => ?_
    | refine le_spanK (fun _ _ _ => ?_) (fun _ _ => ?_)
    | exact hc _ _ _
    | refine le_bif ?_ ?_
    | refine le_guardK ?_ ?_ ?_
    | refine le_mapK fun _ _ => ?_
    | refine le_panK fun _ _ => ?_
    | refine le_funK fun _ _ => ?_
    | exact le_refl _
    | apply_assumption
noncomputable def b25 (cf : CallF) (R : Rec) : Rec := fun i l h =>
 br2 i 0 l (fun a0 a1 => t25_0 cf R a0 a1 h) <|
 .fail
theorem r25 {T : Tab} {cf : CallF} (hc : leC cf (CL T)) (n : Nat) : leR (recN (b25 cf) n) (J25 T) := recN_le (fun R hR i l h => by
  unfold b25
  refine le_br2 (J := fun i l => J25 T i l h) (fun _ a0 a1 => le_e (fun hn => e25_0 rfl hn) ((m25 hc hR) a0 a1 h)) ?_
  exact le_fail _) n
theorem m27 {cf cf' : CallF} {R R' : Rec} (hc : ∀ f l h, le (cf f l h) (cf' f l h)) (hR : ∀ i l h, le (R i l h) (R' i l h)) : (∀ (a0 a1 : IV) (h : H), le (t27_0 cf R a0 a1 h) (t27_0 cf' R' a0 a1 h)) := by
  intros
  unfold t27_0
  with_reducible repeat' first
    | refine le_obind fun _ => ?_
    | refine le_callP ?_ (fun _ _ => ?_) (fun _ _ => ?_)
    | refine le_condK ?_ ?_
    | exact hR _ _ _
    | refine le_obind2 fun _ _ => ?_
    | refine le_obindH fun _ => ?_
    | refine le_spanK (fun _ _ _ => ?_) (fun _ _ => ?_)
    | exact hc _ _ _
    | refine le_bif ?_ ?_
    | refine le_guardK ?_ ?_ ?_
    | refine le_mapK fun _ _ => ?_
    | refine le_panK fun _ _ => ?_
    | refine le_funK fun _ _ => ?_
    | exact le_refl _
    | apply_assumption
noncomputable def b27 (cf : CallF) (R : Rec) : Rec := fun i l h =>
 br2 i 0 l (fun a0 a1 => t27_0 cf R a0 a1 h) <|
 .fail
theorem r27 {T : Tab} {cf : CallF} (hc : leC cf (CL T)) (n : Nat) : leR (recN (b27 cf) n) (J27 T) := recN_le (fun R hR i l h => by
  unfold b27
  refine le_br2 (J := fun i l => J27 T i l h) (fun _ a0 a1 => le_e (fun hn => e27_0 rfl hn) ((m27 hc hR) a0 a1 h)) ?_
  exact le_fail _) n
theorem m28 {cf cf' : CallF} {R R' : Rec} (hc : ∀ f l h, le (cf f l h) (cf' f l h)) (hR : ∀ i l h, le (R i l h) (R' i l h)) :
  (∀ (a0 a1 : IV) (h : H), le (t28_0 cf R a0 a1 h) (t28_0 cf' R' a0 a1 h)) ∧
  (∀ (a2 a3 : IV) (h : H), le (t28_1 cf R a2 a3 h) (t28_1 cf' R' a2 a3 h)) ∧
  (∀ (a2 a3 : IV) (h : H), le (t28_2 cf R a2 a3 h) (t28_2 cf' R' a2 a3 h)) := by
  refine ⟨?_, ?_, ?_⟩
  all_goals intros
  all_goals first | unfold t28_0 | unfold t28_1 | unfold t28_2
  all_goals
  with_reducible repeat' first
    | refine le_obind fun _ => ?_
    | refine le_callP ?_ (fun _ _ => ?_) (fun _ _ => ?_)
    | refine le_condK ?_ ?_
    | exact hR _ _ _
    | refine le_obind2 fun _ _ => ?_
    | refine le_obindH fun _ => ?_
    | refine le_spanK (fun _ _ _ => ?_) (fun _ _ => ?_)
    | exact hc _ _ _
    | refine le_bif ?_ ?_
    | refine le_guardK ?_ ?_ ?_
    | refine le_mapK fun _ _ => ?_
    | refine le_panK fun _ _ => ?_
    | refine le_funK fun _ _ => ?_
    | exact le_refl _
    | apply_assumption
noncomputable def b28 (cf : CallF) (R : Rec) : Rec := fun i l h =>
 br2 i 0 l (fun a0 a1 => t28_0 cf R a0 a1 h) <|
 br2 i 1 l (fun a2 a3 => t28_1 cf R a2 a3 h) <|
 br2 i 2 l (fun a2 a3 => t28_2 cf R a2 a3 h) <|
 .fail
theorem r28 {T : Tab} {cf : CallF} (hc : leC cf (CL T)) (n : Nat) : leR (recN (b28 cf) n) (J28 T) := recN_le (fun R hR i l h => by
  unfold b28
  refine le_br2 (J := fun i l => J28 T i l h) (fun _ a0 a1 => le_e (fun hn => e28_0 rfl hn) ((m28 hc hR).1 a0 a1 h)) ?_
  refine le_br2 (J := fun i l => J28 T i l h) (fun _ a2 a3 => le_e (fun hn => e28_1 rfl hn) ((m28 hc hR).2.1 a2 a3 h)) ?_
  refine le_br2 (J := fun i l => J28 T i l h) (fun _ a2 a3 => le_e (fun hn => e28_2 rfl hn) ((m28 hc hR).2.2 a2 a3 h)) ?_
  exact le_fail _) n
theorem m29 {cf cf' : CallF} {R R' : Rec} (hc : ∀ f l h, le (cf f l h) (cf' f l h)) (hR : ∀ i l h, le (R i l h) (R' i l h)) : (∀ (a0 a1 : IV) (h : H), le (t29_0 cf R a0 a1 h) (t29_0 cf' R' a0 a1 h)) := by
  intros
  unfold t29_0
  with_reducible repeat' first
    | refine le_obind fun _ => ?_
    | refine le_callP ?_ (fun _ _ => ?_) (fun _ _ => ?_)
    | refine le_condK ?_ ?_
    | exact hR _ _ _
    | refine le_obind2 fun _ _ => ?_
    | refine le_obindH fun _ => ?_
    | refine le_spanK (fun _ _ _ => ?_) (fun _ _ => ?_)
    | exact hc _ _ _
    | refine le_bif ?_ ?_
    | refine le_guardK ?_ ?_ ?_
    | refine le_mapK fun _ _ => ?_
    | refine le_panK fun _ _ => ?_
    | refine le_funK fun _ _ => ?_
    | exact le_refl _
    | apply_assumption
noncomputable def b29 (cf : CallF) (R : Rec) : Rec := fun i l h =>
 br2 i 0 l (fun a0 a1 => t29_0 cf R a0 a1 h) <|
 .fail
theorem r29 {T : Tab} {cf : CallF} (hc : leC cf (CL T)) (n : Nat) : leR (recN (b29 cf) n) (J29 T) := recN_le (fun R hR i l h => by
  unfold b29
  refine le_br2 (J := fun i l => J29 T i l h) (fun _ a0 a1 => le_e (fun hn => e29_0 rfl hn) ((m29 hc hR) a0 a1 h)) ?_
  exact le_fail _) n
theorem m35 {cf cf' : CallF} {R R' : Rec} (hc : ∀ f l h, le (cf f l h) (cf' f l h)) (hR : ∀ i l h, le (R i l h) (R' i l h)) : (∀ (a0 a1 a2 : IV) (h : H), le (t35_0 cf R a0 a1 a2 h) (t35_0 cf' R' a0 a1 a2 h)) := by
  intros
  unfold t35_0
  with_reducible repeat' first
    | refine le_obind fun _ => ?_
    | refine le_callP ?_ (fun _ _ => ?_) (fun _ _ => ?_)
    | refine le_condK ?_ ?_
    | exact hR _ _ _
    | refine le_obind2 fun _ _ => ?_
    | refine le_obindH fun _ => ?_
    | refine le_spanK (fun _ _ _ => ?_) (fun _ _ => ?_)
    | exact hc _ _ _
    | refine le_bif ?_ ?_
    | refine le_guardK ?_ ?_ ?_
    | refine le_mapK fun _ _ => ?_
    | refine le_panK fun _ _ => ?_
    | refine le_funK fun _ _ => ?_
    | exact le_refl _
    | apply_assumption
noncomputable def b35 (cf : CallF) (R : Rec) : Rec := fun i l h =>
 br3 i 0 l (fun a0 a1 a2 => t35_0 cf R a0 a1 a2 h) <|
 .fail
theorem r35 {T : Tab} {cf : CallF} (hc : leC cf (CL T)) (n : Nat) : leR (recN (b35 cf) n) (J35 T) := recN_le (fun R hR i l h => by
  unfold b35
  refine le_br3 (J := fun i l => J35 T i l h) (fun _ a0 a1 a2 => le_e (fun hn => e35_0 rfl hn) ((m35 hc hR) a0 a1 a2 h)) ?_
  exact le_fail _) n
theorem m36 {cf cf' : CallF} {R R' : Rec} (hc : ∀ f l h, le (cf f l h) (cf' f l h)) (hR : ∀ i l h, le (R i l h) (R' i l h)) :
  (∀ (a0 a1 : IV) (h : H), le (t36_0 cf R a0 a1 h) (t36_0 cf' R' a0 a1 h)) ∧
  (∀ (a0 a1 : IV) (h : H), le (t36_1 cf R a0 a1 h) (t36_1 cf' R' a0 a1 h)) ∧
  (∀ (a0 a5 : IV) (h : H), le (t36_2 cf R a0 a5 h) (t36_2 cf' R' a0 a5 h)) := by
  refine ⟨?_, ?_, ?_⟩
  all_goals intros
  all_goals first | unfold t36_0 | unfold t36_1 | unfold t36_2
  all_goals
  with_reducible repeat' first
    | refine le_obind fun _ => ?_
    | refine le_callP ?_ (fun _ _ => ?_) (fun _ _ => ?_)
    | refine le_condK ?_ ?_
    | exact hR _ _ _
    | refine le_obind2 fun _ _ => ?_
    | refine le_obindH fun _ => ?_
    | refine le_spanK (fun _ _ _ => ?_) (fun _ _ => ?_)
    | exact hc _ _ _
    | refine le_bif ?_ ?_
    | refine le_guardK ?_ ?_ ?_
    | refine le_mapK fun _ _ => ?_
    | refine le_panK fun _ _ => ?_
    | refine le_funK fun _ _ => ?_
    | exact le_refl _
    | apply_assumption
noncomputable def b36 (cf : CallF) (R : Rec) : Rec := fun i l h =>
 br2 i 0 l (fun a0 a1 => t36_0 cf R a0 a1 h) <|
 br2 i 1 l (fun a0 a1 => t36_1 cf R a0 a1 h) <|
 br2 i 2 l (fun a0 a5 => t36_2 cf R a0 a5 h) <|
 .fail
theorem r36 {T : Tab} {cf : CallF} (hc : leC cf (CL T)) (n : Nat) : leR (recN (b36 cf) n) (J36 T) := recN_le (fun R hR i l h => by
  unfold b36
  refine le_br2 (J := fun i l => J36 T i l h) (fun _ a0 a1 => le_e (fun hn => e36_0 rfl hn) ((m36 hc hR).1 a0 a1 h)) ?_
  refine le_br2 (J := fun i l => J36 T i l h) (fun _ a0 a1 => le_e (fun hn => e36_1 rfl hn) ((m36 hc hR).2.1 a0 a1 h)) ?_
  refine le_br2 (J := fun i l => J36 T i l h) (fun _ a0 a5 => le_e (fun hn => e36_2 rfl hn) ((m36 hc hR).2.2 a0 a5 h)) ?_
  exact le_fail _) n
theorem m37 {cf cf' : CallF} {R R' : Rec} (hc : ∀ f l h, le (cf f l h) (cf' f l h)) (hR : ∀ i l h, le (R i l h) (R' i l h)) :
  (∀ (a0 a1 : IV) (h : H), le (t37_0 cf R a0 a1 h) (t37_0 cf' R' a0 a1 h)) ∧
  (∀ (a0 a1 a4 a7 : IV) (h : H), le (t37_1 cf R a0 a1 a4 a7 h) (t37_1 cf' R' a0 a1 a4 a7 h)) ∧
  (∀ (a0 a1 a4 a7 a8 : IV) (h : H), le (t37_2 cf R a0 a1 a4 a7 a8 h) (t37_2 cf' R' a0 a1 a4 a7 a8 h)) ∧
  (∀ (a0 a1 a4 a7 : IV) (h : H), le (t37_4 cf R a0 a1 a4 a7 h) (t37_4 cf' R' a0 a1 a4 a7 h)) ∧
  (∀ (a0 a1 a4 a7 a8 a9 : IV) (h : H), le (t37_3 cf R a0 a1 a4 a7 a8 a9 h) (t37_3 cf' R' a0 a1 a4 a7 a8 a9 h)) := by
  refine ⟨?_, ?_, ?_, ?_, ?_⟩
  all_goals intros
  all_goals first | unfold t37_0 | unfold t37_1 | unfold t37_2 | unfold t37_4 | unfold t37_3
  all_goals
  with_reducible repeat' first
    | refine le_obind fun _ => ?_
    | refine le_callP ?_ (fun _ _ => ?_) (fun _ _ => ?_)
    | refine le_condK ?_ ?_
    | exact hR _ _ _
    | refine le_obind2 fun _ _ => ?_
    | refine le_obindH fun _ => ?_
    | refine le_spanK (fun _ _ _ => ?_) (fun _ _ => ?_)
    | exact hc _ _ _
    | refine le_bif ?_ ?_
    | refine le_guardK ?_ ?_ ?_
    | refine le_mapK fun _ _ => ?_
    | refine le_panK fun _ _ => ?_
    | refine le_funK fun _ _ => ?_
    | exact le_refl _
    | apply_assumption
noncomputable def b37 (cf : CallF) (R : Rec) : Rec := fun i l h =>
 br2 i 0 l (fun a0 a1 => t37_0 cf R a0 a1 h) <|
 br4 i 1 l (fun a0 a1 a4 a7 => t37_1 cf R a0 a1 a4 a7 h) <|
 br5 i 2 l (fun a0 a1 a4 a7 a8 => t37_2 cf R a0 a1 a4 a7 a8 h) <|
 br4 i 4 l (fun a0 a1 a4 a7 => t37_4 cf R a0 a1 a4 a7 h) <|
 br6 i 3 l (fun a0 a1 a4 a7 a8 a9 => t37_3 cf R a0 a1 a4 a7 a8 a9 h) <|
 .fail
theorem r37 {T : Tab} {cf : CallF} (hc : leC cf (CL T)) (n : Nat) : leR (recN (b37 cf) n) (J37 T) := recN_le (fun R hR i l h => by
  unfold b37
  refine le_br2 (J := fun i l => J37 T i l h) (fun _ a0 a1 => le_e (fun hn => e37_0 rfl hn) ((m37 hc hR).1 a0 a1 h)) ?_
  refine le_br4 (J := fun i l => J37 T i l h) (fun _ a0 a1 a4 a7 => le_e (fun hn => e37_1 rfl hn) ((m37 hc hR).2.1 a0 a1 a4 a7 h)) ?_
  refine le_br5 (J := fun i l => J37 T i l h) (fun _ a0 a1 a4 a7 a8 => le_e (fun hn => e37_2 rfl hn) ((m37 hc hR).2.2.1 a0 a1 a4 a7 a8 h)) ?_
  refine le_br4 (J := fun i l => J37 T i l h) (fun _ a0 a1 a4 a7 => le_e (fun hn => e37_4 rfl hn) ((m37 hc hR).2.2.2.1 a0 a1 a4 a7 h)) ?_
  refine le_br6 (J := fun i l => J37 T i l h) (fun _ a0 a1 a4 a7 a8 a9 => le_e (fun hn => e37_3 rfl hn) ((m37 hc hR).2.2.2.2 a0 a1 a4 a7 a8 a9 h)) ?_
  exact le_fail _) n
theorem m38 {cf cf' : CallF} {R R' : Rec} (hc : ∀ f l h, le (cf f l h) (cf' f l h)) (hR : ∀ i l h, le (R i l h) (R' i l h)) :
  (∀ (a0 : IV) (h : H), le (t38_0 cf R a0 h) (t38_0 cf' R' a0 h)) ∧
  (∀ (a0 a2 a3 : IV) (h : H), le (t38_1 cf R a0 a2 a3 h) (t38_1 cf' R' a0 a2 a3 h)) ∧
  (∀ (a0 a2 a3 : IV) (h : H), le (t38_2 cf R a0 a2 a3 h) (t38_2 cf' R' a0 a2 a3 h)) ∧
  (∀ (a0 a2 a3 : IV) (h : H), le (t38_4 cf R a0 a2 a3 h) (t38_4 cf' R' a0 a2 a3 h)) ∧
  (∀ (a0 a2 a3 : IV) (h : H), le (t38_3 cf R a0 a2 a3 h) (t38_3 cf' R' a0 a2 a3 h)) := by
  refine ⟨?_, ?_, ?_, ?_, ?_⟩
  all_goals intros
  all_goals first | unfold t38_0 | unfold t38_1 | unfold t38_2 | unfold t38_4 | unfold t38_3
  all_goals
  with_reducible repeat' first
    | refine le_obind fun _ => ?_
    | refine le_callP ?_ (fun _ _ => ?_) (fun _ _ => ?_)
    | refine le_condK ?_ ?_
    | exact hR _ _ _
    | refine le_obind2 fun _ _ => ?_
    | refine le_obindH fun _ => ?_
    | refine le_spanK (fun _ _ _ => ?_) (fun _ _ => ?_)
    | exact hc _ _ _
    | refine le_bif ?_ ?_
    | refine le_guardK ?_ ?_ ?_
    | refine le_mapK fun _ _ => ?_
    | refine le_panK fun _ _ => ?_
    | refine le_funK fun _ _ => ?_
    | exact le_refl _
    | apply_assumption
noncomputable def b38 (cf : CallF) (R : Rec) : Rec := fun i l h =>
 br1 i 0 l (fun a0 => t38_0 cf R a0 h) <|
 br3 i 1 l (fun a0 a2 a3 => t38_1 cf R a0 a2 a3 h) <|
 br3 i 2 l (fun a0 a2 a3 => t38_2 cf R a0 a2 a3 h) <|
 br3 i 4 l (fun a0 a2 a3 => t38_4 cf R a0 a2 a3 h) <|
 br3 i 3 l (fun a0 a2 a3 => t38_3 cf R a0 a2 a3 h) <|
 .fail
theorem r38 {T : Tab} {cf : CallF} (hc : leC cf (CL T)) (n : Nat) : leR (recN (b38 cf) n) (J38 T) := recN_le (fun R hR i l h => by
  unfold b38
  refine le_br1 (J := fun i l => J38 T i l h) (fun _ a0 => le_e (fun hn => e38_0 rfl hn) ((m38 hc hR).1 a0 h)) ?_
  refine le_br3 (J := fun i l => J38 T i l h) (fun _ a0 a2 a3 => le_e (fun hn => e38_1 rfl hn) ((m38 hc hR).2.1 a0 a2 a3 h)) ?_
  refine le_br3 (J := fun i l => J38 T i l h) (fun _ a0 a2 a3 => le_e (fun hn => e38_2 rfl hn) ((m38 hc hR).2.2.1 a0 a2 a3 h)) ?_
  refine le_br3 (J := fun i l => J38 T i l h) (fun _ a0 a2 a3 => le_e (fun hn => e38_4 rfl hn) ((m38 hc hR).2.2.2.1 a0 a2 a3 h)) ?_
  refine le_br3 (J := fun i l => J38 T i l h) (fun _ a0 a2 a3 => le_e (fun hn => e38_3 rfl hn) ((m38 hc hR).2.2.2.2 a0 a2 a3 h)) ?_
  exact le_fail _) n
theorem m39 {cf cf' : CallF} {R R' : Rec} (hc : ∀ f l h, le (cf f l h) (cf' f l h)) (hR : ∀ i l h, le (R i l h) (R' i l h)) : (∀ (a0 : IV) (h : H), le (t39_0 cf R a0 h) (t39_0 cf' R' a0 h)) := by
  intros
  unfold t39_0
  with_reducible repeat' first
    | refine le_obind fun _ => ?_
    | refine le_callP ?_ (fun _ _ => ?_) (fun _ _ => ?_)
    | refine le_condK ?_ ?_
    | exact hR _ _ _
    | refine le_obind2 fun _ _ => ?_
    | refine le_obindH fun _ => ?_
    | refine le_spanK (fun _ _ _ => ?_) (fun _ _ => ?_)
    | exact hc _ _ _
    | refine le_bif ?_ ?_
    | refine le_guardK ?_ ?_ ?_
    | refine le_mapK fun _ _ => ?_
    | refine le_panK fun _ _ => ?_
    | refine le_funK fun _ _ => ?_
    | exact le_refl _
    | apply_assumption
noncomputable def b39 (cf : CallF) (R : Rec) : Rec := fun i l h =>
 br1 i 0 l (fun a0 => t39_0 cf R a0 h) <|
 .fail
theorem r39 {T : Tab} {cf : CallF} (hc : leC cf (CL T)) (n : Nat) : leR (recN (b39 cf) n) (J39 T) := recN_le (fun R hR i l h => by
  unfold b39
  refine le_br1 (J := fun i l => J39 T i l h) (fun _ a0 => le_e (fun hn => e39_0 rfl hn) ((m39 hc hR) a0 h)) ?_
  exact le_fail _) n
theorem m41 {cf cf' : CallF} {R R' : Rec} (hc : ∀ f l h, le (cf f l h) (cf' f l h)) (hR : ∀ i l h, le (R i l h) (R' i l h)) : (∀ (a0 : IV) (h : H), le (t41_0 cf R a0 h) (t41_0 cf' R' a0 h)) := by
  intros
  unfold t41_0
  with_reducible repeat' first
    | refine le_obind fun _ => ?_
    | refine le_callP ?_ (fun _ _ => ?_) (fun _ _ => ?_)
    | refine le_condK ?_ ?_
    | exact hR _ _ _
    | refine le_obind2 fun _ _ => ?_
    | refine le_obindH fun _ => ?_
    | refine le_spanK (fun _ _ _ => ?_) (fun _ _ => ?_)
    | exact hc _ _ _
    | refine le_bif ?_ ?_
    | refine le_guardK ?_ ?_ ?_
    | refine le_mapK fun _ _ => ?_
    | refine le_panK fun _ _ => ?_
    | refine le_funK fun _ _ => ?_
    | exact le_refl _
    | apply_assumption
noncomputable def b41 (cf : CallF) (R : Rec) : Rec := fun i l h =>
 br1 i 0 l (fun a0 => t41_0 cf R a0 h) <|
 .fail
theorem r41 {T : Tab} {cf : CallF} (hc : leC cf (CL T)) (n : Nat) : leR (recN (b41 cf) n) (J41 T) := recN_le (fun R hR i l h => by
  unfold b41
  refine le_br1 (J := fun i l => J41 T i l h) (fun _ a0 => le_e (fun hn => e41_0 rfl hn) ((m41 hc hR) a0 h)) ?_
  exact le_fail _) n
theorem m42 {cf cf' : CallF} {R R' : Rec} (hc : ∀ f l h, le (cf f l h) (cf' f l h)) (hR : ∀ i l h, le (R i l h) (R' i l h)) : (∀ (a0 : IV) (h : H), le (t42_0 cf R a0 h) (t42_0 cf' R' a0 h)) := by
  intros
  unfold t42_0
  with_reducible repeat' first
    | refine le_obind fun _ => ?_
    | refine le_callP ?_ (fun _ _ => ?_) (fun _ _ => ?_)
    | refine le_condK ?_ ?_
    | exact hR _ _ _
    | refine le_obind2 fun _ _ => ?_
    | refine le_obindH fun _ => ?_
    | refine le_spanK (fun _ _ _ => ?_) (fun _ _ => ?_)
    | exact hc _ _ _
    | refine le_bif ?_ ?_
    | refine le_guardK ?_ ?_ ?_
    | refine le_mapK fun _ _ => ?_
    | refine le_panK fun _ _ => ?_
    | refine le_funK fun _ _ => ?_
    | exact le_refl _
    | apply_assumption
noncomputable def b42 (cf : CallF) (R : Rec) : Rec := fun i l h =>
 br1 i 0 l (fun a0 => t42_0 cf R a0 h) <|
 .fail
theorem r42 {T : Tab} {cf : CallF} (hc : leC cf (CL T)) (n : Nat) : leR (recN (b42 cf) n) (J42 T) := recN_le (fun R hR i l h => by
  unfold b42
  refine le_br1 (J := fun i l => J42 T i l h) (fun _ a0 => le_e (fun hn => e42_0 rfl hn) ((m42 hc hR) a0 h)) ?_
  exact le_fail _) n
theorem m43 {cf cf' : CallF} {R R' : Rec} (hc : ∀ f l h, le (cf f l h) (cf' f l h)) (hR : ∀ i l h, le (R i l h) (R' i l h)) :
  (∀ (a0 a1 : IV) (h : H), le (t43_0 cf R a0 a1 h) (t43_0 cf' R' a0 a1 h)) ∧
  (∀ (a0 a6 a7 a8 : IV) (h : H), le (t43_1 cf R a0 a6 a7 a8 h) (t43_1 cf' R' a0 a6 a7 a8 h)) := by
  refine ⟨?_, ?_⟩
  all_goals intros
  all_goals first | unfold t43_0 | unfold t43_1
  all_goals
  with_reducible repeat' first
    | refine le_obind fun _ => ?_
    | refine le_callP ?_ (fun _ _ => ?_) (fun _ _ => ?_)
    | refine le_condK ?_ ?_
    | exact hR _ _ _
    | refine le_obind2 fun _ _ => ?_
    | refine le_obindH fun _ => ?_
    | refine le_spanK (fun _ _ _ => ?_) (fun _ _ => ?_)
    | exact hc _ _ _
    | refine le_bif ?_ ?_
    | refine le_guardK ?_ ?_ ?_
    | refine le_mapK fun _ _ => ?_
    | refine le_panK fun _ _ => ?_
    | refine le_funK fun _ _ => ?_
    | exact le_refl _
    | apply_assumption
noncomputable def b43 (cf : CallF) (R : Rec) : Rec := fun i l h =>
 br2 i 0 l (fun a0 a1 => t43_0 cf R a0 a1 h) <|
 br4 i 1 l (fun a0 a6 a7 a8 => t43_1 cf R a0 a6 a7 a8 h) <|
 .fail
theorem r43 {T : Tab} {cf : CallF} (hc : leC cf (CL T)) (n : Nat) : leR (recN (b43 cf) n) (J43 T) := recN_le (fun R hR i l h => by
  unfold b43
  refine le_br2 (J := fun i l => J43 T i l h) (fun _ a0 a1 => le_e (fun hn => e43_0 rfl hn) ((m43 hc hR).1 a0 a1 h)) ?_
  refine le_br4 (J := fun i l => J43 T i l h) (fun _ a0 a6 a7 a8 => le_e (fun hn => e43_1 rfl hn) ((m43 hc hR).2 a0 a6 a7 a8 h)) ?_
  exact le_fail _) n
theorem m44 {cf cf' : CallF} {R R' : Rec} (hc : ∀ f l h, le (cf f l h) (cf' f l h)) (hR : ∀ i l h, le (R i l h) (R' i l h)) :
  (∀ (a0 a1 a2 : IV) (h : H), le (t44_0 cf R a0 a1 a2 h) (t44_0 cf' R' a0 a1 a2 h)) ∧
  (∀ (a0 a2 a7 a8 : IV) (h : H), le (t44_1 cf R a0 a2 a7 a8 h) (t44_1 cf' R' a0 a2 a7 a8 h)) ∧
  (∀ (a0 a2 a6 a7 a8 : IV) (h : H), le (t44_2 cf R a0 a2 a6 a7 a8 h) (t44_2 cf' R' a0 a2 a6 a7 a8 h)) := by
  refine ⟨?_, ?_, ?_⟩
  all_goals intros
  all_goals first | unfold t44_0 | unfold t44_1 | unfold t44_2
  all_goals
  with_reducible repeat' first
    | refine le_obind fun _ => ?_
    | refine le_callP ?_ (fun _ _ => ?_) (fun _ _ => ?_)
    | refine le_condK ?_ ?_
    | exact hR _ _ _
    | refine le_obind2 fun _ _ => ?_
    | refine le_obindH fun _ => ?_
    | refine le_spanK (fun _ _ _ => ?_) (fun _ _ => ?_)
    | exact hc _ _ _
    | refine le_bif ?_ ?_
    | refine le_guardK ?_ ?_ ?_
    | refine le_mapK fun _ _ => ?_
    | refine le_panK fun _ _ => ?_
    | refine le_funK fun _ _ => ?_
    | exact le_refl _
    | apply_assumption
noncomputable def b44 (cf : CallF) (R : Rec) : Rec := fun i l h =>
 br3 i 0 l (fun a0 a1 a2 => t44_0 cf R a0 a1 a2 h) <|
 br4 i 1 l (fun a0 a2 a7 a8 => t44_1 cf R a0 a2 a7 a8 h) <|
 br5 i 2 l (fun a0 a2 a6 a7 a8 => t44_2 cf R a0 a2 a6 a7 a8 h) <|
 .fail
theorem r44 {T : Tab} {cf : CallF} (hc : leC cf (CL T)) (n : Nat) : leR (recN (b44 cf) n) (J44 T) := recN_le (fun R hR i l h => by
  unfold b44
  refine le_br3 (J := fun i l => J44 T i l h) (fun _ a0 a1 a2 => le_e (fun hn => e44_0 rfl hn) ((m44 hc hR).1 a0 a1 a2 h)) ?_
  refine le_br4 (J := fun i l => J44 T i l h) (fun _ a0 a2 a7 a8 => le_e (fun hn => e44_1 rfl hn) ((m44 hc hR).2.1 a0 a2 a7 a8 h)) ?_
  refine le_br5 (J := fun i l => J44 T i l h) (fun _ a0 a2 a6 a7 a8 => le_e (fun hn => e44_2 rfl hn) ((m44 hc hR).2.2 a0 a2 a6 a7 a8 h)) ?_
  exact le_fail _) n
theorem m45 {cf cf' : CallF} {R R' : Rec} (hc : ∀ f l h, le (cf f l h) (cf' f l h)) (hR : ∀ i l h, le (R i l h) (R' i l h)) : (∀ (a0 a1 a2 : IV) (h : H), le (t45_0 cf R a0 a1 a2 h) (t45_0 cf' R' a0 a1 a2 h)) := by
  intros
  unfold t45_0
  with_reducible repeat' first
    | refine le_obind fun _ => ?_
    | refine le_callP ?_ (fun _ _ => ?_) (fun _ _ => ?_)
    | refine le_condK ?_ ?_
    | exact hR _ _ _
    | refine le_obind2 fun _ _ => ?_
    | refine le_obindH fun _ => ?_
    | refine le_spanK (fun _ _ _ => ?_) (fun _ _ => ?_)
    | exact hc _ _ _
    | refine le_bif ?_ ?_
    | refine le_guardK ?_ ?_ ?_
    | refine le_mapK fun _ _ => ?_
    | refine le_panK fun _ _ => ?_
    | refine le_funK fun _ _ => ?_
    | exact le_refl _
    | apply_assumption
noncomputable def b45 (cf : CallF) (R : Rec) : Rec := fun i l h =>
 br3 i 0 l (fun a0 a1 a2 => t45_0 cf R a0 a1 a2 h) <|
 .fail
theorem r45 {T : Tab} {cf : CallF} (hc : leC cf (CL T)) (n : Nat) : leR (recN (b45 cf) n) (J45 T) := recN_le (fun R hR i l h => by
  unfold b45
  refine le_br3 (J := fun i l => J45 T i l h) (fun _ a0 a1 a2 => le_e (fun hn => e45_0 rfl hn) ((m45 hc hR) a0 a1 a2 h)) ?_
  exact le_fail _) n
theorem m47 {cf cf' : CallF} {R R' : Rec} (hc : ∀ f l h, le (cf f l h) (cf' f l h)) (hR : ∀ i l h, le (R i l h) (R' i l h)) : (∀ (a0 a1 a2 : IV) (h : H), le (t47_0 cf R a0 a1 a2 h) (t47_0 cf' R' a0 a1 a2 h)) := by
  intros
  unfold t47_0
  with_reducible repeat' first
    | refine le_obind fun _ => ?_
    | refine le_callP ?_ (fun _ _ => ?_) (fun _ _ => ?_)
    | refine le_condK ?_ ?_
    | exact hR _ _ _
    | refine le_obind2 fun _ _ => ?_
    | refine le_obindH fun _ => ?_
    | refine le_spanK (fun _ _ _ => ?_) (fun _ _ => ?_)
    | exact hc _ _ _
    | refine le_bif ?_ ?_
    | refine le_guardK ?_ ?_ ?_
    | refine le_mapK fun _ _ => ?_
    | refine le_panK fun _ _ => ?_
    | refine le_funK fun _ _ => ?_
    | exact le_refl _
    | apply_assumption
noncomputable def b47 (cf : CallF) (R : Rec) : Rec := fun i l h =>
 br3 i 0 l (fun a0 a1 a2 => t47_0 cf R a0 a1 a2 h) <|
 .fail
theorem r47 {T : Tab} {cf : CallF} (hc : leC cf (CL T)) (n : Nat) : leR (recN (b47 cf) n) (J47 T) := recN_le (fun R hR i l h => by
  unfold b47
  refine le_br3 (J := fun i l => J47 T i l h) (fun _ a0 a1 a2 => le_e (fun hn => e47_0 rfl hn) ((m47 hc hR) a0 a1 a2 h)) ?_
  exact le_fail _) n
theorem m48 {cf cf' : CallF} {R R' : Rec} (hc : ∀ f l h, le (cf f l h) (cf' f l h)) (hR : ∀ i l h, le (R i l h) (R' i l h)) :
  (∀ (a0 a1 : IV) (h : H), le (t48_0 cf R a0 a1 h) (t48_0 cf' R' a0 a1 h)) ∧
  (∀ (a0 a3 : IV) (h : H), le (t48_1 cf R a0 a3 h) (t48_1 cf' R' a0 a3 h)) ∧
  (∀ (a0 a3 : IV) (h : H), le (t48_2 cf R a0 a3 h) (t48_2 cf' R' a0 a3 h)) := by
  refine ⟨?_, ?_, ?_⟩
  all_goals intros
  all_goals first | unfold t48_0 | unfold t48_1 | unfold t48_2
  all_goals
  with_reducible repeat' first
    | refine le_obind fun _ => ?_
    | refine le_callP ?_ (fun _ _ => ?_) (fun _ _ => ?_)
    | refine le_condK ?_ ?_
    | exact hR _ _ _
    | refine le_obind2 fun _ _ => ?_
    | refine le_obindH fun _ => ?_
    | refine le_spanK (fun _ _ _ => ?_) (fun _ _ => ?_)
    | exact hc _ _ _
    | refine le_bif ?_ ?_
    | refine le_guardK ?_ ?_ ?_
    | refine le_mapK fun _ _ => ?_
    | refine le_panK fun _ _ => ?_
    | refine le_funK fun _ _ => ?_
    | exact le_refl _
    | apply_assumption
noncomputable def b48 (cf : CallF) (R : Rec) : Rec := fun i l h =>
 br2 i 0 l (fun a0 a1 => t48_0 cf R a0 a1 h) <|
 br2 i 1 l (fun a0 a3 => t48_1 cf R a0 a3 h) <|
 br2 i 2 l (fun a0 a3 => t48_2 cf R a0 a3 h) <|
 .fail
theorem r48 {T : Tab} {cf : CallF} (hc : leC cf (CL T)) (n : Nat) : leR (recN (b48 cf) n) (J48 T) := recN_le (fun R hR i l h => by
  unfold b48
  refine le_br2 (J := fun i l => J48 T i l h) (fun _ a0 a1 => le_e (fun hn => e48_0 rfl hn) ((m48 hc hR).1 a0 a1 h)) ?_
  refine le_br2 (J := fun i l => J48 T i l h) (fun _ a0 a3 => le_e (fun hn => e48_1 rfl hn) ((m48 hc hR).2.1 a0 a3 h)) ?_
  refine le_br2 (J := fun i l => J48 T i l h) (fun _ a0 a3 => le_e (fun hn => e48_2 rfl hn) ((m48 hc hR).2.2 a0 a3 h)) ?_
  exact le_fail _) n
theorem m49 {cf cf' : CallF} {R R' : Rec} (hc : ∀ f l h, le (cf f l h) (cf' f l h)) (hR : ∀ i l h, le (R i l h) (R' i l h)) : (∀ (a0 a1 : IV) (h : H), le (t49_0 cf R a0 a1 h) (t49_0 cf' R' a0 a1 h)) := by
  intros
  unfold t49_0
  with_reducible repeat' first
    | refine le_obind fun _ => ?_
    | refine le_callP ?_ (fun _ _ => ?_) (fun _ _ => ?_)
    | refine le_condK ?_ ?_
    | exact hR _ _ _
    | refine le_obind2 fun _ _ => ?_
    | refine le_obindH fun _ => ?_
    | refine le_spanK (fun _ _ _ => ?_) (fun _ _ => ?_)
    | exact hc _ _ _
    | refine le_bif ?_ ?_
    | refine le_guardK ?_ ?_ ?_
    | refine le_mapK fun _ _ => ?_
    | refine le_panK fun _ _ => ?_
    | refine le_funK fun _ _ => ?_
    | exact le_refl _
    | apply_assumption
noncomputable def b49 (cf : CallF) (R : Rec) : Rec := fun i l h =>
 br2 i 0 l (fun a0 a1 => t49_0 cf R a0 a1 h) <|
 .fail
theorem r49 {T : Tab} {cf : CallF} (hc : leC cf (CL T)) (n : Nat) : leR (recN (b49 cf) n) (J49 T) := recN_le (fun R hR i l h => by
  unfold b49
  refine le_br2 (J := fun i l => J49 T i l h) (fun _ a0 a1 => le_e (fun hn => e49_0 rfl hn) ((m49 hc hR) a0 a1 h)) ?_
  exact le_fail _) n
theorem m51 {cf cf' : CallF} {R R' : Rec} (hc : ∀ f l h, le (cf f l h) (cf' f l h)) (hR : ∀ i l h, le (R i l h) (R' i l h)) :
  (∀ (a0 : IV) (h : H), le (t51_0 cf R a0 h) (t51_0 cf' R' a0 h)) ∧
  (∀ (a0 a4 a5 a6 : IV) (h : H), le (t51_1 cf R a0 a4 a5 a6 h) (t51_1 cf' R' a0 a4 a5 a6 h)) ∧
  (∀ (a0 a4 a5 a6 a9 a10 : IV) (h : H), le (t51_2 cf R a0 a4 a5 a6 a9 a10 h) (t51_2 cf' R' a0 a4 a5 a6 a9 a10 h)) := by
  refine ⟨?_, ?_, ?_⟩
  all_goals intros
  all_goals first | unfold t51_0 | unfold t51_1 | unfold t51_2
  all_goals
  with_reducible repeat' first
    | refine le_obind fun _ => ?_
    | refine le_callP ?_ (fun _ _ => ?_) (fun _ _ => ?_)
    | refine le_condK ?_ ?_
    | exact hR _ _ _
    | refine le_obind2 fun _ _ => ?_
    | refine le_obindH fun _ => ?_
    | refine le_spanK (fun _ _ _ => ?_) (fun _ _ => ?_)
    | exact hc _ _ _
    | refine le_bif ?_ ?_
    | refine le_guardK ?_ ?_ ?_
    | refine le_mapK fun _ _ => ?_
    | refine le_panK fun _ _ => ?_
    | refine le_funK fun _ _ => ?_
    | exact le_refl _
    | apply_assumption
noncomputable def b51 (cf : CallF) (R : Rec) : Rec := fun i l h =>
 br1 i 0 l (fun a0 => t51_0 cf R a0 h) <|
 br4 i 1 l (fun a0 a4 a5 a6 => t51_1 cf R a0 a4 a5 a6 h) <|
 br6 i 2 l (fun a0 a4 a5 a6 a9 a10 => t51_2 cf R a0 a4 a5 a6 a9 a10 h) <|
 .fail
theorem r51 {T : Tab} {cf : CallF} (hc : leC cf (CL T)) (n : Nat) : leR (recN (b51 cf) n) (J51 T) := recN_le (fun R hR i l h => by
  unfold b51
  refine le_br1 (J := fun i l => J51 T i l h) (fun _ a0 => le_e (fun hn => e51_0 rfl hn) ((m51 hc hR).1 a0 h)) ?_
  refine le_br4 (J := fun i l => J51 T i l h) (fun _ a0 a4 a5 a6 => le_e (fun hn => e51_1 rfl hn) ((m51 hc hR).2.1 a0 a4 a5 a6 h)) ?_
  refine le_br6 (J := fun i l => J51 T i l h) (fun _ a0 a4 a5 a6 a9 a10 => le_e (fun hn => e51_2 rfl hn) ((m51 hc hR).2.2 a0 a4 a5 a6 a9 a10 h)) ?_
  exact le_fail _) n
theorem m52 {cf cf' : CallF} {R R' : Rec} (hc : ∀ f l h, le (cf f l h) (cf' f l h)) (hR : ∀ i l h, le (R i l h) (R' i l h)) : (∀ (a0 a1 : IV) (h : H), le (t52_0 cf R a0 a1 h) (t52_0 cf' R' a0 a1 h)) := by
  intros
  unfold t52_0
  with_reducible repeat' first
    | refine le_obind fun _ => ?_
    | refine le_callP ?_ (fun _ _ => ?_) (fun _ _ => ?_)
    | refine le_condK ?_ ?_
    | exact hR _ _ _
    | refine le_obind2 fun _ _ => ?_
    | refine le_obindH fun _ => ?_
    | refine le_spanK (fun _ _ _ => ?_) (fun _ _ => ?_)
    | exact hc _ _ _
    | refine le_bif ?_ ?_
    | refine le_guardK ?_ ?_ ?_
    | refine le_mapK fun _ _ => ?_
    | refine le_panK fun _ _ => ?_
    | refine le_funK fun _ _ => ?_
    | exact le_refl _
    | apply_assumption
noncomputable def b52 (cf : CallF) (R : Rec) : Rec := fun i l h =>
 br2 i 0 l (fun a0 a1 => t52_0 cf R a0 a1 h) <|
 .fail
theorem r52 {T : Tab} {cf : CallF} (hc : leC cf (CL T)) (n : Nat) : leR (recN (b52 cf) n) (J52 T) := recN_le (fun R hR i l h => by
  unfold b52
  refine le_br2 (J := fun i l => J52 T i l h) (fun _ a0 a1 => le_e (fun hn => e52_0 rfl hn) ((m52 hc hR) a0 a1 h)) ?_
  exact le_fail _) n
theorem m53 {cf cf' : CallF} {R R' : Rec} (hc : ∀ f l h, le (cf f l h) (cf' f l h)) (hR : ∀ i l h, le (R i l h) (R' i l h)) : (∀ (a0 : IV) (h : H), le (t53_0 cf R a0 h) (t53_0 cf' R' a0 h)) := by
  intros
  unfold t53_0
  with_reducible repeat' first
    | refine le_obind fun _ => ?_
    | refine le_callP ?_ (fun _ _ => ?_) (fun _ _ => ?_)
    | refine le_condK ?_ ?_
    | exact hR _ _ _
    | refine le_obind2 fun _ _ => ?_
    | refine le_obindH fun _ => ?_
    | refine le_spanK (fun _ _ _ => ?_) (fun _ _ => ?_)
    | exact hc _ _ _
    | refine le_bif ?_ ?_
    | refine le_guardK ?_ ?_ ?_
    | refine le_mapK fun _ _ => ?_
    | refine le_panK fun _ _ => ?_
    | refine le_funK fun _ _ => ?_
    | exact le_refl _
    | apply_assumption
noncomputable def b53 (cf : CallF) (R : Rec) : Rec := fun i l h =>
 br1 i 0 l (fun a0 => t53_0 cf R a0 h) <|
 .fail
theorem r53 {T : Tab} {cf : CallF} (hc : leC cf (CL T)) (n : Nat) : leR (recN (b53 cf) n) (J53 T) := recN_le (fun R hR i l h => by
  unfold b53
  refine le_br1 (J := fun i l => J53 T i l h) (fun _ a0 => le_e (fun hn => e53_0 rfl hn) ((m53 hc hR) a0 h)) ?_
  exact le_fail _) n
noncomputable def u54_0 (cf : CallF) (L : List IV → I.Mode → H → Option (I.Mode × H)) (D : List IV → Rec) (R : Rec) (a0 : IV) (h : H) : CRes :=
 obind2 (newI h [.nilSlice]) fun x1 h2 =>
 obind2 (newI h2 [.nilSlice]) fun x3 h4 =>
 obind (lenS a0) fun x5 =>
 obind (binN .eql x5 (.int .i64 0)) fun x6 =>
 spanK x6 false h4 (fun k7 =>
 obind (lenS a0) fun x10 =>
 obind (binN .sub x10 (.int .i64 1)) fun x11 =>
 obind (ixS 3 a0 x11) fun x12 =>
 obind (fadK 0 x12) fun x13 =>
 obind (ld0 h4 x13) fun x14 =>
 obind (binN .neq x14 (.int .i64 6)) fun x15 =>
 k7 x15 h4) fun x8 h9 =>
 obind (pickI x6 (some (.bool true)) (some x8)) fun x16 =>
 condK x16
 (obind (bldK [(.int .i64 0), (.int .i64 0)] [(0, 1), (1, 1)] [(1, (.int .i64 1))]) fun x17 =>
 obind2 (bslK false 2 [(.int .i64 0), (.int .i64 0)] 1 [(0, x17)] h9) fun x18 h19 =>
 obindH (stA 1 h19 x1 .nilSlice) fun h20 =>
 obindH (stA 1 h20 x3 x18) fun h21 =>
 obind (ld0 h21 x1) fun x22 =>
 obind (ld0 h21 x3) fun x23 =>
 .ok (.tup [x22, x23]) h21)
 (obind (bldK [.nilSlice] [(0, 1)] [(0, a0)]) fun x24 =>
 obind2 (newI h9 (IV.cells x24)) fun x25 h26 =>
 D [x1, x3] 1 [x1, x3, x25, (.bool true)] h26)
noncomputable def u54_1d (cf : CallF) (L : List IV → I.Mode → H → Option (I.Mode × H)) (D : List IV → Rec) (R : Rec) (d0 d1 a2 a3 a4 a5 : IV) (h : H) : CRes :=
 spanK a5 false h (fun k27 =>
 obind2 (bslK false 1 [(.str ⟨0, 0⟩)] 1 [(0, (.str ⟨0, 0⟩))] h) fun x30 h31 =>
 callP (cf 99 [a4, x30] h31) (dfP (L [d0, d1]) fun h32 =>
 obind (ld0 h32 a2) fun x33 =>
 obind (ld0 h32 a3) fun x34 =>
 .ok (.tup [x33, x34]) h32) fun x35 h36 =>
 obind (unI .not x35) fun x37 =>
 k27 x37 h36) fun x28 h29 =>
 obind (pickI a5 (some (.bool true)) (some x28)) fun x38 =>
 condK x38
 (obind (ld0 h29 a2) fun x39 =>
 callP (cf 100 [a4] h29) (fun v40 h41 =>
 (dfP (L [d0, d1]) fun h42 =>
 obind (ld0 h42 a2) fun x43 =>
 obind (ld0 h42 a3) fun x44 =>
 .ok (.tup [x43, x44]) h42) v40 h41) fun x45 h46 =>
 obind (ld0 h46 a2) fun x47 =>
 bif IV.beq x47 x39 then
 obind2 (bslK false 5 z6 1 [(0, x45)] h46) fun x48 h49 =>
 obind (ld0 h49 a2) fun x50 =>
 bif IV.beq x50 x39 then
 obind2 (appK 5 96 h49 x39 x48) fun x51 h52 =>
 obindH (stA 1 h52 a2 x51) fun h53 =>
 R 1 [a2, a3, a4, (.bool false)] h53
 else .fail
 else .fail)
 (obind (ld0 h29 a2) fun x54 =>
 obindH (stA 1 h29 a2 x54) fun h55 =>
 obindH (stA 1 h55 a3 .nilSlice) fun h56 =>
 dfK (L [d0, d1] .ret h56) fun h57 =>
 obind (ld0 h57 a2) fun x58 =>
 obind (ld0 h57 a3) fun x59 =>
 .ok (.tup [x58, x59]) h57)
theorem m54 {cf cf' : CallF} {L L' : List IV → I.Mode → H → Option (I.Mode × H)} {D D' : List IV → Rec} {R R' : Rec} (hc : ∀ f l h, le (cf f l h) (cf' f l h)) (hL : ∀ l st h, leO (L l st h) (L' l st h)) (hD : ∀ l i x h, le (D l i x h) (D' l i x h)) (hR : ∀ i l h, le (R i l h) (R' i l h)) :
  (∀ (a0 : IV) (h : H), le (u54_0 cf L D R a0 h) (u54_0 cf' L' D' R' a0 h)) ∧
  (∀ (d0 d1 a2 a3 a4 a5 : IV) (h : H), le (u54_1d cf L D R d0 d1 a2 a3 a4 a5 h) (u54_1d cf' L' D' R' d0 d1 a2 a3 a4 a5 h)) := by
  refine ⟨?_, ?_⟩
  all_goals intros
  all_goals first | unfold u54_0 | unfold u54_1d
  all_goals
  with_reducible repeat' first
    | refine le_obind fun _ => ?_
    | refine le_callP ?_ (fun _ _ => ?_) (fun _ _ => ?_)
    | refine le_condK ?_ ?_
    | exact hR _ _ _
    | refine le_obind2 fun _ _ => ?_
    | refine le_obindH fun _ => ?_
    | refine le_spanK (fun _ _ _ => ?_) (fun _ _ => ?_)
    | exact hc _ _ _
    | refine le_bif ?_ ?_
    | refine le_guardK ?_ ?_ ?_
    | refine le_mapK fun _ _ => ?_
    | refine le_panK fun _ _ => ?_
    | refine le_funK fun _ _ => ?_
    | exact hD _ _ _ _
    | refine le_dfP (hL _) (fun _ => ?_)
    | refine le_dfK (hL _ _ _) (fun _ => ?_)
    | exact le_refl _
    | apply_assumption
noncomputable def bd54 (cf : CallF) (d0 d1 : IV) (R : Rec) : Rec := fun i l h =>
 br4 i 1 l (fun a2 a3 a4 a5 => u54_1d cf (L98 cf) (fun _ _ _ _ => .fail) R d0 d1 a2 a3 a4 a5 h) <|
 .fail
theorem rd54 {T : Tab} {cf : CallF} (hc : leC cf (CL T)) (d0 d1 : IV) (n : Nat) : leR (recN (bd54 cf d0 d1) n) (J54d T d0 d1) := recN_le (fun R hR i l h => by
  unfold bd54
  refine le_br4 (J := fun i l => J54d T d0 d1 i l h) (fun _ a2 a3 a4 a5 => le_e (fun hn => e54_1d (r := u54_1d (CL T) (fun l => LV Tryz.prog (CL T) 98 l) (fun l => fj1 Tryz.prog (CL T) Tryz.f54 js54 98 l) (J54d T d0 d1) d0 d1 a2 a3 a4 a5 h) rfl hn) ((m54 hc (lle98 hc) (fun _ _ _ _ => le_fail _) hR).2 d0 d1 a2 a3 a4 a5 h)) ?_
  exact le_fail _) n
noncomputable def D54 (cf : CallF) (l : List IV) : Rec :=
 match l with
 | [d0, d1] => recN (bd54 cf d0 d1) 1000000
 | _ => fun _ _ _ => .fail
theorem dle54 {T : Tab} {cf : CallF} (hc : leC cf (CL T)) (l : List IV) (i : Nat) (x : List IV) (h : H) : le (D54 cf l i x h) (fj1 Tryz.prog (CL T) Tryz.f54 js54 98 l i x h) := by
  unfold D54
  split
  · exact rd54 hc _ _ _ i x h
  · exact le_fail _
noncomputable def b54 (cf : CallF) (R : Rec) : Rec := fun i l h =>
 br1 i 0 l (fun a0 => u54_0 cf (L98 cf) (D54 cf) R a0 h) <|
 .fail
theorem r54 {T : Tab} {cf : CallF} (hc : leC cf (CL T)) (n : Nat) : leR (recN (b54 cf) n) (J54 T) := recN_le (fun R hR i l h => by
  unfold b54
  refine le_br1 (J := fun i l => J54 T i l h) (fun _ a0 => le_e (fun hn => e54_0 (r := u54_0 (CL T) (fun l => LV Tryz.prog (CL T) 98 l) (fun l => fj1 Tryz.prog (CL T) Tryz.f54 js54 98 l) (J54 T) a0 h) rfl hn) ((m54 hc (lle98 hc) (dle54 hc) hR).1 a0 h)) ?_
  exact le_fail _) n
theorem m55 {cf cf' : CallF} {R R' : Rec} (hc : ∀ f l h, le (cf f l h) (cf' f l h)) (hR : ∀ i l h, le (R i l h) (R' i l h)) :
  (∀ (a0 a1 a2 : IV) (h : H), le (t55_0 cf R a0 a1 a2 h) (t55_0 cf' R' a0 a1 a2 h)) ∧
  (∀ (a1 a2 a15 a16 a17 : IV) (h : H), le (t55_1 cf R a1 a2 a15 a16 a17 h) (t55_1 cf' R' a1 a2 a15 a16 a17 h)) := by
  refine ⟨?_, ?_⟩
  all_goals intros
  all_goals first | unfold t55_0 | unfold t55_1
  all_goals
  with_reducible repeat' first
    | refine le_obind fun _ => ?_
    | refine le_callP ?_ (fun _ _ => ?_) (fun _ _ => ?_)
    | refine le_condK ?_ ?_
    | exact hR _ _ _
    | refine le_obind2 fun _ _ => ?_
    | refine le_obindH fun _ => ?_
    | refine le_spanK (fun _ _ _ => ?_) (fun _ _ => ?_)
    | exact hc _ _ _
    | refine le_bif ?_ ?_
    | refine le_guardK ?_ ?_ ?_
    | refine le_mapK fun _ _ => ?_
    | refine le_panK fun _ _ => ?_
    | refine le_funK fun _ _ => ?_
    | exact le_refl _
    | apply_assumption
noncomputable def b55 (cf : CallF) (R : Rec) : Rec := fun i l h =>
 br3 i 0 l (fun a0 a1 a2 => t55_0 cf R a0 a1 a2 h) <|
 br5 i 1 l (fun a1 a2 a15 a16 a17 => t55_1 cf R a1 a2 a15 a16 a17 h) <|
 .fail
theorem r55 {T : Tab} {cf : CallF} (hc : leC cf (CL T)) (n : Nat) : leR (recN (b55 cf) n) (J55 T) := recN_le (fun R hR i l h => by
  unfold b55
  refine le_br3 (J := fun i l => J55 T i l h) (fun _ a0 a1 a2 => le_e (fun hn => e55_0 rfl hn) ((m55 hc hR).1 a0 a1 a2 h)) ?_
  refine le_br5 (J := fun i l => J55 T i l h) (fun _ a1 a2 a15 a16 a17 => le_e (fun hn => e55_1 rfl hn) ((m55 hc hR).2 a1 a2 a15 a16 a17 h)) ?_
  exact le_fail _) n
theorem m57 {cf cf' : CallF} {R R' : Rec} (hc : ∀ f l h, le (cf f l h) (cf' f l h)) (hR : ∀ i l h, le (R i l h) (R' i l h)) :
  (∀ (a0 a1 a2 : IV) (h : H), le (t57_0 cf R a0 a1 a2 h) (t57_0 cf' R' a0 a1 a2 h)) ∧
  (∀ (a1 a2 a15 a16 a17 : IV) (h : H), le (t57_1 cf R a1 a2 a15 a16 a17 h) (t57_1 cf' R' a1 a2 a15 a16 a17 h)) := by
  refine ⟨?_, ?_⟩
  all_goals intros
  all_goals first | unfold t57_0 | unfold t57_1
  all_goals
  with_reducible repeat' first
    | refine le_obind fun _ => ?_
    | refine le_callP ?_ (fun _ _ => ?_) (fun _ _ => ?_)
    | refine le_condK ?_ ?_
    | exact hR _ _ _
    | refine le_obind2 fun _ _ => ?_
    | refine le_obindH fun _ => ?_
    | refine le_spanK (fun _ _ _ => ?_) (fun _ _ => ?_)
    | exact hc _ _ _
    | refine le_bif ?_ ?_
    | refine le_guardK ?_ ?_ ?_
    | refine le_mapK fun _ _ => ?_
    | refine le_panK fun _ _ => ?_
    | refine le_funK fun _ _ => ?_
    | exact le_refl _
    | apply_assumption
noncomputable def b57 (cf : CallF) (R : Rec) : Rec := fun i l h =>
 br3 i 0 l (fun a0 a1 a2 => t57_0 cf R a0 a1 a2 h) <|
 br5 i 1 l (fun a1 a2 a15 a16 a17 => t57_1 cf R a1 a2 a15 a16 a17 h) <|
 .fail
theorem r57 {T : Tab} {cf : CallF} (hc : leC cf (CL T)) (n : Nat) : leR (recN (b57 cf) n) (J57 T) := recN_le (fun R hR i l h => by
  unfold b57
  refine le_br3 (J := fun i l => J57 T i l h) (fun _ a0 a1 a2 => le_e (fun hn => e57_0 rfl hn) ((m57 hc hR).1 a0 a1 a2 h)) ?_
  refine le_br5 (J := fun i l => J57 T i l h) (fun _ a1 a2 a15 a16 a17 => le_e (fun hn => e57_1 rfl hn) ((m57 hc hR).2 a1 a2 a15 a16 a17 h)) ?_
  exact le_fail _) n
theorem m58 {cf cf' : CallF} {R R' : Rec} (hc : ∀ f l h, le (cf f l h) (cf' f l h)) (hR : ∀ i l h, le (R i l h) (R' i l h)) : (∀ (a0 a1 : IV) (h : H), le (t58_0 cf R a0 a1 h) (t58_0 cf' R' a0 a1 h)) := by
  intros
  unfold t58_0
  with_reducible repeat' first
    | refine le_obind fun _ => ?_
    | refine le_callP ?_ (fun _ _ => ?_) (fun _ _ => ?_)
    | refine le_condK ?_ ?_
    | exact hR _ _ _
    | refine le_obind2 fun _ _ => ?_
    | refine le_obindH fun _ => ?_
    | refine le_spanK (fun _ _ _ => ?_) (fun _ _ => ?_)
    | exact hc _ _ _
    | refine le_bif ?_ ?_
    | refine le_guardK ?_ ?_ ?_
    | refine le_mapK fun _ _ => ?_
    | refine le_panK fun _ _ => ?_
    | refine le_funK fun _ _ => ?_
    | exact le_refl _
    | apply_assumption
noncomputable def b58 (cf : CallF) (R : Rec) : Rec := fun i l h =>
 br2 i 0 l (fun a0 a1 => t58_0 cf R a0 a1 h) <|
 .fail
theorem r58 {T : Tab} {cf : CallF} (hc : leC cf (CL T)) (n : Nat) : leR (recN (b58 cf) n) (J58 T) := recN_le (fun R hR i l h => by
  unfold b58
  refine le_br2 (J := fun i l => J58 T i l h) (fun _ a0 a1 => le_e (fun hn => e58_0 rfl hn) ((m58 hc hR) a0 a1 h)) ?_
  exact le_fail _) n
theorem m59 {cf cf' : CallF} {R R' : Rec} (hc : ∀ f l h, le (cf f l h) (cf' f l h)) (hR : ∀ i l h, le (R i l h) (R' i l h)) :
  (∀ (a0 a1 a2 : IV) (h : H), le (t59_0 cf R a0 a1 a2 h) (t59_0 cf' R' a0 a1 a2 h)) ∧
  (∀ (a1 a2 a15 a16 a17 : IV) (h : H), le (t59_1 cf R a1 a2 a15 a16 a17 h) (t59_1 cf' R' a1 a2 a15 a16 a17 h)) := by
  refine ⟨?_, ?_⟩
  all_goals intros
  all_goals first | unfold t59_0 | unfold t59_1
  all_goals
  with_reducible repeat' first
    | refine le_obind fun _ => ?_
    | refine le_callP ?_ (fun _ _ => ?_) (fun _ _ => ?_)
    | refine le_condK ?_ ?_
    | exact hR _ _ _
    | refine le_obind2 fun _ _ => ?_
    | refine le_obindH fun _ => ?_
    | refine le_spanK (fun _ _ _ => ?_) (fun _ _ => ?_)
    | exact hc _ _ _
    | refine le_bif ?_ ?_
    | refine le_guardK ?_ ?_ ?_
    | refine le_mapK fun _ _ => ?_
    | refine le_panK fun _ _ => ?_
    | refine le_funK fun _ _ => ?_
    | exact le_refl _
    | apply_assumption
noncomputable def b59 (cf : CallF) (R : Rec) : Rec := fun i l h =>
 br3 i 0 l (fun a0 a1 a2 => t59_0 cf R a0 a1 a2 h) <|
 br5 i 1 l (fun a1 a2 a15 a16 a17 => t59_1 cf R a1 a2 a15 a16 a17 h) <|
 .fail
theorem r59 {T : Tab} {cf : CallF} (hc : leC cf (CL T)) (n : Nat) : leR (recN (b59 cf) n) (J59 T) := recN_le (fun R hR i l h => by
  unfold b59
  refine le_br3 (J := fun i l => J59 T i l h) (fun _ a0 a1 a2 => le_e (fun hn => e59_0 rfl hn) ((m59 hc hR).1 a0 a1 a2 h)) ?_
  refine le_br5 (J := fun i l => J59 T i l h) (fun _ a1 a2 a15 a16 a17 => le_e (fun hn => e59_1 rfl hn) ((m59 hc hR).2 a1 a2 a15 a16 a17 h)) ?_
  exact le_fail _) n
theorem m66 {cf cf' : CallF} {R R' : Rec} (hc : ∀ f l h, le (cf f l h) (cf' f l h)) (hR : ∀ i l h, le (R i l h) (R' i l h)) : (∀ (a0 : IV) (h : H), le (t66_0 cf R a0 h) (t66_0 cf' R' a0 h)) := by
  intros
  unfold t66_0
  with_reducible repeat' first
    | refine le_obind fun _ => ?_
    | refine le_callP ?_ (fun _ _ => ?_) (fun _ _ => ?_)
    | refine le_condK ?_ ?_
    | exact hR _ _ _
    | refine le_obind2 fun _ _ => ?_
    | refine le_obindH fun _ => ?_
    | refine le_spanK (fun _ _ _ => ?_) (fun _ _ => ?_)
    | exact hc _ _ _
    | refine le_bif ?_ ?_
    | refine le_guardK ?_ ?_ ?_
    | refine le_mapK fun _ _ => ?_
    | refine le_panK fun _ _ => ?_
    | refine le_funK fun _ _ => ?_
    | exact le_refl _
    | apply_assumption
noncomputable def b66 (cf : CallF) (R : Rec) : Rec := fun i l h =>
 br1 i 0 l (fun a0 => t66_0 cf R a0 h) <|
 .fail
theorem r66 {T : Tab} {cf : CallF} (hc : leC cf (CL T)) (n : Nat) : leR (recN (b66 cf) n) (J66 T) := recN_le (fun R hR i l h => by
  unfold b66
  refine le_br1 (J := fun i l => J66 T i l h) (fun _ a0 => le_e (fun hn => e66_0 rfl hn) ((m66 hc hR) a0 h)) ?_
  exact le_fail _) n
theorem m67 {cf cf' : CallF} {R R' : Rec} (hc : ∀ f l h, le (cf f l h) (cf' f l h)) (hR : ∀ i l h, le (R i l h) (R' i l h)) : (∀ (a0 a1 a2 : IV) (h : H), le (t67_0 cf R a0 a1 a2 h) (t67_0 cf' R' a0 a1 a2 h)) := by
  intros
  unfold t67_0
  with_reducible repeat' first
    | refine le_obind fun _ => ?_
    | refine le_callP ?_ (fun _ _ => ?_) (fun _ _ => ?_)
    | refine le_condK ?_ ?_
    | exact hR _ _ _
    | refine le_obind2 fun _ _ => ?_
    | refine le_obindH fun _ => ?_
    | refine le_spanK (fun _ _ _ => ?_) (fun _ _ => ?_)
    | exact hc _ _ _
    | refine le_bif ?_ ?_
    | refine le_guardK ?_ ?_ ?_
    | refine le_mapK fun _ _ => ?_
    | refine le_panK fun _ _ => ?_
    | refine le_funK fun _ _ => ?_
    | exact le_refl _
    | apply_assumption
noncomputable def b67 (cf : CallF) (R : Rec) : Rec := fun i l h =>
 br3 i 0 l (fun a0 a1 a2 => t67_0 cf R a0 a1 a2 h) <|
 .fail
theorem r67 {T : Tab} {cf : CallF} (hc : leC cf (CL T)) (n : Nat) : leR (recN (b67 cf) n) (J67 T) := recN_le (fun R hR i l h => by
  unfold b67
  refine le_br3 (J := fun i l => J67 T i l h) (fun _ a0 a1 a2 => le_e (fun hn => e67_0 rfl hn) ((m67 hc hR) a0 a1 a2 h)) ?_
  exact le_fail _) n
theorem m70 {cf cf' : CallF} {R R' : Rec} (hc : ∀ f l h, le (cf f l h) (cf' f l h)) (hR : ∀ i l h, le (R i l h) (R' i l h)) :
  (∀ (a0 a1 a2 : IV) (h : H), le (t70_0 cf R a0 a1 a2 h) (t70_0 cf' R' a0 a1 a2 h)) ∧
  (∀ (a1 a2 a15 a16 a17 : IV) (h : H), le (t70_1 cf R a1 a2 a15 a16 a17 h) (t70_1 cf' R' a1 a2 a15 a16 a17 h)) := by
  refine ⟨?_, ?_⟩
  all_goals intros
  all_goals first | unfold t70_0 | unfold t70_1
  all_goals
  with_reducible repeat' first
    | refine le_obind fun _ => ?_
    | refine le_callP ?_ (fun _ _ => ?_) (fun _ _ => ?_)
    | refine le_condK ?_ ?_
    | exact hR _ _ _
    | refine le_obind2 fun _ _ => ?_
    | refine le_obindH fun _ => ?_
    | refine le_spanK (fun _ _ _ => ?_) (fun _ _ => ?_)
    | exact hc _ _ _
    | refine le_bif ?_ ?_
    | refine le_guardK ?_ ?_ ?_
    | refine le_mapK fun _ _ => ?_
    | refine le_panK fun _ _ => ?_
    | refine le_funK fun _ _ => ?_
    | exact le_refl _
    | apply_assumption
noncomputable def b70 (cf : CallF) (R : Rec) : Rec := fun i l h =>
 br3 i 0 l (fun a0 a1 a2 => t70_0 cf R a0 a1 a2 h) <|
 br5 i 1 l (fun a1 a2 a15 a16 a17 => t70_1 cf R a1 a2 a15 a16 a17 h) <|
 .fail
theorem r70 {T : Tab} {cf : CallF} (hc : leC cf (CL T)) (n : Nat) : leR (recN (b70 cf) n) (J70 T) := recN_le (fun R hR i l h => by
  unfold b70
  refine le_br3 (J := fun i l => J70 T i l h) (fun _ a0 a1 a2 => le_e (fun hn => e70_0 rfl hn) ((m70 hc hR).1 a0 a1 a2 h)) ?_
  refine le_br5 (J := fun i l => J70 T i l h) (fun _ a1 a2 a15 a16 a17 => le_e (fun hn => e70_1 rfl hn) ((m70 hc hR).2 a1 a2 a15 a16 a17 h)) ?_
  exact le_fail _) n
theorem m75 {cf cf' : CallF} {R R' : Rec} (hc : ∀ f l h, le (cf f l h) (cf' f l h)) (hR : ∀ i l h, le (R i l h) (R' i l h)) : (∀ (a0 : IV) (h : H), le (t75_0 cf R a0 h) (t75_0 cf' R' a0 h)) := by
  intros
  unfold t75_0
  with_reducible repeat' first
    | refine le_obind fun _ => ?_
    | refine le_callP ?_ (fun _ _ => ?_) (fun _ _ => ?_)
    | refine le_condK ?_ ?_
    | exact hR _ _ _
    | refine le_obind2 fun _ _ => ?_
    | refine le_obindH fun _ => ?_
    | refine le_spanK (fun _ _ _ => ?_) (fun _ _ => ?_)
    | exact hc _ _ _
    | refine le_bif ?_ ?_
    | refine le_guardK ?_ ?_ ?_
    | refine le_mapK fun _ _ => ?_
    | refine le_panK fun _ _ => ?_
    | refine le_funK fun _ _ => ?_
    | exact le_refl _
    | apply_assumption
noncomputable def b75 (cf : CallF) (R : Rec) : Rec := fun i l h =>
 br1 i 0 l (fun a0 => t75_0 cf R a0 h) <|
 .fail
theorem r75 {T : Tab} {cf : CallF} (hc : leC cf (CL T)) (n : Nat) : leR (recN (b75 cf) n) (J75 T) := recN_le (fun R hR i l h => by
  unfold b75
  refine le_br1 (J := fun i l => J75 T i l h) (fun _ a0 => le_e (fun hn => e75_0 rfl hn) ((m75 hc hR) a0 h)) ?_
  exact le_fail _) n
theorem m76 {cf cf' : CallF} {R R' : Rec} (hc : ∀ f l h, le (cf f l h) (cf' f l h)) (hR : ∀ i l h, le (R i l h) (R' i l h)) : (∀ (a0 : IV) (h : H), le (t76_0 cf R a0 h) (t76_0 cf' R' a0 h)) := by
  intros
  unfold t76_0
  with_reducible repeat' first
    | refine le_obind fun _ => ?_
    | refine le_callP ?_ (fun _ _ => ?_) (fun _ _ => ?_)
    | refine le_condK ?_ ?_
    | exact hR _ _ _
    | refine le_obind2 fun _ _ => ?_
    | refine le_obindH fun _ => ?_
    | refine le_spanK (fun _ _ _ => ?_) (fun _ _ => ?_)
    | exact hc _ _ _
    | refine le_bif ?_ ?_
    | refine le_guardK ?_ ?_ ?_
    | refine le_mapK fun _ _ => ?_
    | refine le_panK fun _ _ => ?_
    | refine le_funK fun _ _ => ?_
    | exact le_refl _
    | apply_assumption
noncomputable def b76 (cf : CallF) (R : Rec) : Rec := fun i l h =>
 br1 i 0 l (fun a0 => t76_0 cf R a0 h) <|
 .fail
theorem r76 {T : Tab} {cf : CallF} (hc : leC cf (CL T)) (n : Nat) : leR (recN (b76 cf) n) (J76 T) := recN_le (fun R hR i l h => by
  unfold b76
  refine le_br1 (J := fun i l => J76 T i l h) (fun _ a0 => le_e (fun hn => e76_0 rfl hn) ((m76 hc hR) a0 h)) ?_
  exact le_fail _) n
theorem m77 {cf cf' : CallF} {R R' : Rec} (hc : ∀ f l h, le (cf f l h) (cf' f l h)) (hR : ∀ i l h, le (R i l h) (R' i l h)) : (∀ (a0 : IV) (h : H), le (t77_0 cf R a0 h) (t77_0 cf' R' a0 h)) := by
  intros
  unfold t77_0
  with_reducible repeat' first
    | refine le_obind fun _ => ?_
    | refine le_callP ?_ (fun _ _ => ?_) (fun _ _ => ?_)
    | refine le_condK ?_ ?_
    | exact hR _ _ _
    | refine le_obind2 fun _ _ => ?_
    | refine le_obindH fun _ => ?_
    | refine le_spanK (fun _ _ _ => ?_) (fun _ _ => ?_)
    | exact hc _ _ _
    | refine le_bif ?_ ?_
    | refine le_guardK ?_ ?_ ?_
    | refine le_mapK fun _ _ => ?_
    | refine le_panK fun _ _ => ?_
    | refine le_funK fun _ _ => ?_
    | exact le_refl _
    | apply_assumption
noncomputable def b77 (cf : CallF) (R : Rec) : Rec := fun i l h =>
 br1 i 0 l (fun a0 => t77_0 cf R a0 h) <|
 .fail
theorem r77 {T : Tab} {cf : CallF} (hc : leC cf (CL T)) (n : Nat) : leR (recN (b77 cf) n) (J77 T) := recN_le (fun R hR i l h => by
  unfold b77
  refine le_br1 (J := fun i l => J77 T i l h) (fun _ a0 => le_e (fun hn => e77_0 rfl hn) ((m77 hc hR) a0 h)) ?_
  exact le_fail _) n
theorem m79 {cf cf' : CallF} {R R' : Rec} (hc : ∀ f l h, le (cf f l h) (cf' f l h)) (hR : ∀ i l h, le (R i l h) (R' i l h)) :
  (∀ (a0 a1 : IV) (h : H), le (t79_0 cf R a0 a1 h) (t79_0 cf' R' a0 a1 h)) ∧
  (∀ (a0 a1 a5 a6 : IV) (h : H), le (t79_1 cf R a0 a1 a5 a6 h) (t79_1 cf' R' a0 a1 a5 a6 h)) ∧
  (∀ (a0 a1 a7 a8 : IV) (h : H), le (t79_2 cf R a0 a1 a7 a8 h) (t79_2 cf' R' a0 a1 a7 a8 h)) := by
  refine ⟨?_, ?_, ?_⟩
  all_goals intros
  all_goals first | unfold t79_0 | unfold t79_1 | unfold t79_2
  all_goals
  with_reducible repeat' first
    | refine le_obind fun _ => ?_
    | refine le_callP ?_ (fun _ _ => ?_) (fun _ _ => ?_)
    | refine le_condK ?_ ?_
    | exact hR _ _ _
    | refine le_obind2 fun _ _ => ?_
    | refine le_obindH fun _ => ?_
    | refine le_spanK (fun _ _ _ => ?_) (fun _ _ => ?_)
    | exact hc _ _ _
    | refine le_bif ?_ ?_
    | refine le_guardK ?_ ?_ ?_
    | refine le_mapK fun _ _ => ?_
    | refine le_panK fun _ _ => ?_
    | refine le_funK fun _ _ => ?_
    | exact le_refl _
    | apply_assumption
noncomputable def b79 (cf : CallF) (R : Rec) : Rec := fun i l h =>
 br2 i 0 l (fun a0 a1 => t79_0 cf R a0 a1 h) <|
 br4 i 1 l (fun a0 a1 a5 a6 => t79_1 cf R a0 a1 a5 a6 h) <|
 br4 i 2 l (fun a0 a1 a7 a8 => t79_2 cf R a0 a1 a7 a8 h) <|
 .fail
theorem r79 {T : Tab} {cf : CallF} (hc : leC cf (CL T)) (n : Nat) : leR (recN (b79 cf) n) (J79 T) := recN_le (fun R hR i l h => by
  unfold b79
  refine le_br2 (J := fun i l => J79 T i l h) (fun _ a0 a1 => le_e (fun hn => e79_0 rfl hn) ((m79 hc hR).1 a0 a1 h)) ?_
  refine le_br4 (J := fun i l => J79 T i l h) (fun _ a0 a1 a5 a6 => le_e (fun hn => e79_1 rfl hn) ((m79 hc hR).2.1 a0 a1 a5 a6 h)) ?_
  refine le_br4 (J := fun i l => J79 T i l h) (fun _ a0 a1 a7 a8 => le_e (fun hn => e79_2 rfl hn) ((m79 hc hR).2.2 a0 a1 a7 a8 h)) ?_
  exact le_fail _) n
theorem m80 {cf cf' : CallF} {R R' : Rec} (hc : ∀ f l h, le (cf f l h) (cf' f l h)) (hR : ∀ i l h, le (R i l h) (R' i l h)) : (∀ (a0 : IV) (h : H), le (t80_0 cf R a0 h) (t80_0 cf' R' a0 h)) := by
  intros
  unfold t80_0
  with_reducible repeat' first
    | refine le_obind fun _ => ?_
    | refine le_callP ?_ (fun _ _ => ?_) (fun _ _ => ?_)
    | refine le_condK ?_ ?_
    | exact hR _ _ _
    | refine le_obind2 fun _ _ => ?_
    | refine le_obindH fun _ => ?_
    | refine le_spanK (fun _ _ _ => ?_) (fun _ _ => ?_)
    | exact hc _ _ _
    | refine le_bif ?_ ?_
    | refine le_guardK ?_ ?_ ?_
    | refine le_mapK fun _ _ => ?_
    | refine le_panK fun _ _ => ?_
    | refine le_funK fun _ _ => ?_
    | exact le_refl _
    | apply_assumption
noncomputable def b80 (cf : CallF) (R : Rec) : Rec := fun i l h =>
 br1 i 0 l (fun a0 => t80_0 cf R a0 h) <|
 .fail
theorem r80 {T : Tab} {cf : CallF} (hc : leC cf (CL T)) (n : Nat) : leR (recN (b80 cf) n) (J80 T) := recN_le (fun R hR i l h => by
  unfold b80
  refine le_br1 (J := fun i l => J80 T i l h) (fun _ a0 => le_e (fun hn => e80_0 rfl hn) ((m80 hc hR) a0 h)) ?_
  exact le_fail _) n
theorem m81 {cf cf' : CallF} {R R' : Rec} (hc : ∀ f l h, le (cf f l h) (cf' f l h)) (hR : ∀ i l h, le (R i l h) (R' i l h)) : (∀ (a0 a1 : IV) (h : H), le (t81_0 cf R a0 a1 h) (t81_0 cf' R' a0 a1 h)) := by
  intros
  unfold t81_0
  with_reducible repeat' first
    | refine le_obind fun _ => ?_
    | refine le_callP ?_ (fun _ _ => ?_) (fun _ _ => ?_)
    | refine le_condK ?_ ?_
    | exact hR _ _ _
    | refine le_obind2 fun _ _ => ?_
    | refine le_obindH fun _ => ?_
    | refine le_spanK (fun _ _ _ => ?_) (fun _ _ => ?_)
    | exact hc _ _ _
    | refine le_bif ?_ ?_
    | refine le_guardK ?_ ?_ ?_
    | refine le_mapK fun _ _ => ?_
    | refine le_panK fun _ _ => ?_
    | refine le_funK fun _ _ => ?_
    | exact le_refl _
    | apply_assumption
noncomputable def b81 (cf : CallF) (R : Rec) : Rec := fun i l h =>
 br2 i 0 l (fun a0 a1 => t81_0 cf R a0 a1 h) <|
 .fail
theorem r81 {T : Tab} {cf : CallF} (hc : leC cf (CL T)) (n : Nat) : leR (recN (b81 cf) n) (J81 T) := recN_le (fun R hR i l h => by
  unfold b81
  refine le_br2 (J := fun i l => J81 T i l h) (fun _ a0 a1 => le_e (fun hn => e81_0 rfl hn) ((m81 hc hR) a0 a1 h)) ?_
  exact le_fail _) n
theorem m82 {cf cf' : CallF} {R R' : Rec} (hc : ∀ f l h, le (cf f l h) (cf' f l h)) (hR : ∀ i l h, le (R i l h) (R' i l h)) : (∀ (a0 : IV) (h : H), le (t82_0 cf R a0 h) (t82_0 cf' R' a0 h)) := by
  intros
  unfold t82_0
  with_reducible repeat' first
    | refine le_obind fun _ => ?_
    | refine le_callP ?_ (fun _ _ => ?_) (fun _ _ => ?_)
    | refine le_condK ?_ ?_
    | exact hR _ _ _
    | refine le_obind2 fun _ _ => ?_
    | refine le_obindH fun _ => ?_
    | refine le_spanK (fun _ _ _ => ?_) (fun _ _ => ?_)
    | exact hc _ _ _
    | refine le_bif ?_ ?_
    | refine le_guardK ?_ ?_ ?_
    | refine le_mapK fun _ _ => ?_
    | refine le_panK fun _ _ => ?_
    | refine le_funK fun _ _ => ?_
    | exact le_refl _
    | apply_assumption
noncomputable def b82 (cf : CallF) (R : Rec) : Rec := fun i l h =>
 br1 i 0 l (fun a0 => t82_0 cf R a0 h) <|
 .fail
theorem r82 {T : Tab} {cf : CallF} (hc : leC cf (CL T)) (n : Nat) : leR (recN (b82 cf) n) (J82 T) := recN_le (fun R hR i l h => by
  unfold b82
  refine le_br1 (J := fun i l => J82 T i l h) (fun _ a0 => le_e (fun hn => e82_0 rfl hn) ((m82 hc hR) a0 h)) ?_
  exact le_fail _) n
theorem m83 {cf cf' : CallF} {R R' : Rec} (hc : ∀ f l h, le (cf f l h) (cf' f l h)) (hR : ∀ i l h, le (R i l h) (R' i l h)) : (∀ (a0 a1 : IV) (h : H), le (t83_0 cf R a0 a1 h) (t83_0 cf' R' a0 a1 h)) := by
  intros
  unfold t83_0
  with_reducible repeat' first
    | refine le_obind fun _ => ?_
    | refine le_callP ?_ (fun _ _ => ?_) (fun _ _ => ?_)
    | refine le_condK ?_ ?_
    | exact hR _ _ _
    | refine le_obind2 fun _ _ => ?_
    | refine le_obindH fun _ => ?_
    | refine le_spanK (fun _ _ _ => ?_) (fun _ _ => ?_)
    | exact hc _ _ _
    | refine le_bif ?_ ?_
    | refine le_guardK ?_ ?_ ?_
    | refine le_mapK fun _ _ => ?_
    | refine le_panK fun _ _ => ?_
    | refine le_funK fun _ _ => ?_
    | exact le_refl _
    | apply_assumption
noncomputable def b83 (cf : CallF) (R : Rec) : Rec := fun i l h =>
 br2 i 0 l (fun a0 a1 => t83_0 cf R a0 a1 h) <|
 .fail
theorem r83 {T : Tab} {cf : CallF} (hc : leC cf (CL T)) (n : Nat) : leR (recN (b83 cf) n) (J83 T) := recN_le (fun R hR i l h => by
  unfold b83
  refine le_br2 (J := fun i l => J83 T i l h) (fun _ a0 a1 => le_e (fun hn => e83_0 rfl hn) ((m83 hc hR) a0 a1 h)) ?_
  exact le_fail _) n
theorem m85 {cf cf' : CallF} {R R' : Rec} (hc : ∀ f l h, le (cf f l h) (cf' f l h)) (hR : ∀ i l h, le (R i l h) (R' i l h)) :
  (∀ (a0 : IV) (h : H), le (t85_0 cf R a0 h) (t85_0 cf' R' a0 h)) ∧
  (∀ (a0 a2 a3 : IV) (h : H), le (t85_1 cf R a0 a2 a3 h) (t85_1 cf' R' a0 a2 a3 h)) := by
  refine ⟨?_, ?_⟩
  all_goals intros
  all_goals first | unfold t85_0 | unfold t85_1
  all_goals
  with_reducible repeat' first
    | refine le_obind fun _ => ?_
    | refine le_callP ?_ (fun _ _ => ?_) (fun _ _ => ?_)
    | refine le_condK ?_ ?_
    | exact hR _ _ _
    | refine le_obind2 fun _ _ => ?_
    | refine le_obindH fun _ => ?_
    | refine le_spanK (fun _ _ _ => ?_) (fun _ _ => ?_)
    | exact hc _ _ _
    | refine le_bif ?_ ?_
    | refine le_guardK ?_ ?_ ?_
    | refine le_mapK fun _ _ => ?_
    | refine le_panK fun _ _ => ?_
    | refine le_funK fun _ _ => ?_
    | exact le_refl _
    | apply_assumption
noncomputable def b85 (cf : CallF) (R : Rec) : Rec := fun i l h =>
 br1 i 0 l (fun a0 => t85_0 cf R a0 h) <|
 br3 i 1 l (fun a0 a2 a3 => t85_1 cf R a0 a2 a3 h) <|
 .fail
theorem r85 {T : Tab} {cf : CallF} (hc : leC cf (CL T)) (n : Nat) : leR (recN (b85 cf) n) (J85 T) := recN_le (fun R hR i l h => by
  unfold b85
  refine le_br1 (J := fun i l => J85 T i l h) (fun _ a0 => le_e (fun hn => e85_0 rfl hn) ((m85 hc hR).1 a0 h)) ?_
  refine le_br3 (J := fun i l => J85 T i l h) (fun _ a0 a2 a3 => le_e (fun hn => e85_1 rfl hn) ((m85 hc hR).2 a0 a2 a3 h)) ?_
  exact le_fail _) n
theorem m86 {cf cf' : CallF} {R R' : Rec} (hc : ∀ f l h, le (cf f l h) (cf' f l h)) (hR : ∀ i l h, le (R i l h) (R' i l h)) :
  (∀ (a0 a1 a2 : IV) (h : H), le (t86_0 cf R a0 a1 a2 h) (t86_0 cf' R' a0 a1 a2 h)) ∧
  (∀ (a0 a1 a2 a7 : IV) (h : H), le (t86_1 cf R a0 a1 a2 a7 h) (t86_1 cf' R' a0 a1 a2 a7 h)) := by
  refine ⟨?_, ?_⟩
  all_goals intros
  all_goals first | unfold t86_0 | unfold t86_1
  all_goals
  with_reducible repeat' first
    | refine le_obind fun _ => ?_
    | refine le_callP ?_ (fun _ _ => ?_) (fun _ _ => ?_)
    | refine le_condK ?_ ?_
    | exact hR _ _ _
    | refine le_obind2 fun _ _ => ?_
    | refine le_obindH fun _ => ?_
    | refine le_spanK (fun _ _ _ => ?_) (fun _ _ => ?_)
    | exact hc _ _ _
    | refine le_bif ?_ ?_
    | refine le_guardK ?_ ?_ ?_
    | refine le_mapK fun _ _ => ?_
    | refine le_panK fun _ _ => ?_
    | refine le_funK fun _ _ => ?_
    | exact le_refl _
    | apply_assumption
noncomputable def b86 (cf : CallF) (R : Rec) : Rec := fun i l h =>
 br3 i 0 l (fun a0 a1 a2 => t86_0 cf R a0 a1 a2 h) <|
 br4 i 1 l (fun a0 a1 a2 a7 => t86_1 cf R a0 a1 a2 a7 h) <|
 .fail
theorem r86 {T : Tab} {cf : CallF} (hc : leC cf (CL T)) (n : Nat) : leR (recN (b86 cf) n) (J86 T) := recN_le (fun R hR i l h => by
  unfold b86
  refine le_br3 (J := fun i l => J86 T i l h) (fun _ a0 a1 a2 => le_e (fun hn => e86_0 rfl hn) ((m86 hc hR).1 a0 a1 a2 h)) ?_
  refine le_br4 (J := fun i l => J86 T i l h) (fun _ a0 a1 a2 a7 => le_e (fun hn => e86_1 rfl hn) ((m86 hc hR).2 a0 a1 a2 a7 h)) ?_
  exact le_fail _) n
theorem m87 {cf cf' : CallF} {R R' : Rec} (hc : ∀ f l h, le (cf f l h) (cf' f l h)) (hR : ∀ i l h, le (R i l h) (R' i l h)) : (∀ (a0 a1 : IV) (h : H), le (t87_0 cf R a0 a1 h) (t87_0 cf' R' a0 a1 h)) := by
  intros
  unfold t87_0
  with_reducible repeat' first
    | refine le_obind fun _ => ?_
    | refine le_callP ?_ (fun _ _ => ?_) (fun _ _ => ?_)
    | refine le_condK ?_ ?_
    | exact hR _ _ _
    | refine le_obind2 fun _ _ => ?_
    | refine le_obindH fun _ => ?_
    | refine le_spanK (fun _ _ _ => ?_) (fun _ _ => ?_)
    | exact hc _ _ _
    | refine le_bif ?_ ?_
    | refine le_guardK ?_ ?_ ?_
    | refine le_mapK fun _ _ => ?_
    | refine le_panK fun _ _ => ?_
    | refine le_funK fun _ _ => ?_
    | exact le_refl _
    | apply_assumption
noncomputable def b87 (cf : CallF) (R : Rec) : Rec := fun i l h =>
 br2 i 0 l (fun a0 a1 => t87_0 cf R a0 a1 h) <|
 .fail
theorem r87 {T : Tab} {cf : CallF} (hc : leC cf (CL T)) (n : Nat) : leR (recN (b87 cf) n) (J87 T) := recN_le (fun R hR i l h => by
  unfold b87
  refine le_br2 (J := fun i l => J87 T i l h) (fun _ a0 a1 => le_e (fun hn => e87_0 rfl hn) ((m87 hc hR) a0 a1 h)) ?_
  exact le_fail _) n
theorem m88 {cf cf' : CallF} {R R' : Rec} (hc : ∀ f l h, le (cf f l h) (cf' f l h)) (hR : ∀ i l h, le (R i l h) (R' i l h)) : (∀ (a0 a1 a2 a3 : IV) (h : H), le (t88_0 cf R a0 a1 a2 a3 h) (t88_0 cf' R' a0 a1 a2 a3 h)) := by
  intros
  unfold t88_0
  with_reducible repeat' first
    | refine le_obind fun _ => ?_
    | refine le_callP ?_ (fun _ _ => ?_) (fun _ _ => ?_)
    | refine le_condK ?_ ?_
    | exact hR _ _ _
    | refine le_obind2 fun _ _ => ?_
    | refine le_obindH fun _ => ?_
    | refine le_spanK (fun _ _ _ => ?_) (fun _ _ => ?_)
    | exact hc _ _ _
    | refine le_bif ?_ ?_
    | refine le_guardK ?_ ?_ ?_
    | refine le_mapK fun _ _ => ?_
    | refine le_panK fun _ _ => ?_
    | refine le_funK fun _ _ => ?_
    | exact le_refl _
    | apply_assumption
noncomputable def b88 (cf : CallF) (R : Rec) : Rec := fun i l h =>
 br4 i 0 l (fun a0 a1 a2 a3 => t88_0 cf R a0 a1 a2 a3 h) <|
 .fail
theorem r88 {T : Tab} {cf : CallF} (hc : leC cf (CL T)) (n : Nat) : leR (recN (b88 cf) n) (J88 T) := recN_le (fun R hR i l h => by
  unfold b88
  refine le_br4 (J := fun i l => J88 T i l h) (fun _ a0 a1 a2 a3 => le_e (fun hn => e88_0 rfl hn) ((m88 hc hR) a0 a1 a2 a3 h)) ?_
  exact le_fail _) n
theorem m94 {cf cf' : CallF} {R R' : Rec} (hc : ∀ f l h, le (cf f l h) (cf' f l h)) (hR : ∀ i l h, le (R i l h) (R' i l h)) : (∀ (a0 a1 : IV) (h : H), le (t94_0 cf R a0 a1 h) (t94_0 cf' R' a0 a1 h)) := by
  intros
  unfold t94_0
  with_reducible repeat' first
    | refine le_obind fun _ => ?_
    | refine le_callP ?_ (fun _ _ => ?_) (fun _ _ => ?_)
    | refine le_condK ?_ ?_
    | exact hR _ _ _
    | refine le_obind2 fun _ _ => ?_
    | refine le_obindH fun _ => ?_
    | refine le_spanK (fun _ _ _ => ?_) (fun _ _ => ?_)
    | exact hc _ _ _
    | refine le_bif ?_ ?_
    | refine le_guardK ?_ ?_ ?_
    | refine le_mapK fun _ _ => ?_
    | refine le_panK fun _ _ => ?_
    | refine le_funK fun _ _ => ?_
    | exact le_refl _
    | apply_assumption
noncomputable def b94 (cf : CallF) (R : Rec) : Rec := fun i l h =>
 br2 i 0 l (fun a0 a1 => t94_0 cf R a0 a1 h) <|
 .fail
theorem r94 {T : Tab} {cf : CallF} (hc : leC cf (CL T)) (n : Nat) : leR (recN (b94 cf) n) (J94 T) := recN_le (fun R hR i l h => by
  unfold b94
  refine le_br2 (J := fun i l => J94 T i l h) (fun _ a0 a1 => le_e (fun hn => e94_0 rfl hn) ((m94 hc hR) a0 a1 h)) ?_
  exact le_fail _) n
theorem m95 {cf cf' : CallF} {R R' : Rec} (hc : ∀ f l h, le (cf f l h) (cf' f l h)) (hR : ∀ i l h, le (R i l h) (R' i l h)) :
  (∀ (a0 : IV) (h : H), le (t95_0 cf R a0 h) (t95_0 cf' R' a0 h)) ∧
  (∀ (a0 a3 : IV) (h : H), le (t95_3 cf R a0 a3 h) (t95_3 cf' R' a0 a3 h)) ∧
  (∀ (h : H), le (t95_2 cf R h) (t95_2 cf' R' h)) ∧
  (∀ (a0 a19 : IV) (h : H), le (t95_4 cf R a0 a19 h) (t95_4 cf' R' a0 a19 h)) ∧
  (∀ (h : H), le (t95_1 cf R h) (t95_1 cf' R' h)) := by
  refine ⟨?_, ?_, ?_, ?_, ?_⟩
  all_goals intros
  all_goals first | unfold t95_0 | unfold t95_3 | unfold t95_2 | unfold t95_4 | unfold t95_1
  all_goals
  with_reducible repeat' first
    | refine le_obind fun _ => ?_
    | refine le_callP ?_ (fun _ _ => ?_) (fun _ _ => ?_)
    | refine le_condK ?_ ?_
    | exact hR _ _ _
    | refine le_obind2 fun _ _ => ?_
    | refine le_obindH fun _ => ?_
    | refine le_spanK (fun _ _ _ => ?_) (fun _ _ => ?_)
    | exact hc _ _ _
    | refine le_bif ?_ ?_
    | refine le_guardK ?_ ?_ ?_
    | refine le_mapK fun _ _ => ?_
    | refine le_panK fun _ _ => ?_
    | refine le_funK fun _ _ => ?_
    | exact le_refl _
    | apply_assumption
noncomputable def b95 (cf : CallF) (R : Rec) : Rec := fun i l h =>
 br1 i 0 l (fun a0 => t95_0 cf R a0 h) <|
 br2 i 3 l (fun a0 a3 => t95_3 cf R a0 a3 h) <|
 br0 i 2 l (t95_2 cf R h) <|
 br2 i 4 l (fun a0 a19 => t95_4 cf R a0 a19 h) <|
 br0 i 1 l (t95_1 cf R h) <|
 .fail
theorem r95 {T : Tab} {cf : CallF} (hc : leC cf (CL T)) (n : Nat) : leR (recN (b95 cf) n) (J95 T) := recN_le (fun R hR i l h => by
  unfold b95
  refine le_br1 (J := fun i l => J95 T i l h) (fun _ a0 => le_e (fun hn => e95_0 rfl hn) ((m95 hc hR).1 a0 h)) ?_
  refine le_br2 (J := fun i l => J95 T i l h) (fun _ a0 a3 => le_e (fun hn => e95_3 rfl hn) ((m95 hc hR).2.1 a0 a3 h)) ?_
  refine le_br0 (J := fun i l => J95 T i l h) (fun _ => le_e (fun hn => e95_2 rfl hn) ((m95 hc hR).2.2.1 h)) ?_
  refine le_br2 (J := fun i l => J95 T i l h) (fun _ a0 a19 => le_e (fun hn => e95_4 rfl hn) ((m95 hc hR).2.2.2.1 a0 a19 h)) ?_
  refine le_br0 (J := fun i l => J95 T i l h) (fun _ => le_e (fun hn => e95_1 rfl hn) ((m95 hc hR).2.2.2.2 h)) ?_
  exact le_fail _) n
theorem m96 {cf cf' : CallF} {R R' : Rec} (hc : ∀ f l h, le (cf f l h) (cf' f l h)) (hR : ∀ i l h, le (R i l h) (R' i l h)) :
  (∀ (a0 a1 : IV) (h : H), le (t96_0 cf R a0 a1 h) (t96_0 cf' R' a0 a1 h)) ∧
  (∀ (a4 : IV) (h : H), le (t96_1 cf R a4 h) (t96_1 cf' R' a4 h)) ∧
  (∀ (a2 a3 a4 a12 : IV) (h : H), le (t96_2 cf R a2 a3 a4 a12 h) (t96_2 cf' R' a2 a3 a4 a12 h)) := by
  refine ⟨?_, ?_, ?_⟩
  all_goals intros
  all_goals first | unfold t96_0 | unfold t96_1 | unfold t96_2
  all_goals
  with_reducible repeat' first
    | refine le_obind fun _ => ?_
    | refine le_callP ?_ (fun _ _ => ?_) (fun _ _ => ?_)
    | refine le_condK ?_ ?_
    | exact hR _ _ _
    | refine le_obind2 fun _ _ => ?_
    | refine le_obindH fun _ => ?_
    | refine le_spanK (fun _ _ _ => ?_) (fun _ _ => ?_)
    | exact hc _ _ _
    | refine le_bif ?_ ?_
    | refine le_guardK ?_ ?_ ?_
    | refine le_mapK fun _ _ => ?_
    | refine le_panK fun _ _ => ?_
    | refine le_funK fun _ _ => ?_
    | exact le_refl _
    | apply_assumption
noncomputable def b96 (cf : CallF) (R : Rec) : Rec := fun i l h =>
 br2 i 0 l (fun a0 a1 => t96_0 cf R a0 a1 h) <|
 br1 i 1 l (fun a4 => t96_1 cf R a4 h) <|
 br4 i 2 l (fun a2 a3 a4 a12 => t96_2 cf R a2 a3 a4 a12 h) <|
 .fail
theorem r96 {T : Tab} {cf : CallF} (hc : leC cf (CL T)) (n : Nat) : leR (recN (b96 cf) n) (J96 T) := recN_le (fun R hR i l h => by
  unfold b96
  refine le_br2 (J := fun i l => J96 T i l h) (fun _ a0 a1 => le_e (fun hn => e96_0 rfl hn) ((m96 hc hR).1 a0 a1 h)) ?_
  refine le_br1 (J := fun i l => J96 T i l h) (fun _ a4 => le_e (fun hn => e96_1 rfl hn) ((m96 hc hR).2.1 a4 h)) ?_
  refine le_br4 (J := fun i l => J96 T i l h) (fun _ a2 a3 a4 a12 => le_e (fun hn => e96_2 rfl hn) ((m96 hc hR).2.2 a2 a3 a4 a12 h)) ?_
  exact le_fail _) n
theorem m97 {cf cf' : CallF} {R R' : Rec} (hc : ∀ f l h, le (cf f l h) (cf' f l h)) (hR : ∀ i l h, le (R i l h) (R' i l h)) :
  (∀ (a0 a1 : IV) (h : H), le (t97_0 cf R a0 a1 h) (t97_0 cf' R' a0 a1 h)) ∧
  (∀ (a0 a1 a7 a8 : IV) (h : H), le (t97_1 cf R a0 a1 a7 a8 h) (t97_1 cf' R' a0 a1 a7 a8 h)) := by
  refine ⟨?_, ?_⟩
  all_goals intros
  all_goals first | unfold t97_0 | unfold t97_1
  all_goals
  with_reducible repeat' first
    | refine le_obind fun _ => ?_
    | refine le_callP ?_ (fun _ _ => ?_) (fun _ _ => ?_)
    | refine le_condK ?_ ?_
    | exact hR _ _ _
    | refine le_obind2 fun _ _ => ?_
    | refine le_obindH fun _ => ?_
    | refine le_spanK (fun _ _ _ => ?_) (fun _ _ => ?_)
    | exact hc _ _ _
    | refine le_bif ?_ ?_
    | refine le_guardK ?_ ?_ ?_
    | refine le_mapK fun _ _ => ?_
    | refine le_panK fun _ _ => ?_
    | refine le_funK fun _ _ => ?_
    | exact le_refl _
    | apply_assumption
noncomputable def b97 (cf : CallF) (R : Rec) : Rec := fun i l h =>
 br2 i 0 l (fun a0 a1 => t97_0 cf R a0 a1 h) <|
 br4 i 1 l (fun a0 a1 a7 a8 => t97_1 cf R a0 a1 a7 a8 h) <|
 .fail
theorem r97 {T : Tab} {cf : CallF} (hc : leC cf (CL T)) (n : Nat) : leR (recN (b97 cf) n) (J97 T) := recN_le (fun R hR i l h => by
  unfold b97
  refine le_br2 (J := fun i l => J97 T i l h) (fun _ a0 a1 => le_e (fun hn => e97_0 rfl hn) ((m97 hc hR).1 a0 a1 h)) ?_
  refine le_br4 (J := fun i l => J97 T i l h) (fun _ a0 a1 a7 a8 => le_e (fun hn => e97_1 rfl hn) ((m97 hc hR).2 a0 a1 a7 a8 h)) ?_
  exact le_fail _) n
theorem m99 {cf cf' : CallF} {R R' : Rec} (hc : ∀ f l h, le (cf f l h) (cf' f l h)) (hR : ∀ i l h, le (R i l h) (R' i l h)) :
  (∀ (a0 a1 : IV) (h : H), le (t99_0 cf R a0 a1 h) (t99_0 cf' R' a0 a1 h)) ∧
  (∀ (a5 a14 a15 a16 : IV) (h : H), le (t99_1 cf R a5 a14 a15 a16 h) (t99_1 cf' R' a5 a14 a15 a16 h)) := by
  refine ⟨?_, ?_⟩
  all_goals intros
  all_goals first | unfold t99_0 | unfold t99_1
  all_goals
  with_reducible repeat' first
    | refine le_obind fun _ => ?_
    | refine le_callP ?_ (fun _ _ => ?_) (fun _ _ => ?_)
    | refine le_condK ?_ ?_
    | exact hR _ _ _
    | refine le_obind2 fun _ _ => ?_
    | refine le_obindH fun _ => ?_
    | refine le_spanK (fun _ _ _ => ?_) (fun _ _ => ?_)
    | exact hc _ _ _
    | refine le_bif ?_ ?_
    | refine le_guardK ?_ ?_ ?_
    | refine le_mapK fun _ _ => ?_
    | refine le_panK fun _ _ => ?_
    | refine le_funK fun _ _ => ?_
    | exact le_refl _
    | apply_assumption
noncomputable def b99 (cf : CallF) (R : Rec) : Rec := fun i l h =>
 br2 i 0 l (fun a0 a1 => t99_0 cf R a0 a1 h) <|
 br4 i 1 l (fun a5 a14 a15 a16 => t99_1 cf R a5 a14 a15 a16 h) <|
 .fail
theorem r99 {T : Tab} {cf : CallF} (hc : leC cf (CL T)) (n : Nat) : leR (recN (b99 cf) n) (J99 T) := recN_le (fun R hR i l h => by
  unfold b99
  refine le_br2 (J := fun i l => J99 T i l h) (fun _ a0 a1 => le_e (fun hn => e99_0 rfl hn) ((m99 hc hR).1 a0 a1 h)) ?_
  refine le_br4 (J := fun i l => J99 T i l h) (fun _ a5 a14 a15 a16 => le_e (fun hn => e99_1 rfl hn) ((m99 hc hR).2 a5 a14 a15 a16 h)) ?_
  exact le_fail _) n
theorem m100 {cf cf' : CallF} {R R' : Rec} (hc : ∀ f l h, le (cf f l h) (cf' f l h)) (hR : ∀ i l h, le (R i l h) (R' i l h)) :
  (∀ (a0 : IV) (h : H), le (t100_0 cf R a0 h) (t100_0 cf' R' a0 h)) ∧
  (∀ (a0 a2 a3 : IV) (h : H), le (t100_1 cf R a0 a2 a3 h) (t100_1 cf' R' a0 a2 a3 h)) ∧
  (∀ (a0 a2 a3 a4 : IV) (h : H), le (t100_2 cf R a0 a2 a3 a4 h) (t100_2 cf' R' a0 a2 a3 a4 h)) ∧
  (∀ (a0 a2 a3 : IV) (h : H), le (t100_3 cf R a0 a2 a3 h) (t100_3 cf' R' a0 a2 a3 h)) ∧
  (∀ (a0 a2 a3 a6 : IV) (h : H), le (t100_4 cf R a0 a2 a3 a6 h) (t100_4 cf' R' a0 a2 a3 a6 h)) := by
  refine ⟨?_, ?_, ?_, ?_, ?_⟩
  all_goals intros
  all_goals first | unfold t100_0 | unfold t100_1 | unfold t100_2 | unfold t100_3 | unfold t100_4
  all_goals
  with_reducible repeat' first
    | refine le_obind fun _ => ?_
    | refine le_callP ?_ (fun _ _ => ?_) (fun _ _ => ?_)
    | refine le_condK ?_ ?_
    | exact hR _ _ _
    | refine le_obind2 fun _ _ => ?_
    | refine le_obindH fun _ => ?_
    | refine le_spanK (fun _ _ _ => ?_) (fun _ _ => ?_)
    | exact hc _ _ _
    | refine le_bif ?_ ?_
    | refine le_guardK ?_ ?_ ?_
    | refine le_mapK fun _ _ => ?_
    | refine le_panK fun _ _ => ?_
    | refine le_funK fun _ _ => ?_
    | exact le_refl _
    | apply_assumption
noncomputable def b100 (cf : CallF) (R : Rec) : Rec := fun i l h =>
 br1 i 0 l (fun a0 => t100_0 cf R a0 h) <|
 br3 i 1 l (fun a0 a2 a3 => t100_1 cf R a0 a2 a3 h) <|
 br4 i 2 l (fun a0 a2 a3 a4 => t100_2 cf R a0 a2 a3 a4 h) <|
 br3 i 3 l (fun a0 a2 a3 => t100_3 cf R a0 a2 a3 h) <|
 br4 i 4 l (fun a0 a2 a3 a6 => t100_4 cf R a0 a2 a3 a6 h) <|
 .fail
theorem r100 {T : Tab} {cf : CallF} (hc : leC cf (CL T)) (n : Nat) : leR (recN (b100 cf) n) (J100 T) := recN_le (fun R hR i l h => by
  unfold b100
  refine le_br1 (J := fun i l => J100 T i l h) (fun _ a0 => le_e (fun hn => e100_0 rfl hn) ((m100 hc hR).1 a0 h)) ?_
  refine le_br3 (J := fun i l => J100 T i l h) (fun _ a0 a2 a3 => le_e (fun hn => e100_1 rfl hn) ((m100 hc hR).2.1 a0 a2 a3 h)) ?_
  refine le_br4 (J := fun i l => J100 T i l h) (fun _ a0 a2 a3 a4 => le_e (fun hn => e100_2 rfl hn) ((m100 hc hR).2.2.1 a0 a2 a3 a4 h)) ?_
  refine le_br3 (J := fun i l => J100 T i l h) (fun _ a0 a2 a3 => le_e (fun hn => e100_3 rfl hn) ((m100 hc hR).2.2.2.1 a0 a2 a3 h)) ?_
  refine le_br4 (J := fun i l => J100 T i l h) (fun _ a0 a2 a3 a6 => le_e (fun hn => e100_4 rfl hn) ((m100 hc hR).2.2.2.2 a0 a2 a3 a6 h)) ?_
  exact le_fail _) n
theorem m115 {cf cf' : CallF} {R R' : Rec} (hc : ∀ f l h, le (cf f l h) (cf' f l h)) (hR : ∀ i l h, le (R i l h) (R' i l h)) : (∀ (a0 : IV) (h : H), le (t115_0 cf R a0 h) (t115_0 cf' R' a0 h)) := by
  intros
  unfold t115_0
  with_reducible repeat' first
    | refine le_obind fun _ => ?_
    | refine le_callP ?_ (fun _ _ => ?_) (fun _ _ => ?_)
    | refine le_condK ?_ ?_
    | exact hR _ _ _
    | refine le_obind2 fun _ _ => ?_
    | refine le_obindH fun _ => ?_
    | refine le_spanK (fun _ _ _ => ?_) (fun _ _ => ?_)
    | exact hc _ _ _
    | refine le_bif ?_ ?_
    | refine le_guardK ?_ ?_ ?_
    | refine le_mapK fun _ _ => ?_
    | refine le_panK fun _ _ => ?_
    | refine le_funK fun _ _ => ?_
    | exact le_refl _
    | apply_assumption
noncomputable def b115 (cf : CallF) (R : Rec) : Rec := fun i l h =>
 br1 i 0 l (fun a0 => t115_0 cf R a0 h) <|
 .fail
theorem r115 {T : Tab} {cf : CallF} (hc : leC cf (CL T)) (n : Nat) : leR (recN (b115 cf) n) (J115 T) := recN_le (fun R hR i l h => by
  unfold b115
  refine le_br1 (J := fun i l => J115 T i l h) (fun _ a0 => le_e (fun hn => e115_0 rfl hn) ((m115 hc hR) a0 h)) ?_
  exact le_fail _) n
theorem m116 {cf cf' : CallF} {R R' : Rec} (hc : ∀ f l h, le (cf f l h) (cf' f l h)) (hR : ∀ i l h, le (R i l h) (R' i l h)) : (∀ (a0 a1 : IV) (h : H), le (t116_0 cf R a0 a1 h) (t116_0 cf' R' a0 a1 h)) := by
  intros
  unfold t116_0
  with_reducible repeat' first
    | refine le_obind fun _ => ?_
    | refine le_callP ?_ (fun _ _ => ?_) (fun _ _ => ?_)
    | refine le_condK ?_ ?_
    | exact hR _ _ _
    | refine le_obind2 fun _ _ => ?_
    | refine le_obindH fun _ => ?_
    | refine le_spanK (fun _ _ _ => ?_) (fun _ _ => ?_)
    | exact hc _ _ _
    | refine le_bif ?_ ?_
    | refine le_guardK ?_ ?_ ?_
    | refine le_mapK fun _ _ => ?_
    | refine le_panK fun _ _ => ?_
    | refine le_funK fun _ _ => ?_
    | exact le_refl _
    | apply_assumption
noncomputable def b116 (cf : CallF) (R : Rec) : Rec := fun i l h =>
 br2 i 0 l (fun a0 a1 => t116_0 cf R a0 a1 h) <|
 .fail
theorem r116 {T : Tab} {cf : CallF} (hc : leC cf (CL T)) (n : Nat) : leR (recN (b116 cf) n) (J116 T) := recN_le (fun R hR i l h => by
  unfold b116
  refine le_br2 (J := fun i l => J116 T i l h) (fun _ a0 a1 => le_e (fun hn => e116_0 rfl hn) ((m116 hc hR) a0 a1 h)) ?_
  exact le_fail _) n
theorem m118 {cf cf' : CallF} {R R' : Rec} (hc : ∀ f l h, le (cf f l h) (cf' f l h)) (hR : ∀ i l h, le (R i l h) (R' i l h)) : (∀ (a0 : IV) (h : H), le (t118_0 cf R a0 h) (t118_0 cf' R' a0 h)) := by
  intros
  unfold t118_0
  with_reducible repeat' first
    | refine le_obind fun _ => ?_
    | refine le_callP ?_ (fun _ _ => ?_) (fun _ _ => ?_)
    | refine le_condK ?_ ?_
    | exact hR _ _ _
    | refine le_obind2 fun _ _ => ?_
    | refine le_obindH fun _ => ?_
    | refine le_spanK (fun _ _ _ => ?_) (fun _ _ => ?_)
    | exact hc _ _ _
    | refine le_bif ?_ ?_
    | refine le_guardK ?_ ?_ ?_
    | refine le_mapK fun _ _ => ?_
    | refine le_panK fun _ _ => ?_
    | refine le_funK fun _ _ => ?_
    | exact le_refl _
    | apply_assumption
noncomputable def b118 (cf : CallF) (R : Rec) : Rec := fun i l h =>
 br1 i 0 l (fun a0 => t118_0 cf R a0 h) <|
 .fail
theorem r118 {T : Tab} {cf : CallF} (hc : leC cf (CL T)) (n : Nat) : leR (recN (b118 cf) n) (J118 T) := recN_le (fun R hR i l h => by
  unfold b118
  refine le_br1 (J := fun i l => J118 T i l h) (fun _ a0 => le_e (fun hn => e118_0 rfl hn) ((m118 hc hR) a0 h)) ?_
  exact le_fail _) n
theorem m120 {cf cf' : CallF} {R R' : Rec} (hc : ∀ f l h, le (cf f l h) (cf' f l h)) (hR : ∀ i l h, le (R i l h) (R' i l h)) : (∀ (a0 : IV) (h : H), le (t120_0 cf R a0 h) (t120_0 cf' R' a0 h)) := by
  intros
  unfold t120_0
  with_reducible repeat' first
    | refine le_obind fun _ => ?_
    | refine le_callP ?_ (fun _ _ => ?_) (fun _ _ => ?_)
    | refine le_condK ?_ ?_
    | exact hR _ _ _
    | refine le_obind2 fun _ _ => ?_
    | refine le_obindH fun _ => ?_
    | refine le_spanK (fun _ _ _ => ?_) (fun _ _ => ?_)
    | exact hc _ _ _
    | refine le_bif ?_ ?_
    | refine le_guardK ?_ ?_ ?_
    | refine le_mapK fun _ _ => ?_
    | refine le_panK fun _ _ => ?_
    | refine le_funK fun _ _ => ?_
    | exact le_refl _
    | apply_assumption
noncomputable def b120 (cf : CallF) (R : Rec) : Rec := fun i l h =>
 br1 i 0 l (fun a0 => t120_0 cf R a0 h) <|
 .fail
theorem r120 {T : Tab} {cf : CallF} (hc : leC cf (CL T)) (n : Nat) : leR (recN (b120 cf) n) (J120 T) := recN_le (fun R hR i l h => by
  unfold b120
  refine le_br1 (J := fun i l => J120 T i l h) (fun _ a0 => le_e (fun hn => e120_0 rfl hn) ((m120 hc hR) a0 h)) ?_
  exact le_fail _) n
theorem m123 {cf cf' : CallF} {R R' : Rec} (hc : ∀ f l h, le (cf f l h) (cf' f l h)) (hR : ∀ i l h, le (R i l h) (R' i l h)) : (∀ (a0 a1 : IV) (h : H), le (t123_0 cf R a0 a1 h) (t123_0 cf' R' a0 a1 h)) := by
  intros
  unfold t123_0
  with_reducible repeat' first
    | refine le_obind fun _ => ?_
    | refine le_callP ?_ (fun _ _ => ?_) (fun _ _ => ?_)
    | refine le_condK ?_ ?_
    | exact hR _ _ _
    | refine le_obind2 fun _ _ => ?_
    | refine le_obindH fun _ => ?_
    | refine le_spanK (fun _ _ _ => ?_) (fun _ _ => ?_)
    | exact hc _ _ _
    | refine le_bif ?_ ?_
    | refine le_guardK ?_ ?_ ?_
    | refine le_mapK fun _ _ => ?_
    | refine le_panK fun _ _ => ?_
    | refine le_funK fun _ _ => ?_
    | exact le_refl _
    | apply_assumption
noncomputable def b123 (cf : CallF) (R : Rec) : Rec := fun i l h =>
 br2 i 0 l (fun a0 a1 => t123_0 cf R a0 a1 h) <|
 .fail
theorem r123 {T : Tab} {cf : CallF} (hc : leC cf (CL T)) (n : Nat) : leR (recN (b123 cf) n) (J123 T) := recN_le (fun R hR i l h => by
  unfold b123
  refine le_br2 (J := fun i l => J123 T i l h) (fun _ a0 a1 => le_e (fun hn => e123_0 rfl hn) ((m123 hc hR) a0 a1 h)) ?_
  exact le_fail _) n
theorem m124 {cf cf' : CallF} {R R' : Rec} (hc : ∀ f l h, le (cf f l h) (cf' f l h)) (hR : ∀ i l h, le (R i l h) (R' i l h)) : (∀ (a0 a1 : IV) (h : H), le (t124_0 cf R a0 a1 h) (t124_0 cf' R' a0 a1 h)) := by
  intros
  unfold t124_0
  with_reducible repeat' first
    | refine le_obind fun _ => ?_
    | refine le_callP ?_ (fun _ _ => ?_) (fun _ _ => ?_)
    | refine le_condK ?_ ?_
    | exact hR _ _ _
    | refine le_obind2 fun _ _ => ?_
    | refine le_obindH fun _ => ?_
    | refine le_spanK (fun _ _ _ => ?_) (fun _ _ => ?_)
    | exact hc _ _ _
    | refine le_bif ?_ ?_
    | refine le_guardK ?_ ?_ ?_
    | refine le_mapK fun _ _ => ?_
    | refine le_panK fun _ _ => ?_
    | refine le_funK fun _ _ => ?_
    | exact le_refl _
    | apply_assumption
noncomputable def b124 (cf : CallF) (R : Rec) : Rec := fun i l h =>
 br2 i 0 l (fun a0 a1 => t124_0 cf R a0 a1 h) <|
 .fail
theorem r124 {T : Tab} {cf : CallF} (hc : leC cf (CL T)) (n : Nat) : leR (recN (b124 cf) n) (J124 T) := recN_le (fun R hR i l h => by
  unfold b124
  refine le_br2 (J := fun i l => J124 T i l h) (fun _ a0 a1 => le_e (fun hn => e124_0 rfl hn) ((m124 hc hR) a0 a1 h)) ?_
  exact le_fail _) n
theorem m125 {cf cf' : CallF} {R R' : Rec} (hc : ∀ f l h, le (cf f l h) (cf' f l h)) (hR : ∀ i l h, le (R i l h) (R' i l h)) : (∀ (a0 a1 : IV) (h : H), le (t125_0 cf R a0 a1 h) (t125_0 cf' R' a0 a1 h)) := by
  intros
  unfold t125_0
  with_reducible repeat' first
    | refine le_obind fun _ => ?_
    | refine le_callP ?_ (fun _ _ => ?_) (fun _ _ => ?_)
    | refine le_condK ?_ ?_
    | exact hR _ _ _
    | refine le_obind2 fun _ _ => ?_
    | refine le_obindH fun _ => ?_
    | refine le_spanK (fun _ _ _ => ?_) (fun _ _ => ?_)
    | exact hc _ _ _
    | refine le_bif ?_ ?_
    | refine le_guardK ?_ ?_ ?_
    | refine le_mapK fun _ _ => ?_
    | refine le_panK fun _ _ => ?_
    | refine le_funK fun _ _ => ?_
    | exact le_refl _
    | apply_assumption
noncomputable def b125 (cf : CallF) (R : Rec) : Rec := fun i l h =>
 br2 i 0 l (fun a0 a1 => t125_0 cf R a0 a1 h) <|
 .fail
theorem r125 {T : Tab} {cf : CallF} (hc : leC cf (CL T)) (n : Nat) : leR (recN (b125 cf) n) (J125 T) := recN_le (fun R hR i l h => by
  unfold b125
  refine le_br2 (J := fun i l => J125 T i l h) (fun _ a0 a1 => le_e (fun hn => e125_0 rfl hn) ((m125 hc hR) a0 a1 h)) ?_
  exact le_fail _) n
theorem m126 {cf cf' : CallF} {R R' : Rec} (hc : ∀ f l h, le (cf f l h) (cf' f l h)) (hR : ∀ i l h, le (R i l h) (R' i l h)) : (∀ (a0 a1 a2 a3 : IV) (h : H), le (t126_0 cf R a0 a1 a2 a3 h) (t126_0 cf' R' a0 a1 a2 a3 h)) := by
  intros
  unfold t126_0
  with_reducible repeat' first
    | refine le_obind fun _ => ?_
    | refine le_callP ?_ (fun _ _ => ?_) (fun _ _ => ?_)
    | refine le_condK ?_ ?_
    | exact hR _ _ _
    | refine le_obind2 fun _ _ => ?_
    | refine le_obindH fun _ => ?_
    | refine le_spanK (fun _ _ _ => ?_) (fun _ _ => ?_)
    | exact hc _ _ _
    | refine le_bif ?_ ?_
    | refine le_guardK ?_ ?_ ?_
    | refine le_mapK fun _ _ => ?_
    | refine le_panK fun _ _ => ?_
    | refine le_funK fun _ _ => ?_
    | exact le_refl _
    | apply_assumption
noncomputable def b126 (cf : CallF) (R : Rec) : Rec := fun i l h =>
 br4 i 0 l (fun a0 a1 a2 a3 => t126_0 cf R a0 a1 a2 a3 h) <|
 .fail
theorem r126 {T : Tab} {cf : CallF} (hc : leC cf (CL T)) (n : Nat) : leR (recN (b126 cf) n) (J126 T) := recN_le (fun R hR i l h => by
  unfold b126
  refine le_br4 (J := fun i l => J126 T i l h) (fun _ a0 a1 a2 a3 => le_e (fun hn => e126_0 rfl hn) ((m126 hc hR) a0 a1 a2 a3 h)) ?_
  exact le_fail _) n
theorem m127 {cf cf' : CallF} {R R' : Rec} (hc : ∀ f l h, le (cf f l h) (cf' f l h)) (hR : ∀ i l h, le (R i l h) (R' i l h)) :
  (∀ (a0 a1 a2 : IV) (h : H), le (t127_0 cf R a0 a1 a2 h) (t127_0 cf' R' a0 a1 a2 h)) ∧
  (∀ (a0 a1 a2 : IV) (h : H), le (t127_2 cf R a0 a1 a2 h) (t127_2 cf' R' a0 a1 a2 h)) ∧
  (∀ (a1 : IV) (h : H), le (t127_1 cf R a1 h) (t127_1 cf' R' a1 h)) ∧
  (∀ (a0 a1 a2 a7 a14 a15 a16 : IV) (h : H), le (t127_3 cf R a0 a1 a2 a7 a14 a15 a16 h) (t127_3 cf' R' a0 a1 a2 a7 a14 a15 a16 h)) := by
  refine ⟨?_, ?_, ?_, ?_⟩
  all_goals intros
  all_goals first | unfold t127_0 | unfold t127_2 | unfold t127_1 | unfold t127_3
  all_goals
  with_reducible repeat' first
    | refine le_obind fun _ => ?_
    | refine le_callP ?_ (fun _ _ => ?_) (fun _ _ => ?_)
    | refine le_condK ?_ ?_
    | exact hR _ _ _
    | refine le_obind2 fun _ _ => ?_
    | refine le_obindH fun _ => ?_
    | refine le_spanK (fun _ _ _ => ?_) (fun _ _ => ?_)
    | exact hc _ _ _
    | refine le_bif ?_ ?_
    | refine le_guardK ?_ ?_ ?_
    | refine le_mapK fun _ _ => ?_
    | refine le_panK fun _ _ => ?_
    | refine le_funK fun _ _ => ?_
    | exact le_refl _
    | apply_assumption
noncomputable def b127 (cf : CallF) (R : Rec) : Rec := fun i l h =>
 br3 i 0 l (fun a0 a1 a2 => t127_0 cf R a0 a1 a2 h) <|
 br3 i 2 l (fun a0 a1 a2 => t127_2 cf R a0 a1 a2 h) <|
 br1 i 1 l (fun a1 => t127_1 cf R a1 h) <|
 br7 i 3 l (fun a0 a1 a2 a7 a14 a15 a16 => t127_3 cf R a0 a1 a2 a7 a14 a15 a16 h) <|
 .fail
theorem r127 {T : Tab} {cf : CallF} (hc : leC cf (CL T)) (n : Nat) : leR (recN (b127 cf) n) (J127 T) := recN_le (fun R hR i l h => by
  unfold b127
  refine le_br3 (J := fun i l => J127 T i l h) (fun _ a0 a1 a2 => le_e (fun hn => e127_0 rfl hn) ((m127 hc hR).1 a0 a1 a2 h)) ?_
  refine le_br3 (J := fun i l => J127 T i l h) (fun _ a0 a1 a2 => le_e (fun hn => e127_2 rfl hn) ((m127 hc hR).2.1 a0 a1 a2 h)) ?_
  refine le_br1 (J := fun i l => J127 T i l h) (fun _ a1 => le_e (fun hn => e127_1 rfl hn) ((m127 hc hR).2.2.1 a1 h)) ?_
  refine le_br7 (J := fun i l => J127 T i l h) (fun _ a0 a1 a2 a7 a14 a15 a16 => le_e (fun hn => e127_3 rfl hn) ((m127 hc hR).2.2.2 a0 a1 a2 a7 a14 a15 a16 h)) ?_
  exact le_fail _) n
theorem m129 {cf cf' : CallF} {R R' : Rec} (hc : ∀ f l h, le (cf f l h) (cf' f l h)) (hR : ∀ i l h, le (R i l h) (R' i l h)) : (∀ (a0 a1 : IV) (h : H), le (t129_0 cf R a0 a1 h) (t129_0 cf' R' a0 a1 h)) := by
  intros
  unfold t129_0
  with_reducible repeat' first
    | refine le_obind fun _ => ?_
    | refine le_callP ?_ (fun _ _ => ?_) (fun _ _ => ?_)
    | refine le_condK ?_ ?_
    | exact hR _ _ _
    | refine le_obind2 fun _ _ => ?_
    | refine le_obindH fun _ => ?_
    | refine le_spanK (fun _ _ _ => ?_) (fun _ _ => ?_)
    | exact hc _ _ _
    | refine le_bif ?_ ?_
    | refine le_guardK ?_ ?_ ?_
    | refine le_mapK fun _ _ => ?_
    | refine le_panK fun _ _ => ?_
    | refine le_funK fun _ _ => ?_
    | exact le_refl _
    | apply_assumption
noncomputable def b129 (cf : CallF) (R : Rec) : Rec := fun i l h =>
 br2 i 0 l (fun a0 a1 => t129_0 cf R a0 a1 h) <|
 .fail
theorem r129 {T : Tab} {cf : CallF} (hc : leC cf (CL T)) (n : Nat) : leR (recN (b129 cf) n) (J129 T) := recN_le (fun R hR i l h => by
  unfold b129
  refine le_br2 (J := fun i l => J129 T i l h) (fun _ a0 a1 => le_e (fun hn => e129_0 rfl hn) ((m129 hc hR) a0 a1 h)) ?_
  exact le_fail _) n
theorem m130 {cf cf' : CallF} {R R' : Rec} (hc : ∀ f l h, le (cf f l h) (cf' f l h)) (hR : ∀ i l h, le (R i l h) (R' i l h)) : (∀ (a0 : IV) (h : H), le (t130_0 cf R a0 h) (t130_0 cf' R' a0 h)) := by
  intros
  unfold t130_0
  with_reducible repeat' first
    | refine le_obind fun _ => ?_
    | refine le_callP ?_ (fun _ _ => ?_) (fun _ _ => ?_)
    | refine le_condK ?_ ?_
    | exact hR _ _ _
    | refine le_obind2 fun _ _ => ?_
    | refine le_obindH fun _ => ?_
    | refine le_spanK (fun _ _ _ => ?_) (fun _ _ => ?_)
    | exact hc _ _ _
    | refine le_bif ?_ ?_
    | refine le_guardK ?_ ?_ ?_
    | refine le_mapK fun _ _ => ?_
    | refine le_panK fun _ _ => ?_
    | refine le_funK fun _ _ => ?_
    | exact le_refl _
    | apply_assumption
noncomputable def b130 (cf : CallF) (R : Rec) : Rec := fun i l h =>
 br1 i 0 l (fun a0 => t130_0 cf R a0 h) <|
 .fail
theorem r130 {T : Tab} {cf : CallF} (hc : leC cf (CL T)) (n : Nat) : leR (recN (b130 cf) n) (J130 T) := recN_le (fun R hR i l h => by
  unfold b130
  refine le_br1 (J := fun i l => J130 T i l h) (fun _ a0 => le_e (fun hn => e130_0 rfl hn) ((m130 hc hR) a0 h)) ?_
  exact le_fail _) n
theorem m131 {cf cf' : CallF} {R R' : Rec} (hc : ∀ f l h, le (cf f l h) (cf' f l h)) (hR : ∀ i l h, le (R i l h) (R' i l h)) : (∀ (a0 : IV) (h : H), le (t131_0 cf R a0 h) (t131_0 cf' R' a0 h)) := by
  intros
  unfold t131_0
  with_reducible repeat' first
    | refine le_obind fun _ => ?_
    | refine le_callP ?_ (fun _ _ => ?_) (fun _ _ => ?_)
    | refine le_condK ?_ ?_
    | exact hR _ _ _
    | refine le_obind2 fun _ _ => ?_
    | refine le_obindH fun _ => ?_
    | refine le_spanK (fun _ _ _ => ?_) (fun _ _ => ?_)
    | exact hc _ _ _
    | refine le_bif ?_ ?_
    | refine le_guardK ?_ ?_ ?_
    | refine le_mapK fun _ _ => ?_
    | refine le_panK fun _ _ => ?_
    | refine le_funK fun _ _ => ?_
    | exact le_refl _
    | apply_assumption
noncomputable def b131 (cf : CallF) (R : Rec) : Rec := fun i l h =>
 br1 i 0 l (fun a0 => t131_0 cf R a0 h) <|
 .fail
theorem r131 {T : Tab} {cf : CallF} (hc : leC cf (CL T)) (n : Nat) : leR (recN (b131 cf) n) (J131 T) := recN_le (fun R hR i l h => by
  unfold b131
  refine le_br1 (J := fun i l => J131 T i l h) (fun _ a0 => le_e (fun hn => e131_0 rfl hn) ((m131 hc hR) a0 h)) ?_
  exact le_fail _) n
theorem m132 {cf cf' : CallF} {R R' : Rec} (hc : ∀ f l h, le (cf f l h) (cf' f l h)) (hR : ∀ i l h, le (R i l h) (R' i l h)) :
  (∀ (a0 a1 : IV) (h : H), le (t132_0 cf R a0 a1 h) (t132_0 cf' R' a0 a1 h)) ∧
  (∀ (a0 a6 a7 a8 : IV) (h : H), le (t132_1 cf R a0 a6 a7 a8 h) (t132_1 cf' R' a0 a6 a7 a8 h)) ∧
  (∀ (a0 a6 a7 a8 : IV) (h : H), le (t132_2 cf R a0 a6 a7 a8 h) (t132_2 cf' R' a0 a6 a7 a8 h)) := by
  refine ⟨?_, ?_, ?_⟩
  all_goals intros
  all_goals first | unfold t132_0 | unfold t132_1 | unfold t132_2
  all_goals
  with_reducible repeat' first
    | refine le_obind fun _ => ?_
    | refine le_callP ?_ (fun _ _ => ?_) (fun _ _ => ?_)
    | refine le_condK ?_ ?_
    | exact hR _ _ _
    | refine le_obind2 fun _ _ => ?_
    | refine le_obindH fun _ => ?_
    | refine le_spanK (fun _ _ _ => ?_) (fun _ _ => ?_)
    | exact hc _ _ _
    | refine le_bif ?_ ?_
    | refine le_guardK ?_ ?_ ?_
    | refine le_mapK fun _ _ => ?_
    | refine le_panK fun _ _ => ?_
    | refine le_funK fun _ _ => ?_
    | exact le_refl _
    | apply_assumption
noncomputable def b132 (cf : CallF) (R : Rec) : Rec := fun i l h =>
 br2 i 0 l (fun a0 a1 => t132_0 cf R a0 a1 h) <|
 br4 i 1 l (fun a0 a6 a7 a8 => t132_1 cf R a0 a6 a7 a8 h) <|
 br4 i 2 l (fun a0 a6 a7 a8 => t132_2 cf R a0 a6 a7 a8 h) <|
 .fail
theorem r132 {T : Tab} {cf : CallF} (hc : leC cf (CL T)) (n : Nat) : leR (recN (b132 cf) n) (J132 T) := recN_le (fun R hR i l h => by
  unfold b132
  refine le_br2 (J := fun i l => J132 T i l h) (fun _ a0 a1 => le_e (fun hn => e132_0 rfl hn) ((m132 hc hR).1 a0 a1 h)) ?_
  refine le_br4 (J := fun i l => J132 T i l h) (fun _ a0 a6 a7 a8 => le_e (fun hn => e132_1 rfl hn) ((m132 hc hR).2.1 a0 a6 a7 a8 h)) ?_
  refine le_br4 (J := fun i l => J132 T i l h) (fun _ a0 a6 a7 a8 => le_e (fun hn => e132_2 rfl hn) ((m132 hc hR).2.2 a0 a6 a7 a8 h)) ?_
  exact le_fail _) n
theorem m133 {cf cf' : CallF} {R R' : Rec} (hc : ∀ f l h, le (cf f l h) (cf' f l h)) (hR : ∀ i l h, le (R i l h) (R' i l h)) : (∀ (a0 : IV) (h : H), le (t133_0 cf R a0 h) (t133_0 cf' R' a0 h)) := by
  intros
  unfold t133_0
  with_reducible repeat' first
    | refine le_obind fun _ => ?_
    | refine le_callP ?_ (fun _ _ => ?_) (fun _ _ => ?_)
    | refine le_condK ?_ ?_
    | exact hR _ _ _
    | refine le_obind2 fun _ _ => ?_
    | refine le_obindH fun _ => ?_
    | refine le_spanK (fun _ _ _ => ?_) (fun _ _ => ?_)
    | exact hc _ _ _
    | refine le_bif ?_ ?_
    | refine le_guardK ?_ ?_ ?_
    | refine le_mapK fun _ _ => ?_
    | refine le_panK fun _ _ => ?_
    | refine le_funK fun _ _ => ?_
    | exact le_refl _
    | apply_assumption
noncomputable def b133 (cf : CallF) (R : Rec) : Rec := fun i l h =>
 br1 i 0 l (fun a0 => t133_0 cf R a0 h) <|
 .fail
theorem r133 {T : Tab} {cf : CallF} (hc : leC cf (CL T)) (n : Nat) : leR (recN (b133 cf) n) (J133 T) := recN_le (fun R hR i l h => by
  unfold b133
  refine le_br1 (J := fun i l => J133 T i l h) (fun _ a0 => le_e (fun hn => e133_0 rfl hn) ((m133 hc hR) a0 h)) ?_
  exact le_fail _) n
theorem m134 {cf cf' : CallF} {R R' : Rec} (hc : ∀ f l h, le (cf f l h) (cf' f l h)) (hR : ∀ i l h, le (R i l h) (R' i l h)) :
  (∀ (a0 a1 : IV) (h : H), le (t134_0 cf R a0 a1 h) (t134_0 cf' R' a0 a1 h)) ∧
  (∀ (a5 : IV) (h : H), le (t134_1 cf R a5 h) (t134_1 cf' R' a5 h)) := by
  refine ⟨?_, ?_⟩
  all_goals intros
  all_goals first | unfold t134_0 | unfold t134_1
  all_goals
  with_reducible repeat' first
    | refine le_obind fun _ => ?_
    | refine le_callP ?_ (fun _ _ => ?_) (fun _ _ => ?_)
    | refine le_condK ?_ ?_
    | exact hR _ _ _
    | refine le_obind2 fun _ _ => ?_
    | refine le_obindH fun _ => ?_
    | refine le_spanK (fun _ _ _ => ?_) (fun _ _ => ?_)
    | exact hc _ _ _
    | refine le_bif ?_ ?_
    | refine le_guardK ?_ ?_ ?_
    | refine le_mapK fun _ _ => ?_
    | refine le_panK fun _ _ => ?_
    | refine le_funK fun _ _ => ?_
    | exact le_refl _
    | apply_assumption
noncomputable def b134 (cf : CallF) (R : Rec) : Rec := fun i l h =>
 br2 i 0 l (fun a0 a1 => t134_0 cf R a0 a1 h) <|
 br1 i 1 l (fun a5 => t134_1 cf R a5 h) <|
 .fail
theorem r134 {T : Tab} {cf : CallF} (hc : leC cf (CL T)) (n : Nat) : leR (recN (b134 cf) n) (J134 T) := recN_le (fun R hR i l h => by
  unfold b134
  refine le_br2 (J := fun i l => J134 T i l h) (fun _ a0 a1 => le_e (fun hn => e134_0 rfl hn) ((m134 hc hR).1 a0 a1 h)) ?_
  refine le_br1 (J := fun i l => J134 T i l h) (fun _ a5 => le_e (fun hn => e134_1 rfl hn) ((m134 hc hR).2 a5 h)) ?_
  exact le_fail _) n
theorem m135 {cf cf' : CallF} {R R' : Rec} (hc : ∀ f l h, le (cf f l h) (cf' f l h)) (hR : ∀ i l h, le (R i l h) (R' i l h)) : (∀ (a0 a1 : IV) (h : H), le (t135_0 cf R a0 a1 h) (t135_0 cf' R' a0 a1 h)) := by
  intros
  unfold t135_0
  with_reducible repeat' first
    | refine le_obind fun _ => ?_
    | refine le_callP ?_ (fun _ _ => ?_) (fun _ _ => ?_)
    | refine le_condK ?_ ?_
    | exact hR _ _ _
    | refine le_obind2 fun _ _ => ?_
    | refine le_obindH fun _ => ?_
    | refine le_spanK (fun _ _ _ => ?_) (fun _ _ => ?_)
    | exact hc _ _ _
    | refine le_bif ?_ ?_
    | refine le_guardK ?_ ?_ ?_
    | refine le_mapK fun _ _ => ?_
    | refine le_panK fun _ _ => ?_
    | refine le_funK fun _ _ => ?_
    | exact le_refl _
    | apply_assumption
noncomputable def b135 (cf : CallF) (R : Rec) : Rec := fun i l h =>
 br2 i 0 l (fun a0 a1 => t135_0 cf R a0 a1 h) <|
 .fail
theorem r135 {T : Tab} {cf : CallF} (hc : leC cf (CL T)) (n : Nat) : leR (recN (b135 cf) n) (J135 T) := recN_le (fun R hR i l h => by
  unfold b135
  refine le_br2 (J := fun i l => J135 T i l h) (fun _ a0 a1 => le_e (fun hn => e135_0 rfl hn) ((m135 hc hR) a0 a1 h)) ?_
  exact le_fail _) n
theorem m136 {cf cf' : CallF} {R R' : Rec} (hc : ∀ f l h, le (cf f l h) (cf' f l h)) (hR : ∀ i l h, le (R i l h) (R' i l h)) :
  (∀ (a0 : IV) (h : H), le (t136_0 cf R a0 h) (t136_0 cf' R' a0 h)) ∧
  (∀ (a0 a2 a3 : IV) (h : H), le (t136_1 cf R a0 a2 a3 h) (t136_1 cf' R' a0 a2 a3 h)) := by
  refine ⟨?_, ?_⟩
  all_goals intros
  all_goals first | unfold t136_0 | unfold t136_1
  all_goals
  with_reducible repeat' first
    | refine le_obind fun _ => ?_
    | refine le_callP ?_ (fun _ _ => ?_) (fun _ _ => ?_)
    | refine le_condK ?_ ?_
    | exact hR _ _ _
    | refine le_obind2 fun _ _ => ?_
    | refine le_obindH fun _ => ?_
    | refine le_spanK (fun _ _ _ => ?_) (fun _ _ => ?_)
    | exact hc _ _ _
    | refine le_bif ?_ ?_
    | refine le_guardK ?_ ?_ ?_
    | refine le_mapK fun _ _ => ?_
    | refine le_panK fun _ _ => ?_
    | refine le_funK fun _ _ => ?_
    | exact le_refl _
    | apply_assumption
noncomputable def b136 (cf : CallF) (R : Rec) : Rec := fun i l h =>
 br1 i 0 l (fun a0 => t136_0 cf R a0 h) <|
 br3 i 1 l (fun a0 a2 a3 => t136_1 cf R a0 a2 a3 h) <|
 .fail
theorem r136 {T : Tab} {cf : CallF} (hc : leC cf (CL T)) (n : Nat) : leR (recN (b136 cf) n) (J136 T) := recN_le (fun R hR i l h => by
  unfold b136
  refine le_br1 (J := fun i l => J136 T i l h) (fun _ a0 => le_e (fun hn => e136_0 rfl hn) ((m136 hc hR).1 a0 h)) ?_
  refine le_br3 (J := fun i l => J136 T i l h) (fun _ a0 a2 a3 => le_e (fun hn => e136_1 rfl hn) ((m136 hc hR).2 a0 a2 a3 h)) ?_
  exact le_fail _) n
theorem m137 {cf cf' : CallF} {R R' : Rec} (hc : ∀ f l h, le (cf f l h) (cf' f l h)) (hR : ∀ i l h, le (R i l h) (R' i l h)) :
  (∀ (a0 a1 a2 : IV) (h : H), le (t137_0 cf R a0 a1 a2 h) (t137_0 cf' R' a0 a1 a2 h)) ∧
  (∀ (a0 a1 a2 a6 : IV) (h : H), le (t137_1 cf R a0 a1 a2 a6 h) (t137_1 cf' R' a0 a1 a2 a6 h)) ∧
  (∀ (a0 a1 a2 a6 : IV) (h : H), le (t137_2 cf R a0 a1 a2 a6 h) (t137_2 cf' R' a0 a1 a2 a6 h)) ∧
  (∀ (a0 a1 a2 a6 : IV) (h : H), le (t137_3 cf R a0 a1 a2 a6 h) (t137_3 cf' R' a0 a1 a2 a6 h)) := by
  refine ⟨?_, ?_, ?_, ?_⟩
  all_goals intros
  all_goals first | unfold t137_0 | unfold t137_1 | unfold t137_2 | unfold t137_3
  all_goals
  with_reducible repeat' first
    | refine le_obind fun _ => ?_
    | refine le_callP ?_ (fun _ _ => ?_) (fun _ _ => ?_)
    | refine le_condK ?_ ?_
    | exact hR _ _ _
    | refine le_obind2 fun _ _ => ?_
    | refine le_obindH fun _ => ?_
    | refine le_spanK (fun _ _ _ => ?_) (fun _ _ => ?_)
    | exact hc _ _ _
    | refine le_bif ?_ ?_
    | refine le_guardK ?_ ?_ ?_
    | refine le_mapK fun _ _ => ?_
    | refine le_panK fun _ _ => ?_
    | refine le_funK fun _ _ => ?_
    | exact le_refl _
    | apply_assumption
noncomputable def b137 (cf : CallF) (R : Rec) : Rec := fun i l h =>
 br3 i 0 l (fun a0 a1 a2 => t137_0 cf R a0 a1 a2 h) <|
 br4 i 1 l (fun a0 a1 a2 a6 => t137_1 cf R a0 a1 a2 a6 h) <|
 br4 i 2 l (fun a0 a1 a2 a6 => t137_2 cf R a0 a1 a2 a6 h) <|
 br4 i 3 l (fun a0 a1 a2 a6 => t137_3 cf R a0 a1 a2 a6 h) <|
 .fail
theorem r137 {T : Tab} {cf : CallF} (hc : leC cf (CL T)) (n : Nat) : leR (recN (b137 cf) n) (J137 T) := recN_le (fun R hR i l h => by
  unfold b137
  refine le_br3 (J := fun i l => J137 T i l h) (fun _ a0 a1 a2 => le_e (fun hn => e137_0 rfl hn) ((m137 hc hR).1 a0 a1 a2 h)) ?_
  refine le_br4 (J := fun i l => J137 T i l h) (fun _ a0 a1 a2 a6 => le_e (fun hn => e137_1 rfl hn) ((m137 hc hR).2.1 a0 a1 a2 a6 h)) ?_
  refine le_br4 (J := fun i l => J137 T i l h) (fun _ a0 a1 a2 a6 => le_e (fun hn => e137_2 rfl hn) ((m137 hc hR).2.2.1 a0 a1 a2 a6 h)) ?_
  refine le_br4 (J := fun i l => J137 T i l h) (fun _ a0 a1 a2 a6 => le_e (fun hn => e137_3 rfl hn) ((m137 hc hR).2.2.2 a0 a1 a2 a6 h)) ?_
  exact le_fail _) n
theorem m148 {cf cf' : CallF} {R R' : Rec} (hc : ∀ f l h, le (cf f l h) (cf' f l h)) (hR : ∀ i l h, le (R i l h) (R' i l h)) :
  (∀ (a0 : IV) (h : H), le (t148_0 cf R a0 h) (t148_0 cf' R' a0 h)) ∧
  (∀ (a0 a3 a4 : IV) (h : H), le (t148_1 cf R a0 a3 a4 h) (t148_1 cf' R' a0 a3 a4 h)) := by
  refine ⟨?_, ?_⟩
  all_goals intros
  all_goals first | unfold t148_0 | unfold t148_1
  all_goals
  with_reducible repeat' first
    | refine le_obind fun _ => ?_
    | refine le_callP ?_ (fun _ _ => ?_) (fun _ _ => ?_)
    | refine le_condK ?_ ?_
    | exact hR _ _ _
    | refine le_obind2 fun _ _ => ?_
    | refine le_obindH fun _ => ?_
    | refine le_spanK (fun _ _ _ => ?_) (fun _ _ => ?_)
    | exact hc _ _ _
    | refine le_bif ?_ ?_
    | refine le_guardK ?_ ?_ ?_
    | refine le_mapK fun _ _ => ?_
    | refine le_panK fun _ _ => ?_
    | refine le_funK fun _ _ => ?_
    | exact le_refl _
    | apply_assumption
noncomputable def b148 (cf : CallF) (R : Rec) : Rec := fun i l h =>
 br1 i 0 l (fun a0 => t148_0 cf R a0 h) <|
 br3 i 1 l (fun a0 a3 a4 => t148_1 cf R a0 a3 a4 h) <|
 .fail
theorem r148 {T : Tab} {cf : CallF} (hc : leC cf (CL T)) (n : Nat) : leR (recN (b148 cf) n) (J148 T) := recN_le (fun R hR i l h => by
  unfold b148
  refine le_br1 (J := fun i l => J148 T i l h) (fun _ a0 => le_e (fun hn => e148_0 rfl hn) ((m148 hc hR).1 a0 h)) ?_
  refine le_br3 (J := fun i l => J148 T i l h) (fun _ a0 a3 a4 => le_e (fun hn => e148_1 rfl hn) ((m148 hc hR).2 a0 a3 a4 h)) ?_
  exact le_fail _) n
theorem m159 {cf cf' : CallF} {R R' : Rec} (hc : ∀ f l h, le (cf f l h) (cf' f l h)) (hR : ∀ i l h, le (R i l h) (R' i l h)) : (∀ (a0 a1 : IV) (h : H), le (t159_0 cf R a0 a1 h) (t159_0 cf' R' a0 a1 h)) := by
  intros
  unfold t159_0
  with_reducible repeat' first
    | refine le_obind fun _ => ?_
    | refine le_callP ?_ (fun _ _ => ?_) (fun _ _ => ?_)
    | refine le_condK ?_ ?_
    | exact hR _ _ _
    | refine le_obind2 fun _ _ => ?_
    | refine le_obindH fun _ => ?_
    | refine le_spanK (fun _ _ _ => ?_) (fun _ _ => ?_)
    | exact hc _ _ _
    | refine le_bif ?_ ?_
    | refine le_guardK ?_ ?_ ?_
    | refine le_mapK fun _ _ => ?_
    | refine le_panK fun _ _ => ?_
    | refine le_funK fun _ _ => ?_
    | exact le_refl _
    | apply_assumption
noncomputable def b159 (cf : CallF) (R : Rec) : Rec := fun i l h =>
 br2 i 0 l (fun a0 a1 => t159_0 cf R a0 a1 h) <|
 .fail
theorem r159 {T : Tab} {cf : CallF} (hc : leC cf (CL T)) (n : Nat) : leR (recN (b159 cf) n) (J159 T) := recN_le (fun R hR i l h => by
  unfold b159
  refine le_br2 (J := fun i l => J159 T i l h) (fun _ a0 a1 => le_e (fun hn => e159_0 rfl hn) ((m159 hc hR) a0 a1 h)) ?_
  exact le_fail _) n
theorem m160 {cf cf' : CallF} {R R' : Rec} (hc : ∀ f l h, le (cf f l h) (cf' f l h)) (hR : ∀ i l h, le (R i l h) (R' i l h)) : (∀ (a0 a1 : IV) (h : H), le (t160_0 cf R a0 a1 h) (t160_0 cf' R' a0 a1 h)) := by
  intros
  unfold t160_0
  with_reducible repeat' first
    | refine le_obind fun _ => ?_
    | refine le_callP ?_ (fun _ _ => ?_) (fun _ _ => ?_)
    | refine le_condK ?_ ?_
    | exact hR _ _ _
    | refine le_obind2 fun _ _ => ?_
    | refine le_obindH fun _ => ?_
    | refine le_spanK (fun _ _ _ => ?_) (fun _ _ => ?_)
    | exact hc _ _ _
    | refine le_bif ?_ ?_
    | refine le_guardK ?_ ?_ ?_
    | refine le_mapK fun _ _ => ?_
    | refine le_panK fun _ _ => ?_
    | refine le_funK fun _ _ => ?_
    | exact le_refl _
    | apply_assumption
noncomputable def b160 (cf : CallF) (R : Rec) : Rec := fun i l h =>
 br2 i 0 l (fun a0 a1 => t160_0 cf R a0 a1 h) <|
 .fail
theorem r160 {T : Tab} {cf : CallF} (hc : leC cf (CL T)) (n : Nat) : leR (recN (b160 cf) n) (J160 T) := recN_le (fun R hR i l h => by
  unfold b160
  refine le_br2 (J := fun i l => J160 T i l h) (fun _ a0 a1 => le_e (fun hn => e160_0 rfl hn) ((m160 hc hR) a0 a1 h)) ?_
  exact le_fail _) n
theorem m168 {cf cf' : CallF} {R R' : Rec} (hc : ∀ f l h, le (cf f l h) (cf' f l h)) (hR : ∀ i l h, le (R i l h) (R' i l h)) :
  (∀ (a0 : IV) (h : H), le (t168_0 cf R a0 h) (t168_0 cf' R' a0 h)) ∧
  (∀ (a4 : IV) (h : H), le (t168_1 cf R a4 h) (t168_1 cf' R' a4 h)) := by
  refine ⟨?_, ?_⟩
  all_goals intros
  all_goals first | unfold t168_0 | unfold t168_1
  all_goals
  with_reducible repeat' first
    | refine le_obind fun _ => ?_
    | refine le_callP ?_ (fun _ _ => ?_) (fun _ _ => ?_)
    | refine le_condK ?_ ?_
    | exact hR _ _ _
    | refine le_obind2 fun _ _ => ?_
    | refine le_obindH fun _ => ?_
    | refine le_spanK (fun _ _ _ => ?_) (fun _ _ => ?_)
    | exact hc _ _ _
    | refine le_bif ?_ ?_
    | refine le_guardK ?_ ?_ ?_
    | refine le_mapK fun _ _ => ?_
    | refine le_panK fun _ _ => ?_
    | refine le_funK fun _ _ => ?_
    | exact le_refl _
    | apply_assumption
noncomputable def b168 (cf : CallF) (R : Rec) : Rec := fun i l h =>
 br1 i 0 l (fun a0 => t168_0 cf R a0 h) <|
 br1 i 1 l (fun a4 => t168_1 cf R a4 h) <|
 .fail
theorem r168 {T : Tab} {cf : CallF} (hc : leC cf (CL T)) (n : Nat) : leR (recN (b168 cf) n) (J168 T) := recN_le (fun R hR i l h => by
  unfold b168
  refine le_br1 (J := fun i l => J168 T i l h) (fun _ a0 => le_e (fun hn => e168_0 rfl hn) ((m168 hc hR).1 a0 h)) ?_
  refine le_br1 (J := fun i l => J168 T i l h) (fun _ a4 => le_e (fun hn => e168_1 rfl hn) ((m168 hc hR).2 a4 h)) ?_
  exact le_fail _) n
theorem m170 {cf cf' : CallF} {R R' : Rec} (hc : ∀ f l h, le (cf f l h) (cf' f l h)) (hR : ∀ i l h, le (R i l h) (R' i l h)) :
  (∀ (a0 a1 : IV) (h : H), le (t170_0 cf R a0 a1 h) (t170_0 cf' R' a0 a1 h)) ∧
  (∀ (a0 a1 : IV) (h : H), le (t170_1 cf R a0 a1 h) (t170_1 cf' R' a0 a1 h)) := by
  refine ⟨?_, ?_⟩
  all_goals intros
  all_goals first | unfold t170_0 | unfold t170_1
  all_goals
  with_reducible repeat' first
    | refine le_obind fun _ => ?_
    | refine le_callP ?_ (fun _ _ => ?_) (fun _ _ => ?_)
    | refine le_condK ?_ ?_
    | exact hR _ _ _
    | refine le_obind2 fun _ _ => ?_
    | refine le_obindH fun _ => ?_
    | refine le_spanK (fun _ _ _ => ?_) (fun _ _ => ?_)
    | exact hc _ _ _
    | refine le_bif ?_ ?_
    | refine le_guardK ?_ ?_ ?_
    | refine le_mapK fun _ _ => ?_
    | refine le_panK fun _ _ => ?_
    | refine le_funK fun _ _ => ?_
    | exact le_refl _
    | apply_assumption
noncomputable def b170 (cf : CallF) (R : Rec) : Rec := fun i l h =>
 br2 i 0 l (fun a0 a1 => t170_0 cf R a0 a1 h) <|
 br2 i 1 l (fun a0 a1 => t170_1 cf R a0 a1 h) <|
 .fail
theorem r170 {T : Tab} {cf : CallF} (hc : leC cf (CL T)) (n : Nat) : leR (recN (b170 cf) n) (J170 T) := recN_le (fun R hR i l h => by
  unfold b170
  refine le_br2 (J := fun i l => J170 T i l h) (fun _ a0 a1 => le_e (fun hn => e170_0 rfl hn) ((m170 hc hR).1 a0 a1 h)) ?_
  refine le_br2 (J := fun i l => J170 T i l h) (fun _ a0 a1 => le_e (fun hn => e170_1 rfl hn) ((m170 hc hR).2 a0 a1 h)) ?_
  exact le_fail _) n
theorem m171 {cf cf' : CallF} {R R' : Rec} (hc : ∀ f l h, le (cf f l h) (cf' f l h)) (hR : ∀ i l h, le (R i l h) (R' i l h)) :
  (∀ (a0 a1 a2 a3 : IV) (h : H), le (t171_0 cf R a0 a1 a2 a3 h) (t171_0 cf' R' a0 a1 a2 a3 h)) ∧
  (∀ (a0 a2 a3 a5 a8 : IV) (h : H), le (t171_1 cf R a0 a2 a3 a5 a8 h) (t171_1 cf' R' a0 a2 a3 a5 a8 h)) ∧
  (∀ (a0 a2 a3 a5 a8 a11 a12 a13 : IV) (h : H), le (t171_2 cf R a0 a2 a3 a5 a8 a11 a12 a13 h) (t171_2 cf' R' a0 a2 a3 a5 a8 a11 a12 a13 h)) := by
  refine ⟨?_, ?_, ?_⟩
  all_goals intros
  all_goals first | unfold t171_0 | unfold t171_1 | unfold t171_2
  all_goals
  with_reducible repeat' first
    | refine le_obind fun _ => ?_
    | refine le_callP ?_ (fun _ _ => ?_) (fun _ _ => ?_)
    | refine le_condK ?_ ?_
    | exact hR _ _ _
    | refine le_obind2 fun _ _ => ?_
    | refine le_obindH fun _ => ?_
    | refine le_spanK (fun _ _ _ => ?_) (fun _ _ => ?_)
    | exact hc _ _ _
    | refine le_bif ?_ ?_
    | refine le_guardK ?_ ?_ ?_
    | refine le_mapK fun _ _ => ?_
    | refine le_panK fun _ _ => ?_
    | refine le_funK fun _ _ => ?_
    | exact le_refl _
    | apply_assumption
noncomputable def b171 (cf : CallF) (R : Rec) : Rec := fun i l h =>
 br4 i 0 l (fun a0 a1 a2 a3 => t171_0 cf R a0 a1 a2 a3 h) <|
 br5 i 1 l (fun a0 a2 a3 a5 a8 => t171_1 cf R a0 a2 a3 a5 a8 h) <|
 br8 i 2 l (fun a0 a2 a3 a5 a8 a11 a12 a13 => t171_2 cf R a0 a2 a3 a5 a8 a11 a12 a13 h) <|
 .fail
theorem r171 {T : Tab} {cf : CallF} (hc : leC cf (CL T)) (n : Nat) : leR (recN (b171 cf) n) (J171 T) := recN_le (fun R hR i l h => by
  unfold b171
  refine le_br4 (J := fun i l => J171 T i l h) (fun _ a0 a1 a2 a3 => le_e (fun hn => e171_0 rfl hn) ((m171 hc hR).1 a0 a1 a2 a3 h)) ?_
  refine le_br5 (J := fun i l => J171 T i l h) (fun _ a0 a2 a3 a5 a8 => le_e (fun hn => e171_1 rfl hn) ((m171 hc hR).2.1 a0 a2 a3 a5 a8 h)) ?_
  refine le_br8 (J := fun i l => J171 T i l h) (fun _ a0 a2 a3 a5 a8 a11 a12 a13 => le_e (fun hn => e171_2 rfl hn) ((m171 hc hR).2.2 a0 a2 a3 a5 a8 a11 a12 a13 h)) ?_
  exact le_fail _) n
theorem m172 {cf cf' : CallF} {R R' : Rec} (hc : ∀ f l h, le (cf f l h) (cf' f l h)) (hR : ∀ i l h, le (R i l h) (R' i l h)) : (∀ (a0 a1 : IV) (h : H), le (t172_0 cf R a0 a1 h) (t172_0 cf' R' a0 a1 h)) := by
  intros
  unfold t172_0
  with_reducible repeat' first
    | refine le_obind fun _ => ?_
    | refine le_callP ?_ (fun _ _ => ?_) (fun _ _ => ?_)
    | refine le_condK ?_ ?_
    | exact hR _ _ _
    | refine le_obind2 fun _ _ => ?_
    | refine le_obindH fun _ => ?_
    | refine le_spanK (fun _ _ _ => ?_) (fun _ _ => ?_)
    | exact hc _ _ _
    | refine le_bif ?_ ?_
    | refine le_guardK ?_ ?_ ?_
    | refine le_mapK fun _ _ => ?_
    | refine le_panK fun _ _ => ?_
    | refine le_funK fun _ _ => ?_
    | exact le_refl _
    | apply_assumption
noncomputable def b172 (cf : CallF) (R : Rec) : Rec := fun i l h =>
 br2 i 0 l (fun a0 a1 => t172_0 cf R a0 a1 h) <|
 .fail
theorem r172 {T : Tab} {cf : CallF} (hc : leC cf (CL T)) (n : Nat) : leR (recN (b172 cf) n) (J172 T) := recN_le (fun R hR i l h => by
  unfold b172
  refine le_br2 (J := fun i l => J172 T i l h) (fun _ a0 a1 => le_e (fun hn => e172_0 rfl hn) ((m172 hc hR) a0 a1 h)) ?_
  exact le_fail _) n
theorem m173 {cf cf' : CallF} {R R' : Rec} (hc : ∀ f l h, le (cf f l h) (cf' f l h)) (hR : ∀ i l h, le (R i l h) (R' i l h)) : (∀ (a0 : IV) (h : H), le (t173_0 cf R a0 h) (t173_0 cf' R' a0 h)) := by
  intros
  unfold t173_0
  with_reducible repeat' first
    | refine le_obind fun _ => ?_
    | refine le_callP ?_ (fun _ _ => ?_) (fun _ _ => ?_)
    | refine le_condK ?_ ?_
    | exact hR _ _ _
    | refine le_obind2 fun _ _ => ?_
    | refine le_obindH fun _ => ?_
    | refine le_spanK (fun _ _ _ => ?_) (fun _ _ => ?_)
    | exact hc _ _ _
    | refine le_bif ?_ ?_
    | refine le_guardK ?_ ?_ ?_
    | refine le_mapK fun _ _ => ?_
    | refine le_panK fun _ _ => ?_
    | refine le_funK fun _ _ => ?_
    | exact le_refl _
    | apply_assumption
noncomputable def b173 (cf : CallF) (R : Rec) : Rec := fun i l h =>
 br1 i 0 l (fun a0 => t173_0 cf R a0 h) <|
 .fail
theorem r173 {T : Tab} {cf : CallF} (hc : leC cf (CL T)) (n : Nat) : leR (recN (b173 cf) n) (J173 T) := recN_le (fun R hR i l h => by
  unfold b173
  refine le_br1 (J := fun i l => J173 T i l h) (fun _ a0 => le_e (fun hn => e173_0 rfl hn) ((m173 hc hR) a0 h)) ?_
  exact le_fail _) n
theorem m174 {cf cf' : CallF} {R R' : Rec} (hc : ∀ f l h, le (cf f l h) (cf' f l h)) (hR : ∀ i l h, le (R i l h) (R' i l h)) :
  (∀ (a0 a1 : IV) (h : H), le (t174_0 cf R a0 a1 h) (t174_0 cf' R' a0 a1 h)) ∧
  (∀ (a4 a5 : IV) (h : H), le (t174_1 cf R a4 a5 h) (t174_1 cf' R' a4 a5 h)) ∧
  (∀ (a0 a4 a5 : IV) (h : H), le (t174_2 cf R a0 a4 a5 h) (t174_2 cf' R' a0 a4 a5 h)) ∧
  (∀ (a0 a4 a5 : IV) (h : H), le (t174_3 cf R a0 a4 a5 h) (t174_3 cf' R' a0 a4 a5 h)) := by
  refine ⟨?_, ?_, ?_, ?_⟩
  all_goals intros
  all_goals first | unfold t174_0 | unfold t174_1 | unfold t174_2 | unfold t174_3
  all_goals
  with_reducible repeat' first
    | refine le_obind fun _ => ?_
    | refine le_callP ?_ (fun _ _ => ?_) (fun _ _ => ?_)
    | refine le_condK ?_ ?_
    | exact hR _ _ _
    | refine le_obind2 fun _ _ => ?_
    | refine le_obindH fun _ => ?_
    | refine le_spanK (fun _ _ _ => ?_) (fun _ _ => ?_)
    | exact hc _ _ _
    | refine le_bif ?_ ?_
    | refine le_guardK ?_ ?_ ?_
    | refine le_mapK fun _ _ => ?_
    | refine le_panK fun _ _ => ?_
    | refine le_funK fun _ _ => ?_
    | exact le_refl _
    | apply_assumption
noncomputable def b174 (cf : CallF) (R : Rec) : Rec := fun i l h =>
 br2 i 0 l (fun a0 a1 => t174_0 cf R a0 a1 h) <|
 br2 i 1 l (fun a4 a5 => t174_1 cf R a4 a5 h) <|
 br3 i 2 l (fun a0 a4 a5 => t174_2 cf R a0 a4 a5 h) <|
 br3 i 3 l (fun a0 a4 a5 => t174_3 cf R a0 a4 a5 h) <|
 .fail
theorem r174 {T : Tab} {cf : CallF} (hc : leC cf (CL T)) (n : Nat) : leR (recN (b174 cf) n) (J174 T) := recN_le (fun R hR i l h => by
  unfold b174
  refine le_br2 (J := fun i l => J174 T i l h) (fun _ a0 a1 => le_e (fun hn => e174_0 rfl hn) ((m174 hc hR).1 a0 a1 h)) ?_
  refine le_br2 (J := fun i l => J174 T i l h) (fun _ a4 a5 => le_e (fun hn => e174_1 rfl hn) ((m174 hc hR).2.1 a4 a5 h)) ?_
  refine le_br3 (J := fun i l => J174 T i l h) (fun _ a0 a4 a5 => le_e (fun hn => e174_2 rfl hn) ((m174 hc hR).2.2.1 a0 a4 a5 h)) ?_
  refine le_br3 (J := fun i l => J174 T i l h) (fun _ a0 a4 a5 => le_e (fun hn => e174_3 rfl hn) ((m174 hc hR).2.2.2 a0 a4 a5 h)) ?_
  exact le_fail _) n
theorem m187 {cf cf' : CallF} {R R' : Rec} (hc : ∀ f l h, le (cf f l h) (cf' f l h)) (hR : ∀ i l h, le (R i l h) (R' i l h)) : (∀ (h : H), le (t187_0 cf R h) (t187_0 cf' R' h)) := by
  intros
  unfold t187_0
  with_reducible repeat' first
    | refine le_obind fun _ => ?_
    | refine le_callP ?_ (fun _ _ => ?_) (fun _ _ => ?_)
    | refine le_condK ?_ ?_
    | exact hR _ _ _
    | refine le_obind2 fun _ _ => ?_
    | refine le_obindH fun _ => ?_
    | refine le_spanK (fun _ _ _ => ?_) (fun _ _ => ?_)
    | exact hc _ _ _
    | refine le_bif ?_ ?_
    | refine le_guardK ?_ ?_ ?_
    | refine le_mapK fun _ _ => ?_
    | refine le_panK fun _ _ => ?_
    | refine le_funK fun _ _ => ?_
    | exact le_refl _
    | apply_assumption
noncomputable def b187 (cf : CallF) (R : Rec) : Rec := fun i l h =>
 br0 i 0 l (t187_0 cf R h) <|
 .fail
theorem r187 {T : Tab} {cf : CallF} (hc : leC cf (CL T)) (n : Nat) : leR (recN (b187 cf) n) (J187 T) := recN_le (fun R hR i l h => by
  unfold b187
  refine le_br0 (J := fun i l => J187 T i l h) (fun _ => le_e (fun hn => e187_0 rfl hn) ((m187 hc hR) h)) ?_
  exact le_fail _) n
theorem m203 {cf cf' : CallF} {R R' : Rec} (hc : ∀ f l h, le (cf f l h) (cf' f l h)) (hR : ∀ i l h, le (R i l h) (R' i l h)) : (∀ (a0 a1 : IV) (h : H), le (t203_0 cf R a0 a1 h) (t203_0 cf' R' a0 a1 h)) := by
  intros
  unfold t203_0
  with_reducible repeat' first
    | refine le_obind fun _ => ?_
    | refine le_callP ?_ (fun _ _ => ?_) (fun _ _ => ?_)
    | refine le_condK ?_ ?_
    | exact hR _ _ _
    | refine le_obind2 fun _ _ => ?_
    | refine le_obindH fun _ => ?_
    | refine le_spanK (fun _ _ _ => ?_) (fun _ _ => ?_)
    | exact hc _ _ _
    | refine le_bif ?_ ?_
    | refine le_guardK ?_ ?_ ?_
    | refine le_mapK fun _ _ => ?_
    | refine le_panK fun _ _ => ?_
    | refine le_funK fun _ _ => ?_
    | exact le_refl _
    | apply_assumption
noncomputable def b203 (cf : CallF) (R : Rec) : Rec := fun i l h =>
 br2 i 0 l (fun a0 a1 => t203_0 cf R a0 a1 h) <|
 .fail
theorem r203 {T : Tab} {cf : CallF} (hc : leC cf (CL T)) (n : Nat) : leR (recN (b203 cf) n) (J203 T) := recN_le (fun R hR i l h => by
  unfold b203
  refine le_br2 (J := fun i l => J203 T i l h) (fun _ a0 a1 => le_e (fun hn => e203_0 rfl hn) ((m203 hc hR) a0 a1 h)) ?_
  exact le_fail _) n
theorem m204 {cf cf' : CallF} {R R' : Rec} (hc : ∀ f l h, le (cf f l h) (cf' f l h)) (hR : ∀ i l h, le (R i l h) (R' i l h)) : (∀ (a0 : IV) (h : H), le (t204_0 cf R a0 h) (t204_0 cf' R' a0 h)) := by
  intros
  unfold t204_0
  with_reducible repeat' first
    | refine le_obind fun _ => ?_
    | refine le_callP ?_ (fun _ _ => ?_) (fun _ _ => ?_)
    | refine le_condK ?_ ?_
    | exact hR _ _ _
    | refine le_obind2 fun _ _ => ?_
    | refine le_obindH fun _ => ?_
    | refine le_spanK (fun _ _ _ => ?_) (fun _ _ => ?_)
    | exact hc _ _ _
    | refine le_bif ?_ ?_
    | refine le_guardK ?_ ?_ ?_
    | refine le_mapK fun _ _ => ?_
    | refine le_panK fun _ _ => ?_
    | refine le_funK fun _ _ => ?_
    | exact le_refl _
    | apply_assumption
noncomputable def b204 (cf : CallF) (R : Rec) : Rec := fun i l h =>
 br1 i 0 l (fun a0 => t204_0 cf R a0 h) <|
 .fail
theorem r204 {T : Tab} {cf : CallF} (hc : leC cf (CL T)) (n : Nat) : leR (recN (b204 cf) n) (J204 T) := recN_le (fun R hR i l h => by
  unfold b204
  refine le_br1 (J := fun i l => J204 T i l h) (fun _ a0 => le_e (fun hn => e204_0 rfl hn) ((m204 hc hR) a0 h)) ?_
  exact le_fail _) n
theorem m205 {cf cf' : CallF} {R R' : Rec} (hc : ∀ f l h, le (cf f l h) (cf' f l h)) (hR : ∀ i l h, le (R i l h) (R' i l h)) : (∀ (a0 : IV) (h : H), le (t205_0 cf R a0 h) (t205_0 cf' R' a0 h)) := by
  intros
  unfold t205_0
  with_reducible repeat' first
    | refine le_obind fun _ => ?_
    | refine le_callP ?_ (fun _ _ => ?_) (fun _ _ => ?_)
    | refine le_condK ?_ ?_
    | exact hR _ _ _
    | refine le_obind2 fun _ _ => ?_
    | refine le_obindH fun _ => ?_
    | refine le_spanK (fun _ _ _ => ?_) (fun _ _ => ?_)
    | exact hc _ _ _
    | refine le_bif ?_ ?_
    | refine le_guardK ?_ ?_ ?_
    | refine le_mapK fun _ _ => ?_
    | refine le_panK fun _ _ => ?_
    | refine le_funK fun _ _ => ?_
    | exact le_refl _
    | apply_assumption
noncomputable def b205 (cf : CallF) (R : Rec) : Rec := fun i l h =>
 br1 i 0 l (fun a0 => t205_0 cf R a0 h) <|
 .fail
theorem r205 {T : Tab} {cf : CallF} (hc : leC cf (CL T)) (n : Nat) : leR (recN (b205 cf) n) (J205 T) := recN_le (fun R hR i l h => by
  unfold b205
  refine le_br1 (J := fun i l => J205 T i l h) (fun _ a0 => le_e (fun hn => e205_0 rfl hn) ((m205 hc hR) a0 h)) ?_
  exact le_fail _) n
theorem m206 {cf cf' : CallF} {R R' : Rec} (hc : ∀ f l h, le (cf f l h) (cf' f l h)) (hR : ∀ i l h, le (R i l h) (R' i l h)) :
  (∀ (a0 a1 : IV) (h : H), le (t206_0 cf R a0 a1 h) (t206_0 cf' R' a0 a1 h)) ∧
  (∀ (a0 a1 a4 a12 a13 : IV) (h : H), le (t206_1 cf R a0 a1 a4 a12 a13 h) (t206_1 cf' R' a0 a1 a4 a12 a13 h)) ∧
  (∀ (a4 a14 : IV) (h : H), le (t206_2 cf R a4 a14 h) (t206_2 cf' R' a4 a14 h)) ∧
  (∀ (a0 a4 a14 : IV) (h : H), le (t206_3 cf R a0 a4 a14 h) (t206_3 cf' R' a0 a4 a14 h)) := by
  refine ⟨?_, ?_, ?_, ?_⟩
  all_goals intros
  all_goals first | unfold t206_0 | unfold t206_1 | unfold t206_2 | unfold t206_3
  all_goals
  with_reducible repeat' first
    | refine le_obind fun _ => ?_
    | refine le_callP ?_ (fun _ _ => ?_) (fun _ _ => ?_)
    | refine le_condK ?_ ?_
    | exact hR _ _ _
    | refine le_obind2 fun _ _ => ?_
    | refine le_obindH fun _ => ?_
    | refine le_spanK (fun _ _ _ => ?_) (fun _ _ => ?_)
    | exact hc _ _ _
    | refine le_bif ?_ ?_
    | refine le_guardK ?_ ?_ ?_
    | refine le_mapK fun _ _ => ?_
    | refine le_panK fun _ _ => ?_
    | refine le_funK fun _ _ => ?_
    | exact le_refl _
    | apply_assumption
noncomputable def b206 (cf : CallF) (R : Rec) : Rec := fun i l h =>
 br2 i 0 l (fun a0 a1 => t206_0 cf R a0 a1 h) <|
 br5 i 1 l (fun a0 a1 a4 a12 a13 => t206_1 cf R a0 a1 a4 a12 a13 h) <|
 br2 i 2 l (fun a4 a14 => t206_2 cf R a4 a14 h) <|
 br3 i 3 l (fun a0 a4 a14 => t206_3 cf R a0 a4 a14 h) <|
 .fail
theorem r206 {T : Tab} {cf : CallF} (hc : leC cf (CL T)) (n : Nat) : leR (recN (b206 cf) n) (J206 T) := recN_le (fun R hR i l h => by
  unfold b206
  refine le_br2 (J := fun i l => J206 T i l h) (fun _ a0 a1 => le_e (fun hn => e206_0 rfl hn) ((m206 hc hR).1 a0 a1 h)) ?_
  refine le_br5 (J := fun i l => J206 T i l h) (fun _ a0 a1 a4 a12 a13 => le_e (fun hn => e206_1 rfl hn) ((m206 hc hR).2.1 a0 a1 a4 a12 a13 h)) ?_
  refine le_br2 (J := fun i l => J206 T i l h) (fun _ a4 a14 => le_e (fun hn => e206_2 rfl hn) ((m206 hc hR).2.2.1 a4 a14 h)) ?_
  refine le_br3 (J := fun i l => J206 T i l h) (fun _ a0 a4 a14 => le_e (fun hn => e206_3 rfl hn) ((m206 hc hR).2.2.2 a0 a4 a14 h)) ?_
  exact le_fail _) n
theorem m208 {cf cf' : CallF} {R R' : Rec} (hc : ∀ f l h, le (cf f l h) (cf' f l h)) (hR : ∀ i l h, le (R i l h) (R' i l h)) :
  (∀ (a0 a1 : IV) (h : H), le (t208_0 cf R a0 a1 h) (t208_0 cf' R' a0 a1 h)) ∧
  (∀ (a0 a1 : IV) (h : H), le (t208_1 cf R a0 a1 h) (t208_1 cf' R' a0 a1 h)) ∧
  (∀ (a0 a1 : IV) (h : H), le (t208_2 cf R a0 a1 h) (t208_2 cf' R' a0 a1 h)) := by
  refine ⟨?_, ?_, ?_⟩
  all_goals intros
  all_goals first | unfold t208_0 | unfold t208_1 | unfold t208_2
  all_goals
  with_reducible repeat' first
    | refine le_obind fun _ => ?_
    | refine le_callP ?_ (fun _ _ => ?_) (fun _ _ => ?_)
    | refine le_condK ?_ ?_
    | exact hR _ _ _
    | refine le_obind2 fun _ _ => ?_
    | refine le_obindH fun _ => ?_
    | refine le_spanK (fun _ _ _ => ?_) (fun _ _ => ?_)
    | exact hc _ _ _
    | refine le_bif ?_ ?_
    | refine le_guardK ?_ ?_ ?_
    | refine le_mapK fun _ _ => ?_
    | refine le_panK fun _ _ => ?_
    | refine le_funK fun _ _ => ?_
    | exact le_refl _
    | apply_assumption
noncomputable def b208 (cf : CallF) (R : Rec) : Rec := fun i l h =>
 br2 i 0 l (fun a0 a1 => t208_0 cf R a0 a1 h) <|
 br2 i 1 l (fun a0 a1 => t208_1 cf R a0 a1 h) <|
 br2 i 2 l (fun a0 a1 => t208_2 cf R a0 a1 h) <|
 .fail
theorem r208 {T : Tab} {cf : CallF} (hc : leC cf (CL T)) (n : Nat) : leR (recN (b208 cf) n) (J208 T) := recN_le (fun R hR i l h => by
  unfold b208
  refine le_br2 (J := fun i l => J208 T i l h) (fun _ a0 a1 => le_e (fun hn => e208_0 rfl hn) ((m208 hc hR).1 a0 a1 h)) ?_
  refine le_br2 (J := fun i l => J208 T i l h) (fun _ a0 a1 => le_e (fun hn => e208_1 rfl hn) ((m208 hc hR).2.1 a0 a1 h)) ?_
  refine le_br2 (J := fun i l => J208 T i l h) (fun _ a0 a1 => le_e (fun hn => e208_2 rfl hn) ((m208 hc hR).2.2 a0 a1 h)) ?_
  exact le_fail _) n
def tabB (f : FuncId) : Bool := [193, 157, 161, 12].any fun x => Nat.beq f x
noncomputable def cfB (T : Tab) (cf : CallF) : CallF := fun f l h =>
 @Bool.rec (fun _ => CRes) (@Bool.rec (fun _ => CRes) (@Bool.rec (fun _ => CRes) (@Bool.rec (fun _ => CRes) (@Bool.rec (fun _ => CRes) (@Bool.rec (fun _ => CRes) (brQ3 f 7 l (fun a0 a1 a2 => QsP (recN (b7 cf) 1000000 0 [a0, a1, a2] ⟨h.next, h.objs, T.pol 7, h.tys⟩) h.pol) .fail) (brQ1 f 9 l (fun a0 => QsP (recN (b9 cf) 1000000 0 [a0] ⟨h.next, h.objs, T.pol 9, h.tys⟩) h.pol) .fail) (Nat.ble 9 f)) (@Bool.rec (fun _ => CRes) (brQ1 f 10 l (fun a0 => QsP (recN (b10 cf) 1000000 0 [a0] ⟨h.next, h.objs, T.pol 10, h.tys⟩) h.pol) .fail) (@Bool.rec (fun _ => CRes) (brQ0 f 12 l (ovK (T.ov 12) [] h (QsP (recN (b12 cf) 1000000 0 [] ⟨h.next, h.objs, T.pol 12, h.tys⟩) h.pol)) .fail) (brQ1 f 14 l (fun a0 => QsP (recN (b14 cf) 1000000 0 [a0] ⟨h.next, h.objs, T.pol 14, h.tys⟩) h.pol) .fail) (Nat.ble 14 f)) (Nat.ble 12 f)) (Nat.ble 10 f)) (@Bool.rec (fun _ => CRes) (@Bool.rec (fun _ => CRes) (brQ1 f 17 l (fun a0 => QsP (recN (b17 cf) 1000000 0 [a0] ⟨h.next, h.objs, T.pol 17, h.tys⟩) h.pol) .fail) (@Bool.rec (fun _ => CRes) (brQ1 f 18 l (fun a0 => QsP (recN (b18 cf) 1000000 0 [a0] ⟨h.next, h.objs, T.pol 18, h.tys⟩) h.pol) .fail) (brQ1 f 19 l (fun a0 => QsP (recN (b19 cf) 1000000 0 [a0] ⟨h.next, h.objs, T.pol 19, h.tys⟩) h.pol) .fail) (Nat.ble 19 f)) (Nat.ble 18 f)) (@Bool.rec (fun _ => CRes) (brQ1 f 20 l (fun a0 => QsP (recN (b20 cf) 1000000 0 [a0] ⟨h.next, h.objs, T.pol 20, h.tys⟩) h.pol) .fail) (@Bool.rec (fun _ => CRes) (brQ2 f 21 l (fun a0 a1 => QsP (recN (b21 cf) 1000000 0 [a0, a1] ⟨h.next, h.objs, T.pol 21, h.tys⟩) h.pol) .fail) (brQ2 f 22 l (fun a0 a1 => QsP (recN (b22 cf) 1000000 0 [a0, a1] ⟨h.next, h.objs, T.pol 22, h.tys⟩) h.pol) .fail) (Nat.ble 22 f)) (Nat.ble 21 f)) (Nat.ble 20 f)) (Nat.ble 17 f)) (@Bool.rec (fun _ => CRes) (@Bool.rec (fun _ => CRes) (@Bool.rec (fun _ => CRes) (brQ3 f 23 l (fun a0 a1 a2 => QsP (recN (b23 cf) 1000000 0 [a0, a1, a2] ⟨h.next, h.objs, T.pol 23, h.tys⟩) h.pol) .fail) (@Bool.rec (fun _ => CRes) (brQ1 f 24 l (fun a0 => QsP (recN (b24 cf) 1000000 0 [a0] ⟨h.next, h.objs, T.pol 24, h.tys⟩) h.pol) .fail) (brQ2 f 25 l (fun a0 a1 => QsP (recN (b25 cf) 1000000 0 [a0, a1] ⟨h.next, h.objs, T.pol 25, h.tys⟩) h.pol) .fail) (Nat.ble 25 f)) (Nat.ble 24 f)) (@Bool.rec (fun _ => CRes) (brQ2 f 27 l (fun a0 a1 => QsP (recN (b27 cf) 1000000 0 [a0, a1] ⟨h.next, h.objs, T.pol 27, h.tys⟩) h.pol) .fail) (@Bool.rec (fun _ => CRes) (brQ2 f 28 l (fun a0 a1 => QsP (recN (b28 cf) 1000000 0 [a0, a1] ⟨h.next, h.objs, T.pol 28, h.tys⟩) h.pol) .fail) (brQ2 f 29 l (fun a0 a1 => QsP (recN (b29 cf) 1000000 0 [a0, a1] ⟨h.next, h.objs, T.pol 29, h.tys⟩) h.pol) .fail) (Nat.ble 29 f)) (Nat.ble 28 f)) (Nat.ble 27 f)) (@Bool.rec (fun _ => CRes) (@Bool.rec (fun _ => CRes) (brQ3 f 35 l (fun a0 a1 a2 => QsP (recN (b35 cf) 1000000 0 [a0, a1, a2] ⟨h.next, h.objs, T.pol 35, h.tys⟩) h.pol) .fail) (@Bool.rec (fun _ => CRes) (brQ2 f 36 l (fun a0 a1 => QsP (recN (b36 cf) 1000000 0 [a0, a1] ⟨h.next, h.objs, T.pol 36, h.tys⟩) h.pol) .fail) (brQ2 f 37 l (fun a0 a1 => QsP (recN (b37 cf) 1000000 0 [a0, a1] ⟨h.next, h.objs, T.pol 37, h.tys⟩) h.pol) .fail) (Nat.ble 37 f)) (Nat.ble 36 f)) (@Bool.rec (fun _ => CRes) (brQ1 f 38 l (fun a0 => QsP (recN (b38 cf) 1000000 0 [a0] ⟨h.next, h.objs, T.pol 38, h.tys⟩) h.pol) .fail) (@Bool.rec (fun _ => CRes) (brQ1 f 39 l (fun a0 => QsP (recN (b39 cf) 1000000 0 [a0] ⟨h.next, h.objs, T.pol 39, h.tys⟩) h.pol) .fail) (brQ1 f 41 l (fun a0 => QsP (recN (b41 cf) 1000000 0 [a0] ⟨h.next, h.objs, T.pol 41, h.tys⟩) h.pol) .fail) (Nat.ble 41 f)) (Nat.ble 39 f)) (Nat.ble 38 f)) (Nat.ble 35 f)) (Nat.ble 23 f)) (@Bool.rec (fun _ => CRes) (@Bool.rec (fun _ => CRes) (@Bool.rec (fun _ => CRes) (@Bool.rec (fun _ => CRes) (brQ1 f 42 l (fun a0 => QsP (recN (b42 cf) 1000000 0 [a0] ⟨h.next, h.objs, T.pol 42, h.tys⟩) h.pol) .fail) (@Bool.rec (fun _ => CRes) (brQ2 f 43 l (fun a0 a1 => QsP (recN (b43 cf) 1000000 0 [a0, a1] ⟨h.next, h.objs, T.pol 43, h.tys⟩) h.pol) .fail) (brQ3 f 44 l (fun a0 a1 a2 => QsP (recN (b44 cf) 1000000 0 [a0, a1, a2] ⟨h.next, h.objs, T.pol 44, h.tys⟩) h.pol) .fail) (Nat.ble 44 f)) (Nat.ble 43 f)) (@Bool.rec (fun _ => CRes) (brQ3 f 45 l (fun a0 a1 a2 => QsP (recN (b45 cf) 1000000 0 [a0, a1, a2] ⟨h.next, h.objs, T.pol 45, h.tys⟩) h.pol) .fail) (@Bool.rec (fun _ => CRes) (brQ3 f 47 l (fun a0 a1 a2 => QsP (recN (b47 cf) 1000000 0 [a0, a1, a2] ⟨h.next, h.objs, T.pol 47, h.tys⟩) h.pol) .fail) (brQ2 f 48 l (fun a0 a1 => QsP (recN (b48 cf) 1000000 0 [a0, a1] ⟨h.next, h.objs, T.pol 48, h.tys⟩) h.pol) .fail) (Nat.ble 48 f)) (Nat.ble 47 f)) (Nat.ble 45 f)) (@Bool.rec (fun _ => CRes) (@Bool.rec (fun _ => CRes) (brQ2 f 49 l (fun a0 a1 => QsP (recN (b49 cf) 1000000 0 [a0, a1] ⟨h.next, h.objs, T.pol 49, h.tys⟩) h.pol) .fail) (@Bool.rec (fun _ => CRes) (brQ1 f 51 l (fun a0 => QsP (recN (b51 cf) 1000000 0 [a0] ⟨h.next, h.objs, T.pol 51, h.tys⟩) h.pol) .fail) (brQ2 f 52 l (fun a0 a1 => QsP (recN (b52 cf) 1000000 0 [a0, a1] ⟨h.next, h.objs, T.pol 52, h.tys⟩) h.pol) .fail) (Nat.ble 52 f)) (Nat.ble 51 f)) (@Bool.rec (fun _ => CRes) (brQ1 f 53 l (fun a0 => QsP (recN (b53 cf) 1000000 0 [a0] ⟨h.next, h.objs, T.pol 53, h.tys⟩) h.pol) .fail) (@Bool.rec (fun _ => CRes) (brQ1 f 54 l (fun a0 => QsP (recN (b54 cf) 1000000 0 [a0] ⟨h.next, h.objs, T.pol 54, h.tys⟩) h.pol) .fail) (brQ3 f 55 l (fun a0 a1 a2 => QsP (recN (b55 cf) 1000000 0 [a0, a1, a2] ⟨h.next, h.objs, T.pol 55, h.tys⟩) h.pol) .fail) (Nat.ble 55 f)) (Nat.ble 54 f)) (Nat.ble 53 f)) (Nat.ble 49 f)) (@Bool.rec (fun _ => CRes) (@Bool.rec (fun _ => CRes) (@Bool.rec (fun _ => CRes) (brQ3 f 57 l (fun a0 a1 a2 => QsP (recN (b57 cf) 1000000 0 [a0, a1, a2] ⟨h.next, h.objs, T.pol 57, h.tys⟩) h.pol) .fail) (@Bool.rec (fun _ => CRes) (brQ2 f 58 l (fun a0 a1 => QsP (recN (b58 cf) 1000000 0 [a0, a1] ⟨h.next, h.objs, T.pol 58, h.tys⟩) h.pol) .fail) (brQ3 f 59 l (fun a0 a1 a2 => QsP (recN (b59 cf) 1000000 0 [a0, a1, a2] ⟨h.next, h.objs, T.pol 59, h.tys⟩) h.pol) .fail) (Nat.ble 59 f)) (Nat.ble 58 f)) (@Bool.rec (fun _ => CRes) (brQ1 f 66 l (fun a0 => QsP (recN (b66 cf) 1000000 0 [a0] ⟨h.next, h.objs, T.pol 66, h.tys⟩) h.pol) .fail) (@Bool.rec (fun _ => CRes) (brQ3 f 67 l (fun a0 a1 a2 => QsP (recN (b67 cf) 1000000 0 [a0, a1, a2] ⟨h.next, h.objs, T.pol 67, h.tys⟩) h.pol) .fail) (brQ3 f 70 l (fun a0 a1 a2 => QsP (recN (b70 cf) 1000000 0 [a0, a1, a2] ⟨h.next, h.objs, T.pol 70, h.tys⟩) h.pol) .fail) (Nat.ble 70 f)) (Nat.ble 67 f)) (Nat.ble 66 f)) (@Bool.rec (fun _ => CRes) (@Bool.rec (fun _ => CRes) (brQ1 f 75 l (fun a0 => QsP (recN (b75 cf) 1000000 0 [a0] ⟨h.next, h.objs, T.pol 75, h.tys⟩) h.pol) .fail) (@Bool.rec (fun _ => CRes) (brQ1 f 76 l (fun a0 => QsP (recN (b76 cf) 1000000 0 [a0] ⟨h.next, h.objs, T.pol 76, h.tys⟩) h.pol) .fail) (brQ1 f 77 l (fun a0 => QsP (recN (b77 cf) 1000000 0 [a0] ⟨h.next, h.objs, T.pol 77, h.tys⟩) h.pol) .fail) (Nat.ble 77 f)) (Nat.ble 76 f)) (@Bool.rec (fun _ => CRes) (brQ2 f 79 l (fun a0 a1 => QsP (recN (b79 cf) 1000000 0 [a0, a1] ⟨h.next, h.objs, T.pol 79, h.tys⟩) h.pol) .fail) (@Bool.rec (fun _ => CRes) (brQ1 f 80 l (fun a0 => QsP (recN (b80 cf) 1000000 0 [a0] ⟨h.next, h.objs, T.pol 80, h.tys⟩) h.pol) .fail) (brQ2 f 81 l (fun a0 a1 => QsP (recN (b81 cf) 1000000 0 [a0, a1] ⟨h.next, h.objs, T.pol 81, h.tys⟩) h.pol) .fail) (Nat.ble 81 f)) (Nat.ble 80 f)) (Nat.ble 79 f)) (Nat.ble 75 f)) (Nat.ble 57 f)) (Nat.ble 42 f)) (@Bool.rec (fun _ => CRes) (@Bool.rec (fun _ => CRes) (@Bool.rec (fun _ => CRes) (@Bool.rec (fun _ => CRes) (@Bool.rec (fun _ => CRes) (brQ1 f 82 l (fun a0 => QsP (recN (b82 cf) 1000000 0 [a0] ⟨h.next, h.objs, T.pol 82, h.tys⟩) h.pol) .fail) (@Bool.rec (fun _ => CRes) (brQ2 f 83 l (fun a0 a1 => QsP (recN (b83 cf) 1000000 0 [a0, a1] ⟨h.next, h.objs, T.pol 83, h.tys⟩) h.pol) .fail) (brQ1 f 85 l (fun a0 => QsP (recN (b85 cf) 1000000 0 [a0] ⟨h.next, h.objs, T.pol 85, h.tys⟩) h.pol) .fail) (Nat.ble 85 f)) (Nat.ble 83 f)) (@Bool.rec (fun _ => CRes) (brQ3 f 86 l (fun a0 a1 a2 => QsP (recN (b86 cf) 1000000 0 [a0, a1, a2] ⟨h.next, h.objs, T.pol 86, h.tys⟩) h.pol) .fail) (@Bool.rec (fun _ => CRes) (brQ2 f 87 l (fun a0 a1 => QsP (recN (b87 cf) 1000000 0 [a0, a1] ⟨h.next, h.objs, T.pol 87, h.tys⟩) h.pol) .fail) (brQ4 f 88 l (fun a0 a1 a2 a3 => QsP (recN (b88 cf) 1000000 0 [a0, a1, a2, a3] ⟨h.next, h.objs, T.pol 88, h.tys⟩) h.pol) .fail) (Nat.ble 88 f)) (Nat.ble 87 f)) (Nat.ble 86 f)) (@Bool.rec (fun _ => CRes) (@Bool.rec (fun _ => CRes) (brQ2 f 94 l (fun a0 a1 => QsP (recN (b94 cf) 1000000 0 [a0, a1] ⟨h.next, h.objs, T.pol 94, h.tys⟩) h.pol) .fail) (@Bool.rec (fun _ => CRes) (brQ1 f 95 l (fun a0 => QsP (recN (b95 cf) 1000000 0 [a0] ⟨h.next, h.objs, T.pol 95, h.tys⟩) h.pol) .fail) (brQ2 f 96 l (fun a0 a1 => QsP (recN (b96 cf) 1000000 0 [a0, a1] ⟨h.next, h.objs, T.pol 96, h.tys⟩) h.pol) .fail) (Nat.ble 96 f)) (Nat.ble 95 f)) (@Bool.rec (fun _ => CRes) (brQ2 f 97 l (fun a0 a1 => QsP (recN (b97 cf) 1000000 0 [a0, a1] ⟨h.next, h.objs, T.pol 97, h.tys⟩) h.pol) .fail) (@Bool.rec (fun _ => CRes) (brQ2 f 99 l (fun a0 a1 => QsP (recN (b99 cf) 1000000 0 [a0, a1] ⟨h.next, h.objs, T.pol 99, h.tys⟩) h.pol) .fail) (brQ1 f 100 l (fun a0 => QsP (recN (b100 cf) 1000000 0 [a0] ⟨h.next, h.objs, T.pol 100, h.tys⟩) h.pol) .fail) (Nat.ble 100 f)) (Nat.ble 99 f)) (Nat.ble 97 f)) (Nat.ble 94 f)) (@Bool.rec (fun _ => CRes) (@Bool.rec (fun _ => CRes) (@Bool.rec (fun _ => CRes) (brQ1 f 115 l (fun a0 => QsP (recN (b115 cf) 1000000 0 [a0] ⟨h.next, h.objs, T.pol 115, h.tys⟩) h.pol) .fail) (@Bool.rec (fun _ => CRes) (brQ2 f 116 l (fun a0 a1 => QsP (recN (b116 cf) 1000000 0 [a0, a1] ⟨h.next, h.objs, T.pol 116, h.tys⟩) h.pol) .fail) (brQ1 f 118 l (fun a0 => QsP (recN (b118 cf) 1000000 0 [a0] ⟨h.next, h.objs, T.pol 118, h.tys⟩) h.pol) .fail) (Nat.ble 118 f)) (Nat.ble 116 f)) (@Bool.rec (fun _ => CRes) (brQ1 f 120 l (fun a0 => QsP (recN (b120 cf) 1000000 0 [a0] ⟨h.next, h.objs, T.pol 120, h.tys⟩) h.pol) .fail) (@Bool.rec (fun _ => CRes) (brQ2 f 123 l (fun a0 a1 => QsP (recN (b123 cf) 1000000 0 [a0, a1] ⟨h.next, h.objs, T.pol 123, h.tys⟩) h.pol) .fail) (brQ2 f 124 l (fun a0 a1 => QsP (recN (b124 cf) 1000000 0 [a0, a1] ⟨h.next, h.objs, T.pol 124, h.tys⟩) h.pol) .fail) (Nat.ble 124 f)) (Nat.ble 123 f)) (Nat.ble 120 f)) (@Bool.rec (fun _ => CRes) (@Bool.rec (fun _ => CRes) (brQ2 f 125 l (fun a0 a1 => QsP (recN (b125 cf) 1000000 0 [a0, a1] ⟨h.next, h.objs, T.pol 125, h.tys⟩) h.pol) .fail) (@Bool.rec (fun _ => CRes) (brQ4 f 126 l (fun a0 a1 a2 a3 => QsP (recN (b126 cf) 1000000 0 [a0, a1, a2, a3] ⟨h.next, h.objs, T.pol 126, h.tys⟩) h.pol) .fail) (brQ3 f 127 l (fun a0 a1 a2 => QsP (recN (b127 cf) 1000000 0 [a0, a1, a2] ⟨h.next, h.objs, T.pol 127, h.tys⟩) h.pol) .fail) (Nat.ble 127 f)) (Nat.ble 126 f)) (@Bool.rec (fun _ => CRes) (brQ2 f 129 l (fun a0 a1 => QsP (recN (b129 cf) 1000000 0 [a0, a1] ⟨h.next, h.objs, T.pol 129, h.tys⟩) h.pol) .fail) (@Bool.rec (fun _ => CRes) (brQ1 f 130 l (fun a0 => QsP (recN (b130 cf) 1000000 0 [a0] ⟨h.next, h.objs, T.pol 130, h.tys⟩) h.pol) .fail) (brQ1 f 131 l (fun a0 => QsP (recN (b131 cf) 1000000 0 [a0] ⟨h.next, h.objs, T.pol 131, h.tys⟩) h.pol) .fail) (Nat.ble 131 f)) (Nat.ble 130 f)) (Nat.ble 129 f)) (Nat.ble 125 f)) (Nat.ble 115 f)) (@Bool.rec (fun _ => CRes) (@Bool.rec (fun _ => CRes) (@Bool.rec (fun _ => CRes) (@Bool.rec (fun _ => CRes) (brQ2 f 132 l (fun a0 a1 => QsP (recN (b132 cf) 1000000 0 [a0, a1] ⟨h.next, h.objs, T.pol 132, h.tys⟩) h.pol) .fail) (@Bool.rec (fun _ => CRes) (brQ1 f 133 l (fun a0 => QsP (recN (b133 cf) 1000000 0 [a0] ⟨h.next, h.objs, T.pol 133, h.tys⟩) h.pol) .fail) (brQ2 f 134 l (fun a0 a1 => QsP (recN (b134 cf) 1000000 0 [a0, a1] ⟨h.next, h.objs, T.pol 134, h.tys⟩) h.pol) .fail) (Nat.ble 134 f)) (Nat.ble 133 f)) (@Bool.rec (fun _ => CRes) (brQ2 f 135 l (fun a0 a1 => QsP (recN (b135 cf) 1000000 0 [a0, a1] ⟨h.next, h.objs, T.pol 135, h.tys⟩) h.pol) .fail) (@Bool.rec (fun _ => CRes) (brQ1 f 136 l (fun a0 => QsP (recN (b136 cf) 1000000 0 [a0] ⟨h.next, h.objs, T.pol 136, h.tys⟩) h.pol) .fail) (brQ3 f 137 l (fun a0 a1 a2 => QsP (recN (b137 cf) 1000000 0 [a0, a1, a2] ⟨h.next, h.objs, T.pol 137, h.tys⟩) h.pol) .fail) (Nat.ble 137 f)) (Nat.ble 136 f)) (Nat.ble 135 f)) (@Bool.rec (fun _ => CRes) (@Bool.rec (fun _ => CRes) (brQ1 f 148 l (fun a0 => QsP (recN (b148 cf) 1000000 0 [a0] ⟨h.next, h.objs, T.pol 148, h.tys⟩) h.pol) .fail) (@Bool.rec (fun _ => CRes) (brQ1 f 157 l (fun a0 => ovK (T.ov 157) [a0] h (CRes.fail)) .fail) (brQ2 f 159 l (fun a0 a1 => QsP (recN (b159 cf) 1000000 0 [a0, a1] ⟨h.next, h.objs, T.pol 159, h.tys⟩) h.pol) .fail) (Nat.ble 159 f)) (Nat.ble 157 f)) (@Bool.rec (fun _ => CRes) (brQ2 f 160 l (fun a0 a1 => QsP (recN (b160 cf) 1000000 0 [a0, a1] ⟨h.next, h.objs, T.pol 160, h.tys⟩) h.pol) .fail) (@Bool.rec (fun _ => CRes) (brQ2 f 161 l (fun a0 a1 => ovK (T.ov 161) [a0, a1] h (CRes.fail)) .fail) (brQ1 f 168 l (fun a0 => QsP (recN (b168 cf) 1000000 0 [a0] ⟨h.next, h.objs, T.pol 168, h.tys⟩) h.pol) .fail) (Nat.ble 168 f)) (Nat.ble 161 f)) (Nat.ble 160 f)) (Nat.ble 148 f)) (@Bool.rec (fun _ => CRes) (@Bool.rec (fun _ => CRes) (@Bool.rec (fun _ => CRes) (brQ2 f 170 l (fun a0 a1 => QsP (recN (b170 cf) 1000000 0 [a0, a1] ⟨h.next, h.objs, T.pol 170, h.tys⟩) h.pol) .fail) (@Bool.rec (fun _ => CRes) (brQ4 f 171 l (fun a0 a1 a2 a3 => QsP (recN (b171 cf) 1000000 0 [a0, a1, a2, a3] ⟨h.next, h.objs, T.pol 171, h.tys⟩) h.pol) .fail) (brQ2 f 172 l (fun a0 a1 => QsP (recN (b172 cf) 1000000 0 [a0, a1] ⟨h.next, h.objs, T.pol 172, h.tys⟩) h.pol) .fail) (Nat.ble 172 f)) (Nat.ble 171 f)) (@Bool.rec (fun _ => CRes) (brQ1 f 173 l (fun a0 => QsP (recN (b173 cf) 1000000 0 [a0] ⟨h.next, h.objs, T.pol 173, h.tys⟩) h.pol) .fail) (@Bool.rec (fun _ => CRes) (brQ2 f 174 l (fun a0 a1 => QsP (recN (b174 cf) 1000000 0 [a0, a1] ⟨h.next, h.objs, T.pol 174, h.tys⟩) h.pol) .fail) (brQ0 f 187 l (QsP (recN (b187 cf) 1000000 0 [] ⟨h.next, h.objs, T.pol 187, h.tys⟩) h.pol) .fail) (Nat.ble 187 f)) (Nat.ble 174 f)) (Nat.ble 173 f)) (@Bool.rec (fun _ => CRes) (@Bool.rec (fun _ => CRes) (brQ2 f 193 l (fun a0 a1 => ovK (T.ov 193) [a0, a1] h (CRes.fail)) .fail) (@Bool.rec (fun _ => CRes) (brQ2 f 203 l (fun a0 a1 => QsP (recN (b203 cf) 1000000 0 [a0, a1] ⟨h.next, h.objs, T.pol 203, h.tys⟩) h.pol) .fail) (brQ1 f 204 l (fun a0 => QsP (recN (b204 cf) 1000000 0 [a0] ⟨h.next, h.objs, T.pol 204, h.tys⟩) h.pol) .fail) (Nat.ble 204 f)) (Nat.ble 203 f)) (@Bool.rec (fun _ => CRes) (brQ1 f 205 l (fun a0 => QsP (recN (b205 cf) 1000000 0 [a0] ⟨h.next, h.objs, T.pol 205, h.tys⟩) h.pol) .fail) (@Bool.rec (fun _ => CRes) (brQ2 f 206 l (fun a0 a1 => QsP (recN (b206 cf) 1000000 0 [a0, a1] ⟨h.next, h.objs, T.pol 206, h.tys⟩) h.pol) .fail) (brQ2 f 208 l (fun a0 a1 => QsP (recN (b208 cf) 1000000 0 [a0, a1] ⟨h.next, h.objs, T.pol 208, h.tys⟩) h.pol) .fail) (Nat.ble 208 f)) (Nat.ble 206 f)) (Nat.ble 205 f)) (Nat.ble 193 f)) (Nat.ble 170 f)) (Nat.ble 132 f)) (Nat.ble 82 f)
theorem cfB_le {T : Tab} (hN : ∀ f, tabB f = false → T.ov f = none) (cf : CallF) (hc : leC cf (CL T)) (f : FuncId) (l : List IV) (h : H) : le (cfB T cf f l h) (CL T f l h) := by
  unfold cfB
  simp only [QsP_eq, brQ0_eq, brQ1_eq, brQ2_eq, brQ3_eq, brQ4_eq]
  refine le_brec ?_ ?_
  · refine le_brec ?_ ?_
    · refine le_brec ?_ ?_
      · refine le_brec ?_ ?_
        · refine le_brec ?_ ?_
          · refine le_brec ?_ ?_
            · refine le_brec ?_ ?_
              · exact le_br2 (J := fun f l => CL T f l h) (fun e a0 a1 => call_le (hN 208 rfl) Tryz.func208 rfl rfl rfl (r208 hc _ 0 _ _)) (le_fail _)
              · exact le_br2 (J := fun f l => CL T f l h) (fun e a0 a1 => call_le (hN 206 rfl) Tryz.func206 rfl rfl rfl (r206 hc _ 0 _ _)) (le_fail _)
            · exact le_br1 (J := fun f l => CL T f l h) (fun e a0 => call_le (hN 205 rfl) Tryz.func205 rfl rfl rfl (r205 hc _ 0 _ _)) (le_fail _)
          · refine le_brec ?_ ?_
            · refine le_brec ?_ ?_
              · exact le_br1 (J := fun f l => CL T f l h) (fun e a0 => call_le (hN 204 rfl) Tryz.func204 rfl rfl rfl (r204 hc _ 0 _ _)) (le_fail _)
              · exact le_br2 (J := fun f l => CL T f l h) (fun e a0 a1 => call_le (hN 203 rfl) Tryz.func203 rfl rfl rfl (r203 hc _ 0 _ _)) (le_fail _)
            · exact le_br2 (J := fun f l => CL T f l h) (fun e a0 a1 => le_ovK fun _ => le_fail _) (le_fail _)
        · refine le_brec ?_ ?_
          · refine le_brec ?_ ?_
            · refine le_brec ?_ ?_
              · exact le_br0 (J := fun f l => CL T f l h) (fun e => call_le (hN 187 rfl) Tryz.func187 rfl rfl rfl (r187 hc _ 0 _ _)) (le_fail _)
              · exact le_br2 (J := fun f l => CL T f l h) (fun e a0 a1 => call_le (hN 174 rfl) Tryz.func174 rfl rfl rfl (r174 hc _ 0 _ _)) (le_fail _)
            · exact le_br1 (J := fun f l => CL T f l h) (fun e a0 => call_le (hN 173 rfl) Tryz.func173 rfl rfl rfl (r173 hc _ 0 _ _)) (le_fail _)
          · refine le_brec ?_ ?_
            · refine le_brec ?_ ?_
              · exact le_br2 (J := fun f l => CL T f l h) (fun e a0 a1 => call_le (hN 172 rfl) Tryz.func172 rfl rfl rfl (r172 hc _ 0 _ _)) (le_fail _)
              · exact le_br4 (J := fun f l => CL T f l h) (fun e a0 a1 a2 a3 => call_le (hN 171 rfl) Tryz.func171 rfl rfl rfl (r171 hc _ 0 _ _)) (le_fail _)
            · exact le_br2 (J := fun f l => CL T f l h) (fun e a0 a1 => call_le (hN 170 rfl) Tryz.func170 rfl rfl rfl (r170 hc _ 0 _ _)) (le_fail _)
      · refine le_brec ?_ ?_
        · refine le_brec ?_ ?_
          · refine le_brec ?_ ?_
            · refine le_brec ?_ ?_
              · exact le_br1 (J := fun f l => CL T f l h) (fun e a0 => call_le (hN 168 rfl) Tryz.func168 rfl rfl rfl (r168 hc _ 0 _ _)) (le_fail _)
              · exact le_br2 (J := fun f l => CL T f l h) (fun e a0 a1 => le_ovK fun _ => le_fail _) (le_fail _)
            · exact le_br2 (J := fun f l => CL T f l h) (fun e a0 a1 => call_le (hN 160 rfl) Tryz.func160 rfl rfl rfl (r160 hc _ 0 _ _)) (le_fail _)
          · refine le_brec ?_ ?_
            · refine le_brec ?_ ?_
              · exact le_br2 (J := fun f l => CL T f l h) (fun e a0 a1 => call_le (hN 159 rfl) Tryz.func159 rfl rfl rfl (r159 hc _ 0 _ _)) (le_fail _)
              · exact le_br1 (J := fun f l => CL T f l h) (fun e a0 => le_ovK fun _ => le_fail _) (le_fail _)
            · exact le_br1 (J := fun f l => CL T f l h) (fun e a0 => call_le (hN 148 rfl) Tryz.func148 rfl rfl rfl (r148 hc _ 0 _ _)) (le_fail _)
        · refine le_brec ?_ ?_
          · refine le_brec ?_ ?_
            · refine le_brec ?_ ?_
              · exact le_br3 (J := fun f l => CL T f l h) (fun e a0 a1 a2 => call_le (hN 137 rfl) Tryz.func137 rfl rfl rfl (r137 hc _ 0 _ _)) (le_fail _)
              · exact le_br1 (J := fun f l => CL T f l h) (fun e a0 => call_le (hN 136 rfl) Tryz.func136 rfl rfl rfl (r136 hc _ 0 _ _)) (le_fail _)
            · exact le_br2 (J := fun f l => CL T f l h) (fun e a0 a1 => call_le (hN 135 rfl) Tryz.func135 rfl rfl rfl (r135 hc _ 0 _ _)) (le_fail _)
          · refine le_brec ?_ ?_
            · refine le_brec ?_ ?_
              · exact le_br2 (J := fun f l => CL T f l h) (fun e a0 a1 => call_le (hN 134 rfl) Tryz.func134 rfl rfl rfl (r134 hc _ 0 _ _)) (le_fail _)
              · exact le_br1 (J := fun f l => CL T f l h) (fun e a0 => call_le (hN 133 rfl) Tryz.func133 rfl rfl rfl (r133 hc _ 0 _ _)) (le_fail _)
            · exact le_br2 (J := fun f l => CL T f l h) (fun e a0 a1 => call_le (hN 132 rfl) Tryz.func132 rfl rfl rfl (r132 hc _ 0 _ _)) (le_fail _)
    · refine le_brec ?_ ?_
      · refine le_brec ?_ ?_
        · refine le_brec ?_ ?_
          · refine le_brec ?_ ?_
            · refine le_brec ?_ ?_
              · exact le_br1 (J := fun f l => CL T f l h) (fun e a0 => call_le (hN 131 rfl) Tryz.func131 rfl rfl rfl (r131 hc _ 0 _ _)) (le_fail _)
              · exact le_br1 (J := fun f l => CL T f l h) (fun e a0 => call_le (hN 130 rfl) Tryz.func130 rfl rfl rfl (r130 hc _ 0 _ _)) (le_fail _)
            · exact le_br2 (J := fun f l => CL T f l h) (fun e a0 a1 => call_le (hN 129 rfl) Tryz.func129 rfl rfl rfl (r129 hc _ 0 _ _)) (le_fail _)
          · refine le_brec ?_ ?_
            · refine le_brec ?_ ?_
              · exact le_br3 (J := fun f l => CL T f l h) (fun e a0 a1 a2 => call_le (hN 127 rfl) Tryz.func127 rfl rfl rfl (r127 hc _ 0 _ _)) (le_fail _)
              · exact le_br4 (J := fun f l => CL T f l h) (fun e a0 a1 a2 a3 => call_le (hN 126 rfl) Tryz.func126 rfl rfl rfl (r126 hc _ 0 _ _)) (le_fail _)
            · exact le_br2 (J := fun f l => CL T f l h) (fun e a0 a1 => call_le (hN 125 rfl) Tryz.func125 rfl rfl rfl (r125 hc _ 0 _ _)) (le_fail _)
        · refine le_brec ?_ ?_
          · refine le_brec ?_ ?_
            · refine le_brec ?_ ?_
              · exact le_br2 (J := fun f l => CL T f l h) (fun e a0 a1 => call_le (hN 124 rfl) Tryz.func124 rfl rfl rfl (r124 hc _ 0 _ _)) (le_fail _)
              · exact le_br2 (J := fun f l => CL T f l h) (fun e a0 a1 => call_le (hN 123 rfl) Tryz.func123 rfl rfl rfl (r123 hc _ 0 _ _)) (le_fail _)
            · exact le_br1 (J := fun f l => CL T f l h) (fun e a0 => call_le (hN 120 rfl) Tryz.func120 rfl rfl rfl (r120 hc _ 0 _ _)) (le_fail _)
          · refine le_brec ?_ ?_
            · refine le_brec ?_ ?_
              · exact le_br1 (J := fun f l => CL T f l h) (fun e a0 => call_le (hN 118 rfl) Tryz.func118 rfl rfl rfl (r118 hc _ 0 _ _)) (le_fail _)
              · exact le_br2 (J := fun f l => CL T f l h) (fun e a0 a1 => call_le (hN 116 rfl) Tryz.func116 rfl rfl rfl (r116 hc _ 0 _ _)) (le_fail _)
            · exact le_br1 (J := fun f l => CL T f l h) (fun e a0 => call_le (hN 115 rfl) Tryz.func115 rfl rfl rfl (r115 hc _ 0 _ _)) (le_fail _)
      · refine le_brec ?_ ?_
        · refine le_brec ?_ ?_
          · refine le_brec ?_ ?_
            · refine le_brec ?_ ?_
              · exact le_br1 (J := fun f l => CL T f l h) (fun e a0 => call_le (hN 100 rfl) Tryz.func100 rfl rfl rfl (r100 hc _ 0 _ _)) (le_fail _)
              · exact le_br2 (J := fun f l => CL T f l h) (fun e a0 a1 => call_le (hN 99 rfl) Tryz.func99 rfl rfl rfl (r99 hc _ 0 _ _)) (le_fail _)
            · exact le_br2 (J := fun f l => CL T f l h) (fun e a0 a1 => call_le (hN 97 rfl) Tryz.func97 rfl rfl rfl (r97 hc _ 0 _ _)) (le_fail _)
          · refine le_brec ?_ ?_
            · refine le_brec ?_ ?_
              · exact le_br2 (J := fun f l => CL T f l h) (fun e a0 a1 => call_le (hN 96 rfl) Tryz.func96 rfl rfl rfl (r96 hc _ 0 _ _)) (le_fail _)
              · exact le_br1 (J := fun f l => CL T f l h) (fun e a0 => call_le (hN 95 rfl) Tryz.func95 rfl rfl rfl (r95 hc _ 0 _ _)) (le_fail _)
            · exact le_br2 (J := fun f l => CL T f l h) (fun e a0 a1 => call_le (hN 94 rfl) Tryz.func94 rfl rfl rfl (r94 hc _ 0 _ _)) (le_fail _)
        · refine le_brec ?_ ?_
          · refine le_brec ?_ ?_
            · refine le_brec ?_ ?_
              · exact le_br4 (J := fun f l => CL T f l h) (fun e a0 a1 a2 a3 => call_le (hN 88 rfl) Tryz.func88 rfl rfl rfl (r88 hc _ 0 _ _)) (le_fail _)
              · exact le_br2 (J := fun f l => CL T f l h) (fun e a0 a1 => call_le (hN 87 rfl) Tryz.func87 rfl rfl rfl (r87 hc _ 0 _ _)) (le_fail _)
            · exact le_br3 (J := fun f l => CL T f l h) (fun e a0 a1 a2 => call_le (hN 86 rfl) Tryz.func86 rfl rfl rfl (r86 hc _ 0 _ _)) (le_fail _)
          · refine le_brec ?_ ?_
            · refine le_brec ?_ ?_
              · exact le_br1 (J := fun f l => CL T f l h) (fun e a0 => call_le (hN 85 rfl) Tryz.func85 rfl rfl rfl (r85 hc _ 0 _ _)) (le_fail _)
              · exact le_br2 (J := fun f l => CL T f l h) (fun e a0 a1 => call_le (hN 83 rfl) Tryz.func83 rfl rfl rfl (r83 hc _ 0 _ _)) (le_fail _)
            · exact le_br1 (J := fun f l => CL T f l h) (fun e a0 => call_le (hN 82 rfl) Tryz.func82 rfl rfl rfl (r82 hc _ 0 _ _)) (le_fail _)
  · refine le_brec ?_ ?_
    · refine le_brec ?_ ?_
      · refine le_brec ?_ ?_
        · refine le_brec ?_ ?_
          · refine le_brec ?_ ?_
            · refine le_brec ?_ ?_
              · exact le_br2 (J := fun f l => CL T f l h) (fun e a0 a1 => call_le (hN 81 rfl) Tryz.func81 rfl rfl rfl (r81 hc _ 0 _ _)) (le_fail _)
              · exact le_br1 (J := fun f l => CL T f l h) (fun e a0 => call_le (hN 80 rfl) Tryz.func80 rfl rfl rfl (r80 hc _ 0 _ _)) (le_fail _)
            · exact le_br2 (J := fun f l => CL T f l h) (fun e a0 a1 => call_le (hN 79 rfl) Tryz.func79 rfl rfl rfl (r79 hc _ 0 _ _)) (le_fail _)
          · refine le_brec ?_ ?_
            · refine le_brec ?_ ?_
              · exact le_br1 (J := fun f l => CL T f l h) (fun e a0 => call_le (hN 77 rfl) Tryz.func77 rfl rfl rfl (r77 hc _ 0 _ _)) (le_fail _)
              · exact le_br1 (J := fun f l => CL T f l h) (fun e a0 => call_le (hN 76 rfl) Tryz.func76 rfl rfl rfl (r76 hc _ 0 _ _)) (le_fail _)
            · exact le_br1 (J := fun f l => CL T f l h) (fun e a0 => call_le (hN 75 rfl) Tryz.func75 rfl rfl rfl (r75 hc _ 0 _ _)) (le_fail _)
        · refine le_brec ?_ ?_
          · refine le_brec ?_ ?_
            · refine le_brec ?_ ?_
              · exact le_br3 (J := fun f l => CL T f l h) (fun e a0 a1 a2 => call_le (hN 70 rfl) Tryz.func70 rfl rfl rfl (r70 hc _ 0 _ _)) (le_fail _)
              · exact le_br3 (J := fun f l => CL T f l h) (fun e a0 a1 a2 => call_le (hN 67 rfl) Tryz.func67 rfl rfl rfl (r67 hc _ 0 _ _)) (le_fail _)
            · exact le_br1 (J := fun f l => CL T f l h) (fun e a0 => call_le (hN 66 rfl) Tryz.func66 rfl rfl rfl (r66 hc _ 0 _ _)) (le_fail _)
          · refine le_brec ?_ ?_
            · refine le_brec ?_ ?_
              · exact le_br3 (J := fun f l => CL T f l h) (fun e a0 a1 a2 => call_le (hN 59 rfl) Tryz.func59 rfl rfl rfl (r59 hc _ 0 _ _)) (le_fail _)
              · exact le_br2 (J := fun f l => CL T f l h) (fun e a0 a1 => call_le (hN 58 rfl) Tryz.func58 rfl rfl rfl (r58 hc _ 0 _ _)) (le_fail _)
            · exact le_br3 (J := fun f l => CL T f l h) (fun e a0 a1 a2 => call_le (hN 57 rfl) Tryz.func57 rfl rfl rfl (r57 hc _ 0 _ _)) (le_fail _)
      · refine le_brec ?_ ?_
        · refine le_brec ?_ ?_
          · refine le_brec ?_ ?_
            · refine le_brec ?_ ?_
              · exact le_br3 (J := fun f l => CL T f l h) (fun e a0 a1 a2 => call_le (hN 55 rfl) Tryz.func55 rfl rfl rfl (r55 hc _ 0 _ _)) (le_fail _)
              · exact le_br1 (J := fun f l => CL T f l h) (fun e a0 => call_le (hN 54 rfl) Tryz.func54 rfl rfl rfl (r54 hc _ 0 _ _)) (le_fail _)
            · exact le_br1 (J := fun f l => CL T f l h) (fun e a0 => call_le (hN 53 rfl) Tryz.func53 rfl rfl rfl (r53 hc _ 0 _ _)) (le_fail _)
          · refine le_brec ?_ ?_
            · refine le_brec ?_ ?_
              · exact le_br2 (J := fun f l => CL T f l h) (fun e a0 a1 => call_le (hN 52 rfl) Tryz.func52 rfl rfl rfl (r52 hc _ 0 _ _)) (le_fail _)
              · exact le_br1 (J := fun f l => CL T f l h) (fun e a0 => call_le (hN 51 rfl) Tryz.func51 rfl rfl rfl (r51 hc _ 0 _ _)) (le_fail _)
            · exact le_br2 (J := fun f l => CL T f l h) (fun e a0 a1 => call_le (hN 49 rfl) Tryz.func49 rfl rfl rfl (r49 hc _ 0 _ _)) (le_fail _)
        · refine le_brec ?_ ?_
          · refine le_brec ?_ ?_
            · refine le_brec ?_ ?_
              · exact le_br2 (J := fun f l => CL T f l h) (fun e a0 a1 => call_le (hN 48 rfl) Tryz.func48 rfl rfl rfl (r48 hc _ 0 _ _)) (le_fail _)
              · exact le_br3 (J := fun f l => CL T f l h) (fun e a0 a1 a2 => call_le (hN 47 rfl) Tryz.func47 rfl rfl rfl (r47 hc _ 0 _ _)) (le_fail _)
            · exact le_br3 (J := fun f l => CL T f l h) (fun e a0 a1 a2 => call_le (hN 45 rfl) Tryz.func45 rfl rfl rfl (r45 hc _ 0 _ _)) (le_fail _)
          · refine le_brec ?_ ?_
            · refine le_brec ?_ ?_
              · exact le_br3 (J := fun f l => CL T f l h) (fun e a0 a1 a2 => call_le (hN 44 rfl) Tryz.func44 rfl rfl rfl (r44 hc _ 0 _ _)) (le_fail _)
              · exact le_br2 (J := fun f l => CL T f l h) (fun e a0 a1 => call_le (hN 43 rfl) Tryz.func43 rfl rfl rfl (r43 hc _ 0 _ _)) (le_fail _)
            · exact le_br1 (J := fun f l => CL T f l h) (fun e a0 => call_le (hN 42 rfl) Tryz.func42 rfl rfl rfl (r42 hc _ 0 _ _)) (le_fail _)
    · refine le_brec ?_ ?_
      · refine le_brec ?_ ?_
        · refine le_brec ?_ ?_
          · refine le_brec ?_ ?_
            · refine le_brec ?_ ?_
              · exact le_br1 (J := fun f l => CL T f l h) (fun e a0 => call_le (hN 41 rfl) Tryz.func41 rfl rfl rfl (r41 hc _ 0 _ _)) (le_fail _)
              · exact le_br1 (J := fun f l => CL T f l h) (fun e a0 => call_le (hN 39 rfl) Tryz.func39 rfl rfl rfl (r39 hc _ 0 _ _)) (le_fail _)
            · exact le_br1 (J := fun f l => CL T f l h) (fun e a0 => call_le (hN 38 rfl) Tryz.func38 rfl rfl rfl (r38 hc _ 0 _ _)) (le_fail _)
          · refine le_brec ?_ ?_
            · refine le_brec ?_ ?_
              · exact le_br2 (J := fun f l => CL T f l h) (fun e a0 a1 => call_le (hN 37 rfl) Tryz.func37 rfl rfl rfl (r37 hc _ 0 _ _)) (le_fail _)
              · exact le_br2 (J := fun f l => CL T f l h) (fun e a0 a1 => call_le (hN 36 rfl) Tryz.func36 rfl rfl rfl (r36 hc _ 0 _ _)) (le_fail _)
            · exact le_br3 (J := fun f l => CL T f l h) (fun e a0 a1 a2 => call_le (hN 35 rfl) Tryz.func35 rfl rfl rfl (r35 hc _ 0 _ _)) (le_fail _)
        · refine le_brec ?_ ?_
          · refine le_brec ?_ ?_
            · refine le_brec ?_ ?_
              · exact le_br2 (J := fun f l => CL T f l h) (fun e a0 a1 => call_le (hN 29 rfl) Tryz.func29 rfl rfl rfl (r29 hc _ 0 _ _)) (le_fail _)
              · exact le_br2 (J := fun f l => CL T f l h) (fun e a0 a1 => call_le (hN 28 rfl) Tryz.func28 rfl rfl rfl (r28 hc _ 0 _ _)) (le_fail _)
            · exact le_br2 (J := fun f l => CL T f l h) (fun e a0 a1 => call_le (hN 27 rfl) Tryz.func27 rfl rfl rfl (r27 hc _ 0 _ _)) (le_fail _)
          · refine le_brec ?_ ?_
            · refine le_brec ?_ ?_
              · exact le_br2 (J := fun f l => CL T f l h) (fun e a0 a1 => call_le (hN 25 rfl) Tryz.func25 rfl rfl rfl (r25 hc _ 0 _ _)) (le_fail _)
              · exact le_br1 (J := fun f l => CL T f l h) (fun e a0 => call_le (hN 24 rfl) Tryz.func24 rfl rfl rfl (r24 hc _ 0 _ _)) (le_fail _)
            · exact le_br3 (J := fun f l => CL T f l h) (fun e a0 a1 a2 => call_le (hN 23 rfl) Tryz.func23 rfl rfl rfl (r23 hc _ 0 _ _)) (le_fail _)
      · refine le_brec ?_ ?_
        · refine le_brec ?_ ?_
          · refine le_brec ?_ ?_
            · refine le_brec ?_ ?_
              · exact le_br2 (J := fun f l => CL T f l h) (fun e a0 a1 => call_le (hN 22 rfl) Tryz.func22 rfl rfl rfl (r22 hc _ 0 _ _)) (le_fail _)
              · exact le_br2 (J := fun f l => CL T f l h) (fun e a0 a1 => call_le (hN 21 rfl) Tryz.func21 rfl rfl rfl (r21 hc _ 0 _ _)) (le_fail _)
            · exact le_br1 (J := fun f l => CL T f l h) (fun e a0 => call_le (hN 20 rfl) Tryz.func20 rfl rfl rfl (r20 hc _ 0 _ _)) (le_fail _)
          · refine le_brec ?_ ?_
            · refine le_brec ?_ ?_
              · exact le_br1 (J := fun f l => CL T f l h) (fun e a0 => call_le (hN 19 rfl) Tryz.func19 rfl rfl rfl (r19 hc _ 0 _ _)) (le_fail _)
              · exact le_br1 (J := fun f l => CL T f l h) (fun e a0 => call_le (hN 18 rfl) Tryz.func18 rfl rfl rfl (r18 hc _ 0 _ _)) (le_fail _)
            · exact le_br1 (J := fun f l => CL T f l h) (fun e a0 => call_le (hN 17 rfl) Tryz.func17 rfl rfl rfl (r17 hc _ 0 _ _)) (le_fail _)
        · refine le_brec ?_ ?_
          · refine le_brec ?_ ?_
            · refine le_brec ?_ ?_
              · exact le_br1 (J := fun f l => CL T f l h) (fun e a0 => call_le (hN 14 rfl) Tryz.func14 rfl rfl rfl (r14 hc _ 0 _ _)) (le_fail _)
              · exact le_br0 (J := fun f l => CL T f l h) (fun e => le_ovK fun ho => call_le ho Tryz.func12 rfl rfl rfl (r12 hc _ 0 _ _)) (le_fail _)
            · exact le_br1 (J := fun f l => CL T f l h) (fun e a0 => call_le (hN 10 rfl) Tryz.func10 rfl rfl rfl (r10 hc _ 0 _ _)) (le_fail _)
          · refine le_brec ?_ ?_
            · exact le_br1 (J := fun f l => CL T f l h) (fun e a0 => call_le (hN 9 rfl) Tryz.func9 rfl rfl rfl (r9 hc _ 0 _ _)) (le_fail _)
            · exact le_br3 (J := fun f l => CL T f l h) (fun e a0 a1 a2 => call_le (hN 7 rfl) Tryz.func7 rfl rfl rfl (r7 hc _ 0 _ _)) (le_fail _)
noncomputable def CN (T : Tab) (n : Nat) : CallF := @Nat.rec (fun _ => CallF) (fun _ _ _ => .fail) (fun _ cf => cfB T cf) n
theorem CN_le {T : Tab} (hN : ∀ f, tabB f = false → T.ov f = none) (n : Nat) : leC (CN T n) (CL T) := by
  induction n with
  | zero => exact fun _ _ _ => le_fail _
  | succ n ih => exact fun f l h => cfB_le hN _ ih f l h
theorem CN_val {T : Tab} (hN : ∀ f, tabB f = false → T.ov f = none) {n : Nat} {f : FuncId} {args : List IV} {h : H} {v : IV} (e : (CN T n f args h).val = some v) : ∃ h', CL T f args h = .ok v h' := run_val (CN_le hN n) e
end Go.Proofs.YtelhoddamlkfhaaGreatDoor
