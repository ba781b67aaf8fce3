/- M6: Printed by run.py (own tool): the runs of closed calls, by each function's words. Law04: the table; awake by a closed run. Law: the sign at a place, told quickly. Printed by tables.py (own tool): tables of functions of one text, held by closed runs; the table of what is told by hand. Law04: SyntaxLevels: what the numbers come to, ahead of the runs. -/
import Derived.Test.YtomgclpeimipoaaGreatDoorM5
import Derived.Test.YtomgclpeimipoaaGreatDoorM3
namespace Go.Proofs.YtomgclpeimipoaaGreatDoor
open Go I
set_option linter.unusedVariables false
set_option maxRecDepth 100000

-- 53
theorem m53 {cf cf' : CallF} {R R' : Rec} (hc : ∀ f l h, le (cf f l h) (cf' f l h)) (hR : ∀ i l h, le (R i l h) (R' i l h)) : (∀ (a0 : IV) (h : H), le (t53_0 cf R a0 h) (t53_0 cf' R' a0 h)) := by
  intros
  unfold t53_0
  with_reducible repeat' first
    | refine le_obind fun _ => ?_
    | refine le_callP ?_ (fun _ _ => ?_) (fun _ _ => ?_)
    | refine le_condK ?_ ?_
    | exact hR _ _ _
    | refine le_obind2 fun _ _ => ?_
    | refine le_obindH fun _ => ?_
    | refine le_spanK (fun _ _ _ => ?_) (fun _ _ => ?_)
    | exact hc _ _ _
    | refine le_bif ?_ ?_
    | refine le_guardK ?_ ?_ ?_
    | refine le_mapK fun _ _ => ?_
    | refine le_panK fun _ _ => ?_
    | refine le_funK fun _ _ => ?_
    | exact le_refl _
    | apply_assumption
noncomputable def q53_0 (cf : CallF) (R : Rec) (a0 : IV) (h : H) : CRes :=
 Qc (cf 52 [a0] h) .pan fun x1 h2 =>
 Qsp x1 false h2 (fun k3 =>
 Qc (cf 54 [a0] h2) .pan fun x6 h7 =>
 k3 x6 h7) fun x4 h5 =>
 Qo (Qpk x1 (some (.bool true)) (some x4)) fun x8 =>
 .ok x8 h5
theorem qe53_0 : q53_0 = t53_0 := by
  unfold q53_0
  try simp only [QE]
  try rfl
noncomputable def bt53 (cf : CallF) (R : Rec) : Rec := fun i l h =>
 br1 i 0 l (fun a0 => t53_0 cf R a0 h) <|
 .fail
noncomputable def b53 (cf : CallF) (R : Rec) : Rec := fun i l h =>
 brQ1 i 0 l (fun a0 => q53_0 cf R a0 h) <|
 .fail
theorem be53 : b53 = bt53 := by
  unfold b53 bt53
  simp only [qe53_0, brQ1_eq]
theorem r53 {T : Tab} {cf : CallF} (hc : leC cf (CL T)) (n : Nat) : leR (recN (b53 cf) n) (J53 T) := be53 ▸ recN_le (fun R hR i l h => by
  unfold bt53
  refine le_br1 (J := fun i l => J53 T i l h) (fun _ a0 => le_e (fun hn => e53_0 rfl hn) ((m53 hc hR) a0 h)) ?_
  exact le_fail _) n
-- 54
theorem m54 {cf cf' : CallF} {R R' : Rec} (hc : ∀ f l h, le (cf f l h) (cf' f l h)) (hR : ∀ i l h, le (R i l h) (R' i l h)) : (∀ (a0 : IV) (h : H), le (t54_0 cf R a0 h) (t54_0 cf' R' a0 h)) := by
  intros
  unfold t54_0
  with_reducible repeat' first
    | refine le_obind fun _ => ?_
    | refine le_callP ?_ (fun _ _ => ?_) (fun _ _ => ?_)
    | refine le_condK ?_ ?_
    | exact hR _ _ _
    | refine le_obind2 fun _ _ => ?_
    | refine le_obindH fun _ => ?_
    | refine le_spanK (fun _ _ _ => ?_) (fun _ _ => ?_)
    | exact hc _ _ _
    | refine le_bif ?_ ?_
    | refine le_guardK ?_ ?_ ?_
    | refine le_mapK fun _ _ => ?_
    | refine le_panK fun _ _ => ?_
    | refine le_funK fun _ _ => ?_
    | exact le_refl _
    | apply_assumption
noncomputable def q54_0 (cf : CallF) (R : Rec) (a0 : IV) (h : H) : CRes :=
 Qo (Qgeq a0 (.int .u8 48)) fun x1 =>
 Qsp x1 true h (fun k2 =>
 Qo (Qleq a0 (.int .u8 57)) fun x5 =>
 k2 x5 h) fun x3 h4 =>
 Qo (Qpk x1 (some x3) (some (.bool false))) fun x6 =>
 .ok x6 h4
theorem qe54_0 : q54_0 = t54_0 := by
  unfold q54_0
  try simp only [QE]
  try rfl
noncomputable def bt54 (cf : CallF) (R : Rec) : Rec := fun i l h =>
 br1 i 0 l (fun a0 => t54_0 cf R a0 h) <|
 .fail
noncomputable def b54 (cf : CallF) (R : Rec) : Rec := fun i l h =>
 brQ1 i 0 l (fun a0 => q54_0 cf R a0 h) <|
 .fail
theorem be54 : b54 = bt54 := by
  unfold b54 bt54
  simp only [qe54_0, brQ1_eq]
theorem r54 {T : Tab} {cf : CallF} (hc : leC cf (CL T)) (n : Nat) : leR (recN (b54 cf) n) (J54 T) := be54 ▸ recN_le (fun R hR i l h => by
  unfold bt54
  refine le_br1 (J := fun i l => J54 T i l h) (fun _ a0 => le_e (fun hn => e54_0 rfl hn) ((m54 hc hR) a0 h)) ?_
  exact le_fail _) n
-- 55
theorem m55 {cf cf' : CallF} {R R' : Rec} (hc : ∀ f l h, le (cf f l h) (cf' f l h)) (hR : ∀ i l h, le (R i l h) (R' i l h)) :
  (∀ (a0 : IV) (h : H), le (t55_0 cf R a0 h) (t55_0 cf' R' a0 h)) ∧
  (∀ (a0 a5 a6 : IV) (h : H), le (t55_1 cf R a0 a5 a6 h) (t55_1 cf' R' a0 a5 a6 h)) ∧
  (∀ (a0 a5 a6 : IV) (h : H), le (t55_2 cf R a0 a5 a6 h) (t55_2 cf' R' a0 a5 a6 h)) := by
  refine ⟨?_, ?_, ?_⟩
  all_goals intros
  all_goals first | unfold t55_0 | unfold t55_1 | unfold t55_2
  all_goals
  with_reducible repeat' first
    | refine le_obind fun _ => ?_
    | refine le_callP ?_ (fun _ _ => ?_) (fun _ _ => ?_)
    | refine le_condK ?_ ?_
    | exact hR _ _ _
    | refine le_obind2 fun _ _ => ?_
    | refine le_obindH fun _ => ?_
    | refine le_spanK (fun _ _ _ => ?_) (fun _ _ => ?_)
    | exact hc _ _ _
    | refine le_bif ?_ ?_
    | refine le_guardK ?_ ?_ ?_
    | refine le_mapK fun _ _ => ?_
    | refine le_panK fun _ _ => ?_
    | refine le_funK fun _ _ => ?_
    | exact le_refl _
    | apply_assumption
noncomputable def q55_0 (cf : CallF) (R : Rec) (a0 : IV) (h : H) : CRes :=
 R 1 [a0, (.int .i64 (-1)), (.int .i64 0)] h
theorem qe55_0 : q55_0 = t55_0 := by
  unfold q55_0
  try simp only [QE]
  try rfl
noncomputable def q55_1p3 (cf : CallF) (R : Rec) (x37 : IV) (h45 : H) (x39 : IV) (x44 : IV) (x33 : IV) (x17 : IV) : CRes :=
 Qsp x37 true h45 (fun k48 =>
 Qo (Qpk x39 (some (.bool true)) (some x44)) fun x51 =>
 k48 x51 h45) fun x49 h50 =>
 Qo (Qpk x37 (some x49) (some (.bool false))) fun x52 =>
 Qif x52
 (Qo (Qis x33 (.int .i64 0)) fun x53 =>
 Qo (Qls x33) fun x54 =>
 Qo (Qsub x17 x54) fun x55 =>
 Qc (cf 76 [x53, x55] h50) .pan fun x56 h57 =>
 Qo (binS .add x56 x33) fun x58 =>
 .ok (.tup [x58, (.bool false), (.int .i64 0)]) h57)
 (Qc (cf 77 [x33, x17] h50) .pan fun x59 h60 =>
 .ok (.tup [x59, (.bool false), (.int .i64 0)]) h60)
noncomputable def q55_1p2 (cf : CallF) (R : Rec) (x28 : IV) (x30 : IV) (h22 : H) (x17 : IV) : CRes :=
 Qc (cf 75 [x28, x30] h22) (fun v31 h32 =>
 .pan v31 h32) fun x33 h34 =>
 Qo (Qse x33 (.str ⟨0, 0⟩)) fun x35 =>
 Qif x35
 (.ok (.tup [(.str ⟨0, 0⟩), (.bool false), (.int .i64 21)]) h34)
 (Qo (Qls x33) fun x36 =>
 Qo (Qlss x36 x17) fun x37 =>
 Qsp x37 true h34 (fun k38 =>
 Qo (Qis x33 (.int .i64 0)) fun x41 =>
 Qo (Qeql x41 (.int .u8 120)) fun x42 =>
 k38 x42 h34) fun x39 h40 =>
 Qsp x39 false h40 (fun k43 =>
 Qo (Qis x33 (.int .i64 0)) fun x46 =>
 Qo (Qeql x46 (.int .u8 122)) fun x47 =>
 k43 x47 h40) fun x44 h45 =>
 q55_1p3 cf R x37 h45 x39 x44 x33 x17)
noncomputable def q55_1p1 (cf : CallF) (R : Rec) (x19 : IV) (x21 : IV) (h22 : H) (a5 : IV) (a0 : IV) (x17 : IV) : CRes :=
 Qo (Qpk x19 (some (.bool true)) (some x21)) fun x26 =>
 Qif x26
 (.ok (.tup [(.str ⟨0, 0⟩), (.bool false), (.int .i64 21)]) h22)
 (Qo (Qadd a5 (.int .i64 1)) fun x27 =>
 Qo (Qis a0 x27) fun x28 =>
 Qo (Qadd a5 (.int .i64 2)) fun x29 =>
 Qo (slcStr a0 (some x29) none) fun x30 =>
 q55_1p2 cf R x28 x30 h22 x17)
noncomputable def q55_1 (cf : CallF) (R : Rec) (a0 : IV) (a5 : IV) (a6 : IV) (h : H) : CRes :=
 Qo (Qls a0) fun x1 =>
 Qo (Qlss a6 x1) fun x2 =>
 Qif x2
 (Qo (Qlss a5 (.int .i64 0)) fun x3 =>
 Qsp x3 true h (fun k4 =>
 Qo (Qis a0 a6) fun x7 =>
 Qo (Qeql x7 (.int .u8 39)) fun x8 =>
 k4 x8 h) fun x5 h6 =>
 Qo (Qpk x3 (some x5) (some (.bool false))) fun x9 =>
 Qif x9
 (R 2 [a0, a6, a6] h6)
 (R 2 [a0, a5, a6] h6))
 (Qo (Qlss a5 (.int .i64 0)) fun x10 =>
 Qif x10
 (Qc (cf 73 [a0, (.int .i64 4294967295), (.bool false)] h) .pan fun x11 h12 =>
 Qo (Qlss x11 (.int .i64 0)) fun x13 =>
 Qif x13
 (.ok (.tup [(.str ⟨0, 0⟩), (.bool false), (.int .i64 21)]) h12)
 (Qc (cf 74 [x11, (.int .i64 32)] h12) .pan fun x14 h15 =>
 .ok (.tup [x14, (.bool true), (.int .i64 0)]) h15))
 (Qo (slcStr a0 none (some a5)) fun x16 =>
 Qc (cf 73 [x16, (.int .i64 256), (.bool false)] h) .pan fun x17 h18 =>
 Qo (Qlss x17 (.int .i64 1)) fun x19 =>
 Qsp x19 false h18 (fun k20 =>
 Qo (Qadd a5 (.int .i64 1)) fun x23 =>
 Qo (Qls a0) fun x24 =>
 Qo (Qgeq x23 x24) fun x25 =>
 k20 x25 h18) fun x21 h22 =>
 q55_1p1 cf R x19 x21 h22 a5 a0 x17))
theorem qe55_1 : q55_1 = t55_1 := by
  unfold q55_1 q55_1p1 q55_1p2 q55_1p3
  try simp only [QE]
  try rfl
noncomputable def q55_2 (cf : CallF) (R : Rec) (a0 : IV) (a5 : IV) (a6 : IV) (h : H) : CRes :=
 Qo (Qadd a6 (.int .i64 1)) fun x61 =>
 R 1 [a0, a5, x61] h
theorem qe55_2 : q55_2 = t55_2 := by
  unfold q55_2
  try simp only [QE]
  try rfl
noncomputable def bt55 (cf : CallF) (R : Rec) : Rec := fun i l h =>
 br1 i 0 l (fun a0 => t55_0 cf R a0 h) <|
 br3 i 1 l (fun a0 a5 a6 => t55_1 cf R a0 a5 a6 h) <|
 br3 i 2 l (fun a0 a5 a6 => t55_2 cf R a0 a5 a6 h) <|
 .fail
noncomputable def b55 (cf : CallF) (R : Rec) : Rec := fun i l h =>
 brQ1 i 0 l (fun a0 => q55_0 cf R a0 h) <|
 brQ3 i 1 l (fun a0 a5 a6 => q55_1 cf R a0 a5 a6 h) <|
 brQ3 i 2 l (fun a0 a5 a6 => q55_2 cf R a0 a5 a6 h) <|
 .fail
theorem be55 : b55 = bt55 := by
  unfold b55 bt55
  simp only [qe55_0, qe55_1, qe55_2, brQ1_eq, brQ3_eq]
theorem r55 {T : Tab} {cf : CallF} (hc : leC cf (CL T)) (n : Nat) : leR (recN (b55 cf) n) (J55 T) := be55 ▸ recN_le (fun R hR i l h => by
  unfold bt55
  refine le_br1 (J := fun i l => J55 T i l h) (fun _ a0 => le_e (fun hn => e55_0 rfl hn) ((m55 hc hR).1 a0 h)) ?_
  refine le_br3 (J := fun i l => J55 T i l h) (fun _ a0 a5 a6 => le_e (fun hn => e55_1 rfl hn) ((m55 hc hR).2.1 a0 a5 a6 h)) ?_
  refine le_br3 (J := fun i l => J55 T i l h) (fun _ a0 a5 a6 => le_e (fun hn => e55_2 rfl hn) ((m55 hc hR).2.2 a0 a5 a6 h)) ?_
  exact le_fail _) n
-- 56
theorem m56 {cf cf' : CallF} {R R' : Rec} (hc : ∀ f l h, le (cf f l h) (cf' f l h)) (hR : ∀ i l h, le (R i l h) (R' i l h)) :
  (∀ (a0 a1 : IV) (h : H), le (t56_0 cf R a0 a1 h) (t56_0 cf' R' a0 a1 h)) ∧
  (∀ (a0 a1 a5 a6 : IV) (h : H), le (t56_1 cf R a0 a1 a5 a6 h) (t56_1 cf' R' a0 a1 a5 a6 h)) ∧
  (∀ (a0 a1 a7 a8 : IV) (h : H), le (t56_2 cf R a0 a1 a7 a8 h) (t56_2 cf' R' a0 a1 a7 a8 h)) := by
  refine ⟨?_, ?_, ?_⟩
  all_goals intros
  all_goals first | unfold t56_0 | unfold t56_1 | unfold t56_2
  all_goals
  with_reducible repeat' first
    | refine le_obind fun _ => ?_
    | refine le_callP ?_ (fun _ _ => ?_) (fun _ _ => ?_)
    | refine le_condK ?_ ?_
    | exact hR _ _ _
    | refine le_obind2 fun _ _ => ?_
    | refine le_obindH fun _ => ?_
    | refine le_spanK (fun _ _ _ => ?_) (fun _ _ => ?_)
    | exact hc _ _ _
    | refine le_bif ?_ ?_
    | refine le_guardK ?_ ?_ ?_
    | refine le_mapK fun _ _ => ?_
    | refine le_panK fun _ _ => ?_
    | refine le_funK fun _ _ => ?_
    | exact le_refl _
    | apply_assumption
noncomputable def q56_0 (cf : CallF) (R : Rec) (a0 : IV) (a1 : IV) (h : H) : CRes :=
 Qo2 (Qbsl false 1 [(.str ⟨0, 0⟩)] 8 [(0, (.str ⟨2, 9766⟩)), (1, (.str ⟨2, 31868⟩)), (2, (.str ⟨2, 15677⟩)), (3, (.str ⟨2, 15649⟩)), (4, (.str ⟨2, 15676⟩)), (5, (.str ⟨2, 15678⟩)), (6, (.str ⟨2, 15420⟩)), (7, (.str ⟨2, 15934⟩))] h) fun x1 h2 =>
 R 1 [a0, a1, x1, (.int .i64 0)] h2
theorem qe56_0 : q56_0 = t56_0 := by
  unfold q56_0
  try simp only [QE]
  try rfl
noncomputable def q56_1 (cf : CallF) (R : Rec) (a0 : IV) (a1 : IV) (a5 : IV) (a6 : IV) (h : H) : CRes :=
 Qo (Qle a5) fun x3 =>
 Qo (Qlss a6 x3) fun x4 =>
 Qif x4
 (Qo (Qix 1 a5 a6) fun x5 =>
 Qo (Ql0 h x5) fun x6 =>
 Qc (cf 25 [a0, a1, x6] h) .pan fun x7 h8 =>
 Qif x7
 (Qo (Qix 1 a5 a6) fun x9 =>
 Qo (Ql0 h8 x9) fun x10 =>
 .ok x10 h8)
 (Qo (Qadd a6 (.int .i64 1)) fun x11 =>
 R 1 [a0, a1, a5, x11] h8))
 (R 2 [a0, a1, (.str ⟨24, 1035797962038895658522808901809198590842054073607314417960⟩), (.int .i64 0)] h)
theorem qe56_1 : q56_1 = t56_1 := by
  unfold q56_1
  try simp only [QE]
  try rfl
noncomputable def q56_2 (cf : CallF) (R : Rec) (a0 : IV) (a1 : IV) (a7 : IV) (a8 : IV) (h : H) : CRes :=
 Qo (Qls a7) fun x12 =>
 Qo (Qlss a8 x12) fun x13 =>
 Qif x13
 (Qo (Qis a0 a1) fun x14 =>
 Qo (Qis a7 a8) fun x15 =>
 Qo (Qeql x14 x15) fun x16 =>
 Qif x16
 (Qo (Qadd a8 (.int .i64 1)) fun x17 =>
 Qo (slcStr a7 (some a8) (some x17)) fun x18 =>
 .ok x18 h)
 (Qo (Qadd a8 (.int .i64 1)) fun x19 =>
 R 2 [a0, a1, a7, x19] h))
 (.ok (.str ⟨0, 0⟩) h)
theorem qe56_2 : q56_2 = t56_2 := by
  unfold q56_2
  try simp only [QE]
  try rfl
noncomputable def bt56 (cf : CallF) (R : Rec) : Rec := fun i l h =>
 br2 i 0 l (fun a0 a1 => t56_0 cf R a0 a1 h) <|
 br4 i 1 l (fun a0 a1 a5 a6 => t56_1 cf R a0 a1 a5 a6 h) <|
 br4 i 2 l (fun a0 a1 a7 a8 => t56_2 cf R a0 a1 a7 a8 h) <|
 .fail
noncomputable def b56 (cf : CallF) (R : Rec) : Rec := fun i l h =>
 brQ2 i 0 l (fun a0 a1 => q56_0 cf R a0 a1 h) <|
 brQ4 i 1 l (fun a0 a1 a5 a6 => q56_1 cf R a0 a1 a5 a6 h) <|
 brQ4 i 2 l (fun a0 a1 a7 a8 => q56_2 cf R a0 a1 a7 a8 h) <|
 .fail
theorem be56 : b56 = bt56 := by
  unfold b56 bt56
  simp only [qe56_0, qe56_1, qe56_2, brQ2_eq, brQ4_eq]
theorem r56 {T : Tab} {cf : CallF} (hc : leC cf (CL T)) (n : Nat) : leR (recN (b56 cf) n) (J56 T) := be56 ▸ recN_le (fun R hR i l h => by
  unfold bt56
  refine le_br2 (J := fun i l => J56 T i l h) (fun _ a0 a1 => le_e (fun hn => e56_0 rfl hn) ((m56 hc hR).1 a0 a1 h)) ?_
  refine le_br4 (J := fun i l => J56 T i l h) (fun _ a0 a1 a5 a6 => le_e (fun hn => e56_1 rfl hn) ((m56 hc hR).2.1 a0 a1 a5 a6 h)) ?_
  refine le_br4 (J := fun i l => J56 T i l h) (fun _ a0 a1 a7 a8 => le_e (fun hn => e56_2 rfl hn) ((m56 hc hR).2.2 a0 a1 a7 a8 h)) ?_
  exact le_fail _) n
-- 57
theorem m57 {cf cf' : CallF} {R R' : Rec} (hc : ∀ f l h, le (cf f l h) (cf' f l h)) (hR : ∀ i l h, le (R i l h) (R' i l h)) :
  (∀ (a0 : IV) (h : H), le (t57_0 cf R a0 h) (t57_0 cf' R' a0 h)) ∧
  (∀ (a0 a28 : IV) (h : H), le (t57_1 cf R a0 a28 h) (t57_1 cf' R' a0 a28 h)) := by
  refine ⟨?_, ?_⟩
  all_goals intros
  all_goals first | unfold t57_0 | unfold t57_1
  all_goals
  with_reducible repeat' first
    | refine le_obind fun _ => ?_
    | refine le_callP ?_ (fun _ _ => ?_) (fun _ _ => ?_)
    | refine le_condK ?_ ?_
    | exact hR _ _ _
    | refine le_obind2 fun _ _ => ?_
    | refine le_obindH fun _ => ?_
    | refine le_spanK (fun _ _ _ => ?_) (fun _ _ => ?_)
    | exact hc _ _ _
    | refine le_bif ?_ ?_
    | refine le_guardK ?_ ?_ ?_
    | refine le_mapK fun _ _ => ?_
    | refine le_panK fun _ _ => ?_
    | refine le_funK fun _ _ => ?_
    | exact le_refl _
    | apply_assumption
noncomputable def q57_0p4 (cf : CallF) (R : Rec) (x17 : IV) (h : H) (a0 : IV) : CRes :=
 Qo (Qfad 0 x17) fun x18 =>
 Qo (Ql0 h x18) fun x19 =>
 Qo (Qeql x19 (.int .i64 1)) fun x20 =>
 Qo (Qpk (.bool true) (some x20) (some (.bool false))) fun x21 =>
 R 1 [a0, x21] h
noncomputable def q57_0p3 (cf : CallF) (R : Rec) (x13 : IV) (h : H) (x12 : IV) (a0 : IV) : CRes :=
 Qo (Qfad 1 x13) fun x14 =>
 Qo (Ql0 h x14) fun x15 =>
 Qo (Qadd x15 (.int .i64 1)) fun x16 =>
 Qo (Qix 3 x12 x16) fun x17 =>
 q57_0p4 cf R x17 h a0
noncomputable def q57_0p2 (cf : CallF) (R : Rec) (x4 : IV) (x8 : IV) (a0 : IV) (h : H) : CRes :=
 Qo (Qlss x4 x8) fun x9 =>
 guardK x9 (Qo (Qnil a0) fun x10 =>
 Qo (Qfad 0 x10) fun x11 =>
 Qo (Ql0 h x11) fun x12 =>
 Qo (Qnil a0) fun x13 =>
 q57_0p3 cf R x13 h x12 a0)
 (Qo (Qpk (.bool false) (some (.tup [])) (some (.bool false))) fun x22 =>
 R 1 [a0, x22] h)
 (Qo (Qpk (.tup []) (some (.tup [])) (some (.bool false))) fun x23 =>
 R 1 [a0, x23] h)
noncomputable def q57_0p1 (cf : CallF) (R : Rec) (a0 : IV) (h : H) (x4 : IV) : CRes :=
 Qo (Qnil a0) fun x5 =>
 Qo (Qfad 0 x5) fun x6 =>
 Qo (Ql0 h x6) fun x7 =>
 Qo (Qle x7) fun x8 =>
 q57_0p2 cf R x4 x8 a0 h
noncomputable def q57_0 (cf : CallF) (R : Rec) (a0 : IV) (h : H) : CRes :=
 Qo (Qnil a0) fun x1 =>
 Qo (Qfad 1 x1) fun x2 =>
 Qo (Ql0 h x2) fun x3 =>
 Qo (Qadd x3 (.int .i64 1)) fun x4 =>
 q57_0p1 cf R a0 h x4
theorem qe57_0 : q57_0 = t57_0 := by
  unfold q57_0 q57_0p1 q57_0p2 q57_0p3 q57_0p4
  try simp only [QE]
  try rfl
noncomputable def q57_1p1 (cf : CallF) (R : Rec) (x27 : IV) (h : H) (x26 : IV) : CRes :=
 Qo (Qfad 1 x27) fun x28 =>
 Qo (Ql0 h x28) fun x29 =>
 Qo (Qadd x29 (.int .i64 1)) fun x30 =>
 Qo (Qix 3 x26 x30) fun x31 =>
 Qo (Qfad 1 x31) fun x32 =>
 Qo (Ql0 h x32) fun x33 =>
 .ok x33 h
noncomputable def q57_1p3 (cf : CallF) (R : Rec) (h : H) (x41 : IV) (a0 : IV) : CRes :=
 Qo (Ql0 h x41) fun x42 =>
 Qc (cf 30 [a0, x42, (.int .i64 30)] h) (fun v43 h44 =>
 .pan v43 h44) fun x45 h46 =>
 .ok (.str ⟨0, 0⟩) h46
noncomputable def q57_1p2 (cf : CallF) (R : Rec) (x37 : IV) (h : H) (x36 : IV) (a0 : IV) : CRes :=
 Qo (Qfad 1 x37) fun x38 =>
 Qo (Ql0 h x38) fun x39 =>
 Qo (Qix 3 x36 x39) fun x40 =>
 Qo (Qfad 2 x40) fun x41 =>
 q57_1p3 cf R h x41 a0
noncomputable def q57_1 (cf : CallF) (R : Rec) (a0 : IV) (a28 : IV) (h : H) : CRes :=
 Qif a28
 (Qo (Qnil a0) fun x24 =>
 Qo (Qfad 0 x24) fun x25 =>
 Qo (Ql0 h x25) fun x26 =>
 Qo (Qnil a0) fun x27 =>
 q57_1p1 cf R x27 h x26)
 (Qo (Qnil a0) fun x34 =>
 Qo (Qfad 0 x34) fun x35 =>
 Qo (Ql0 h x35) fun x36 =>
 Qo (Qnil a0) fun x37 =>
 q57_1p2 cf R x37 h x36 a0)
theorem qe57_1 : q57_1 = t57_1 := by
  unfold q57_1 q57_1p2 q57_1p3 q57_1p1
  try simp only [QE]
  try rfl
noncomputable def bt57 (cf : CallF) (R : Rec) : Rec := fun i l h =>
 br1 i 0 l (fun a0 => t57_0 cf R a0 h) <|
 br2 i 1 l (fun a0 a28 => t57_1 cf R a0 a28 h) <|
 .fail
noncomputable def b57 (cf : CallF) (R : Rec) : Rec := fun i l h =>
 brQ1 i 0 l (fun a0 => q57_0 cf R a0 h) <|
 brQ2 i 1 l (fun a0 a28 => q57_1 cf R a0 a28 h) <|
 .fail
theorem be57 : b57 = bt57 := by
  unfold b57 bt57
  simp only [qe57_0, qe57_1, brQ1_eq, brQ2_eq]
theorem r57 {T : Tab} {cf : CallF} (hc : leC cf (CL T)) (n : Nat) : leR (recN (b57 cf) n) (J57 T) := be57 ▸ recN_le (fun R hR i l h => by
  unfold bt57
  refine le_br1 (J := fun i l => J57 T i l h) (fun _ a0 => le_e (fun hn => e57_0 rfl hn) ((m57 hc hR).1 a0 h)) ?_
  refine le_br2 (J := fun i l => J57 T i l h) (fun _ a0 a28 => le_e (fun hn => e57_1 rfl hn) ((m57 hc hR).2 a0 a28 h)) ?_
  exact le_fail _) n
-- 58
theorem m58 {cf cf' : CallF} {R R' : Rec} (hc : ∀ f l h, le (cf f l h) (cf' f l h)) (hR : ∀ i l h, le (R i l h) (R' i l h)) :
  (∀ (a0 a1 : IV) (h : H), le (t58_0 cf R a0 a1 h) (t58_0 cf' R' a0 a1 h)) ∧
  (∀ (a0 a1 a5 : IV) (h : H), le (t58_1 cf R a0 a1 a5 h) (t58_1 cf' R' a0 a1 a5 h)) := by
  refine ⟨?_, ?_⟩
  all_goals intros
  all_goals first | unfold t58_0 | unfold t58_1
  all_goals
  with_reducible repeat' first
    | refine le_obind fun _ => ?_
    | refine le_callP ?_ (fun _ _ => ?_) (fun _ _ => ?_)
    | refine le_condK ?_ ?_
    | exact hR _ _ _
    | refine le_obind2 fun _ _ => ?_
    | refine le_obindH fun _ => ?_
    | refine le_spanK (fun _ _ _ => ?_) (fun _ _ => ?_)
    | exact hc _ _ _
    | refine le_bif ?_ ?_
    | refine le_guardK ?_ ?_ ?_
    | refine le_mapK fun _ _ => ?_
    | refine le_panK fun _ _ => ?_
    | refine le_funK fun _ _ => ?_
    | exact le_refl _
    | apply_assumption
noncomputable def q58_0 (cf : CallF) (R : Rec) (a0 : IV) (a1 : IV) (h : H) : CRes :=
 R 1 [a0, a1, (.int .i64 0)] h
theorem qe58_0 : q58_0 = t58_0 := by
  unfold q58_0
  try simp only [QE]
  try rfl
noncomputable def q58_1p2 (cf : CallF) (R : Rec) (x9 : IV) (h : H) (a1 : IV) (a5 : IV) (a0 : IV) : CRes :=
 Qo (Qfad 0 x9) fun x10 =>
 Qo (Ql0 h x10) fun x11 =>
 Qo (Qse x11 a1) fun x12 =>
 Qif x12
 (.ok a5 h)
 (Qo (Qadd a5 (.int .i64 1)) fun x13 =>
 R 1 [a0, a1, x13] h)
noncomputable def q58_1p1 (cf : CallF) (R : Rec) (a5 : IV) (x4 : IV) (a0 : IV) (h : H) (a1 : IV) : CRes :=
 Qo (Qlss a5 x4) fun x5 =>
 Qif x5
 (Qo (Qnil a0) fun x6 =>
 Qo (Qfad 2 x6) fun x7 =>
 Qo (Ql0 h x7) fun x8 =>
 Qo (Qix 2 x8 a5) fun x9 =>
 q58_1p2 cf R x9 h a1 a5 a0)
 (.ok (.int .i64 (-1)) h)
noncomputable def q58_1 (cf : CallF) (R : Rec) (a0 : IV) (a1 : IV) (a5 : IV) (h : H) : CRes :=
 Qo (Qnil a0) fun x1 =>
 Qo (Qfad 2 x1) fun x2 =>
 Qo (Ql0 h x2) fun x3 =>
 Qo (Qle x3) fun x4 =>
 q58_1p1 cf R a5 x4 a0 h a1
theorem qe58_1 : q58_1 = t58_1 := by
  unfold q58_1 q58_1p1 q58_1p2
  try simp only [QE]
  try rfl
noncomputable def bt58 (cf : CallF) (R : Rec) : Rec := fun i l h =>
 br2 i 0 l (fun a0 a1 => t58_0 cf R a0 a1 h) <|
 br3 i 1 l (fun a0 a1 a5 => t58_1 cf R a0 a1 a5 h) <|
 .fail
noncomputable def b58 (cf : CallF) (R : Rec) : Rec := fun i l h =>
 brQ2 i 0 l (fun a0 a1 => q58_0 cf R a0 a1 h) <|
 brQ3 i 1 l (fun a0 a1 a5 => q58_1 cf R a0 a1 a5 h) <|
 .fail
theorem be58 : b58 = bt58 := by
  unfold b58 bt58
  simp only [qe58_0, qe58_1, brQ2_eq, brQ3_eq]
theorem r58 {T : Tab} {cf : CallF} (hc : leC cf (CL T)) (n : Nat) : leR (recN (b58 cf) n) (J58 T) := be58 ▸ recN_le (fun R hR i l h => by
  unfold bt58
  refine le_br2 (J := fun i l => J58 T i l h) (fun _ a0 a1 => le_e (fun hn => e58_0 rfl hn) ((m58 hc hR).1 a0 a1 h)) ?_
  refine le_br3 (J := fun i l => J58 T i l h) (fun _ a0 a1 a5 => le_e (fun hn => e58_1 rfl hn) ((m58 hc hR).2 a0 a1 a5 h)) ?_
  exact le_fail _) n
-- 59
theorem m59 {cf cf' : CallF} {R R' : Rec} (hc : ∀ f l h, le (cf f l h) (cf' f l h)) (hR : ∀ i l h, le (R i l h) (R' i l h)) :
  (∀ (a0 a1 : IV) (h : H), le (t59_0 cf R a0 a1 h) (t59_0 cf' R' a0 a1 h)) ∧
  (∀ (a0 a1 a5 a6 : IV) (h : H), le (t59_1 cf R a0 a1 a5 a6 h) (t59_1 cf' R' a0 a1 a5 a6 h)) ∧
  (∀ (a0 a1 a5 a6 : IV) (h : H), le (t59_2 cf R a0 a1 a5 a6 h) (t59_2 cf' R' a0 a1 a5 a6 h)) := by
  refine ⟨?_, ?_, ?_⟩
  all_goals intros
  all_goals first | unfold t59_0 | unfold t59_1 | unfold t59_2
  all_goals
  with_reducible repeat' first
    | refine le_obind fun _ => ?_
    | refine le_callP ?_ (fun _ _ => ?_) (fun _ _ => ?_)
    | refine le_condK ?_ ?_
    | exact hR _ _ _
    | refine le_obind2 fun _ _ => ?_
    | refine le_obindH fun _ => ?_
    | refine le_spanK (fun _ _ _ => ?_) (fun _ _ => ?_)
    | exact hc _ _ _
    | refine le_bif ?_ ?_
    | refine le_guardK ?_ ?_ ?_
    | refine le_mapK fun _ _ => ?_
    | refine le_panK fun _ _ => ?_
    | refine le_funK fun _ _ => ?_
    | exact le_refl _
    | apply_assumption
noncomputable def q59_0 (cf : CallF) (R : Rec) (a0 : IV) (a1 : IV) (h : H) : CRes :=
 R 1 [a0, a1, .nilSlice, (.int .i64 0)] h
theorem qe59_0 : q59_0 = t59_0 := by
  unfold q59_0
  try simp only [QE]
  try rfl
noncomputable def q59_1p1 (cf : CallF) (R : Rec) (x6 : IV) (a0 : IV) (a6 : IV) (h : H) (a5 : IV) (a1 : IV) : CRes :=
 Qif x6
 (Qo (Qix 2 a0 a6) fun x7 =>
 Qo (QlA 2 h x7) fun x8 =>
 Qo2 (Qbsl false 2 [(.str ⟨0, 0⟩), .nilSlice] 1 [(0, x8)] h) fun x9 h10 =>
 Qo2 (appK 2 40 h10 a5 x9) fun x11 h12 =>
 R 2 [a0, a1, x11, a6] h12)
 (R 2 [a0, a1, a5, a6] h)
noncomputable def q59_1 (cf : CallF) (R : Rec) (a0 : IV) (a1 : IV) (a5 : IV) (a6 : IV) (h : H) : CRes :=
 Qo (Qle a0) fun x1 =>
 Qo (Qlss a6 x1) fun x2 =>
 Qif x2
 (Qo (Qix 2 a0 a6) fun x3 =>
 Qo (Qfad 0 x3) fun x4 =>
 Qo (Ql0 h x4) fun x5 =>
 Qo (binS .neq x5 a1) fun x6 =>
 q59_1p1 cf R x6 a0 a6 h a5 a1)
 (.ok a5 h)
theorem qe59_1 : q59_1 = t59_1 := by
  unfold q59_1 q59_1p1
  try simp only [QE]
  try rfl
noncomputable def q59_2 (cf : CallF) (R : Rec) (a0 : IV) (a1 : IV) (a5 : IV) (a6 : IV) (h : H) : CRes :=
 Qo (Qadd a6 (.int .i64 1)) fun x13 =>
 R 1 [a0, a1, a5, x13] h
theorem qe59_2 : q59_2 = t59_2 := by
  unfold q59_2
  try simp only [QE]
  try rfl
noncomputable def bt59 (cf : CallF) (R : Rec) : Rec := fun i l h =>
 br2 i 0 l (fun a0 a1 => t59_0 cf R a0 a1 h) <|
 br4 i 1 l (fun a0 a1 a5 a6 => t59_1 cf R a0 a1 a5 a6 h) <|
 br4 i 2 l (fun a0 a1 a5 a6 => t59_2 cf R a0 a1 a5 a6 h) <|
 .fail
noncomputable def b59 (cf : CallF) (R : Rec) : Rec := fun i l h =>
 brQ2 i 0 l (fun a0 a1 => q59_0 cf R a0 a1 h) <|
 brQ4 i 1 l (fun a0 a1 a5 a6 => q59_1 cf R a0 a1 a5 a6 h) <|
 brQ4 i 2 l (fun a0 a1 a5 a6 => q59_2 cf R a0 a1 a5 a6 h) <|
 .fail
theorem be59 : b59 = bt59 := by
  unfold b59 bt59
  simp only [qe59_0, qe59_1, qe59_2, brQ2_eq, brQ4_eq]
theorem r59 {T : Tab} {cf : CallF} (hc : leC cf (CL T)) (n : Nat) : leR (recN (b59 cf) n) (J59 T) := be59 ▸ recN_le (fun R hR i l h => by
  unfold bt59
  refine le_br2 (J := fun i l => J59 T i l h) (fun _ a0 a1 => le_e (fun hn => e59_0 rfl hn) ((m59 hc hR).1 a0 a1 h)) ?_
  refine le_br4 (J := fun i l => J59 T i l h) (fun _ a0 a1 a5 a6 => le_e (fun hn => e59_1 rfl hn) ((m59 hc hR).2.1 a0 a1 a5 a6 h)) ?_
  refine le_br4 (J := fun i l => J59 T i l h) (fun _ a0 a1 a5 a6 => le_e (fun hn => e59_2 rfl hn) ((m59 hc hR).2.2 a0 a1 a5 a6 h)) ?_
  exact le_fail _) n
-- 60
theorem m60 {cf cf' : CallF} {R R' : Rec} (hc : ∀ f l h, le (cf f l h) (cf' f l h)) (hR : ∀ i l h, le (R i l h) (R' i l h)) :
  (∀ (a0 : IV) (h : H), le (t60_0 cf R a0 h) (t60_0 cf' R' a0 h)) ∧
  (∀ (a4 : IV) (h : H), le (t60_1 cf R a4 h) (t60_1 cf' R' a4 h)) := by
  refine ⟨?_, ?_⟩
  all_goals intros
  all_goals first | unfold t60_0 | unfold t60_1
  all_goals
  with_reducible repeat' first
    | refine le_obind fun _ => ?_
    | refine le_callP ?_ (fun _ _ => ?_) (fun _ _ => ?_)
    | refine le_condK ?_ ?_
    | exact hR _ _ _
    | refine le_obind2 fun _ _ => ?_
    | refine le_obindH fun _ => ?_
    | refine le_spanK (fun _ _ _ => ?_) (fun _ _ => ?_)
    | exact hc _ _ _
    | refine le_bif ?_ ?_
    | refine le_guardK ?_ ?_ ?_
    | refine le_mapK fun _ _ => ?_
    | refine le_panK fun _ _ => ?_
    | refine le_funK fun _ _ => ?_
    | exact le_refl _
    | apply_assumption
noncomputable def q60_0 (cf : CallF) (R : Rec) (a0 : IV) (h : H) : CRes :=
 Qo (Qse a0 (.str ⟨6, 111516500389741⟩)) fun x1 =>
 Qif x1
 (R 1 [x1] h)
 (Qo (Qse a0 (.str ⟨9, 1870936414602775522917⟩)) fun x2 =>
 Qif x2
 (R 1 [x2] h)
 (Qo (Qse a0 (.str ⟨5, 500186508905⟩)) fun x3 =>
 Qif x3
 (R 1 [x3] h)
 (Qo (Qse a0 (.str ⟨6, 128047746676079⟩)) fun x4 =>
 Qif x4
 (R 1 [x4] h)
 (Qo (Qse a0 (.str ⟨3, 6776178⟩)) fun x5 =>
 Qif x5
 (R 1 [x5] h)
 (Qo (Qse a0 (.str ⟨4, 1701996919⟩)) fun x6 =>
 Qif x6
 (R 1 [x6] h)
 (Qo (Qse a0 (.str ⟨9, 2110239404018478768496⟩)) fun x7 =>
 Qif x7
 (R 1 [x7] h)
 (Qo (Qse a0 (.str ⟨10, 516535522800345012203372⟩)) fun x8 =>
 Qif x8
 (R 1 [x8] h)
 (Qo (Qse a0 (.str ⟨6, 121390429860705⟩)) fun x9 =>
 Qif x9
 (R 1 [x9] h)
 (Qo (Qse a0 (.str ⟨6, 126965163453537⟩)) fun x10 =>
 Qif x10
 (R 1 [x10] h)
 (Qo (Qse a0 (.str ⟨7, 28542653544230768⟩)) fun x11 =>
 Qif x11
 (R 1 [x11] h)
 (Qo (Qse a0 (.str ⟨5, 474214786402⟩)) fun x12 =>
 Qif x12
 (R 1 [x12] h)
 (Qo (Qse a0 (.str ⟨3, 6581861⟩)) fun x13 =>
 Qif x13
 (R 1 [x13] h)
 (Qo (Qse a0 (.str ⟨2, 26217⟩)) fun x14 =>
 Qif x14
 (R 1 [x14] h)
 (Qo (Qse a0 (.str ⟨4, 1702063205⟩)) fun x15 =>
 Qif x15
 (R 1 [x15] h)
 (Qo (Qse a0 (.str ⟨4, 1702060387⟩)) fun x16 =>
 Qif x16
 (R 1 [x16] h)
 (Qo (Qse a0 (.str ⟨7, 28555834764324453⟩)) fun x17 =>
 Qif x17
 (R 1 [x17] h)
 (Qo (Qse a0 (.str ⟨7, 32770348699510116⟩)) fun x18 =>
 Qif x18
 (R 1 [x18] h)
 (Qo (Qse a0 (.str ⟨3, 7499622⟩)) fun x19 =>
 R 1 [x19] h))))))))))))))))))
theorem qe60_0 : q60_0 = t60_0 := by
  unfold q60_0
  try simp only [QE]
  try rfl
noncomputable def q60_1 (cf : CallF) (R : Rec) (a4 : IV) (h : H) : CRes :=
 Qif a4
 (.ok (.bool true) h)
 (.ok (.bool false) h)
theorem qe60_1 : q60_1 = t60_1 := by
  unfold q60_1
  try simp only [QE]
  try rfl
noncomputable def bt60 (cf : CallF) (R : Rec) : Rec := fun i l h =>
 br1 i 0 l (fun a0 => t60_0 cf R a0 h) <|
 br1 i 1 l (fun a4 => t60_1 cf R a4 h) <|
 .fail
noncomputable def b60 (cf : CallF) (R : Rec) : Rec := fun i l h =>
 brQ1 i 0 l (fun a0 => q60_0 cf R a0 h) <|
 brQ1 i 1 l (fun a4 => q60_1 cf R a4 h) <|
 .fail
theorem be60 : b60 = bt60 := by
  unfold b60 bt60
  simp only [qe60_0, qe60_1, brQ1_eq]
theorem r60 {T : Tab} {cf : CallF} (hc : leC cf (CL T)) (n : Nat) : leR (recN (b60 cf) n) (J60 T) := be60 ▸ recN_le (fun R hR i l h => by
  unfold bt60
  refine le_br1 (J := fun i l => J60 T i l h) (fun _ a0 => le_e (fun hn => e60_0 rfl hn) ((m60 hc hR).1 a0 h)) ?_
  refine le_br1 (J := fun i l => J60 T i l h) (fun _ a4 => le_e (fun hn => e60_1 rfl hn) ((m60 hc hR).2 a4 h)) ?_
  exact le_fail _) n
-- 61
theorem m61 {cf cf' : CallF} {R R' : Rec} (hc : ∀ f l h, le (cf f l h) (cf' f l h)) (hR : ∀ i l h, le (R i l h) (R' i l h)) : (∀ (a0 a1 : IV) (h : H), le (t61_0 cf R a0 a1 h) (t61_0 cf' R' a0 a1 h)) := by
  intros
  unfold t61_0
  with_reducible repeat' first
    | refine le_obind fun _ => ?_
    | refine le_callP ?_ (fun _ _ => ?_) (fun _ _ => ?_)
    | refine le_condK ?_ ?_
    | exact hR _ _ _
    | refine le_obind2 fun _ _ => ?_
    | refine le_obindH fun _ => ?_
    | refine le_spanK (fun _ _ _ => ?_) (fun _ _ => ?_)
    | exact hc _ _ _
    | refine le_bif ?_ ?_
    | refine le_guardK ?_ ?_ ?_
    | refine le_mapK fun _ _ => ?_
    | refine le_panK fun _ _ => ?_
    | refine le_funK fun _ _ => ?_
    | exact le_refl _
    | apply_assumption
noncomputable def q61_0 (cf : CallF) (R : Rec) (a0 : IV) (a1 : IV) (h : H) : CRes :=
 Qc (cf 37 [a0] h) .pan fun x1 h2 =>
 Qo (Qbld [(.int .i64 0), (.int .i64 0)] [(0, 1), (1, 1)] [(0, x1), (1, a1)]) fun x3 =>
 Qo (Qbld [(.int .i64 0), (.int .i64 0)] [(0, 2)] [(0, x3)]) fun x4 =>
 panK (.iface 58 x4) h2 .pan
theorem qe61_0 : q61_0 = t61_0 := by
  unfold q61_0
  try simp only [QE]
  try rfl
noncomputable def bt61 (cf : CallF) (R : Rec) : Rec := fun i l h =>
 br2 i 0 l (fun a0 a1 => t61_0 cf R a0 a1 h) <|
 .fail
noncomputable def b61 (cf : CallF) (R : Rec) : Rec := fun i l h =>
 brQ2 i 0 l (fun a0 a1 => q61_0 cf R a0 a1 h) <|
 .fail
theorem be61 : b61 = bt61 := by
  unfold b61 bt61
  simp only [qe61_0, brQ2_eq]
theorem r61 {T : Tab} {cf : CallF} (hc : leC cf (CL T)) (n : Nat) : leR (recN (b61 cf) n) (J61 T) := be61 ▸ recN_le (fun R hR i l h => by
  unfold bt61
  refine le_br2 (J := fun i l => J61 T i l h) (fun _ a0 a1 => le_e (fun hn => e61_0 rfl hn) ((m61 hc hR) a0 a1 h)) ?_
  exact le_fail _) n
-- 62
theorem m62 {cf cf' : CallF} {R R' : Rec} (hc : ∀ f l h, le (cf f l h) (cf' f l h)) (hR : ∀ i l h, le (R i l h) (R' i l h)) :
  (∀ (a0 a1 : IV) (h : H), le (t62_0 cf R a0 a1 h) (t62_0 cf' R' a0 a1 h)) ∧
  (∀ (a0 a1 : IV) (h : H), le (t62_1 cf R a0 a1 h) (t62_1 cf' R' a0 a1 h)) := by
  refine ⟨?_, ?_⟩
  all_goals intros
  all_goals first | unfold t62_0 | unfold t62_1
  all_goals
  with_reducible repeat' first
    | refine le_obind fun _ => ?_
    | refine le_callP ?_ (fun _ _ => ?_) (fun _ _ => ?_)
    | refine le_condK ?_ ?_
    | exact hR _ _ _
    | refine le_obind2 fun _ _ => ?_
    | refine le_obindH fun _ => ?_
    | refine le_spanK (fun _ _ _ => ?_) (fun _ _ => ?_)
    | exact hc _ _ _
    | refine le_bif ?_ ?_
    | refine le_guardK ?_ ?_ ?_
    | refine le_mapK fun _ _ => ?_
    | refine le_panK fun _ _ => ?_
    | refine le_funK fun _ _ => ?_
    | exact le_refl _
    | apply_assumption
noncomputable def q62_0 (cf : CallF) (R : Rec) (a0 : IV) (a1 : IV) (h : H) : CRes :=
 Qc (cf 78 [a0, (.bool true)] h) .pan fun x1 h2 =>
 Qo (Qnot x1) fun x3 =>
 Qif x3
 (Qc (cf 61 [a0, (.int .i64 40)] h2) .pan fun x4 h5 =>
 R 1 [a0, a1] h5)
 (R 1 [a0, a1] h2)
theorem qe62_0 : q62_0 = t62_0 := by
  unfold q62_0
  try simp only [QE]
  try rfl
noncomputable def q62_1 (cf : CallF) (R : Rec) (a0 : IV) (a1 : IV) (h : H) : CRes :=
 Qo (Qgtr a1 (.int .i64 32)) fun x6 =>
 Qif x6
 (Qc (cf 61 [a0, (.int .i64 41)] h) .pan fun x7 h8 =>
 .ok (.tup []) h8)
 (.ok (.tup []) h)
theorem qe62_1 : q62_1 = t62_1 := by
  unfold q62_1
  try simp only [QE]
  try rfl
noncomputable def bt62 (cf : CallF) (R : Rec) : Rec := fun i l h =>
 br2 i 0 l (fun a0 a1 => t62_0 cf R a0 a1 h) <|
 br2 i 1 l (fun a0 a1 => t62_1 cf R a0 a1 h) <|
 .fail
noncomputable def b62 (cf : CallF) (R : Rec) : Rec := fun i l h =>
 brQ2 i 0 l (fun a0 a1 => q62_0 cf R a0 a1 h) <|
 brQ2 i 1 l (fun a0 a1 => q62_1 cf R a0 a1 h) <|
 .fail
theorem be62 : b62 = bt62 := by
  unfold b62 bt62
  simp only [qe62_0, qe62_1, brQ2_eq]
theorem r62 {T : Tab} {cf : CallF} (hc : leC cf (CL T)) (n : Nat) : leR (recN (b62 cf) n) (J62 T) := be62 ▸ recN_le (fun R hR i l h => by
  unfold bt62
  refine le_br2 (J := fun i l => J62 T i l h) (fun _ a0 a1 => le_e (fun hn => e62_0 rfl hn) ((m62 hc hR).1 a0 a1 h)) ?_
  refine le_br2 (J := fun i l => J62 T i l h) (fun _ a0 a1 => le_e (fun hn => e62_1 rfl hn) ((m62 hc hR).2 a0 a1 h)) ?_
  exact le_fail _) n
-- 63
theorem m63 {cf cf' : CallF} {R R' : Rec} (hc : ∀ f l h, le (cf f l h) (cf' f l h)) (hR : ∀ i l h, le (R i l h) (R' i l h)) :
  (∀ (a0 a1 a2 a3 : IV) (h : H), le (t63_0 cf R a0 a1 a2 a3 h) (t63_0 cf' R' a0 a1 a2 a3 h)) ∧
  (∀ (a0 a2 a3 a5 a8 : IV) (h : H), le (t63_1 cf R a0 a2 a3 a5 a8 h) (t63_1 cf' R' a0 a2 a3 a5 a8 h)) ∧
  (∀ (a0 a2 a3 a5 a8 a11 a12 a13 : IV) (h : H), le (t63_2 cf R a0 a2 a3 a5 a8 a11 a12 a13 h) (t63_2 cf' R' a0 a2 a3 a5 a8 a11 a12 a13 h)) := by
  refine ⟨?_, ?_, ?_⟩
  all_goals intros
  all_goals first | unfold t63_0 | unfold t63_1 | unfold t63_2
  all_goals
  with_reducible repeat' first
    | refine le_obind fun _ => ?_
    | refine le_callP ?_ (fun _ _ => ?_) (fun _ _ => ?_)
    | refine le_condK ?_ ?_
    | exact hR _ _ _
    | refine le_obind2 fun _ _ => ?_
    | refine le_obindH fun _ => ?_
    | refine le_spanK (fun _ _ _ => ?_) (fun _ _ => ?_)
    | exact hc _ _ _
    | refine le_bif ?_ ?_
    | refine le_guardK ?_ ?_ ?_
    | refine le_mapK fun _ _ => ?_
    | refine le_panK fun _ _ => ?_
    | refine le_funK fun _ _ => ?_
    | exact le_refl _
    | apply_assumption
noncomputable def q63_0 (cf : CallF) (R : Rec) (a0 : IV) (a1 : IV) (a2 : IV) (a3 : IV) (h : H) : CRes :=
 Qo2 (QnI h (Qcells a1)) fun x1 h2 =>
 Qo2 (QnI h2 z0) fun x3 h4 =>
 R 1 [a0, a2, a3, x1, x3] h4
theorem qe63_0 : q63_0 = t63_0 := by
  unfold q63_0
  try simp only [QE]
  try rfl
noncomputable def q63_1p3 (cf : CallF) (R : Rec) (x28 : IV) (a0 : IV) (h29 : H) (a2 : IV) (a3 : IV) (a5 : IV) (a8 : IV) (x11 : IV) (x12 : IV) (x22 : IV) : CRes :=
 Qo (Qnot x28) fun x30 =>
 Qif x30
 (Qc (cf 61 [a0, (.int .i64 40)] h29) .pan fun x31 h32 =>
 R 2 [a0, a2, a3, a5, a8, x11, x12, x22] h32)
 (R 2 [a0, a2, a3, a5, a8, x11, x12, x22] h29)
noncomputable def q63_1p2 (cf : CallF) (R : Rec) (x13 : IV) (x15 : IV) (h16 : H) (a5 : IV) (a8 : IV) (a0 : IV) (x7 : IV) (a2 : IV) (a3 : IV) (x11 : IV) (x12 : IV) : CRes :=
 Qo (Qpk x13 (some (.bool true)) (some x15)) fun x18 =>
 Qif x18
 (Qo (QlA 6 h16 a5) fun x19 =>
 QoH (QsA 6 h16 a8 x19) fun h20 =>
 Qo (QlA 6 h20 a8) fun x21 =>
 .ok x21 h20)
 (Qc (cf 37 [a0] h16) .pan fun x22 h23 =>
 Qo2 (Qbsl false 1 [(.str ⟨0, 0⟩)] 1 [(0, x7)] h23) fun x24 h25 =>
 Qc (cf 38 [a0, x24] h25) .pan fun x26 h27 =>
 Qc (cf 78 [a0, (.bool true)] h27) .pan fun x28 h29 =>
 q63_1p3 cf R x28 a0 h29 a2 a3 a5 a8 x11 x12 x22)
noncomputable def q63_1p1 (cf : CallF) (R : Rec) (x9 : IV) (a2 : IV) (h10 : H) (a5 : IV) (a8 : IV) (a0 : IV) (x7 : IV) (a3 : IV) : CRes :=
 Qo (Qext x9 0) fun x11 =>
 Qo (Qext x9 1) fun x12 =>
 Qo (Qlss x11 a2) fun x13 =>
 Qsp x13 false h10 (fun k14 =>
 Qo (Qeql x11 (.int .i64 0)) fun x17 =>
 k14 x17 h10) fun x15 h16 =>
 q63_1p2 cf R x13 x15 h16 a5 a8 a0 x7 a2 a3 x11 x12
noncomputable def q63_1 (cf : CallF) (R : Rec) (a0 : IV) (a2 : IV) (a3 : IV) (a5 : IV) (a8 : IV) (h : H) : CRes :=
 Qc (cf 36 [a0] h) .pan fun x5 h6 =>
 Qo (Qext x5 0) fun x7 =>
 Qo (Qext x5 1) fun x8 =>
 Qc (cf 79 [x7] h6) .pan fun x9 h10 =>
 q63_1p1 cf R x9 a2 h10 a5 a8 a0 x7 a3
theorem qe63_1 : q63_1 = t63_1 := by
  unfold q63_1 q63_1p1 q63_1p2 q63_1p3
  try simp only [QE]
  try rfl
noncomputable def q63_2p1 (cf : CallF) (R : Rec) (h39 : H) (x38 : IV) (x36 : IV) (a5 : IV) (a12 : IV) (a13 : IV) (a0 : IV) (a2 : IV) (a3 : IV) (a8 : IV) : CRes :=
 QoH (QsA 6 h39 x38 x36) fun h40 =>
 Qo (QlA 6 h40 a5) fun x41 =>
 Qo (QlA 6 h40 x38) fun x42 =>
 Qo2 (Qbsl false 6 z0 2 [(0, x41), (1, x42)] h40) fun x43 h44 =>
 Qo (Qbld z0 p12 [(0, a12), (4, x43), (5, a13)]) fun x45 =>
 QoH (QsA 6 h44 a5 x45) fun h46 =>
 R 1 [a0, a2, a3, a5, a8] h46
noncomputable def q63_2 (cf : CallF) (R : Rec) (a0 : IV) (a2 : IV) (a3 : IV) (a5 : IV) (a8 : IV) (a11 : IV) (a12 : IV) (a13 : IV) (h : H) : CRes :=
 Qc (cf 64 [a0, a3] h) .pan fun x33 h34 =>
 Qo (Qadd a11 (.int .i64 1)) fun x35 =>
 Qc (cf 63 [a0, x33, x35, a3] h34) .pan fun x36 h37 =>
 Qo2 (QnI h37 z0) fun x38 h39 =>
 q63_2p1 cf R h39 x38 x36 a5 a12 a13 a0 a2 a3 a8
theorem qe63_2 : q63_2 = t63_2 := by
  unfold q63_2 q63_2p1
  try simp only [QE]
  try rfl
noncomputable def bt63 (cf : CallF) (R : Rec) : Rec := fun i l h =>
 br4 i 0 l (fun a0 a1 a2 a3 => t63_0 cf R a0 a1 a2 a3 h) <|
 br5 i 1 l (fun a0 a2 a3 a5 a8 => t63_1 cf R a0 a2 a3 a5 a8 h) <|
 br8 i 2 l (fun a0 a2 a3 a5 a8 a11 a12 a13 => t63_2 cf R a0 a2 a3 a5 a8 a11 a12 a13 h) <|
 .fail
noncomputable def b63 (cf : CallF) (R : Rec) : Rec := fun i l h =>
 brQ4 i 0 l (fun a0 a1 a2 a3 => q63_0 cf R a0 a1 a2 a3 h) <|
 brQ5 i 1 l (fun a0 a2 a3 a5 a8 => q63_1 cf R a0 a2 a3 a5 a8 h) <|
 brQ8 i 2 l (fun a0 a2 a3 a5 a8 a11 a12 a13 => q63_2 cf R a0 a2 a3 a5 a8 a11 a12 a13 h) <|
 .fail
theorem be63 : b63 = bt63 := by
  unfold b63 bt63
  simp only [qe63_0, qe63_1, qe63_2, brQ4_eq, brQ5_eq, brQ8_eq]
theorem r63 {T : Tab} {cf : CallF} (hc : leC cf (CL T)) (n : Nat) : leR (recN (b63 cf) n) (J63 T) := be63 ▸ recN_le (fun R hR i l h => by
  unfold bt63
  refine le_br4 (J := fun i l => J63 T i l h) (fun _ a0 a1 a2 a3 => le_e (fun hn => e63_0 rfl hn) ((m63 hc hR).1 a0 a1 a2 a3 h)) ?_
  refine le_br5 (J := fun i l => J63 T i l h) (fun _ a0 a2 a3 a5 a8 => le_e (fun hn => e63_1 rfl hn) ((m63 hc hR).2.1 a0 a2 a3 a5 a8 h)) ?_
  refine le_br8 (J := fun i l => J63 T i l h) (fun _ a0 a2 a3 a5 a8 a11 a12 a13 => le_e (fun hn => e63_2 rfl hn) ((m63 hc hR).2.2 a0 a2 a3 a5 a8 a11 a12 a13 h)) ?_
  exact le_fail _) n
-- 64
theorem m64 {cf cf' : CallF} {R R' : Rec} (hc : ∀ f l h, le (cf f l h) (cf' f l h)) (hR : ∀ i l h, le (R i l h) (R' i l h)) : (∀ (a0 a1 : IV) (h : H), le (t64_0 cf R a0 a1 h) (t64_0 cf' R' a0 a1 h)) := by
  intros
  unfold t64_0
  with_reducible repeat' first
    | refine le_obind fun _ => ?_
    | refine le_callP ?_ (fun _ _ => ?_) (fun _ _ => ?_)
    | refine le_condK ?_ ?_
    | exact hR _ _ _
    | refine le_obind2 fun _ _ => ?_
    | refine le_obindH fun _ => ?_
    | refine le_spanK (fun _ _ _ => ?_) (fun _ _ => ?_)
    | exact hc _ _ _
    | refine le_bif ?_ ?_
    | refine le_guardK ?_ ?_ ?_
    | refine le_mapK fun _ _ => ?_
    | refine le_panK fun _ _ => ?_
    | refine le_funK fun _ _ => ?_
    | exact le_refl _
    | apply_assumption
noncomputable def q64_0p3 (cf : CallF) (R : Rec) (x19 : IV) (x24 : IV) (x3 : IV) (h25 : H) (x1 : IV) : CRes :=
 Qo (Qbld z0 p12 [(0, x19), (4, x24), (5, x3)]) fun x26 =>
 QoH (QsA 6 h25 x1 x26) fun h27 =>
 Qo (QlA 6 h27 x1) fun x28 =>
 .ok x28 h27
noncomputable def q64_0p2 (cf : CallF) (R : Rec) (x7 : IV) (h18 : H) (a1 : IV) (a0 : IV) (x3 : IV) (x1 : IV) : CRes :=
 Qc (cf 80 [x7] h18) .pan fun x19 h20 =>
 Qo (Qadd a1 (.int .i64 1)) fun x21 =>
 Qc (cf 64 [a0, x21] h20) .pan fun x22 h23 =>
 Qo2 (Qbsl false 6 z0 1 [(0, x22)] h23) fun x24 h25 =>
 q64_0p3 cf R x19 x24 x3 h25 x1
noncomputable def q64_0p1 (cf : CallF) (R : Rec) (x5 : IV) (x7 : IV) (h6 : H) (a0 : IV) (a1 : IV) (x3 : IV) (x1 : IV) : CRes :=
 Qo (Qext x5 1) fun x8 =>
 Qc (cf 80 [x7] h6) .pan fun x9 h10 =>
 Qo (Qgtr x9 (.int .i64 0)) fun x11 =>
 Qif x11
 (Qo2 (Qbsl false 1 [(.str ⟨0, 0⟩)] 1 [(0, x7)] h10) fun x12 h13 =>
 Qc (cf 38 [a0, x12] h13) .pan fun x14 h15 =>
 Qo (Qadd a1 (.int .i64 1)) fun x16 =>
 Qc (cf 62 [a0, x16] h15) .pan fun x17 h18 =>
 q64_0p2 cf R x7 h18 a1 a0 x3 x1)
 (Qc (cf 81 [a0, a1] h10) .pan fun x29 h30 =>
 QoH (QsA 6 h30 x1 x29) fun h31 =>
 Qo (QlA 6 h31 x1) fun x32 =>
 .ok x32 h31)
noncomputable def q64_0 (cf : CallF) (R : Rec) (a0 : IV) (a1 : IV) (h : H) : CRes :=
 Qo2 (QnI h z0) fun x1 h2 =>
 Qc (cf 37 [a0] h2) .pan fun x3 h4 =>
 Qc (cf 36 [a0] h4) .pan fun x5 h6 =>
 Qo (Qext x5 0) fun x7 =>
 q64_0p1 cf R x5 x7 h6 a0 a1 x3 x1
theorem qe64_0 : q64_0 = t64_0 := by
  unfold q64_0 q64_0p1 q64_0p2 q64_0p3
  try simp only [QE]
  try rfl
noncomputable def bt64 (cf : CallF) (R : Rec) : Rec := fun i l h =>
 br2 i 0 l (fun a0 a1 => t64_0 cf R a0 a1 h) <|
 .fail
noncomputable def b64 (cf : CallF) (R : Rec) : Rec := fun i l h =>
 brQ2 i 0 l (fun a0 a1 => q64_0 cf R a0 a1 h) <|
 .fail
theorem be64 : b64 = bt64 := by
  unfold b64 bt64
  simp only [qe64_0, brQ2_eq]
theorem r64 {T : Tab} {cf : CallF} (hc : leC cf (CL T)) (n : Nat) : leR (recN (b64 cf) n) (J64 T) := be64 ▸ recN_le (fun R hR i l h => by
  unfold bt64
  refine le_br2 (J := fun i l => J64 T i l h) (fun _ a0 a1 => le_e (fun hn => e64_0 rfl hn) ((m64 hc hR) a0 a1 h)) ?_
  exact le_fail _) n
-- 65
theorem m65 {cf cf' : CallF} {R R' : Rec} (hc : ∀ f l h, le (cf f l h) (cf' f l h)) (hR : ∀ i l h, le (R i l h) (R' i l h)) : (∀ (a0 : IV) (h : H), le (t65_0 cf R a0 h) (t65_0 cf' R' a0 h)) := by
  intros
  unfold t65_0
  with_reducible repeat' first
    | refine le_obind fun _ => ?_
    | refine le_callP ?_ (fun _ _ => ?_) (fun _ _ => ?_)
    | refine le_condK ?_ ?_
    | exact hR _ _ _
    | refine le_obind2 fun _ _ => ?_
    | refine le_obindH fun _ => ?_
    | refine le_spanK (fun _ _ _ => ?_) (fun _ _ => ?_)
    | exact hc _ _ _
    | refine le_bif ?_ ?_
    | refine le_guardK ?_ ?_ ?_
    | refine le_mapK fun _ _ => ?_
    | refine le_panK fun _ _ => ?_
    | refine le_funK fun _ _ => ?_
    | exact le_refl _
    | apply_assumption
noncomputable def q65_0p2 (cf : CallF) (R : Rec) (x11 : IV) (x9 : IV) (h10 : H) (x3 : IV) (x1 : IV) : CRes :=
 bif IV.beq x11 x9 then
 QoH (QsA 6 h10 x3 x9) fun h12 =>
 Qo (QlA 6 h12 x1) fun x13 =>
 Qo (QlA 6 h12 x3) fun x14 =>
 .ok (.tup [(.bool false), x13, x14]) h12
 else .fail
noncomputable def q65_0p5 (cf : CallF) (R : Rec) (x32 : IV) (x30 : IV) (h31 : H) (x3 : IV) (x1 : IV) : CRes :=
 bif IV.beq x32 x30 then
 QoH (QsA 6 h31 x3 x30) fun h33 =>
 Qo (QlA 6 h33 x1) fun x34 =>
 Qo (QlA 6 h33 x3) fun x35 =>
 .ok (.tup [(.bool true), x34, x35]) h33
 else .fail
noncomputable def q65_0p4 (cf : CallF) (R : Rec) (h28 : H) (x1 : IV) (x3 : IV) : CRes :=
 Qo (QlA 6 h28 x1) fun x29 =>
 Qo (QlA 6 h28 x3) fun x30 =>
 QoH (QsA 6 h28 x1 x29) fun h31 =>
 Qo (QlA 6 h31 x3) fun x32 =>
 q65_0p5 cf R x32 x30 h31 x3 x1
noncomputable def q65_0p3 (cf : CallF) (R : Rec) (a0 : IV) (h21 : H) (x3 : IV) (x1 : IV) : CRes :=
 Qc (cf 41 [a0, (.int .i64 1)] h21) .pan fun x22 h23 =>
 QoH (QsA 6 h23 x3 x22) fun h24 =>
 Qo2 (Qbsl false 1 [(.str ⟨0, 0⟩)] 1 [(0, (.str ⟨1, 93⟩))] h24) fun x25 h26 =>
 Qc (cf 38 [a0, x25] h26) .pan fun x27 h28 =>
 q65_0p4 cf R h28 x1 x3
noncomputable def q65_0p1 (cf : CallF) (R : Rec) (x7 : IV) (h6 : H) (x1 : IV) (x3 : IV) (a0 : IV) : CRes :=
 Qif x7
 (Qo (QlA 6 h6 x1) fun x8 =>
 Qo (QlA 6 h6 x3) fun x9 =>
 QoH (QsA 6 h6 x1 x8) fun h10 =>
 Qo (QlA 6 h10 x3) fun x11 =>
 q65_0p2 cf R x11 x9 h10 x3 x1)
 (Qc (cf 41 [a0, (.int .i64 1)] h6) .pan fun x15 h16 =>
 QoH (QsA 6 h16 x1 x15) fun h17 =>
 Qo2 (Qbsl false 1 [(.str ⟨0, 0⟩)] 1 [(0, (.str ⟨1, 58⟩))] h17) fun x18 h19 =>
 Qc (cf 38 [a0, x18] h19) .pan fun x20 h21 =>
 q65_0p3 cf R a0 h21 x3 x1)
noncomputable def q65_0 (cf : CallF) (R : Rec) (a0 : IV) (h : H) : CRes :=
 Qo2 (QnI h z0) fun x1 h2 =>
 Qo2 (QnI h2 z0) fun x3 h4 =>
 Qc (cf 40 [a0, (.str ⟨1, 91⟩)] h4) .pan fun x5 h6 =>
 Qo (Qnot x5) fun x7 =>
 q65_0p1 cf R x7 h6 x1 x3 a0
theorem qe65_0 : q65_0 = t65_0 := by
  unfold q65_0 q65_0p1 q65_0p3 q65_0p4 q65_0p5 q65_0p2
  try simp only [QE]
  try rfl
noncomputable def bt65 (cf : CallF) (R : Rec) : Rec := fun i l h =>
 br1 i 0 l (fun a0 => t65_0 cf R a0 h) <|
 .fail
noncomputable def b65 (cf : CallF) (R : Rec) : Rec := fun i l h =>
 brQ1 i 0 l (fun a0 => q65_0 cf R a0 h) <|
 .fail
theorem be65 : b65 = bt65 := by
  unfold b65 bt65
  simp only [qe65_0, brQ1_eq]
theorem r65 {T : Tab} {cf : CallF} (hc : leC cf (CL T)) (n : Nat) : leR (recN (b65 cf) n) (J65 T) := be65 ▸ recN_le (fun R hR i l h => by
  unfold bt65
  refine le_br1 (J := fun i l => J65 T i l h) (fun _ a0 => le_e (fun hn => e65_0 rfl hn) ((m65 hc hR) a0 h)) ?_
  exact le_fail _) n
-- 66
theorem m66 {cf cf' : CallF} {R R' : Rec} (hc : ∀ f l h, le (cf f l h) (cf' f l h)) (hR : ∀ i l h, le (R i l h) (R' i l h)) :
  (∀ (a0 a1 : IV) (h : H), le (t66_0 cf R a0 a1 h) (t66_0 cf' R' a0 a1 h)) ∧
  (∀ (a4 a5 : IV) (h : H), le (t66_1 cf R a4 a5 h) (t66_1 cf' R' a4 a5 h)) ∧
  (∀ (a0 a4 a5 : IV) (h : H), le (t66_2 cf R a0 a4 a5 h) (t66_2 cf' R' a0 a4 a5 h)) ∧
  (∀ (a0 a4 a5 : IV) (h : H), le (t66_3 cf R a0 a4 a5 h) (t66_3 cf' R' a0 a4 a5 h)) := by
  refine ⟨?_, ?_, ?_, ?_⟩
  all_goals intros
  all_goals first | unfold t66_0 | unfold t66_1 | unfold t66_2 | unfold t66_3
  all_goals
  with_reducible repeat' first
    | refine le_obind fun _ => ?_
    | refine le_callP ?_ (fun _ _ => ?_) (fun _ _ => ?_)
    | refine le_condK ?_ ?_
    | exact hR _ _ _
    | refine le_obind2 fun _ _ => ?_
    | refine le_obindH fun _ => ?_
    | refine le_spanK (fun _ _ _ => ?_) (fun _ _ => ?_)
    | exact hc _ _ _
    | refine le_bif ?_ ?_
    | refine le_guardK ?_ ?_ ?_
    | refine le_mapK fun _ _ => ?_
    | refine le_panK fun _ _ => ?_
    | refine le_funK fun _ _ => ?_
    | exact le_refl _
    | apply_assumption
noncomputable def q66_0p3 (cf : CallF) (R : Rec) (x6 : IV) (h34 : H) (x33 : IV) (a0 : IV) (x1 : IV) : CRes :=
 Qo (Qfad 23 x6) fun x35 =>
 QoH (QsA 6 h34 x35 x33) fun h36 =>
 Qo2 (Qbsl false 1 [(.str ⟨0, 0⟩)] 1 [(0, (.str ⟨1, 59⟩))] h36) fun x37 h38 =>
 Qc (cf 38 [a0, x37] h38) .pan fun x39 h40 =>
 R 1 [x1, x6] h40
noncomputable def q66_0p2 (cf : CallF) (R : Rec) (h26 : H) (x27 : IV) (x23 : IV) (a0 : IV) (x6 : IV) (x1 : IV) : CRes :=
 QoH (QsA 1 h26 x27 x23) fun h28 =>
 Qo2 (Qbsl false 1 [(.str ⟨0, 0⟩)] 1 [(0, (.str ⟨1, 61⟩))] h28) fun x29 h30 =>
 Qc (cf 38 [a0, x29] h30) .pan fun x31 h32 =>
 Qc (cf 41 [a0, (.int .i64 1)] h32) .pan fun x33 h34 =>
 q66_0p3 cf R x6 h34 x33 a0 x1
noncomputable def q66_0p4 (cf : CallF) (R : Rec) (h56 : H) (x57 : IV) (x53 : IV) (a0 : IV) (x6 : IV) (x1 : IV) : CRes :=
 QoH (QsA 1 h56 x57 x53) fun h58 =>
 Qc (cf 40 [a0, (.str ⟨1, 35⟩)] h58) .pan fun x59 h60 =>
 Qif x59
 (Qo2 (Qbsl false 1 [(.str ⟨0, 0⟩)] 1 [(0, (.str ⟨1, 40⟩))] h60) fun x61 h62 =>
 Qc (cf 38 [a0, x61] h62) .pan fun x63 h64 =>
 Qc (cf 86 [a0] h64) .pan fun x65 h66 =>
 Qo (Qfad 43 x6) fun x67 =>
 QoH (QsA 1 h66 x67 x65) fun h68 =>
 R 2 [a0, x1, x6] h68)
 (R 2 [a0, x1, x6] h60)
noncomputable def q66_0p1 (cf : CallF) (R : Rec) (h7 : H) (x6 : IV) (x5 : IV) (a0 : IV) (x1 : IV) (a1 : IV) : CRes :=
 QoH (QsA 48 h7 x6 x5) fun h8 =>
 Qc (cf 40 [a0, (.str ⟨4, 1701996919⟩)] h8) .pan fun x9 h10 =>
 Qif x9
 (Qo (Qfad 0 x6) fun x11 =>
 QoH (QsA 1 h10 x11 (.int .i64 1)) fun h12 =>
 Qc (cf 82 [a0, x6] h12) .pan fun x13 h14 =>
 R 1 [x1, x6] h14)
 (Qc (cf 40 [a0, (.str ⟨3, 6776178⟩)] h10) .pan fun x15 h16 =>
 Qif x15
 (Qo (Qfad 0 x6) fun x17 =>
 QoH (QsA 1 h16 x17 (.int .i64 2)) fun h18 =>
 Qc (cf 82 [a0, x6] h18) .pan fun x19 h20 =>
 R 1 [x1, x6] h20)
 (Qc (cf 40 [a0, (.str ⟨10, 516535522800345012203372⟩)] h16) .pan fun x21 h22 =>
 Qif x21
 (Qc (cf 39 [a0] h22) .pan fun x23 h24 =>
 Qo (Qfad 0 x6) fun x25 =>
 QoH (QsA 1 h24 x25 (.int .i64 3)) fun h26 =>
 Qo (Qfad 1 x6) fun x27 =>
 q66_0p2 cf R h26 x27 x23 a0 x6 x1)
 (Qc (cf 40 [a0, (.str ⟨6, 121390429860705⟩)] h22) .pan fun x41 h42 =>
 Qif x41
 (Qc (cf 83 [a0, x6] h42) .pan fun x43 h44 =>
 R 1 [x1, x6] h44)
 (Qc (cf 40 [a0, (.str ⟨6, 126965163453537⟩)] h42) .pan fun x45 h46 =>
 Qif x45
 (Qc (cf 84 [a0, x6] h46) .pan fun x47 h48 =>
 R 1 [x1, x6] h48)
 (Qc (cf 40 [a0, (.str ⟨3, 7499622⟩)] h46) .pan fun x49 h50 =>
 Qif x49
 (Qc (cf 85 [a0, x6, a1] h50) .pan fun x51 h52 =>
 R 1 [x1, x6] h52)
 (Qc (cf 39 [a0] h50) .pan fun x53 h54 =>
 Qo (Qfad 0 x6) fun x55 =>
 QoH (QsA 1 h54 x55 (.int .i64 7)) fun h56 =>
 Qo (Qfad 42 x6) fun x57 =>
 q66_0p4 cf R h56 x57 x53 a0 x6 x1))))))
noncomputable def q66_0 (cf : CallF) (R : Rec) (a0 : IV) (a1 : IV) (h : H) : CRes :=
 Qo2 (QnI h z14) fun x1 h2 =>
 Qc (cf 37 [a0] h2) .pan fun x3 h4 =>
 Qo (Qbld z14 p15 [(17, x3)]) fun x5 =>
 Qo2 (QnI h4 z14) fun x6 h7 =>
 q66_0p1 cf R h7 x6 x5 a0 x1 a1
theorem qe66_0 : q66_0 = t66_0 := by
  unfold q66_0 q66_0p1 q66_0p4 q66_0p2 q66_0p3
  try simp only [QE]
  try rfl
noncomputable def q66_1 (cf : CallF) (R : Rec) (a4 : IV) (a5 : IV) (h : H) : CRes :=
 Qo (QlA 48 h a5) fun x69 =>
 QoH (QsA 48 h a4 x69) fun h70 =>
 Qo (QlA 48 h70 a4) fun x71 =>
 .ok x71 h70
theorem qe66_1 : q66_1 = t66_1 := by
  unfold q66_1
  try simp only [QE]
  try rfl
noncomputable def q66_2p1 (cf : CallF) (R : Rec) (a0 : IV) (x76 : IV) (h77 : H) (a5 : IV) (a4 : IV) : CRes :=
 Qc (cf 38 [a0, x76] h77) .pan fun x78 h79 =>
 Qc (cf 40 [a0, (.str ⟨1, 41⟩)] h79) .pan fun x80 h81 =>
 Qo (Qnot x80) fun x82 =>
 Qif x82
 (Qc (cf 86 [a0] h81) .pan fun x83 h84 =>
 Qo (Qfad 44 a5) fun x85 =>
 QoH (QsA 1 h84 x85 x83) fun h86 =>
 R 3 [a0, a4, a5] h86)
 (R 3 [a0, a4, a5] h81)
noncomputable def q66_2 (cf : CallF) (R : Rec) (a0 : IV) (a4 : IV) (a5 : IV) (h : H) : CRes :=
 Qc (cf 39 [a0] h) .pan fun x72 h73 =>
 Qo (Qfad 1 a5) fun x74 =>
 QoH (QsA 1 h73 x74 x72) fun h75 =>
 Qo2 (Qbsl false 1 [(.str ⟨0, 0⟩)] 1 [(0, (.str ⟨1, 40⟩))] h75) fun x76 h77 =>
 q66_2p1 cf R a0 x76 h77 a5 a4
theorem qe66_2 : q66_2 = t66_2 := by
  unfold q66_2 q66_2p1
  try simp only [QE]
  try rfl
noncomputable def q66_3 (cf : CallF) (R : Rec) (a0 : IV) (a4 : IV) (a5 : IV) (h : H) : CRes :=
 Qo2 (Qbsl false 1 [(.str ⟨0, 0⟩)] 1 [(0, (.str ⟨1, 59⟩))] h) fun x87 h88 =>
 Qc (cf 38 [a0, x87] h88) .pan fun x89 h90 =>
 R 1 [a4, a5] h90
theorem qe66_3 : q66_3 = t66_3 := by
  unfold q66_3
  try simp only [QE]
  try rfl
noncomputable def bt66 (cf : CallF) (R : Rec) : Rec := fun i l h =>
 br2 i 0 l (fun a0 a1 => t66_0 cf R a0 a1 h) <|
 br2 i 1 l (fun a4 a5 => t66_1 cf R a4 a5 h) <|
 br3 i 2 l (fun a0 a4 a5 => t66_2 cf R a0 a4 a5 h) <|
 br3 i 3 l (fun a0 a4 a5 => t66_3 cf R a0 a4 a5 h) <|
 .fail
noncomputable def b66 (cf : CallF) (R : Rec) : Rec := fun i l h =>
 brQ2 i 0 l (fun a0 a1 => q66_0 cf R a0 a1 h) <|
 brQ2 i 1 l (fun a4 a5 => q66_1 cf R a4 a5 h) <|
 brQ3 i 2 l (fun a0 a4 a5 => q66_2 cf R a0 a4 a5 h) <|
 brQ3 i 3 l (fun a0 a4 a5 => q66_3 cf R a0 a4 a5 h) <|
 .fail
theorem be66 : b66 = bt66 := by
  unfold b66 bt66
  simp only [qe66_0, qe66_1, qe66_2, qe66_3, brQ2_eq, brQ3_eq]
theorem r66 {T : Tab} {cf : CallF} (hc : leC cf (CL T)) (n : Nat) : leR (recN (b66 cf) n) (J66 T) := be66 ▸ recN_le (fun R hR i l h => by
  unfold bt66
  refine le_br2 (J := fun i l => J66 T i l h) (fun _ a0 a1 => le_e (fun hn => e66_0 rfl hn) ((m66 hc hR).1 a0 a1 h)) ?_
  refine le_br2 (J := fun i l => J66 T i l h) (fun _ a4 a5 => le_e (fun hn => e66_1 rfl hn) ((m66 hc hR).2.1 a4 a5 h)) ?_
  refine le_br3 (J := fun i l => J66 T i l h) (fun _ a0 a4 a5 => le_e (fun hn => e66_2 rfl hn) ((m66 hc hR).2.2.1 a0 a4 a5 h)) ?_
  refine le_br3 (J := fun i l => J66 T i l h) (fun _ a0 a4 a5 => le_e (fun hn => e66_3 rfl hn) ((m66 hc hR).2.2.2 a0 a4 a5 h)) ?_
  exact le_fail _) n
-- 73
theorem m73 {cf cf' : CallF} {R R' : Rec} (hc : ∀ f l h, le (cf f l h) (cf' f l h)) (hR : ∀ i l h, le (R i l h) (R' i l h)) :
  (∀ (a0 a1 a2 : IV) (h : H), le (t73_0 cf R a0 a1 a2 h) (t73_0 cf' R' a0 a1 a2 h)) ∧
  (∀ (a0 a1 a7 a8 : IV) (h : H), le (t73_1 cf R a0 a1 a7 a8 h) (t73_1 cf' R' a0 a1 a7 a8 h)) := by
  refine ⟨?_, ?_⟩
  all_goals intros
  all_goals first | unfold t73_0 | unfold t73_1
  all_goals
  with_reducible repeat' first
    | refine le_obind fun _ => ?_
    | refine le_callP ?_ (fun _ _ => ?_) (fun _ _ => ?_)
    | refine le_condK ?_ ?_
    | exact hR _ _ _
    | refine le_obind2 fun _ _ => ?_
    | refine le_obindH fun _ => ?_
    | refine le_spanK (fun _ _ _ => ?_) (fun _ _ => ?_)
    | exact hc _ _ _
    | refine le_bif ?_ ?_
    | refine le_guardK ?_ ?_ ?_
    | refine le_mapK fun _ _ => ?_
    | refine le_panK fun _ _ => ?_
    | refine le_funK fun _ _ => ?_
    | exact le_refl _
    | apply_assumption
noncomputable def q73_0p2 (cf : CallF) (R : Rec) (x1 : IV) (x30 : IV) (h31 : H) (a0 : IV) (a1 : IV) : CRes :=
 Qo (Qpk x1 (some (.bool true)) (some x30)) fun x33 =>
 Qif x33
 (.ok (.int .i64 (-1)) h31)
 (R 1 [a0, a1, (.int .i64 0), (.int .i64 0)] h31)
noncomputable def q73_0p1 (cf : CallF) (R : Rec) (x12 : IV) (h13 : H) (a0 : IV) (x7 : IV) (x3 : IV) (x1 : IV) (a1 : IV) : CRes :=
 Qsp x12 true h13 (fun k16 =>
 Qo (Qis a0 (.int .i64 0)) fun x19 =>
 Qo (Qeql x19 (.int .u8 48)) fun x20 =>
 k16 x20 h13) fun x17 h18 =>
 Qsp x7 false h18 (fun k21 =>
 Qo (Qpk x12 (some x17) (some (.bool false))) fun x24 =>
 k21 x24 h18) fun x22 h23 =>
 Qsp x3 true h23 (fun k25 =>
 Qo (Qpk x7 (some (.bool true)) (some x22)) fun x28 =>
 k25 x28 h23) fun x26 h27 =>
 Qsp x1 false h27 (fun k29 =>
 Qo (Qpk x3 (some x26) (some (.bool false))) fun x32 =>
 k29 x32 h27) fun x30 h31 =>
 q73_0p2 cf R x1 x30 h31 a0 a1
noncomputable def q73_0 (cf : CallF) (R : Rec) (a0 : IV) (a1 : IV) (a2 : IV) (h : H) : CRes :=
 Qo (Qse a0 (.str ⟨0, 0⟩)) fun x1 =>
 Qsp x1 false h (fun k2 =>
 Qo (Qnot a2) fun x5 =>
 k2 x5 h) fun x3 h4 =>
 Qsp x3 true h4 (fun k6 =>
 Qo (Qls a0) fun x9 =>
 Qo (Qgtr x9 (.int .i64 10)) fun x10 =>
 k6 x10 h4) fun x7 h8 =>
 Qsp x7 false h8 (fun k11 =>
 Qo (Qls a0) fun x14 =>
 Qo (Qgtr x14 (.int .i64 1)) fun x15 =>
 k11 x15 h8) fun x12 h13 =>
 q73_0p1 cf R x12 h13 a0 x7 x3 x1 a1
theorem qe73_0 : q73_0 = t73_0 := by
  unfold q73_0 q73_0p1 q73_0p2
  try simp only [QE]
  try rfl
noncomputable def q73_1p1 (cf : CallF) (R : Rec) (x40 : IV) (x43 : IV) (a1 : IV) (h38 : H) (a8 : IV) (a0 : IV) : CRes :=
 Qo (Qadd x40 x43) fun x44 =>
 Qo (Qgtr x44 a1) fun x45 =>
 Qif x45
 (.ok (.int .i64 (-1)) h38)
 (Qo (Qadd a8 (.int .i64 1)) fun x46 =>
 R 1 [a0, a1, x44, x46] h38)
noncomputable def q73_1 (cf : CallF) (R : Rec) (a0 : IV) (a1 : IV) (a7 : IV) (a8 : IV) (h : H) : CRes :=
 Qo (Qls a0) fun x34 =>
 Qo (Qlss a8 x34) fun x35 =>
 Qif x35
 (Qo (Qis a0 a8) fun x36 =>
 Qc (cf 54 [x36] h) .pan fun x37 h38 =>
 Qo (Qnot x37) fun x39 =>
 Qif x39
 (.ok (.int .i64 (-1)) h38)
 (Qo (binN .mul (.int .i64 10) a7) fun x40 =>
 Qo (Qis a0 a8) fun x41 =>
 Qo (Qsub x41 (.int .u8 48)) fun x42 =>
 Qo (cvN .i64 x42) fun x43 =>
 q73_1p1 cf R x40 x43 a1 h38 a8 a0))
 (.ok a7 h)
theorem qe73_1 : q73_1 = t73_1 := by
  unfold q73_1 q73_1p1
  try simp only [QE]
  try rfl
noncomputable def bt73 (cf : CallF) (R : Rec) : Rec := fun i l h =>
 br3 i 0 l (fun a0 a1 a2 => t73_0 cf R a0 a1 a2 h) <|
 br4 i 1 l (fun a0 a1 a7 a8 => t73_1 cf R a0 a1 a7 a8 h) <|
 .fail
noncomputable def b73 (cf : CallF) (R : Rec) : Rec := fun i l h =>
 brQ3 i 0 l (fun a0 a1 a2 => q73_0 cf R a0 a1 a2 h) <|
 brQ4 i 1 l (fun a0 a1 a7 a8 => q73_1 cf R a0 a1 a7 a8 h) <|
 .fail
theorem be73 : b73 = bt73 := by
  unfold b73 bt73
  simp only [qe73_0, qe73_1, brQ3_eq, brQ4_eq]
theorem r73 {T : Tab} {cf : CallF} (hc : leC cf (CL T)) (n : Nat) : leR (recN (b73 cf) n) (J73 T) := be73 ▸ recN_le (fun R hR i l h => by
  unfold bt73
  refine le_br3 (J := fun i l => J73 T i l h) (fun _ a0 a1 a2 => le_e (fun hn => e73_0 rfl hn) ((m73 hc hR).1 a0 a1 a2 h)) ?_
  refine le_br4 (J := fun i l => J73 T i l h) (fun _ a0 a1 a7 a8 => le_e (fun hn => e73_1 rfl hn) ((m73 hc hR).2 a0 a1 a7 a8 h)) ?_
  exact le_fail _) n
-- 75
theorem m75 {cf cf' : CallF} {R R' : Rec} (hc : ∀ f l h, le (cf f l h) (cf' f l h)) (hR : ∀ i l h, le (R i l h) (R' i l h)) :
  (∀ (a0 a1 : IV) (h : H), le (t75_0 cf R a0 a1 h) (t75_0 cf' R' a0 a1 h)) ∧
  (∀ (a0 a1 a6 a7 : IV) (h : H), le (t75_1 cf R a0 a1 a6 a7 h) (t75_1 cf' R' a0 a1 a6 a7 h)) ∧
  (∀ (a0 a1 a6 a7 a8 : IV) (h : H), le (t75_2 cf R a0 a1 a6 a7 a8 h) (t75_2 cf' R' a0 a1 a6 a7 a8 h)) := by
  refine ⟨?_, ?_, ?_⟩
  all_goals intros
  all_goals first | unfold t75_0 | unfold t75_1 | unfold t75_2
  all_goals
  with_reducible repeat' first
    | refine le_obind fun _ => ?_
    | refine le_callP ?_ (fun _ _ => ?_) (fun _ _ => ?_)
    | refine le_condK ?_ ?_
    | exact hR _ _ _
    | refine le_obind2 fun _ _ => ?_
    | refine le_obindH fun _ => ?_
    | refine le_spanK (fun _ _ _ => ?_) (fun _ _ => ?_)
    | exact hc _ _ _
    | refine le_bif ?_ ?_
    | refine le_guardK ?_ ?_ ?_
    | refine le_mapK fun _ _ => ?_
    | refine le_panK fun _ _ => ?_
    | refine le_funK fun _ _ => ?_
    | exact le_refl _
    | apply_assumption
noncomputable def q75_0 (cf : CallF) (R : Rec) (a0 : IV) (a1 : IV) (h : H) : CRes :=
 Qo (Qse a1 (.str ⟨0, 0⟩)) fun x1 =>
 Qif x1
 (.ok (.str ⟨0, 0⟩) h)
 (Qo (Qeql a0 (.int .u8 100)) fun x2 =>
 Qif x2
 (Qc (cf 73 [a1, (.int .i64 2147483647), (.bool true)] h) .pan fun x3 h4 =>
 Qo (Qlss x3 (.int .i64 0)) fun x5 =>
 Qif x5
 (.ok (.str ⟨0, 0⟩) h4)
 (Qc (cf 74 [x3, (.int .i64 31)] h4) .pan fun x6 h7 =>
 .ok x6 h7))
 (R 1 [a0, a1, .nilSlice, (.int .i64 0)] h))
theorem qe75_0 : q75_0 = t75_0 := by
  unfold q75_0
  try simp only [QE]
  try rfl
noncomputable def q75_1p2 (cf : CallF) (R : Rec) (x33 : IV) (h30 : H) (a7 : IV) (a1 : IV) (a0 : IV) (a6 : IV) : CRes :=
 Qif x33
 (.ok (.str ⟨0, 0⟩) h30)
 (Qo (Qadd a7 (.int .i64 1)) fun x34 =>
 Qo (slcStr a1 (some a7) (some x34)) fun x35 =>
 R 2 [a0, a1, a6, a7, x35] h30)
noncomputable def q75_1p1 (cf : CallF) (R : Rec) (x21 : IV) (h18 : H) (a1 : IV) (a7 : IV) (a0 : IV) (a6 : IV) : CRes :=
 Qsp x21 true h18 (fun k22 =>
 Qo (Qis a1 a7) fun x25 =>
 Qo (Qneq x25 (.int .u8 120)) fun x26 =>
 k22 x26 h18) fun x23 h24 =>
 Qo (Qpk x21 (some x23) (some (.bool false))) fun x27 =>
 Qsp x27 true h24 (fun k28 =>
 Qo (Qis a1 a7) fun x31 =>
 Qo (Qneq x31 (.int .u8 122)) fun x32 =>
 k28 x32 h24) fun x29 h30 =>
 Qo (Qpk x27 (some x29) (some (.bool false))) fun x33 =>
 q75_1p2 cf R x33 h30 a7 a1 a0 a6
noncomputable def q75_1 (cf : CallF) (R : Rec) (a0 : IV) (a1 : IV) (a6 : IV) (a7 : IV) (h : H) : CRes :=
 Qo (Qls a1) fun x8 =>
 Qo (Qlss a7 x8) fun x9 =>
 Qif x9
 (Qo (Qis a1 a7) fun x10 =>
 Qc (cf 96 [x10] h) .pan fun x11 h12 =>
 Qo (Qeql a0 (.int .u8 98)) fun x13 =>
 Qif x13
 (Qo (Qis a1 a7) fun x14 =>
 Qo (Qneq x14 (.int .u8 48)) fun x15 =>
 Qsp x15 true h12 (fun k16 =>
 Qo (Qis a1 a7) fun x19 =>
 Qo (Qneq x19 (.int .u8 49)) fun x20 =>
 k16 x20 h12) fun x17 h18 =>
 Qo (Qpk x15 (some x17) (some (.bool false))) fun x21 =>
 q75_1p1 cf R x21 h18 a1 a7 a0 a6)
 (R 2 [a0, a1, a6, a7, x11] h12))
 (Qo (cvS h a6) fun x36 =>
 .ok x36 h)
theorem qe75_1 : q75_1 = t75_1 := by
  unfold q75_1 q75_1p1 q75_1p2
  try simp only [QE]
  try rfl
noncomputable def q75_2p1 (cf : CallF) (R : Rec) (x37 : IV) (x47 : IV) (h48 : H) (a6 : IV) (a8 : IV) (a7 : IV) (a0 : IV) (a1 : IV) : CRes :=
 Qo (Qpk x37 (some (.bool true)) (some x47)) fun x50 =>
 Qif x50
 (.ok (.str ⟨0, 0⟩) h48)
 (Qo2 (appK 1 1 h48 a6 a8) fun x51 h52 =>
 Qo (Qadd a7 (.int .i64 1)) fun x53 =>
 R 1 [a0, a1, x51, x53] h52)
noncomputable def q75_2 (cf : CallF) (R : Rec) (a0 : IV) (a1 : IV) (a6 : IV) (a7 : IV) (a8 : IV) (h : H) : CRes :=
 Qo (Qse a8 (.str ⟨0, 0⟩)) fun x37 =>
 Qsp x37 false h (fun k38 =>
 Qo (Qneq a0 (.int .u8 98)) fun x41 =>
 k38 x41 h) fun x39 h40 =>
 Qsp x39 true h40 (fun k42 =>
 Qo (Qneq a0 (.int .u8 104)) fun x45 =>
 k42 x45 h40) fun x43 h44 =>
 Qsp x37 false h44 (fun k46 =>
 Qo (Qpk x39 (some x43) (some (.bool false))) fun x49 =>
 k46 x49 h44) fun x47 h48 =>
 q75_2p1 cf R x37 x47 h48 a6 a8 a7 a0 a1
theorem qe75_2 : q75_2 = t75_2 := by
  unfold q75_2 q75_2p1
  try simp only [QE]
  try rfl
noncomputable def bt75 (cf : CallF) (R : Rec) : Rec := fun i l h =>
 br2 i 0 l (fun a0 a1 => t75_0 cf R a0 a1 h) <|
 br4 i 1 l (fun a0 a1 a6 a7 => t75_1 cf R a0 a1 a6 a7 h) <|
 br5 i 2 l (fun a0 a1 a6 a7 a8 => t75_2 cf R a0 a1 a6 a7 a8 h) <|
 .fail
noncomputable def b75 (cf : CallF) (R : Rec) : Rec := fun i l h =>
 brQ2 i 0 l (fun a0 a1 => q75_0 cf R a0 a1 h) <|
 brQ4 i 1 l (fun a0 a1 a6 a7 => q75_1 cf R a0 a1 a6 a7 h) <|
 brQ5 i 2 l (fun a0 a1 a6 a7 a8 => q75_2 cf R a0 a1 a6 a7 a8 h) <|
 .fail
theorem be75 : b75 = bt75 := by
  unfold b75 bt75
  simp only [qe75_0, qe75_1, qe75_2, brQ2_eq, brQ4_eq, brQ5_eq]
theorem r75 {T : Tab} {cf : CallF} (hc : leC cf (CL T)) (n : Nat) : leR (recN (b75 cf) n) (J75 T) := be75 ▸ recN_le (fun R hR i l h => by
  unfold bt75
  refine le_br2 (J := fun i l => J75 T i l h) (fun _ a0 a1 => le_e (fun hn => e75_0 rfl hn) ((m75 hc hR).1 a0 a1 h)) ?_
  refine le_br4 (J := fun i l => J75 T i l h) (fun _ a0 a1 a6 a7 => le_e (fun hn => e75_1 rfl hn) ((m75 hc hR).2.1 a0 a1 a6 a7 h)) ?_
  refine le_br5 (J := fun i l => J75 T i l h) (fun _ a0 a1 a6 a7 a8 => le_e (fun hn => e75_2 rfl hn) ((m75 hc hR).2.2 a0 a1 a6 a7 a8 h)) ?_
  exact le_fail _) n
-- 78
theorem m78 {cf cf' : CallF} {R R' : Rec} (hc : ∀ f l h, le (cf f l h) (cf' f l h)) (hR : ∀ i l h, le (R i l h) (R' i l h)) : (∀ (a0 a1 : IV) (h : H), le (t78_0 cf R a0 a1 h) (t78_0 cf' R' a0 a1 h)) := by
  intros
  unfold t78_0
  with_reducible repeat' first
    | refine le_obind fun _ => ?_
    | refine le_callP ?_ (fun _ _ => ?_) (fun _ _ => ?_)
    | refine le_condK ?_ ?_
    | exact hR _ _ _
    | refine le_obind2 fun _ _ => ?_
    | refine le_obindH fun _ => ?_
    | refine le_spanK (fun _ _ _ => ?_) (fun _ _ => ?_)
    | exact hc _ _ _
    | refine le_bif ?_ ?_
    | refine le_guardK ?_ ?_ ?_
    | refine le_mapK fun _ _ => ?_
    | refine le_panK fun _ _ => ?_
    | refine le_funK fun _ _ => ?_
    | exact le_refl _
    | apply_assumption
noncomputable def q78_0p1 (cf : CallF) (R : Rec) (a0 : IV) (x5 : IV) (h6 : H) (a1 : IV) (x3 : IV) : CRes :=
 Qc (cf 17 [a0, x5] h6) .pan fun x7 h8 =>
 Qsp x7 false h8 (fun k9 =>
 k9 a1 h8) fun x10 h11 =>
 Qsp x10 true h11 (fun k12 =>
 Qc (cf 80 [x3] h11) .pan fun x15 h16 =>
 Qo (Qgtr x15 (.int .i64 0)) fun x17 =>
 k12 x17 h16) fun x13 h14 =>
 Qsp x7 false h14 (fun k18 =>
 Qo (Qpk x10 (some x13) (some (.bool false))) fun x21 =>
 k18 x21 h14) fun x19 h20 =>
 Qo (Qpk x7 (some (.bool true)) (some x19)) fun x22 =>
 .ok x22 h20
noncomputable def q78_0 (cf : CallF) (R : Rec) (a0 : IV) (a1 : IV) (h : H) : CRes :=
 Qc (cf 36 [a0] h) .pan fun x1 h2 =>
 Qo (Qext x1 0) fun x3 =>
 Qo (Qext x1 1) fun x4 =>
 Qo2 (Qbsl false 1 [(.str ⟨0, 0⟩)] 4 [(0, (.str ⟨5, 435626798624⟩)), (1, (.str ⟨7, 32199620762627616⟩)), (2, (.str ⟨1, 40⟩)), (3, (.str ⟨1, 123⟩))] h2) fun x5 h6 =>
 q78_0p1 cf R a0 x5 h6 a1 x3
theorem qe78_0 : q78_0 = t78_0 := by
  unfold q78_0 q78_0p1
  try simp only [QE]
  try rfl
noncomputable def bt78 (cf : CallF) (R : Rec) : Rec := fun i l h =>
 br2 i 0 l (fun a0 a1 => t78_0 cf R a0 a1 h) <|
 .fail
noncomputable def b78 (cf : CallF) (R : Rec) : Rec := fun i l h =>
 brQ2 i 0 l (fun a0 a1 => q78_0 cf R a0 a1 h) <|
 .fail
theorem be78 : b78 = bt78 := by
  unfold b78 bt78
  simp only [qe78_0, brQ2_eq]
theorem r78 {T : Tab} {cf : CallF} (hc : leC cf (CL T)) (n : Nat) : leR (recN (b78 cf) n) (J78 T) := be78 ▸ recN_le (fun R hR i l h => by
  unfold bt78
  refine le_br2 (J := fun i l => J78 T i l h) (fun _ a0 a1 => le_e (fun hn => e78_0 rfl hn) ((m78 hc hR) a0 a1 h)) ?_
  exact le_fail _) n
-- 79
theorem m79 {cf cf' : CallF} {R R' : Rec} (hc : ∀ f l h, le (cf f l h) (cf' f l h)) (hR : ∀ i l h, le (R i l h) (R' i l h)) : (∀ (a0 : IV) (h : H), le (t79_0 cf R a0 h) (t79_0 cf' R' a0 h)) := by
  intros
  unfold t79_0
  with_reducible repeat' first
    | refine le_obind fun _ => ?_
    | refine le_callP ?_ (fun _ _ => ?_) (fun _ _ => ?_)
    | refine le_condK ?_ ?_
    | exact hR _ _ _
    | refine le_obind2 fun _ _ => ?_
    | refine le_obindH fun _ => ?_
    | refine le_spanK (fun _ _ _ => ?_) (fun _ _ => ?_)
    | exact hc _ _ _
    | refine le_bif ?_ ?_
    | refine le_guardK ?_ ?_ ?_
    | refine le_mapK fun _ _ => ?_
    | refine le_panK fun _ _ => ?_
    | refine le_funK fun _ _ => ?_
    | exact le_refl _
    | apply_assumption
noncomputable def q79_0 (cf : CallF) (R : Rec) (a0 : IV) (h : H) : CRes :=
 Qo (Qse a0 (.str ⟨2, 31868⟩)) fun x1 =>
 Qif x1
 (.ok (.tup [(.int .i64 1), (.int .i64 27)]) h)
 (Qo (Qse a0 (.str ⟨2, 9766⟩)) fun x2 =>
 Qif x2
 (.ok (.tup [(.int .i64 2), (.int .i64 26)]) h)
 (Qo (Qse a0 (.str ⟨1, 124⟩)) fun x3 =>
 Qif x3
 (.ok (.tup [(.int .i64 3), (.int .i64 25)]) h)
 (Qo (Qse a0 (.str ⟨1, 94⟩)) fun x4 =>
 Qif x4
 (.ok (.tup [(.int .i64 4), (.int .i64 24)]) h)
 (Qo (Qse a0 (.str ⟨1, 38⟩)) fun x5 =>
 Qif x5
 (.ok (.tup [(.int .i64 5), (.int .i64 23)]) h)
 (Qo (Qse a0 (.str ⟨2, 15677⟩)) fun x6 =>
 Qif x6
 (.ok (.tup [(.int .i64 6), (.int .i64 21)]) h)
 (Qo (Qse a0 (.str ⟨2, 15649⟩)) fun x7 =>
 Qif x7
 (.ok (.tup [(.int .i64 6), (.int .i64 22)]) h)
 (Qo (Qse a0 (.str ⟨1, 60⟩)) fun x8 =>
 Qif x8
 (.ok (.tup [(.int .i64 7), (.int .i64 17)]) h)
 (Qo (Qse a0 (.str ⟨2, 15676⟩)) fun x9 =>
 Qif x9
 (.ok (.tup [(.int .i64 7), (.int .i64 18)]) h)
 (Qo (Qse a0 (.str ⟨1, 62⟩)) fun x10 =>
 Qif x10
 (.ok (.tup [(.int .i64 7), (.int .i64 19)]) h)
 (Qo (Qse a0 (.str ⟨2, 15678⟩)) fun x11 =>
 Qif x11
 (.ok (.tup [(.int .i64 7), (.int .i64 20)]) h)
 (Qo (Qse a0 (.str ⟨2, 15420⟩)) fun x12 =>
 Qif x12
 (.ok (.tup [(.int .i64 8), (.int .i64 15)]) h)
 (Qo (Qse a0 (.str ⟨2, 15934⟩)) fun x13 =>
 Qif x13
 (.ok (.tup [(.int .i64 8), (.int .i64 16)]) h)
 (Qo (Qse a0 (.str ⟨1, 43⟩)) fun x14 =>
 Qif x14
 (.ok (.tup [(.int .i64 9), (.int .i64 13)]) h)
 (Qo (Qse a0 (.str ⟨1, 45⟩)) fun x15 =>
 Qif x15
 (.ok (.tup [(.int .i64 9), (.int .i64 14)]) h)
 (.ok (.tup [(.int .i64 0), (.int .i64 0)]) h)))))))))))))))
theorem qe79_0 : q79_0 = t79_0 := by
  unfold q79_0
  try simp only [QE]
  try rfl
noncomputable def bt79 (cf : CallF) (R : Rec) : Rec := fun i l h =>
 br1 i 0 l (fun a0 => t79_0 cf R a0 h) <|
 .fail
noncomputable def b79 (cf : CallF) (R : Rec) : Rec := fun i l h =>
 brQ1 i 0 l (fun a0 => q79_0 cf R a0 h) <|
 .fail
theorem be79 : b79 = bt79 := by
  unfold b79 bt79
  simp only [qe79_0, brQ1_eq]
theorem r79 {T : Tab} {cf : CallF} (hc : leC cf (CL T)) (n : Nat) : leR (recN (b79 cf) n) (J79 T) := be79 ▸ recN_le (fun R hR i l h => by
  unfold bt79
  refine le_br1 (J := fun i l => J79 T i l h) (fun _ a0 => le_e (fun hn => e79_0 rfl hn) ((m79 hc hR) a0 h)) ?_
  exact le_fail _) n
-- 80
theorem m80 {cf cf' : CallF} {R R' : Rec} (hc : ∀ f l h, le (cf f l h) (cf' f l h)) (hR : ∀ i l h, le (R i l h) (R' i l h)) : (∀ (a0 : IV) (h : H), le (t80_0 cf R a0 h) (t80_0 cf' R' a0 h)) := by
  intros
  unfold t80_0
  with_reducible repeat' first
    | refine le_obind fun _ => ?_
    | refine le_callP ?_ (fun _ _ => ?_) (fun _ _ => ?_)
    | refine le_condK ?_ ?_
    | exact hR _ _ _
    | refine le_obind2 fun _ _ => ?_
    | refine le_obindH fun _ => ?_
    | refine le_spanK (fun _ _ _ => ?_) (fun _ _ => ?_)
    | exact hc _ _ _
    | refine le_bif ?_ ?_
    | refine le_guardK ?_ ?_ ?_
    | refine le_mapK fun _ _ => ?_
    | refine le_panK fun _ _ => ?_
    | refine le_funK fun _ _ => ?_
    | exact le_refl _
    | apply_assumption
noncomputable def q80_0 (cf : CallF) (R : Rec) (a0 : IV) (h : H) : CRes :=
 Qo (Qse a0 (.str ⟨1, 126⟩)) fun x1 =>
 Qif x1
 (.ok (.int .i64 7) h)
 (Qo (Qse a0 (.str ⟨1, 33⟩)) fun x2 =>
 Qif x2
 (.ok (.int .i64 8) h)
 (Qo (Qse a0 (.str ⟨1, 45⟩)) fun x3 =>
 Qif x3
 (.ok (.int .i64 9) h)
 (Qo (Qse a0 (.str ⟨1, 38⟩)) fun x4 =>
 Qif x4
 (.ok (.int .i64 10) h)
 (Qo (Qse a0 (.str ⟨1, 124⟩)) fun x5 =>
 Qif x5
 (.ok (.int .i64 11) h)
 (Qo (Qse a0 (.str ⟨1, 94⟩)) fun x6 =>
 Qif x6
 (.ok (.int .i64 12) h)
 (.ok (.int .i64 0) h))))))
theorem qe80_0 : q80_0 = t80_0 := by
  unfold q80_0
  try simp only [QE]
  try rfl
noncomputable def bt80 (cf : CallF) (R : Rec) : Rec := fun i l h =>
 br1 i 0 l (fun a0 => t80_0 cf R a0 h) <|
 .fail
noncomputable def b80 (cf : CallF) (R : Rec) : Rec := fun i l h =>
 brQ1 i 0 l (fun a0 => q80_0 cf R a0 h) <|
 .fail
theorem be80 : b80 = bt80 := by
  unfold b80 bt80
  simp only [qe80_0, brQ1_eq]
theorem r80 {T : Tab} {cf : CallF} (hc : leC cf (CL T)) (n : Nat) : leR (recN (b80 cf) n) (J80 T) := be80 ▸ recN_le (fun R hR i l h => by
  unfold bt80
  refine le_br1 (J := fun i l => J80 T i l h) (fun _ a0 => le_e (fun hn => e80_0 rfl hn) ((m80 hc hR) a0 h)) ?_
  exact le_fail _) n
-- 81
theorem m81 {cf cf' : CallF} {R R' : Rec} (hc : ∀ f l h, le (cf f l h) (cf' f l h)) (hR : ∀ i l h, le (R i l h) (R' i l h)) :
  (∀ (a0 a1 : IV) (h : H), le (t81_0 cf R a0 a1 h) (t81_0 cf' R' a0 a1 h)) ∧
  (∀ (a0 a1 a4 a12 a13 : IV) (h : H), le (t81_1 cf R a0 a1 a4 a12 a13 h) (t81_1 cf' R' a0 a1 a4 a12 a13 h)) ∧
  (∀ (a4 a14 : IV) (h : H), le (t81_2 cf R a4 a14 h) (t81_2 cf' R' a4 a14 h)) ∧
  (∀ (a0 a4 a14 : IV) (h : H), le (t81_3 cf R a0 a4 a14 h) (t81_3 cf' R' a0 a4 a14 h)) := by
  refine ⟨?_, ?_, ?_, ?_⟩
  all_goals intros
  all_goals first | unfold t81_0 | unfold t81_1 | unfold t81_2 | unfold t81_3
  all_goals
  with_reducible repeat' first
    | refine le_obind fun _ => ?_
    | refine le_callP ?_ (fun _ _ => ?_) (fun _ _ => ?_)
    | refine le_condK ?_ ?_
    | exact hR _ _ _
    | refine le_obind2 fun _ _ => ?_
    | refine le_obindH fun _ => ?_
    | refine le_spanK (fun _ _ _ => ?_) (fun _ _ => ?_)
    | exact hc _ _ _
    | refine le_bif ?_ ?_
    | refine le_guardK ?_ ?_ ?_
    | refine le_mapK fun _ _ => ?_
    | refine le_panK fun _ _ => ?_
    | refine le_funK fun _ _ => ?_
    | exact le_refl _
    | apply_assumption
noncomputable def q81_0p2 (cf : CallF) (R : Rec) (x13 : IV) (x14 : IV) (x3 : IV) (h12 : H) (x1 : IV) : CRes :=
 Qo (Qbld z0 p12 [(0, (.int .i64 1)), (2, x13), (3, x14), (5, x3)]) fun x16 =>
 QoH (QsA 6 h12 x1 x16) fun h17 =>
 Qo (QlA 6 h17 x1) fun x18 =>
 .ok x18 h17
noncomputable def q81_0p3 (cf : CallF) (R : Rec) (h26 : H) (a0 : IV) (x24 : IV) (x1 : IV) : CRes :=
 Qo2 (Qbsl false 1 [(.str ⟨0, 0⟩)] 1 [(0, (.str ⟨1, 41⟩))] h26) fun x27 h28 =>
 Qc (cf 38 [a0, x27] h28) .pan fun x29 h30 =>
 Qo (QlA 6 h30 x24) fun x31 =>
 QoH (QsA 6 h30 x1 x31) fun h32 =>
 Qo (QlA 6 h32 x1) fun x33 =>
 .ok x33 h32
noncomputable def q81_0p7 (cf : CallF) (R : Rec) (h66 : H) (x59 : IV) (x60 : IV) (x65 : IV) (x43 : IV) (a0 : IV) (x1 : IV) : CRes :=
 Qo (Ql0 h66 x59) fun x67 =>
 bif IV.beq x67 x60 then
 Qo2 (Qbsl false 6 z0 1 [(0, x65)] h66) fun x68 h69 =>
 Qo (Ql0 h69 x59) fun x70 =>
 bif IV.beq x70 x60 then
 Qo2 (appK 6 80 h69 x60 x68) fun x71 h72 =>
 Qo (Qfad 0 x43) fun x73 =>
 QoH (QsA 1 h72 x73 (.int .i64 4)) fun h74 =>
 Qo (Qfad 4 x43) fun x75 =>
 QoH (QsA 1 h74 x75 x71) fun h76 =>
 R 3 [a0, x1, x43] h76
 else .fail
 else .fail
noncomputable def q81_0p6 (cf : CallF) (R : Rec) (x57 : IV) (x43 : IV) (h58 : H) (a1 : IV) (a0 : IV) (x1 : IV) : CRes :=
 Qif x57
 (Qo (Qfad 4 x43) fun x59 =>
 Qo (Ql0 h58 x59) fun x60 =>
 Qo (Qadd a1 (.int .i64 1)) fun x61 =>
 Qc (cf 41 [a0, x61] h58) (fun v62 h63 =>
 Qo (Qfad 0 x43) fun x64 =>
 .pan v62 h63) fun x65 h66 =>
 q81_0p7 cf R h66 x59 x60 x65 x43 a0 x1)
 (R 3 [a0, x1, x43] h58)
noncomputable def q81_0p5 (cf : CallF) (R : Rec) (h52 : H) (x53 : IV) (x43 : IV) (x51 : IV) (a0 : IV) (a1 : IV) (x1 : IV) : CRes :=
 QoH (QsA 1 h52 x53 (.int .i64 3)) fun h54 =>
 Qo (Qfad 4 x43) fun x55 =>
 QoH (QsA 1 h54 x55 x51) fun h56 =>
 Qc (cf 40 [a0, (.str ⟨1, 58⟩)] h56) .pan fun x57 h58 =>
 q81_0p6 cf R x57 x43 h58 a1 a0 x1
noncomputable def q81_0p4 (cf : CallF) (R : Rec) (a0 : IV) (h45 : H) (a1 : IV) (x43 : IV) (x1 : IV) : CRes :=
 Qc (cf 40 [a0, (.str ⟨1, 91⟩)] h45) .pan fun x46 h47 =>
 Qif x46
 (Qo (Qadd a1 (.int .i64 1)) fun x48 =>
 Qc (cf 41 [a0, x48] h47) .pan fun x49 h50 =>
 Qo2 (Qbsl false 6 z0 1 [(0, x49)] h50) fun x51 h52 =>
 Qo (Qfad 0 x43) fun x53 =>
 q81_0p5 cf R h52 x53 x43 x51 a0 a1 x1)
 (R 2 [x1, x43] h47)
noncomputable def q81_0p1 (cf : CallF) (R : Rec) (x5 : IV) (a0 : IV) (h6 : H) (x3 : IV) (x1 : IV) (a1 : IV) : CRes :=
 Qo (Qext x5 1) fun x8 =>
 Qc (cf 40 [a0, (.str ⟨7, 32199620762627616⟩)] h6) .pan fun x9 h10 =>
 Qif x9
 (Qc (cf 97 [x8] h10) .pan fun x11 h12 =>
 Qo (Qext x11 0) fun x13 =>
 Qo (Qext x11 1) fun x14 =>
 Qo (Qext x11 2) fun x15 =>
 q81_0p2 cf R x13 x14 x3 h12 x1)
 (Qc (cf 40 [a0, (.str ⟨1, 40⟩)] h10) .pan fun x19 h20 =>
 Qif x19
 (Qo (Qadd a1 (.int .i64 1)) fun x21 =>
 Qc (cf 41 [a0, x21] h20) .pan fun x22 h23 =>
 Qo2 (QnI h23 z0) fun x24 h25 =>
 QoH (QsA 6 h25 x24 x22) fun h26 =>
 q81_0p3 cf R h26 a0 x24 x1)
 (Qc (cf 40 [a0, (.str ⟨1, 123⟩)] h20) .pan fun x34 h35 =>
 Qif x34
 (Qo (Qbld z0 p12 [(0, (.int .i64 5)), (5, x3)]) fun x36 =>
 Qo2 (QnI h35 z0) fun x37 h38 =>
 QoH (QsA 6 h38 x37 x36) fun h39 =>
 R 1 [a0, a1, x1, x37, (.bool true)] h39)
 (Qc (cf 39 [a0] h35) .pan fun x40 h41 =>
 Qo (Qbld z0 p12 [(0, (.int .i64 2)), (1, x40), (5, x3)]) fun x42 =>
 Qo2 (QnI h41 z0) fun x43 h44 =>
 QoH (QsA 6 h44 x43 x42) fun h45 =>
 q81_0p4 cf R a0 h45 a1 x43 x1)))
noncomputable def q81_0 (cf : CallF) (R : Rec) (a0 : IV) (a1 : IV) (h : H) : CRes :=
 Qo2 (QnI h z0) fun x1 h2 =>
 Qc (cf 37 [a0] h2) .pan fun x3 h4 =>
 Qc (cf 36 [a0] h4) .pan fun x5 h6 =>
 Qo (Qext x5 0) fun x7 =>
 q81_0p1 cf R x5 a0 h6 x3 x1 a1
theorem qe81_0 : q81_0 = t81_0 := by
  unfold q81_0 q81_0p1 q81_0p4 q81_0p5 q81_0p6 q81_0p7 q81_0p3 q81_0p2
  try simp only [QE]
  try rfl
noncomputable def q81_1p1 (cf : CallF) (R : Rec) (h83 : H) (x77 : IV) (x78 : IV) (x82 : IV) (a12 : IV) (a0 : IV) (a1 : IV) (a4 : IV) : CRes :=
 Qo (Ql0 h83 x77) fun x84 =>
 bif IV.beq x84 x78 then
 Qo2 (Qbsl false 6 z0 1 [(0, x82)] h83) fun x85 h86 =>
 Qo (Ql0 h86 x77) fun x87 =>
 bif IV.beq x87 x78 then
 Qo2 (appK 6 80 h86 x78 x85) fun x88 h89 =>
 Qo (Qfad 4 a12) fun x90 =>
 QoH (QsA 1 h89 x90 x88) fun h91 =>
 Qc (cf 40 [a0, (.str ⟨1, 44⟩)] h91) .pan fun x92 h93 =>
 R 1 [a0, a1, a4, a12, x92] h93
 else .fail
 else .fail
noncomputable def q81_1 (cf : CallF) (R : Rec) (a0 : IV) (a1 : IV) (a4 : IV) (a12 : IV) (a13 : IV) (h : H) : CRes :=
 Qif a13
 (Qo (Qfad 4 a12) fun x77 =>
 Qo (Ql0 h x77) fun x78 =>
 Qo (Qadd a1 (.int .i64 1)) fun x79 =>
 Qc (cf 41 [a0, x79] h) (fun v80 h81 =>
 .pan v80 h81) fun x82 h83 =>
 q81_1p1 cf R h83 x77 x78 x82 a12 a0 a1 a4)
 (Qo2 (Qbsl false 1 [(.str ⟨0, 0⟩)] 1 [(0, (.str ⟨1, 125⟩))] h) fun x94 h95 =>
 Qc (cf 38 [a0, x94] h95) .pan fun x96 h97 =>
 Qo (QlA 6 h97 a12) fun x98 =>
 QoH (QsA 6 h97 a4 x98) fun h99 =>
 Qo (QlA 6 h99 a4) fun x100 =>
 .ok x100 h99)
theorem qe81_1 : q81_1 = t81_1 := by
  unfold q81_1 q81_1p1
  try simp only [QE]
  try rfl
noncomputable def q81_2 (cf : CallF) (R : Rec) (a4 : IV) (a14 : IV) (h : H) : CRes :=
 Qo (QlA 6 h a14) fun x101 =>
 QoH (QsA 6 h a4 x101) fun h102 =>
 Qo (QlA 6 h102 a4) fun x103 =>
 .ok x103 h102
theorem qe81_2 : q81_2 = t81_2 := by
  unfold q81_2
  try simp only [QE]
  try rfl
noncomputable def q81_3 (cf : CallF) (R : Rec) (a0 : IV) (a4 : IV) (a14 : IV) (h : H) : CRes :=
 Qo2 (Qbsl false 1 [(.str ⟨0, 0⟩)] 1 [(0, (.str ⟨1, 93⟩))] h) fun x104 h105 =>
 Qc (cf 38 [a0, x104] h105) .pan fun x106 h107 =>
 R 2 [a4, a14] h107
theorem qe81_3 : q81_3 = t81_3 := by
  unfold q81_3
  try simp only [QE]
  try rfl
noncomputable def bt81 (cf : CallF) (R : Rec) : Rec := fun i l h =>
 br2 i 0 l (fun a0 a1 => t81_0 cf R a0 a1 h) <|
 br5 i 1 l (fun a0 a1 a4 a12 a13 => t81_1 cf R a0 a1 a4 a12 a13 h) <|
 br2 i 2 l (fun a4 a14 => t81_2 cf R a4 a14 h) <|
 br3 i 3 l (fun a0 a4 a14 => t81_3 cf R a0 a4 a14 h) <|
 .fail
noncomputable def b81 (cf : CallF) (R : Rec) : Rec := fun i l h =>
 brQ2 i 0 l (fun a0 a1 => q81_0 cf R a0 a1 h) <|
 brQ5 i 1 l (fun a0 a1 a4 a12 a13 => q81_1 cf R a0 a1 a4 a12 a13 h) <|
 brQ2 i 2 l (fun a4 a14 => q81_2 cf R a4 a14 h) <|
 brQ3 i 3 l (fun a0 a4 a14 => q81_3 cf R a0 a4 a14 h) <|
 .fail
theorem be81 : b81 = bt81 := by
  unfold b81 bt81
  simp only [qe81_0, qe81_1, qe81_2, qe81_3, brQ2_eq, brQ3_eq, brQ5_eq]
theorem r81 {T : Tab} {cf : CallF} (hc : leC cf (CL T)) (n : Nat) : leR (recN (b81 cf) n) (J81 T) := be81 ▸ recN_le (fun R hR i l h => by
  unfold bt81
  refine le_br2 (J := fun i l => J81 T i l h) (fun _ a0 a1 => le_e (fun hn => e81_0 rfl hn) ((m81 hc hR).1 a0 a1 h)) ?_
  refine le_br5 (J := fun i l => J81 T i l h) (fun _ a0 a1 a4 a12 a13 => le_e (fun hn => e81_1 rfl hn) ((m81 hc hR).2.1 a0 a1 a4 a12 a13 h)) ?_
  refine le_br2 (J := fun i l => J81 T i l h) (fun _ a4 a14 => le_e (fun hn => e81_2 rfl hn) ((m81 hc hR).2.2.1 a4 a14 h)) ?_
  refine le_br3 (J := fun i l => J81 T i l h) (fun _ a0 a4 a14 => le_e (fun hn => e81_3 rfl hn) ((m81 hc hR).2.2.2 a0 a4 a14 h)) ?_
  exact le_fail _) n
-- 82
theorem m82 {cf cf' : CallF} {R R' : Rec} (hc : ∀ f l h, le (cf f l h) (cf' f l h)) (hR : ∀ i l h, le (R i l h) (R' i l h)) :
  (∀ (a0 a1 : IV) (h : H), le (t82_0 cf R a0 a1 h) (t82_0 cf' R' a0 a1 h)) ∧
  (∀ (a0 a1 a4 : IV) (h : H), le (t82_1 cf R a0 a1 a4 h) (t82_1 cf' R' a0 a1 a4 h)) := by
  refine ⟨?_, ?_⟩
  all_goals intros
  all_goals first | unfold t82_0 | unfold t82_1
  all_goals
  with_reducible repeat' first
    | refine le_obind fun _ => ?_
    | refine le_callP ?_ (fun _ _ => ?_) (fun _ _ => ?_)
    | refine le_condK ?_ ?_
    | exact hR _ _ _
    | refine le_obind2 fun _ _ => ?_
    | refine le_obindH fun _ => ?_
    | refine le_spanK (fun _ _ _ => ?_) (fun _ _ => ?_)
    | exact hc _ _ _
    | refine le_bif ?_ ?_
    | refine le_guardK ?_ ?_ ?_
    | refine le_mapK fun _ _ => ?_
    | refine le_panK fun _ _ => ?_
    | refine le_funK fun _ _ => ?_
    | exact le_refl _
    | apply_assumption
noncomputable def q82_0p2 (cf : CallF) (R : Rec) (x9 : IV) (h8 : H) (x4 : IV) (a1 : IV) (x5 : IV) (a0 : IV) : CRes :=
 Qo (Qfad 4 x9) fun x10 =>
 QoH (QsA 6 h8 x10 x4) fun h11 =>
 Qo (Qnil a1) fun x12 =>
 Qo (Qfad 10 x12) fun x13 =>
 QoH (QsA 6 h11 x13 x5) fun h14 =>
 R 1 [a0, a1, (.bool true)] h14
noncomputable def q82_0p1 (cf : CallF) (R : Rec) (a1 : IV) (h2 : H) (x3 : IV) (x4 : IV) (x5 : IV) (a0 : IV) : CRes :=
 Qo (Qnil a1) fun x6 =>
 Qo (Qfad 3 x6) fun x7 =>
 QoH (QsA 1 h2 x7 x3) fun h8 =>
 Qo (Qnil a1) fun x9 =>
 q82_0p2 cf R x9 h8 x4 a1 x5 a0
noncomputable def q82_0 (cf : CallF) (R : Rec) (a0 : IV) (a1 : IV) (h : H) : CRes :=
 Qc (cf 65 [a0] h) .pan fun x1 h2 =>
 Qo (Qext x1 0) fun x3 =>
 Qo (Qext x1 1) fun x4 =>
 Qo (Qext x1 2) fun x5 =>
 q82_0p1 cf R a1 h2 x3 x4 x5 a0
theorem qe82_0 : q82_0 = t82_0 := by
  unfold q82_0 q82_0p1 q82_0p2
  try simp only [QE]
  try rfl
noncomputable def q82_1p1 (cf : CallF) (R : Rec) (h21 : H) (x16 : IV) (x17 : IV) (x20 : IV) (a1 : IV) (a0 : IV) : CRes :=
 Qo (Ql0 h21 x16) fun x22 =>
 bif IV.beq x22 x17 then
 Qo2 (Qbsl false 1 [(.str ⟨0, 0⟩)] 1 [(0, x20)] h21) fun x23 h24 =>
 Qo (Ql0 h24 x16) fun x25 =>
 bif IV.beq x25 x17 then
 Qo2 (appK 1 16 h24 x17 x23) fun x26 h27 =>
 Qo (Qnil a1) fun x28 =>
 Qo (Qfad 2 x28) fun x29 =>
 QoH (QsA 1 h27 x29 x26) fun h30 =>
 Qc (cf 40 [a0, (.str ⟨1, 44⟩)] h30) .pan fun x31 h32 =>
 R 1 [a0, a1, x31] h32
 else .fail
 else .fail
noncomputable def q82_1 (cf : CallF) (R : Rec) (a0 : IV) (a1 : IV) (a4 : IV) (h : H) : CRes :=
 Qif a4
 (Qo (Qnil a1) fun x15 =>
 Qo (Qfad 2 x15) fun x16 =>
 Qo (Ql0 h x16) fun x17 =>
 Qc (cf 39 [a0] h) (fun v18 h19 =>
 .pan v18 h19) fun x20 h21 =>
 q82_1p1 cf R h21 x16 x17 x20 a1 a0)
 (Qo2 (Qbsl false 1 [(.str ⟨0, 0⟩)] 1 [(0, (.str ⟨1, 59⟩))] h) fun x33 h34 =>
 Qc (cf 38 [a0, x33] h34) .pan fun x35 h36 =>
 .ok (.tup []) h36)
theorem qe82_1 : q82_1 = t82_1 := by
  unfold q82_1 q82_1p1
  try simp only [QE]
  try rfl
noncomputable def bt82 (cf : CallF) (R : Rec) : Rec := fun i l h =>
 br2 i 0 l (fun a0 a1 => t82_0 cf R a0 a1 h) <|
 br3 i 1 l (fun a0 a1 a4 => t82_1 cf R a0 a1 a4 h) <|
 .fail
noncomputable def b82 (cf : CallF) (R : Rec) : Rec := fun i l h =>
 brQ2 i 0 l (fun a0 a1 => q82_0 cf R a0 a1 h) <|
 brQ3 i 1 l (fun a0 a1 a4 => q82_1 cf R a0 a1 a4 h) <|
 .fail
theorem be82 : b82 = bt82 := by
  unfold b82 bt82
  simp only [qe82_0, qe82_1, brQ2_eq, brQ3_eq]
theorem r82 {T : Tab} {cf : CallF} (hc : leC cf (CL T)) (n : Nat) : leR (recN (b82 cf) n) (J82 T) := be82 ▸ recN_le (fun R hR i l h => by
  unfold bt82
  refine le_br2 (J := fun i l => J82 T i l h) (fun _ a0 a1 => le_e (fun hn => e82_0 rfl hn) ((m82 hc hR).1 a0 a1 h)) ?_
  refine le_br3 (J := fun i l => J82 T i l h) (fun _ a0 a1 a4 => le_e (fun hn => e82_1 rfl hn) ((m82 hc hR).2 a0 a1 a4 h)) ?_
  exact le_fail _) n
-- 83
theorem m83 {cf cf' : CallF} {R R' : Rec} (hc : ∀ f l h, le (cf f l h) (cf' f l h)) (hR : ∀ i l h, le (R i l h) (R' i l h)) :
  (∀ (a0 a1 : IV) (h : H), le (t83_0 cf R a0 a1 h) (t83_0 cf' R' a0 a1 h)) ∧
  (∀ (a0 a1 : IV) (h : H), le (t83_1 cf R a0 a1 h) (t83_1 cf' R' a0 a1 h)) ∧
  (∀ (a0 a1 : IV) (h : H), le (t83_2 cf R a0 a1 h) (t83_2 cf' R' a0 a1 h)) := by
  refine ⟨?_, ?_, ?_⟩
  all_goals intros
  all_goals first | unfold t83_0 | unfold t83_1 | unfold t83_2
  all_goals
  with_reducible repeat' first
    | refine le_obind fun _ => ?_
    | refine le_callP ?_ (fun _ _ => ?_) (fun _ _ => ?_)
    | refine le_condK ?_ ?_
    | exact hR _ _ _
    | refine le_obind2 fun _ _ => ?_
    | refine le_obindH fun _ => ?_
    | refine le_spanK (fun _ _ _ => ?_) (fun _ _ => ?_)
    | exact hc _ _ _
    | refine le_bif ?_ ?_
    | refine le_guardK ?_ ?_ ?_
    | refine le_mapK fun _ _ => ?_
    | refine le_panK fun _ _ => ?_
    | refine le_funK fun _ _ => ?_
    | exact le_refl _
    | apply_assumption
noncomputable def q83_0p1 (cf : CallF) (R : Rec) (x4 : IV) (a0 : IV) (h5 : H) (a1 : IV) : CRes :=
 Qif x4
 (Qc (cf 78 [a0, (.bool false)] h5) .pan fun x6 h7 =>
 Qo (Qnot x6) fun x8 =>
 Qif x8
 (Qc (cf 61 [a0, (.int .i64 40)] h7) .pan fun x9 h10 =>
 R 2 [a0, a1] h10)
 (R 2 [a0, a1] h7))
 (R 1 [a0, a1] h5)
noncomputable def q83_0 (cf : CallF) (R : Rec) (a0 : IV) (a1 : IV) (h : H) : CRes :=
 Qo (Qnil a1) fun x1 =>
 Qo (Qfad 0 x1) fun x2 =>
 QoH (QsA 1 h x2 (.int .i64 4)) fun h3 =>
 Qc (cf 40 [a0, (.str ⟨1, 35⟩)] h3) .pan fun x4 h5 =>
 q83_0p1 cf R x4 a0 h5 a1
theorem qe83_0 : q83_0 = t83_0 := by
  unfold q83_0 q83_0p1
  try simp only [QE]
  try rfl
noncomputable def q83_1p2 (cf : CallF) (R : Rec) (x22 : IV) (h21 : H) (x20 : IV) (a0 : IV) : CRes :=
 Qo (Qfad 23 x22) fun x23 =>
 QoH (QsA 6 h21 x23 x20) fun h24 =>
 Qo2 (Qbsl false 1 [(.str ⟨0, 0⟩)] 1 [(0, (.str ⟨1, 59⟩))] h24) fun x25 h26 =>
 Qc (cf 38 [a0, x25] h26) .pan fun x27 h28 =>
 .ok (.tup []) h28
noncomputable def q83_1p1 (cf : CallF) (R : Rec) (h15 : H) (a0 : IV) (a1 : IV) : CRes :=
 Qo2 (Qbsl false 1 [(.str ⟨0, 0⟩)] 1 [(0, (.str ⟨1, 61⟩))] h15) fun x16 h17 =>
 Qc (cf 38 [a0, x16] h17) .pan fun x18 h19 =>
 Qc (cf 41 [a0, (.int .i64 1)] h19) .pan fun x20 h21 =>
 Qo (Qnil a1) fun x22 =>
 q83_1p2 cf R x22 h21 x20 a0
noncomputable def q83_1 (cf : CallF) (R : Rec) (a0 : IV) (a1 : IV) (h : H) : CRes :=
 Qc (cf 39 [a0] h) .pan fun x11 h12 =>
 Qo (Qnil a1) fun x13 =>
 Qo (Qfad 1 x13) fun x14 =>
 QoH (QsA 1 h12 x14 x11) fun h15 =>
 q83_1p1 cf R h15 a0 a1
theorem qe83_1 : q83_1 = t83_1 := by
  unfold q83_1 q83_1p1 q83_1p2
  try simp only [QE]
  try rfl
noncomputable def q83_2p1 (cf : CallF) (R : Rec) (a1 : IV) (h33 : H) (x29 : IV) (a0 : IV) : CRes :=
 Qo (Qnil a1) fun x34 =>
 Qo (Qfad 17 x34) fun x35 =>
 QoH (QsA 6 h33 x35 x29) fun h36 =>
 R 1 [a0, a1] h36
noncomputable def q83_2 (cf : CallF) (R : Rec) (a0 : IV) (a1 : IV) (h : H) : CRes :=
 Qc (cf 81 [a0, (.int .i64 1)] h) .pan fun x29 h30 =>
 Qo (Qnil a1) fun x31 =>
 Qo (Qfad 16 x31) fun x32 =>
 QoH (QsA 1 h30 x32 (.bool true)) fun h33 =>
 q83_2p1 cf R a1 h33 x29 a0
theorem qe83_2 : q83_2 = t83_2 := by
  unfold q83_2 q83_2p1
  try simp only [QE]
  try rfl
noncomputable def bt83 (cf : CallF) (R : Rec) : Rec := fun i l h =>
 br2 i 0 l (fun a0 a1 => t83_0 cf R a0 a1 h) <|
 br2 i 1 l (fun a0 a1 => t83_1 cf R a0 a1 h) <|
 br2 i 2 l (fun a0 a1 => t83_2 cf R a0 a1 h) <|
 .fail
noncomputable def b83 (cf : CallF) (R : Rec) : Rec := fun i l h =>
 brQ2 i 0 l (fun a0 a1 => q83_0 cf R a0 a1 h) <|
 brQ2 i 1 l (fun a0 a1 => q83_1 cf R a0 a1 h) <|
 brQ2 i 2 l (fun a0 a1 => q83_2 cf R a0 a1 h) <|
 .fail
theorem be83 : b83 = bt83 := by
  unfold b83 bt83
  simp only [qe83_0, qe83_1, qe83_2, brQ2_eq]
theorem r83 {T : Tab} {cf : CallF} (hc : leC cf (CL T)) (n : Nat) : leR (recN (b83 cf) n) (J83 T) := be83 ▸ recN_le (fun R hR i l h => by
  unfold bt83
  refine le_br2 (J := fun i l => J83 T i l h) (fun _ a0 a1 => le_e (fun hn => e83_0 rfl hn) ((m83 hc hR).1 a0 a1 h)) ?_
  refine le_br2 (J := fun i l => J83 T i l h) (fun _ a0 a1 => le_e (fun hn => e83_1 rfl hn) ((m83 hc hR).2.1 a0 a1 h)) ?_
  refine le_br2 (J := fun i l => J83 T i l h) (fun _ a0 a1 => le_e (fun hn => e83_2 rfl hn) ((m83 hc hR).2.2 a0 a1 h)) ?_
  exact le_fail _) n
-- 84
theorem m84 {cf cf' : CallF} {R R' : Rec} (hc : ∀ f l h, le (cf f l h) (cf' f l h)) (hR : ∀ i l h, le (R i l h) (R' i l h)) :
  (∀ (a0 a1 : IV) (h : H), le (t84_0 cf R a0 a1 h) (t84_0 cf' R' a0 a1 h)) ∧
  (∀ (a0 a1 : IV) (h : H), le (t84_1 cf R a0 a1 h) (t84_1 cf' R' a0 a1 h)) := by
  refine ⟨?_, ?_⟩
  all_goals intros
  all_goals first | unfold t84_0 | unfold t84_1
  all_goals
  with_reducible repeat' first
    | refine le_obind fun _ => ?_
    | refine le_callP ?_ (fun _ _ => ?_) (fun _ _ => ?_)
    | refine le_condK ?_ ?_
    | exact hR _ _ _
    | refine le_obind2 fun _ _ => ?_
    | refine le_obindH fun _ => ?_
    | refine le_spanK (fun _ _ _ => ?_) (fun _ _ => ?_)
    | exact hc _ _ _
    | refine le_bif ?_ ?_
    | refine le_guardK ?_ ?_ ?_
    | refine le_mapK fun _ _ => ?_
    | refine le_panK fun _ _ => ?_
    | refine le_funK fun _ _ => ?_
    | exact le_refl _
    | apply_assumption
noncomputable def q84_0p2 (cf : CallF) (R : Rec) (x17 : IV) (h16 : H) (a1 : IV) (x15 : IV) (a0 : IV) : CRes :=
 Qo (Qfad 0 x17) fun x18 =>
 QoH (QsA 1 h16 x18 (.int .i64 6)) fun h19 =>
 Qo (Qnil a1) fun x20 =>
 Qo (Qfad 1 x20) fun x21 =>
 QoH (QsA 1 h19 x21 x15) fun h22 =>
 R 1 [a0, a1] h22
noncomputable def q84_0p1 (cf : CallF) (R : Rec) (h4 : H) (x6 : IV) (a0 : IV) (a1 : IV) : CRes :=
 QoH (QsA 1 h4 x6 (.int .i64 5)) fun h7 =>
 Qc (cf 40 [a0, (.str ⟨1, 42⟩)] h7) .pan fun x8 h9 =>
 Qo (Qnot x8) fun x10 =>
 Qif x10
 (Qo2 (Qbsl false 1 [(.str ⟨0, 0⟩)] 1 [(0, (.str ⟨7, 28542653544230768⟩))] h9) fun x11 h12 =>
 Qc (cf 38 [a0, x11] h12) .pan fun x13 h14 =>
 Qc (cf 39 [a0] h14) .pan fun x15 h16 =>
 Qo (Qnil a1) fun x17 =>
 q84_0p2 cf R x17 h16 a1 x15 a0)
 (R 1 [a0, a1] h9)
noncomputable def q84_0 (cf : CallF) (R : Rec) (a0 : IV) (a1 : IV) (h : H) : CRes :=
 Qo2 (Qbsl false 1 [(.str ⟨0, 0⟩)] 2 [(0, (.str ⟨1, 64⟩)), (1, (.str ⟨1, 40⟩))] h) fun x1 h2 =>
 Qc (cf 38 [a0, x1] h2) .pan fun x3 h4 =>
 Qo (Qnil a1) fun x5 =>
 Qo (Qfad 0 x5) fun x6 =>
 q84_0p1 cf R h4 x6 a0 a1
theorem qe84_0 : q84_0 = t84_0 := by
  unfold q84_0 q84_0p1 q84_0p2
  try simp only [QE]
  try rfl
noncomputable def q84_1 (cf : CallF) (R : Rec) (a0 : IV) (a1 : IV) (h : H) : CRes :=
 Qo2 (Qbsl false 1 [(.str ⟨0, 0⟩)] 1 [(0, (.str ⟨1, 41⟩))] h) fun x23 h24 =>
 Qc (cf 38 [a0, x23] h24) .pan fun x25 h26 =>
 Qc (cf 98 [a0, (.int .i64 1)] h26) .pan fun x27 h28 =>
 Qo (Qnil a1) fun x29 =>
 Qo (Qfad 45 x29) fun x30 =>
 QoH (QsA 1 h28 x30 x27) fun h31 =>
 .ok (.tup []) h31
theorem qe84_1 : q84_1 = t84_1 := by
  unfold q84_1
  try simp only [QE]
  try rfl
noncomputable def bt84 (cf : CallF) (R : Rec) : Rec := fun i l h =>
 br2 i 0 l (fun a0 a1 => t84_0 cf R a0 a1 h) <|
 br2 i 1 l (fun a0 a1 => t84_1 cf R a0 a1 h) <|
 .fail
noncomputable def b84 (cf : CallF) (R : Rec) : Rec := fun i l h =>
 brQ2 i 0 l (fun a0 a1 => q84_0 cf R a0 a1 h) <|
 brQ2 i 1 l (fun a0 a1 => q84_1 cf R a0 a1 h) <|
 .fail
theorem be84 : b84 = bt84 := by
  unfold b84 bt84
  simp only [qe84_0, qe84_1, brQ2_eq]
theorem r84 {T : Tab} {cf : CallF} (hc : leC cf (CL T)) (n : Nat) : leR (recN (b84 cf) n) (J84 T) := be84 ▸ recN_le (fun R hR i l h => by
  unfold bt84
  refine le_br2 (J := fun i l => J84 T i l h) (fun _ a0 a1 => le_e (fun hn => e84_0 rfl hn) ((m84 hc hR).1 a0 a1 h)) ?_
  refine le_br2 (J := fun i l => J84 T i l h) (fun _ a0 a1 => le_e (fun hn => e84_1 rfl hn) ((m84 hc hR).2 a0 a1 h)) ?_
  exact le_fail _) n
-- 85
theorem m85 {cf cf' : CallF} {R R' : Rec} (hc : ∀ f l h, le (cf f l h) (cf' f l h)) (hR : ∀ i l h, le (R i l h) (R' i l h)) :
  (∀ (a0 a1 a2 : IV) (h : H), le (t85_0 cf R a0 a1 a2 h) (t85_0 cf' R' a0 a1 a2 h)) ∧
  (∀ (a0 a1 a2 : IV) (h : H), le (t85_1 cf R a0 a1 a2 h) (t85_1 cf' R' a0 a1 a2 h)) := by
  refine ⟨?_, ?_⟩
  all_goals intros
  all_goals first | unfold t85_0 | unfold t85_1
  all_goals
  with_reducible repeat' first
    | refine le_obind fun _ => ?_
    | refine le_callP ?_ (fun _ _ => ?_) (fun _ _ => ?_)
    | refine le_condK ?_ ?_
    | exact hR _ _ _
    | refine le_obind2 fun _ _ => ?_
    | refine le_obindH fun _ => ?_
    | refine le_spanK (fun _ _ _ => ?_) (fun _ _ => ?_)
    | exact hc _ _ _
    | refine le_bif ?_ ?_
    | refine le_guardK ?_ ?_ ?_
    | refine le_mapK fun _ _ => ?_
    | refine le_panK fun _ _ => ?_
    | refine le_funK fun _ _ => ?_
    | exact le_refl _
    | apply_assumption
noncomputable def q85_0p7 (cf : CallF) (R : Rec) (h36 : H) (x40 : IV) (x38 : IV) (a0 : IV) (a1 : IV) (a2 : IV) : CRes :=
 Qo (Ql0 h36 x40) fun x41 =>
 Qo (binS .neq x38 x41) fun x42 =>
 Qif x42
 (Qc (cf 61 [a0, (.int .i64 40)] h36) .pan fun x43 h44 =>
 R 1 [a0, a1, a2] h44)
 (R 1 [a0, a1, a2] h36)
noncomputable def q85_0p6 (cf : CallF) (R : Rec) (x35 : IV) (a1 : IV) (h36 : H) (a0 : IV) (a2 : IV) : CRes :=
 Qo (Qext x35 0) fun x37 =>
 Qo (Qext x35 1) fun x38 =>
 Qo (Qnil a1) fun x39 =>
 Qo (Qfad 41 x39) fun x40 =>
 q85_0p7 cf R h36 x40 x38 a0 a1 a2
noncomputable def q85_0p5 (cf : CallF) (R : Rec) (h27 : H) (x29 : IV) (x26 : IV) (a0 : IV) (a1 : IV) (a2 : IV) : CRes :=
 QoH (QsA 6 h27 x29 x26) fun h30 =>
 Qo2 (Qbsl false 1 [(.str ⟨0, 0⟩)] 1 [(0, (.str ⟨1, 59⟩))] h30) fun x31 h32 =>
 Qc (cf 38 [a0, x31] h32) .pan fun x33 h34 =>
 Qc (cf 36 [a0] h34) .pan fun x35 h36 =>
 q85_0p6 cf R x35 a1 h36 a0 a2
noncomputable def q85_0p4 (cf : CallF) (R : Rec) (a0 : IV) (x22 : IV) (h23 : H) (a1 : IV) (a2 : IV) : CRes :=
 Qc (cf 38 [a0, x22] h23) .pan fun x24 h25 =>
 Qc (cf 41 [a0, (.int .i64 1)] h25) .pan fun x26 h27 =>
 Qo (Qnil a1) fun x28 =>
 Qo (Qfad 29 x28) fun x29 =>
 q85_0p5 cf R h27 x29 x26 a0 a1 a2
noncomputable def q85_0p3 (cf : CallF) (R : Rec) (a1 : IV) (h18 : H) (x17 : IV) (a0 : IV) (a2 : IV) : CRes :=
 Qo (Qnil a1) fun x19 =>
 Qo (Qfad 23 x19) fun x20 =>
 QoH (QsA 6 h18 x20 x17) fun h21 =>
 Qo2 (Qbsl false 1 [(.str ⟨0, 0⟩)] 1 [(0, (.str ⟨1, 59⟩))] h21) fun x22 h23 =>
 q85_0p4 cf R a0 x22 h23 a1 a2
noncomputable def q85_0p2 (cf : CallF) (R : Rec) (h9 : H) (x11 : IV) (x8 : IV) (a0 : IV) (a1 : IV) (a2 : IV) : CRes :=
 QoH (QsA 1 h9 x11 x8) fun h12 =>
 Qo2 (Qbsl false 1 [(.str ⟨0, 0⟩)] 1 [(0, (.str ⟨1, 61⟩))] h12) fun x13 h14 =>
 Qc (cf 38 [a0, x13] h14) .pan fun x15 h16 =>
 Qc (cf 41 [a0, (.int .i64 1)] h16) .pan fun x17 h18 =>
 q85_0p3 cf R a1 h18 x17 a0 a2
noncomputable def q85_0p1 (cf : CallF) (R : Rec) (a0 : IV) (x4 : IV) (h5 : H) (a1 : IV) (a2 : IV) : CRes :=
 Qc (cf 38 [a0, x4] h5) .pan fun x6 h7 =>
 Qc (cf 39 [a0] h7) .pan fun x8 h9 =>
 Qo (Qnil a1) fun x10 =>
 Qo (Qfad 41 x10) fun x11 =>
 q85_0p2 cf R h9 x11 x8 a0 a1 a2
noncomputable def q85_0 (cf : CallF) (R : Rec) (a0 : IV) (a1 : IV) (a2 : IV) (h : H) : CRes :=
 Qo (Qnil a1) fun x1 =>
 Qo (Qfad 0 x1) fun x2 =>
 QoH (QsA 1 h x2 (.int .i64 8)) fun h3 =>
 Qo2 (Qbsl false 1 [(.str ⟨0, 0⟩)] 1 [(0, (.str ⟨1, 40⟩))] h3) fun x4 h5 =>
 q85_0p1 cf R a0 x4 h5 a1 a2
theorem qe85_0 : q85_0 = t85_0 := by
  unfold q85_0 q85_0p1 q85_0p2 q85_0p3 q85_0p4 q85_0p5 q85_0p6 q85_0p7
  try simp only [QE]
  try rfl
noncomputable def q85_1p3 (cf : CallF) (R : Rec) (a2 : IV) (a0 : IV) (h62 : H) (a1 : IV) : CRes :=
 Qo (Qadd a2 (.int .i64 1)) fun x63 =>
 Qc (cf 43 [a0, (.str ⟨3, 6581861⟩), x63] h62) .pan fun x64 h65 =>
 Qo (Qnil a1) fun x66 =>
 Qo (Qfad 46 x66) fun x67 =>
 QoH (QsA 1 h65 x67 x64) fun h68 =>
 .ok (.tup []) h68
noncomputable def q85_1p2 (cf : CallF) (R : Rec) (a0 : IV) (h57 : H) (a1 : IV) (a2 : IV) : CRes :=
 Qc (cf 39 [a0] h57) .pan fun x58 h59 =>
 Qo (Qnil a1) fun x60 =>
 Qo (Qfad 1 x60) fun x61 =>
 QoH (QsA 1 h59 x61 x58) fun h62 =>
 q85_1p3 cf R a2 a0 h62 a1
noncomputable def q85_1p1 (cf : CallF) (R : Rec) (x51 : IV) (h50 : H) (x49 : IV) (a0 : IV) (a1 : IV) (a2 : IV) : CRes :=
 Qo (Qfad 35 x51) fun x52 =>
 QoH (QsA 6 h50 x52 x49) fun h53 =>
 Qo2 (Qbsl false 1 [(.str ⟨0, 0⟩)] 3 [(0, (.str ⟨1, 41⟩)), (1, (.str ⟨5, 474214786402⟩)), (2, (.str ⟨1, 58⟩))] h53) fun x54 h55 =>
 Qc (cf 38 [a0, x54] h55) .pan fun x56 h57 =>
 q85_1p2 cf R a0 h57 a1 a2
noncomputable def q85_1 (cf : CallF) (R : Rec) (a0 : IV) (a1 : IV) (a2 : IV) (h : H) : CRes :=
 Qo2 (Qbsl false 1 [(.str ⟨0, 0⟩)] 2 [(0, (.str ⟨5, 435626798624⟩)), (1, (.str ⟨1, 61⟩))] h) fun x45 h46 =>
 Qc (cf 38 [a0, x45] h46) .pan fun x47 h48 =>
 Qc (cf 41 [a0, (.int .i64 1)] h48) .pan fun x49 h50 =>
 Qo (Qnil a1) fun x51 =>
 q85_1p1 cf R x51 h50 x49 a0 a1 a2
theorem qe85_1 : q85_1 = t85_1 := by
  unfold q85_1 q85_1p1 q85_1p2 q85_1p3
  try simp only [QE]
  try rfl
noncomputable def bt85 (cf : CallF) (R : Rec) : Rec := fun i l h =>
 br3 i 0 l (fun a0 a1 a2 => t85_0 cf R a0 a1 a2 h) <|
 br3 i 1 l (fun a0 a1 a2 => t85_1 cf R a0 a1 a2 h) <|
 .fail
noncomputable def b85 (cf : CallF) (R : Rec) : Rec := fun i l h =>
 brQ3 i 0 l (fun a0 a1 a2 => q85_0 cf R a0 a1 a2 h) <|
 brQ3 i 1 l (fun a0 a1 a2 => q85_1 cf R a0 a1 a2 h) <|
 .fail
theorem be85 : b85 = bt85 := by
  unfold b85 bt85
  simp only [qe85_0, qe85_1, brQ3_eq]
theorem r85 {T : Tab} {cf : CallF} (hc : leC cf (CL T)) (n : Nat) : leR (recN (b85 cf) n) (J85 T) := be85 ▸ recN_le (fun R hR i l h => by
  unfold bt85
  refine le_br3 (J := fun i l => J85 T i l h) (fun _ a0 a1 a2 => le_e (fun hn => e85_0 rfl hn) ((m85 hc hR).1 a0 a1 a2 h)) ?_
  refine le_br3 (J := fun i l => J85 T i l h) (fun _ a0 a1 a2 => le_e (fun hn => e85_1 rfl hn) ((m85 hc hR).2 a0 a1 a2 h)) ?_
  exact le_fail _) n
-- 86
theorem m86 {cf cf' : CallF} {R R' : Rec} (hc : ∀ f l h, le (cf f l h) (cf' f l h)) (hR : ∀ i l h, le (R i l h) (R' i l h)) :
  (∀ (a0 : IV) (h : H), le (t86_0 cf R a0 h) (t86_0 cf' R' a0 h)) ∧
  (∀ (a0 a2 a3 : IV) (h : H), le (t86_1 cf R a0 a2 a3 h) (t86_1 cf' R' a0 a2 a3 h)) := by
  refine ⟨?_, ?_⟩
  all_goals intros
  all_goals first | unfold t86_0 | unfold t86_1
  all_goals
  with_reducible repeat' first
    | refine le_obind fun _ => ?_
    | refine le_callP ?_ (fun _ _ => ?_) (fun _ _ => ?_)
    | refine le_condK ?_ ?_
    | exact hR _ _ _
    | refine le_obind2 fun _ _ => ?_
    | refine le_obindH fun _ => ?_
    | refine le_spanK (fun _ _ _ => ?_) (fun _ _ => ?_)
    | exact hc _ _ _
    | refine le_bif ?_ ?_
    | refine le_guardK ?_ ?_ ?_
    | refine le_mapK fun _ _ => ?_
    | refine le_panK fun _ _ => ?_
    | refine le_funK fun _ _ => ?_
    | exact le_refl _
    | apply_assumption
noncomputable def q86_0 (cf : CallF) (R : Rec) (a0 : IV) (h : H) : CRes :=
 R 1 [a0, .nilSlice, (.bool true)] h
theorem qe86_0 : q86_0 = t86_0 := by
  unfold q86_0
  try simp only [QE]
  try rfl
noncomputable def q86_1p4 (cf : CallF) (R : Rec) (h26 : H) (x4 : IV) (a2 : IV) (a0 : IV) : CRes :=
 Qo (QlA 8 h26 x4) fun x27 =>
 Qo2 (Qbsl false 8 z7 1 [(0, x27)] h26) fun x28 h29 =>
 Qo2 (appK 8 104 h29 a2 x28) fun x30 h31 =>
 Qc (cf 40 [a0, (.str ⟨1, 44⟩)] h31) .pan fun x32 h33 =>
 R 1 [a0, x30, x32] h33
noncomputable def q86_1p3 (cf : CallF) (R : Rec) (x4 : IV) (h20 : H) (x19 : IV) (a0 : IV) (a2 : IV) : CRes :=
 Qo (Qfad 1 x4) fun x21 =>
 QoH (QsA 6 h20 x21 x19) fun h22 =>
 Qo2 (Qbsl false 1 [(.str ⟨0, 0⟩)] 1 [(0, (.str ⟨1, 41⟩))] h22) fun x23 h24 =>
 Qc (cf 38 [a0, x23] h24) .pan fun x25 h26 =>
 q86_1p4 cf R h26 x4 a2 a0
noncomputable def q86_1p2 (cf : CallF) (R : Rec) (h12 : H) (x13 : IV) (x11 : IV) (a0 : IV) (x4 : IV) (a2 : IV) : CRes :=
 QoH (QsA 1 h12 x13 x11) fun h14 =>
 Qo2 (Qbsl false 1 [(.str ⟨0, 0⟩)] 1 [(0, (.str ⟨1, 40⟩))] h14) fun x15 h16 =>
 Qc (cf 38 [a0, x15] h16) .pan fun x17 h18 =>
 Qc (cf 41 [a0, (.int .i64 1)] h18) .pan fun x19 h20 =>
 q86_1p3 cf R x4 h20 x19 a0 a2
noncomputable def q86_1p1 (cf : CallF) (R : Rec) (h6 : H) (a0 : IV) (x4 : IV) (a2 : IV) : CRes :=
 Qo2 (Qbsl false 1 [(.str ⟨0, 0⟩)] 1 [(0, (.str ⟨1, 46⟩))] h6) fun x7 h8 =>
 Qc (cf 38 [a0, x7] h8) .pan fun x9 h10 =>
 Qc (cf 39 [a0] h10) .pan fun x11 h12 =>
 Qo (Qfad 0 x4) fun x13 =>
 q86_1p2 cf R h12 x13 x11 a0 x4 a2
noncomputable def q86_1 (cf : CallF) (R : Rec) (a0 : IV) (a2 : IV) (a3 : IV) (h : H) : CRes :=
 Qif a3
 (Qc (cf 37 [a0] h) .pan fun x1 h2 =>
 Qo (Qbld z7 p8 [(2, x1)]) fun x3 =>
 Qo2 (QnI h2 z7) fun x4 h5 =>
 QoH (QsA 8 h5 x4 x3) fun h6 =>
 q86_1p1 cf R h6 a0 x4 a2)
 (Qo2 (Qbsl false 1 [(.str ⟨0, 0⟩)] 1 [(0, (.str ⟨1, 41⟩))] h) fun x34 h35 =>
 Qc (cf 38 [a0, x34] h35) .pan fun x36 h37 =>
 .ok a2 h37)
theorem qe86_1 : q86_1 = t86_1 := by
  unfold q86_1 q86_1p1 q86_1p2 q86_1p3 q86_1p4
  try simp only [QE]
  try rfl
noncomputable def bt86 (cf : CallF) (R : Rec) : Rec := fun i l h =>
 br1 i 0 l (fun a0 => t86_0 cf R a0 h) <|
 br3 i 1 l (fun a0 a2 a3 => t86_1 cf R a0 a2 a3 h) <|
 .fail
noncomputable def b86 (cf : CallF) (R : Rec) : Rec := fun i l h =>
 brQ1 i 0 l (fun a0 => q86_0 cf R a0 h) <|
 brQ3 i 1 l (fun a0 a2 a3 => q86_1 cf R a0 a2 a3 h) <|
 .fail
theorem be86 : b86 = bt86 := by
  unfold b86 bt86
  simp only [qe86_0, qe86_1, brQ1_eq, brQ3_eq]
theorem r86 {T : Tab} {cf : CallF} (hc : leC cf (CL T)) (n : Nat) : leR (recN (b86 cf) n) (J86 T) := be86 ▸ recN_le (fun R hR i l h => by
  unfold bt86
  refine le_br1 (J := fun i l => J86 T i l h) (fun _ a0 => le_e (fun hn => e86_0 rfl hn) ((m86 hc hR).1 a0 h)) ?_
  refine le_br3 (J := fun i l => J86 T i l h) (fun _ a0 a2 a3 => le_e (fun hn => e86_1 rfl hn) ((m86 hc hR).2 a0 a2 a3 h)) ?_
  exact le_fail _) n
-- 96
theorem m96 {cf cf' : CallF} {R R' : Rec} (hc : ∀ f l h, le (cf f l h) (cf' f l h)) (hR : ∀ i l h, le (R i l h) (R' i l h)) :
  (∀ (a0 : IV) (h : H), le (t96_0 cf R a0 h) (t96_0 cf' R' a0 h)) ∧
  (∀ (a3 : IV) (h : H), le (t96_1 cf R a3 h) (t96_1 cf' R' a3 h)) := by
  refine ⟨?_, ?_⟩
  all_goals intros
  all_goals first | unfold t96_0 | unfold t96_1
  all_goals
  with_reducible repeat' first
    | refine le_obind fun _ => ?_
    | refine le_callP ?_ (fun _ _ => ?_) (fun _ _ => ?_)
    | refine le_condK ?_ ?_
    | exact hR _ _ _
    | refine le_obind2 fun _ _ => ?_
    | refine le_obindH fun _ => ?_
    | refine le_spanK (fun _ _ _ => ?_) (fun _ _ => ?_)
    | exact hc _ _ _
    | refine le_bif ?_ ?_
    | refine le_guardK ?_ ?_ ?_
    | refine le_mapK fun _ _ => ?_
    | refine le_panK fun _ _ => ?_
    | refine le_funK fun _ _ => ?_
    | exact le_refl _
    | apply_assumption
noncomputable def q96_0 (cf : CallF) (R : Rec) (a0 : IV) (h : H) : CRes :=
 Qc (cf 54 [a0] h) .pan fun x1 h2 =>
 Qif x1
 (Qo (Qsub a0 (.int .u8 48)) fun x3 =>
 Qo (cvN .i64 x3) fun x4 =>
 R 1 [x4] h2)
 (Qo (Qgeq a0 (.int .u8 97)) fun x5 =>
 Qsp x5 true h2 (fun k6 =>
 Qo (Qleq a0 (.int .u8 102)) fun x9 =>
 k6 x9 h2) fun x7 h8 =>
 Qo (Qpk x5 (some x7) (some (.bool false))) fun x10 =>
 Qif x10
 (Qo (Qsub a0 (.int .u8 97)) fun x11 =>
 Qo (cvN .i64 x11) fun x12 =>
 Qo (Qadd x12 (.int .i64 10)) fun x13 =>
 R 1 [x13] h8)
 (Qo (Qgeq a0 (.int .u8 65)) fun x14 =>
 Qsp x14 true h8 (fun k15 =>
 Qo (Qleq a0 (.int .u8 70)) fun x18 =>
 k15 x18 h8) fun x16 h17 =>
 Qo (Qpk x14 (some x16) (some (.bool false))) fun x19 =>
 Qif x19
 (Qo (Qsub a0 (.int .u8 65)) fun x20 =>
 Qo (cvN .i64 x20) fun x21 =>
 Qo (Qadd x21 (.int .i64 10)) fun x22 =>
 R 1 [x22] h17)
 (Qo (Qeql a0 (.int .u8 120)) fun x23 =>
 Qsp x23 false h17 (fun k24 =>
 Qo (Qeql a0 (.int .u8 122)) fun x27 =>
 k24 x27 h17) fun x25 h26 =>
 Qo (Qpk x23 (some (.bool true)) (some x25)) fun x28 =>
 Qif x28
 (Qo2 (Qbsl true 1 [(.int .u8 0)] 4 [(0, a0), (1, a0), (2, a0), (3, a0)] h26) fun x29 h30 =>
 Qo (cvS h30 x29) fun x31 =>
 .ok x31 h30)
 (R 1 [(.int .i64 (-1))] h26))))
theorem qe96_0 : q96_0 = t96_0 := by
  unfold q96_0
  try simp only [QE]
  try rfl
noncomputable def q96_1 (cf : CallF) (R : Rec) (a3 : IV) (h : H) : CRes :=
 Qo (Qlss a3 (.int .i64 0)) fun x32 =>
 Qif x32
 (.ok (.str ⟨0, 0⟩) h)
 (Qc (cf 74 [a3, (.int .i64 4)] h) .pan fun x33 h34 =>
 .ok x33 h34)
theorem qe96_1 : q96_1 = t96_1 := by
  unfold q96_1
  try simp only [QE]
  try rfl
noncomputable def bt96 (cf : CallF) (R : Rec) : Rec := fun i l h =>
 br1 i 0 l (fun a0 => t96_0 cf R a0 h) <|
 br1 i 1 l (fun a3 => t96_1 cf R a3 h) <|
 .fail
noncomputable def b96 (cf : CallF) (R : Rec) : Rec := fun i l h =>
 brQ1 i 0 l (fun a0 => q96_0 cf R a0 h) <|
 brQ1 i 1 l (fun a3 => q96_1 cf R a3 h) <|
 .fail
theorem be96 : b96 = bt96 := by
  unfold b96 bt96
  simp only [qe96_0, qe96_1, brQ1_eq]
theorem r96 {T : Tab} {cf : CallF} (hc : leC cf (CL T)) (n : Nat) : leR (recN (b96 cf) n) (J96 T) := be96 ▸ recN_le (fun R hR i l h => by
  unfold bt96
  refine le_br1 (J := fun i l => J96 T i l h) (fun _ a0 => le_e (fun hn => e96_0 rfl hn) ((m96 hc hR).1 a0 h)) ?_
  refine le_br1 (J := fun i l => J96 T i l h) (fun _ a3 => le_e (fun hn => e96_1 rfl hn) ((m96 hc hR).2 a3 h)) ?_
  exact le_fail _) n
-- 98
theorem m98 {cf cf' : CallF} {R R' : Rec} (hc : ∀ f l h, le (cf f l h) (cf' f l h)) (hR : ∀ i l h, le (R i l h) (R' i l h)) :
  (∀ (a0 a1 : IV) (h : H), le (t98_0 cf R a0 a1 h) (t98_0 cf' R' a0 a1 h)) ∧
  (∀ (a0 a1 : IV) (h : H), le (t98_1 cf R a0 a1 h) (t98_1 cf' R' a0 a1 h)) ∧
  (∀ (a0 a1 : IV) (h : H), le (t98_2 cf R a0 a1 h) (t98_2 cf' R' a0 a1 h)) ∧
  (∀ (a5 : IV) (h : H), le (t98_3 cf R a5 h) (t98_3 cf' R' a5 h)) ∧
  (∀ (a0 a1 a6 : IV) (h : H), le (t98_4 cf R a0 a1 a6 h) (t98_4 cf' R' a0 a1 a6 h)) ∧
  (∀ (a0 a5 : IV) (h : H), le (t98_5 cf R a0 a5 h) (t98_5 cf' R' a0 a5 h)) := by
  refine ⟨?_, ?_, ?_, ?_, ?_, ?_⟩
  all_goals intros
  all_goals first | unfold t98_0 | unfold t98_1 | unfold t98_2 | unfold t98_3 | unfold t98_4 | unfold t98_5
  all_goals
  with_reducible repeat' first
    | refine le_obind fun _ => ?_
    | refine le_callP ?_ (fun _ _ => ?_) (fun _ _ => ?_)
    | refine le_condK ?_ ?_
    | exact hR _ _ _
    | refine le_obind2 fun _ _ => ?_
    | refine le_obindH fun _ => ?_
    | refine le_spanK (fun _ _ _ => ?_) (fun _ _ => ?_)
    | exact hc _ _ _
    | refine le_bif ?_ ?_
    | refine le_guardK ?_ ?_ ?_
    | refine le_mapK fun _ _ => ?_
    | refine le_panK fun _ _ => ?_
    | refine le_funK fun _ _ => ?_
    | exact le_refl _
    | apply_assumption
noncomputable def q98_0 (cf : CallF) (R : Rec) (a0 : IV) (a1 : IV) (h : H) : CRes :=
 Qo2 (Qbsl false 1 [(.str ⟨0, 0⟩)] 4 [(0, (.str ⟨5, 474214786402⟩)), (1, (.str ⟨2, 26217⟩)), (2, (.str ⟨4, 1702060387⟩)), (3, (.str ⟨5, 435626798624⟩))] h) fun x1 h2 =>
 Qc (cf 17 [a0, x1] h2) .pan fun x3 h4 =>
 Qo (Qnot x3) fun x5 =>
 Qif x5
 (Qc (cf 61 [a0, (.int .i64 40)] h4) .pan fun x6 h7 =>
 R 1 [a0, a1] h7)
 (R 1 [a0, a1] h4)
theorem qe98_0 : q98_0 = t98_0 := by
  unfold q98_0
  try simp only [QE]
  try rfl
noncomputable def q98_1 (cf : CallF) (R : Rec) (a0 : IV) (a1 : IV) (h : H) : CRes :=
 Qo (Qgtr a1 (.int .i64 32)) fun x8 =>
 Qif x8
 (Qc (cf 61 [a0, (.int .i64 41)] h) .pan fun x9 h10 =>
 R 2 [a0, a1] h10)
 (R 2 [a0, a1] h)
theorem qe98_1 : q98_1 = t98_1 := by
  unfold q98_1
  try simp only [QE]
  try rfl
noncomputable def q98_2p4 (cf : CallF) (R : Rec) (h37 : H) (x38 : IV) (x36 : IV) (a0 : IV) (a1 : IV) (x14 : IV) : CRes :=
 QoH (QsA 1 h37 x38 x36) fun h39 =>
 Qc (cf 40 [a0, (.str ⟨4, 1702063205⟩)] h39) .pan fun x40 h41 =>
 Qif x40
 (Qo (Qadd a1 (.int .i64 1)) fun x42 =>
 Qc (cf 98 [a0, x42] h41) .pan fun x43 h44 =>
 Qo (Qfad 9 x14) fun x45 =>
 QoH (QsA 1 h44 x45 x43) fun h46 =>
 R 3 [x14] h46)
 (R 3 [x14] h41)
noncomputable def q98_2p3 (cf : CallF) (R : Rec) (a0 : IV) (x31 : IV) (h32 : H) (a1 : IV) (x14 : IV) : CRes :=
 Qc (cf 38 [a0, x31] h32) .pan fun x33 h34 =>
 Qo (Qadd a1 (.int .i64 1)) fun x35 =>
 Qc (cf 98 [a0, x35] h34) .pan fun x36 h37 =>
 Qo (Qfad 8 x14) fun x38 =>
 q98_2p4 cf R h37 x38 x36 a0 a1 x14
noncomputable def q98_2p2 (cf : CallF) (R : Rec) (a0 : IV) (h26 : H) (x14 : IV) (a1 : IV) : CRes :=
 Qc (cf 41 [a0, (.int .i64 1)] h26) .pan fun x27 h28 =>
 Qo (Qfad 2 x14) fun x29 =>
 QoH (QsA 6 h28 x29 x27) fun h30 =>
 Qo2 (Qbsl false 1 [(.str ⟨0, 0⟩)] 1 [(0, (.str ⟨1, 41⟩))] h30) fun x31 h32 =>
 q98_2p3 cf R a0 x31 h32 a1 x14
noncomputable def q98_2p6 (cf : CallF) (R : Rec) (a0 : IV) (x59 : IV) (h60 : H) (a1 : IV) (x14 : IV) : CRes :=
 Qc (cf 38 [a0, x59] h60) .pan fun x61 h62 =>
 Qo (Qadd a1 (.int .i64 1)) fun x63 =>
 Qc (cf 111 [a0, x63] h62) .pan fun x64 h65 =>
 Qo (Qfad 10 x14) fun x66 =>
 QoH (QsA 1 h65 x66 x64) fun h67 =>
 R 3 [x14] h67
noncomputable def q98_2p5 (cf : CallF) (R : Rec) (a0 : IV) (h54 : H) (x14 : IV) (a1 : IV) : CRes :=
 Qc (cf 41 [a0, (.int .i64 1)] h54) .pan fun x55 h56 =>
 Qo (Qfad 2 x14) fun x57 =>
 QoH (QsA 6 h56 x57 x55) fun h58 =>
 Qo2 (Qbsl false 1 [(.str ⟨0, 0⟩)] 1 [(0, (.str ⟨1, 41⟩))] h58) fun x59 h60 =>
 q98_2p6 cf R a0 x59 h60 a1 x14
noncomputable def q98_2p7 (cf : CallF) (R : Rec) (h71 : H) (x72 : IV) (x68 : IV) (a0 : IV) (x14 : IV) : CRes :=
 QoH (QsA 1 h71 x72 x68) fun h73 =>
 Qc (cf 40 [a0, (.str ⟨2, 15676⟩)] h73) .pan fun x74 h75 =>
 Qif x74
 (Qo (Qfad 0 x14) fun x76 =>
 QoH (QsA 1 h75 x76 (.int .i64 2)) fun h77 =>
 R 5 [a0, x14] h77)
 (Qo2 (Qbsl false 1 [(.str ⟨0, 0⟩)] 1 [(0, (.str ⟨1, 61⟩))] h75) fun x78 h79 =>
 Qc (cf 38 [a0, x78] h79) .pan fun x80 h81 =>
 R 5 [a0, x14] h81)
noncomputable def q98_2p1 (cf : CallF) (R : Rec) (a0 : IV) (h16 : H) (a1 : IV) (x14 : IV) : CRes :=
 Qc (cf 40 [a0, (.str ⟨5, 474214786402⟩)] h16) .pan fun x17 h18 =>
 Qif x17
 (R 4 [a0, a1, .nilSlice] h18)
 (Qc (cf 40 [a0, (.str ⟨2, 26217⟩)] h18) .pan fun x19 h20 =>
 Qif x19
 (Qo (Qfad 0 x14) fun x21 =>
 QoH (QsA 1 h20 x21 (.int .i64 3)) fun h22 =>
 Qo2 (Qbsl false 1 [(.str ⟨0, 0⟩)] 1 [(0, (.str ⟨1, 40⟩))] h22) fun x23 h24 =>
 Qc (cf 38 [a0, x23] h24) .pan fun x25 h26 =>
 q98_2p2 cf R a0 h26 x14 a1)
 (Qc (cf 40 [a0, (.str ⟨4, 1702060387⟩)] h20) .pan fun x47 h48 =>
 Qif x47
 (Qo (Qfad 0 x14) fun x49 =>
 QoH (QsA 1 h48 x49 (.int .i64 4)) fun h50 =>
 Qo2 (Qbsl false 1 [(.str ⟨0, 0⟩)] 1 [(0, (.str ⟨1, 40⟩))] h50) fun x51 h52 =>
 Qc (cf 38 [a0, x51] h52) .pan fun x53 h54 =>
 q98_2p5 cf R a0 h54 x14 a1)
 (Qc (cf 39 [a0] h48) .pan fun x68 h69 =>
 Qo (Qfad 0 x14) fun x70 =>
 QoH (QsA 1 h69 x70 (.int .i64 1)) fun h71 =>
 Qo (Qfad 1 x14) fun x72 =>
 q98_2p7 cf R h71 x72 x68 a0 x14)))
noncomputable def q98_2 (cf : CallF) (R : Rec) (a0 : IV) (a1 : IV) (h : H) : CRes :=
 Qc (cf 37 [a0] h) .pan fun x11 h12 =>
 Qo (Qbld z16 p17 [(6, x11)]) fun x13 =>
 Qo2 (QnI h12 z16) fun x14 h15 =>
 QoH (QsA 12 h15 x14 x13) fun h16 =>
 q98_2p1 cf R a0 h16 a1 x14
theorem qe98_2 : q98_2 = t98_2 := by
  unfold q98_2 q98_2p1 q98_2p7 q98_2p5 q98_2p6 q98_2p2 q98_2p3 q98_2p4
  try simp only [QE]
  try rfl
noncomputable def q98_3 (cf : CallF) (R : Rec) (a5 : IV) (h : H) : CRes :=
 Qo (QlA 12 h a5) fun x82 =>
 Qo2 (Qbsl false 12 z16 1 [(0, x82)] h) fun x83 h84 =>
 .ok x83 h84
theorem qe98_3 : q98_3 = t98_3 := by
  unfold q98_3
  try simp only [QE]
  try rfl
noncomputable def q98_4 (cf : CallF) (R : Rec) (a0 : IV) (a1 : IV) (a6 : IV) (h : H) : CRes :=
 Qc (cf 40 [a0, (.str ⟨3, 6581861⟩)] h) .pan fun x85 h86 =>
 Qo (Qnot x85) fun x87 =>
 Qif x87
 (Qo (Qadd a1 (.int .i64 1)) fun x88 =>
 Qc (cf 98 [a0, x88] h86) .pan fun x89 h90 =>
 Qo2 (appK 12 184 h90 a6 x89) fun x91 h92 =>
 R 4 [a0, a1, x91] h92)
 (.ok a6 h86)
theorem qe98_4 : q98_4 = t98_4 := by
  unfold q98_4
  try simp only [QE]
  try rfl
noncomputable def q98_5 (cf : CallF) (R : Rec) (a0 : IV) (a5 : IV) (h : H) : CRes :=
 Qc (cf 41 [a0, (.int .i64 1)] h) .pan fun x93 h94 =>
 Qo (Qfad 2 a5) fun x95 =>
 QoH (QsA 6 h94 x95 x93) fun h96 =>
 Qo2 (Qbsl false 1 [(.str ⟨0, 0⟩)] 1 [(0, (.str ⟨1, 59⟩))] h96) fun x97 h98 =>
 Qc (cf 38 [a0, x97] h98) .pan fun x99 h100 =>
 R 3 [a5] h100
theorem qe98_5 : q98_5 = t98_5 := by
  unfold q98_5
  try simp only [QE]
  try rfl
noncomputable def bt98 (cf : CallF) (R : Rec) : Rec := fun i l h =>
 br2 i 0 l (fun a0 a1 => t98_0 cf R a0 a1 h) <|
 br2 i 1 l (fun a0 a1 => t98_1 cf R a0 a1 h) <|
 br2 i 2 l (fun a0 a1 => t98_2 cf R a0 a1 h) <|
 br1 i 3 l (fun a5 => t98_3 cf R a5 h) <|
 br3 i 4 l (fun a0 a1 a6 => t98_4 cf R a0 a1 a6 h) <|
 br2 i 5 l (fun a0 a5 => t98_5 cf R a0 a5 h) <|
 .fail
noncomputable def b98 (cf : CallF) (R : Rec) : Rec := fun i l h =>
 brQ2 i 0 l (fun a0 a1 => q98_0 cf R a0 a1 h) <|
 brQ2 i 1 l (fun a0 a1 => q98_1 cf R a0 a1 h) <|
 brQ2 i 2 l (fun a0 a1 => q98_2 cf R a0 a1 h) <|
 brQ1 i 3 l (fun a5 => q98_3 cf R a5 h) <|
 brQ3 i 4 l (fun a0 a1 a6 => q98_4 cf R a0 a1 a6 h) <|
 brQ2 i 5 l (fun a0 a5 => q98_5 cf R a0 a5 h) <|
 .fail
theorem be98 : b98 = bt98 := by
  unfold b98 bt98
  simp only [qe98_0, qe98_1, qe98_2, qe98_3, qe98_4, qe98_5, brQ1_eq, brQ2_eq, brQ3_eq]
theorem r98 {T : Tab} {cf : CallF} (hc : leC cf (CL T)) (n : Nat) : leR (recN (b98 cf) n) (J98 T) := be98 ▸ recN_le (fun R hR i l h => by
  unfold bt98
  refine le_br2 (J := fun i l => J98 T i l h) (fun _ a0 a1 => le_e (fun hn => e98_0 rfl hn) ((m98 hc hR).1 a0 a1 h)) ?_
  refine le_br2 (J := fun i l => J98 T i l h) (fun _ a0 a1 => le_e (fun hn => e98_1 rfl hn) ((m98 hc hR).2.1 a0 a1 h)) ?_
  refine le_br2 (J := fun i l => J98 T i l h) (fun _ a0 a1 => le_e (fun hn => e98_2 rfl hn) ((m98 hc hR).2.2.1 a0 a1 h)) ?_
  refine le_br1 (J := fun i l => J98 T i l h) (fun _ a5 => le_e (fun hn => e98_3 rfl hn) ((m98 hc hR).2.2.2.1 a5 h)) ?_
  refine le_br3 (J := fun i l => J98 T i l h) (fun _ a0 a1 a6 => le_e (fun hn => e98_4 rfl hn) ((m98 hc hR).2.2.2.2.1 a0 a1 a6 h)) ?_
  refine le_br2 (J := fun i l => J98 T i l h) (fun _ a0 a5 => le_e (fun hn => e98_5 rfl hn) ((m98 hc hR).2.2.2.2.2 a0 a5 h)) ?_
  exact le_fail _) n
-- 111
theorem m111 {cf cf' : CallF} {R R' : Rec} (hc : ∀ f l h, le (cf f l h) (cf' f l h)) (hR : ∀ i l h, le (R i l h) (R' i l h)) :
  (∀ (a0 a1 : IV) (h : H), le (t111_0 cf R a0 a1 h) (t111_0 cf' R' a0 a1 h)) ∧
  (∀ (a0 a1 a4 : IV) (h : H), le (t111_1 cf R a0 a1 a4 h) (t111_1 cf' R' a0 a1 a4 h)) ∧
  (∀ (a0 a4 : IV) (h : H), le (t111_2 cf R a0 a4 h) (t111_2 cf' R' a0 a4 h)) := by
  refine ⟨?_, ?_, ?_⟩
  all_goals intros
  all_goals first | unfold t111_0 | unfold t111_1 | unfold t111_2
  all_goals
  with_reducible repeat' first
    | refine le_obind fun _ => ?_
    | refine le_callP ?_ (fun _ _ => ?_) (fun _ _ => ?_)
    | refine le_condK ?_ ?_
    | exact hR _ _ _
    | refine le_obind2 fun _ _ => ?_
    | refine le_obindH fun _ => ?_
    | refine le_spanK (fun _ _ _ => ?_) (fun _ _ => ?_)
    | exact hc _ _ _
    | refine le_bif ?_ ?_
    | refine le_guardK ?_ ?_ ?_
    | refine le_mapK fun _ _ => ?_
    | refine le_panK fun _ _ => ?_
    | refine le_funK fun _ _ => ?_
    | exact le_refl _
    | apply_assumption
noncomputable def q111_0 (cf : CallF) (R : Rec) (a0 : IV) (a1 : IV) (h : H) : CRes :=
 R 1 [a0, a1, .nilSlice] h
theorem qe111_0 : q111_0 = t111_0 := by
  unfold q111_0
  try simp only [QE]
  try rfl
noncomputable def q111_1p2 (cf : CallF) (R : Rec) (h14 : H) (x15 : IV) (x13 : IV) (x6 : IV) (a4 : IV) (a0 : IV) (a1 : IV) : CRes :=
 QoH (QsA 1 h14 x15 x13) fun h16 =>
 Qo (QlA 8 h16 x6) fun x17 =>
 Qo2 (Qbsl false 8 z18 1 [(0, x17)] h16) fun x18 h19 =>
 Qo2 (appK 8 112 h19 a4 x18) fun x20 h21 =>
 R 1 [a0, a1, x20] h21
noncomputable def q111_1p1 (cf : CallF) (R : Rec) (h8 : H) (a0 : IV) (a1 : IV) (x6 : IV) (a4 : IV) : CRes :=
 Qo2 (Qbsl false 1 [(.str ⟨0, 0⟩)] 1 [(0, (.str ⟨1, 58⟩))] h8) fun x9 h10 =>
 Qc (cf 38 [a0, x9] h10) .pan fun x11 h12 =>
 Qc (cf 98 [a0, a1] h12) .pan fun x13 h14 =>
 Qo (Qfad 7 x6) fun x15 =>
 q111_1p2 cf R h14 x15 x13 x6 a4 a0 a1
noncomputable def q111_1 (cf : CallF) (R : Rec) (a0 : IV) (a1 : IV) (a4 : IV) (h : H) : CRes :=
 Qc (cf 78 [a0, (.bool true)] h) .pan fun x1 h2 =>
 Qif x1
 (Qc (cf 41 [a0, (.int .i64 1)] h2) .pan fun x3 h4 =>
 Qo (Qbld z18 p8 [(1, x3)]) fun x5 =>
 Qo2 (QnI h4 z18) fun x6 h7 =>
 QoH (QsA 8 h7 x6 x5) fun h8 =>
 q111_1p1 cf R h8 a0 a1 x6 a4)
 (Qc (cf 40 [a0, (.str ⟨7, 32770348699510116⟩)] h2) .pan fun x22 h23 =>
 Qif x22
 (Qo2 (Qbsl false 1 [(.str ⟨0, 0⟩)] 1 [(0, (.str ⟨1, 58⟩))] h23) fun x24 h25 =>
 Qc (cf 38 [a0, x24] h25) .pan fun x26 h27 =>
 Qc (cf 98 [a0, a1] h27) .pan fun x28 h29 =>
 Qo (Qbld z18 p8 [(0, (.bool true)), (2, x28)]) fun x30 =>
 Qo2 (Qbsl false 8 z18 1 [(0, x30)] h29) fun x31 h32 =>
 Qo2 (appK 8 112 h32 a4 x31) fun x33 h34 =>
 R 2 [a0, x33] h34)
 (R 2 [a0, a4] h23))
theorem qe111_1 : q111_1 = t111_1 := by
  unfold q111_1 q111_1p1 q111_1p2
  try simp only [QE]
  try rfl
noncomputable def q111_2 (cf : CallF) (R : Rec) (a0 : IV) (a4 : IV) (h : H) : CRes :=
 Qo2 (Qbsl false 1 [(.str ⟨0, 0⟩)] 1 [(0, (.str ⟨7, 28555834764324453⟩))] h) fun x35 h36 =>
 Qc (cf 38 [a0, x35] h36) .pan fun x37 h38 =>
 .ok a4 h38
theorem qe111_2 : q111_2 = t111_2 := by
  unfold q111_2
  try simp only [QE]
  try rfl
noncomputable def bt111 (cf : CallF) (R : Rec) : Rec := fun i l h =>
 br2 i 0 l (fun a0 a1 => t111_0 cf R a0 a1 h) <|
 br3 i 1 l (fun a0 a1 a4 => t111_1 cf R a0 a1 a4 h) <|
 br2 i 2 l (fun a0 a4 => t111_2 cf R a0 a4 h) <|
 .fail
noncomputable def b111 (cf : CallF) (R : Rec) : Rec := fun i l h =>
 brQ2 i 0 l (fun a0 a1 => q111_0 cf R a0 a1 h) <|
 brQ3 i 1 l (fun a0 a1 a4 => q111_1 cf R a0 a1 a4 h) <|
 brQ2 i 2 l (fun a0 a4 => q111_2 cf R a0 a4 h) <|
 .fail
theorem be111 : b111 = bt111 := by
  unfold b111 bt111
  simp only [qe111_0, qe111_1, qe111_2, brQ2_eq, brQ3_eq]
theorem r111 {T : Tab} {cf : CallF} (hc : leC cf (CL T)) (n : Nat) : leR (recN (b111 cf) n) (J111 T) := be111 ▸ recN_le (fun R hR i l h => by
  unfold bt111
  refine le_br2 (J := fun i l => J111 T i l h) (fun _ a0 a1 => le_e (fun hn => e111_0 rfl hn) ((m111 hc hR).1 a0 a1 h)) ?_
  refine le_br3 (J := fun i l => J111 T i l h) (fun _ a0 a1 a4 => le_e (fun hn => e111_1 rfl hn) ((m111 hc hR).2.1 a0 a1 a4 h)) ?_
  refine le_br2 (J := fun i l => J111 T i l h) (fun _ a0 a4 => le_e (fun hn => e111_2 rfl hn) ((m111 hc hR).2.2 a0 a4 h)) ?_
  exact le_fail _) n
def tabB (f : FuncId) : Bool := [56, 60, 79, 80, 8].any fun x => Nat.beq f x
noncomputable def cfB (T : Tab) (cf : CallF) : CallF := fun f l h =>
 @Bool.rec (fun _ => CRes) (@Bool.rec (fun _ => CRes) (@Bool.rec (fun _ => CRes) (@Bool.rec (fun _ => CRes) (@Bool.rec (fun _ => CRes) (brQ2 f 5 l (fun a0 a1 => QsP (recN (b5 cf) 1000000 0 [a0, a1] ⟨h.next, h.objs, T.pol 5⟩) h.pol) .fail) (@Bool.rec (fun _ => CRes) (brQ1 f 7 l (fun a0 => QsP (recN (b7 cf) 1000000 0 [a0] ⟨h.next, h.objs, T.pol 7⟩) h.pol) .fail) (brQ0 f 8 l (ovK (T.ov 8) [] h (QsP (recN (b8 cf) 1000000 0 [] ⟨h.next, h.objs, T.pol 8⟩) h.pol)) .fail) (Nat.ble 8 f)) (Nat.ble 7 f)) (@Bool.rec (fun _ => CRes) (@Bool.rec (fun _ => CRes) (brQ1 f 9 l (fun a0 => QsP (recN (b9 cf) 1000000 0 [a0] ⟨h.next, h.objs, T.pol 9⟩) h.pol) .fail) (brQ2 f 12 l (fun a0 a1 => QsP (recN (b12 cf) 1000000 0 [a0, a1] ⟨h.next, h.objs, T.pol 12⟩) h.pol) .fail) (Nat.ble 12 f)) (@Bool.rec (fun _ => CRes) (brQ1 f 14 l (fun a0 => QsP (recN (b14 cf) 1000000 0 [a0] ⟨h.next, h.objs, T.pol 14⟩) h.pol) .fail) (brQ1 f 15 l (fun a0 => QsP (recN (b15 cf) 1000000 0 [a0] ⟨h.next, h.objs, T.pol 15⟩) h.pol) .fail) (Nat.ble 15 f)) (Nat.ble 14 f)) (Nat.ble 9 f)) (@Bool.rec (fun _ => CRes) (@Bool.rec (fun _ => CRes) (brQ2 f 17 l (fun a0 a1 => QsP (recN (b17 cf) 1000000 0 [a0, a1] ⟨h.next, h.objs, T.pol 17⟩) h.pol) .fail) (@Bool.rec (fun _ => CRes) (brQ1 f 18 l (fun a0 => QsP (recN (b18 cf) 1000000 0 [a0] ⟨h.next, h.objs, T.pol 18⟩) h.pol) .fail) (brQ2 f 24 l (fun a0 a1 => QsP (recN (b24 cf) 1000000 0 [a0, a1] ⟨h.next, h.objs, T.pol 24⟩) h.pol) .fail) (Nat.ble 24 f)) (Nat.ble 18 f)) (@Bool.rec (fun _ => CRes) (@Bool.rec (fun _ => CRes) (brQ3 f 25 l (fun a0 a1 a2 => QsP (recN (b25 cf) 1000000 0 [a0, a1, a2] ⟨h.next, h.objs, T.pol 25⟩) h.pol) .fail) (brQ2 f 26 l (fun a0 a1 => QsP (recN (b26 cf) 1000000 0 [a0, a1] ⟨h.next, h.objs, T.pol 26⟩) h.pol) .fail) (Nat.ble 26 f)) (@Bool.rec (fun _ => CRes) (brQ2 f 27 l (fun a0 a1 => QsP (recN (b27 cf) 1000000 0 [a0, a1] ⟨h.next, h.objs, T.pol 27⟩) h.pol) .fail) (brQ1 f 28 l (fun a0 => QsP (recN (b28 cf) 1000000 0 [a0] ⟨h.next, h.objs, T.pol 28⟩) h.pol) .fail) (Nat.ble 28 f)) (Nat.ble 27 f)) (Nat.ble 25 f)) (Nat.ble 17 f)) (@Bool.rec (fun _ => CRes) (@Bool.rec (fun _ => CRes) (@Bool.rec (fun _ => CRes) (brQ2 f 29 l (fun a0 a1 => QsP (recN (b29 cf) 1000000 0 [a0, a1] ⟨h.next, h.objs, T.pol 29⟩) h.pol) .fail) (@Bool.rec (fun _ => CRes) (brQ3 f 30 l (fun a0 a1 a2 => QsP (recN (b30 cf) 1000000 0 [a0, a1, a2] ⟨h.next, h.objs, T.pol 30⟩) h.pol) .fail) (brQ1 f 31 l (fun a0 => QsP (recN (b31 cf) 1000000 0 [a0] ⟨h.next, h.objs, T.pol 31⟩) h.pol) .fail) (Nat.ble 31 f)) (Nat.ble 30 f)) (@Bool.rec (fun _ => CRes) (@Bool.rec (fun _ => CRes) (brQ1 f 32 l (fun a0 => QsP (recN (b32 cf) 1000000 0 [a0] ⟨h.next, h.objs, T.pol 32⟩) h.pol) .fail) (brQ2 f 33 l (fun a0 a1 => QsP (recN (b33 cf) 1000000 0 [a0, a1] ⟨h.next, h.objs, T.pol 33⟩) h.pol) .fail) (Nat.ble 33 f)) (@Bool.rec (fun _ => CRes) (brQ3 f 34 l (fun a0 a1 a2 => QsP (recN (b34 cf) 1000000 0 [a0, a1, a2] ⟨h.next, h.objs, T.pol 34⟩) h.pol) .fail) (brQ2 f 35 l (fun a0 a1 => QsP (recN (b35 cf) 1000000 0 [a0, a1] ⟨h.next, h.objs, T.pol 35⟩) h.pol) .fail) (Nat.ble 35 f)) (Nat.ble 34 f)) (Nat.ble 32 f)) (@Bool.rec (fun _ => CRes) (@Bool.rec (fun _ => CRes) (@Bool.rec (fun _ => CRes) (brQ1 f 36 l (fun a0 => QsP (recN (b36 cf) 1000000 0 [a0] ⟨h.next, h.objs, T.pol 36⟩) h.pol) .fail) (brQ1 f 37 l (fun a0 => QsP (recN (b37 cf) 1000000 0 [a0] ⟨h.next, h.objs, T.pol 37⟩) h.pol) .fail) (Nat.ble 37 f)) (@Bool.rec (fun _ => CRes) (brQ2 f 38 l (fun a0 a1 => QsP (recN (b38 cf) 1000000 0 [a0, a1] ⟨h.next, h.objs, T.pol 38⟩) h.pol) .fail) (brQ1 f 39 l (fun a0 => QsP (recN (b39 cf) 1000000 0 [a0] ⟨h.next, h.objs, T.pol 39⟩) h.pol) .fail) (Nat.ble 39 f)) (Nat.ble 38 f)) (@Bool.rec (fun _ => CRes) (@Bool.rec (fun _ => CRes) (brQ2 f 40 l (fun a0 a1 => QsP (recN (b40 cf) 1000000 0 [a0, a1] ⟨h.next, h.objs, T.pol 40⟩) h.pol) .fail) (brQ2 f 41 l (fun a0 a1 => QsP (recN (b41 cf) 1000000 0 [a0, a1] ⟨h.next, h.objs, T.pol 41⟩) h.pol) .fail) (Nat.ble 41 f)) (@Bool.rec (fun _ => CRes) (brQ1 f 42 l (fun a0 => QsP (recN (b42 cf) 1000000 0 [a0] ⟨h.next, h.objs, T.pol 42⟩) h.pol) .fail) (brQ3 f 43 l (fun a0 a1 a2 => QsP (recN (b43 cf) 1000000 0 [a0, a1, a2] ⟨h.next, h.objs, T.pol 43⟩) h.pol) .fail) (Nat.ble 43 f)) (Nat.ble 42 f)) (Nat.ble 40 f)) (Nat.ble 36 f)) (Nat.ble 29 f)) (@Bool.rec (fun _ => CRes) (@Bool.rec (fun _ => CRes) (@Bool.rec (fun _ => CRes) (@Bool.rec (fun _ => CRes) (brQ1 f 52 l (fun a0 => QsP (recN (b52 cf) 1000000 0 [a0] ⟨h.next, h.objs, T.pol 52⟩) h.pol) .fail) (@Bool.rec (fun _ => CRes) (brQ1 f 53 l (fun a0 => QsP (recN (b53 cf) 1000000 0 [a0] ⟨h.next, h.objs, T.pol 53⟩) h.pol) .fail) (brQ1 f 54 l (fun a0 => QsP (recN (b54 cf) 1000000 0 [a0] ⟨h.next, h.objs, T.pol 54⟩) h.pol) .fail) (Nat.ble 54 f)) (Nat.ble 53 f)) (@Bool.rec (fun _ => CRes) (@Bool.rec (fun _ => CRes) (brQ1 f 55 l (fun a0 => QsP (recN (b55 cf) 1000000 0 [a0] ⟨h.next, h.objs, T.pol 55⟩) h.pol) .fail) (brQ2 f 56 l (fun a0 a1 => ovK (T.ov 56) [a0, a1] h (QsP (recN (b56 cf) 1000000 0 [a0, a1] ⟨h.next, h.objs, T.pol 56⟩) h.pol)) .fail) (Nat.ble 56 f)) (@Bool.rec (fun _ => CRes) (brQ1 f 57 l (fun a0 => QsP (recN (b57 cf) 1000000 0 [a0] ⟨h.next, h.objs, T.pol 57⟩) h.pol) .fail) (brQ2 f 58 l (fun a0 a1 => QsP (recN (b58 cf) 1000000 0 [a0, a1] ⟨h.next, h.objs, T.pol 58⟩) h.pol) .fail) (Nat.ble 58 f)) (Nat.ble 57 f)) (Nat.ble 55 f)) (@Bool.rec (fun _ => CRes) (@Bool.rec (fun _ => CRes) (brQ2 f 59 l (fun a0 a1 => QsP (recN (b59 cf) 1000000 0 [a0, a1] ⟨h.next, h.objs, T.pol 59⟩) h.pol) .fail) (@Bool.rec (fun _ => CRes) (brQ1 f 60 l (fun a0 => ovK (T.ov 60) [a0] h (QsP (recN (b60 cf) 1000000 0 [a0] ⟨h.next, h.objs, T.pol 60⟩) h.pol)) .fail) (brQ2 f 61 l (fun a0 a1 => QsP (recN (b61 cf) 1000000 0 [a0, a1] ⟨h.next, h.objs, T.pol 61⟩) h.pol) .fail) (Nat.ble 61 f)) (Nat.ble 60 f)) (@Bool.rec (fun _ => CRes) (@Bool.rec (fun _ => CRes) (brQ2 f 62 l (fun a0 a1 => QsP (recN (b62 cf) 1000000 0 [a0, a1] ⟨h.next, h.objs, T.pol 62⟩) h.pol) .fail) (brQ4 f 63 l (fun a0 a1 a2 a3 => QsP (recN (b63 cf) 1000000 0 [a0, a1, a2, a3] ⟨h.next, h.objs, T.pol 63⟩) h.pol) .fail) (Nat.ble 63 f)) (@Bool.rec (fun _ => CRes) (brQ2 f 64 l (fun a0 a1 => QsP (recN (b64 cf) 1000000 0 [a0, a1] ⟨h.next, h.objs, T.pol 64⟩) h.pol) .fail) (brQ1 f 65 l (fun a0 => QsP (recN (b65 cf) 1000000 0 [a0] ⟨h.next, h.objs, T.pol 65⟩) h.pol) .fail) (Nat.ble 65 f)) (Nat.ble 64 f)) (Nat.ble 62 f)) (Nat.ble 59 f)) (@Bool.rec (fun _ => CRes) (@Bool.rec (fun _ => CRes) (@Bool.rec (fun _ => CRes) (brQ2 f 66 l (fun a0 a1 => QsP (recN (b66 cf) 1000000 0 [a0, a1] ⟨h.next, h.objs, T.pol 66⟩) h.pol) .fail) (@Bool.rec (fun _ => CRes) (brQ3 f 73 l (fun a0 a1 a2 => QsP (recN (b73 cf) 1000000 0 [a0, a1, a2] ⟨h.next, h.objs, T.pol 73⟩) h.pol) .fail) (brQ2 f 75 l (fun a0 a1 => QsP (recN (b75 cf) 1000000 0 [a0, a1] ⟨h.next, h.objs, T.pol 75⟩) h.pol) .fail) (Nat.ble 75 f)) (Nat.ble 73 f)) (@Bool.rec (fun _ => CRes) (@Bool.rec (fun _ => CRes) (brQ2 f 78 l (fun a0 a1 => QsP (recN (b78 cf) 1000000 0 [a0, a1] ⟨h.next, h.objs, T.pol 78⟩) h.pol) .fail) (brQ1 f 79 l (fun a0 => ovK (T.ov 79) [a0] h (QsP (recN (b79 cf) 1000000 0 [a0] ⟨h.next, h.objs, T.pol 79⟩) h.pol)) .fail) (Nat.ble 79 f)) (@Bool.rec (fun _ => CRes) (brQ1 f 80 l (fun a0 => ovK (T.ov 80) [a0] h (QsP (recN (b80 cf) 1000000 0 [a0] ⟨h.next, h.objs, T.pol 80⟩) h.pol)) .fail) (brQ2 f 81 l (fun a0 a1 => QsP (recN (b81 cf) 1000000 0 [a0, a1] ⟨h.next, h.objs, T.pol 81⟩) h.pol) .fail) (Nat.ble 81 f)) (Nat.ble 80 f)) (Nat.ble 78 f)) (@Bool.rec (fun _ => CRes) (@Bool.rec (fun _ => CRes) (@Bool.rec (fun _ => CRes) (brQ2 f 82 l (fun a0 a1 => QsP (recN (b82 cf) 1000000 0 [a0, a1] ⟨h.next, h.objs, T.pol 82⟩) h.pol) .fail) (brQ2 f 83 l (fun a0 a1 => QsP (recN (b83 cf) 1000000 0 [a0, a1] ⟨h.next, h.objs, T.pol 83⟩) h.pol) .fail) (Nat.ble 83 f)) (@Bool.rec (fun _ => CRes) (brQ2 f 84 l (fun a0 a1 => QsP (recN (b84 cf) 1000000 0 [a0, a1] ⟨h.next, h.objs, T.pol 84⟩) h.pol) .fail) (brQ3 f 85 l (fun a0 a1 a2 => QsP (recN (b85 cf) 1000000 0 [a0, a1, a2] ⟨h.next, h.objs, T.pol 85⟩) h.pol) .fail) (Nat.ble 85 f)) (Nat.ble 84 f)) (@Bool.rec (fun _ => CRes) (@Bool.rec (fun _ => CRes) (brQ1 f 86 l (fun a0 => QsP (recN (b86 cf) 1000000 0 [a0] ⟨h.next, h.objs, T.pol 86⟩) h.pol) .fail) (brQ1 f 96 l (fun a0 => QsP (recN (b96 cf) 1000000 0 [a0] ⟨h.next, h.objs, T.pol 96⟩) h.pol) .fail) (Nat.ble 96 f)) (@Bool.rec (fun _ => CRes) (brQ2 f 98 l (fun a0 a1 => QsP (recN (b98 cf) 1000000 0 [a0, a1] ⟨h.next, h.objs, T.pol 98⟩) h.pol) .fail) (brQ2 f 111 l (fun a0 a1 => QsP (recN (b111 cf) 1000000 0 [a0, a1] ⟨h.next, h.objs, T.pol 111⟩) h.pol) .fail) (Nat.ble 111 f)) (Nat.ble 98 f)) (Nat.ble 86 f)) (Nat.ble 82 f)) (Nat.ble 66 f)) (Nat.ble 52 f)
theorem cfB_le {T : Tab} (hN : ∀ f, tabB f = false → T.ov f = none) (cf : CallF) (hc : leC cf (CL T)) (f : FuncId) (l : List IV) (h : H) : le (cfB T cf f l h) (CL T f l h) := by
  unfold cfB
  simp only [QsP_eq, brQ0_eq, brQ1_eq, brQ2_eq, brQ3_eq, brQ4_eq]
  refine le_brec ?_ ?_
  · refine le_brec ?_ ?_
    · refine le_brec ?_ ?_
      · refine le_brec ?_ ?_
        · refine le_brec ?_ ?_
          · refine le_brec ?_ ?_
            · exact le_br2 (J := fun f l => CL T f l h) (fun e a0 a1 => call_le (hN 111 rfl) Tryz.func111 rfl rfl rfl (r111 hc _ 0 _ _)) (le_fail _)
            · exact le_br2 (J := fun f l => CL T f l h) (fun e a0 a1 => call_le (hN 98 rfl) Tryz.func98 rfl rfl rfl (r98 hc _ 0 _ _)) (le_fail _)
          · refine le_brec ?_ ?_
            · exact le_br1 (J := fun f l => CL T f l h) (fun e a0 => call_le (hN 96 rfl) Tryz.func96 rfl rfl rfl (r96 hc _ 0 _ _)) (le_fail _)
            · exact le_br1 (J := fun f l => CL T f l h) (fun e a0 => call_le (hN 86 rfl) Tryz.func86 rfl rfl rfl (r86 hc _ 0 _ _)) (le_fail _)
        · refine le_brec ?_ ?_
          · refine le_brec ?_ ?_
            · exact le_br3 (J := fun f l => CL T f l h) (fun e a0 a1 a2 => call_le (hN 85 rfl) Tryz.func85 rfl rfl rfl (r85 hc _ 0 _ _)) (le_fail _)
            · exact le_br2 (J := fun f l => CL T f l h) (fun e a0 a1 => call_le (hN 84 rfl) Tryz.func84 rfl rfl rfl (r84 hc _ 0 _ _)) (le_fail _)
          · refine le_brec ?_ ?_
            · exact le_br2 (J := fun f l => CL T f l h) (fun e a0 a1 => call_le (hN 83 rfl) Tryz.func83 rfl rfl rfl (r83 hc _ 0 _ _)) (le_fail _)
            · exact le_br2 (J := fun f l => CL T f l h) (fun e a0 a1 => call_le (hN 82 rfl) Tryz.func82 rfl rfl rfl (r82 hc _ 0 _ _)) (le_fail _)
      · refine le_brec ?_ ?_
        · refine le_brec ?_ ?_
          · refine le_brec ?_ ?_
            · exact le_br2 (J := fun f l => CL T f l h) (fun e a0 a1 => call_le (hN 81 rfl) Tryz.func81 rfl rfl rfl (r81 hc _ 0 _ _)) (le_fail _)
            · exact le_br1 (J := fun f l => CL T f l h) (fun e a0 => le_ovK fun ho => call_le ho Tryz.func80 rfl rfl rfl (r80 hc _ 0 _ _)) (le_fail _)
          · refine le_brec ?_ ?_
            · exact le_br1 (J := fun f l => CL T f l h) (fun e a0 => le_ovK fun ho => call_le ho Tryz.func79 rfl rfl rfl (r79 hc _ 0 _ _)) (le_fail _)
            · exact le_br2 (J := fun f l => CL T f l h) (fun e a0 a1 => call_le (hN 78 rfl) Tryz.func78 rfl rfl rfl (r78 hc _ 0 _ _)) (le_fail _)
        · refine le_brec ?_ ?_
          · refine le_brec ?_ ?_
            · exact le_br2 (J := fun f l => CL T f l h) (fun e a0 a1 => call_le (hN 75 rfl) Tryz.func75 rfl rfl rfl (r75 hc _ 0 _ _)) (le_fail _)
            · exact le_br3 (J := fun f l => CL T f l h) (fun e a0 a1 a2 => call_le (hN 73 rfl) Tryz.func73 rfl rfl rfl (r73 hc _ 0 _ _)) (le_fail _)
          · exact le_br2 (J := fun f l => CL T f l h) (fun e a0 a1 => call_le (hN 66 rfl) Tryz.func66 rfl rfl rfl (r66 hc _ 0 _ _)) (le_fail _)
    · refine le_brec ?_ ?_
      · refine le_brec ?_ ?_
        · refine le_brec ?_ ?_
          · refine le_brec ?_ ?_
            · exact le_br1 (J := fun f l => CL T f l h) (fun e a0 => call_le (hN 65 rfl) Tryz.func65 rfl rfl rfl (r65 hc _ 0 _ _)) (le_fail _)
            · exact le_br2 (J := fun f l => CL T f l h) (fun e a0 a1 => call_le (hN 64 rfl) Tryz.func64 rfl rfl rfl (r64 hc _ 0 _ _)) (le_fail _)
          · refine le_brec ?_ ?_
            · exact le_br4 (J := fun f l => CL T f l h) (fun e a0 a1 a2 a3 => call_le (hN 63 rfl) Tryz.func63 rfl rfl rfl (r63 hc _ 0 _ _)) (le_fail _)
            · exact le_br2 (J := fun f l => CL T f l h) (fun e a0 a1 => call_le (hN 62 rfl) Tryz.func62 rfl rfl rfl (r62 hc _ 0 _ _)) (le_fail _)
        · refine le_brec ?_ ?_
          · refine le_brec ?_ ?_
            · exact le_br2 (J := fun f l => CL T f l h) (fun e a0 a1 => call_le (hN 61 rfl) Tryz.func61 rfl rfl rfl (r61 hc _ 0 _ _)) (le_fail _)
            · exact le_br1 (J := fun f l => CL T f l h) (fun e a0 => le_ovK fun ho => call_le ho Tryz.func60 rfl rfl rfl (r60 hc _ 0 _ _)) (le_fail _)
          · exact le_br2 (J := fun f l => CL T f l h) (fun e a0 a1 => call_le (hN 59 rfl) Tryz.func59 rfl rfl rfl (r59 hc _ 0 _ _)) (le_fail _)
      · refine le_brec ?_ ?_
        · refine le_brec ?_ ?_
          · refine le_brec ?_ ?_
            · exact le_br2 (J := fun f l => CL T f l h) (fun e a0 a1 => call_le (hN 58 rfl) Tryz.func58 rfl rfl rfl (r58 hc _ 0 _ _)) (le_fail _)
            · exact le_br1 (J := fun f l => CL T f l h) (fun e a0 => call_le (hN 57 rfl) Tryz.func57 rfl rfl rfl (r57 hc _ 0 _ _)) (le_fail _)
          · refine le_brec ?_ ?_
            · exact le_br2 (J := fun f l => CL T f l h) (fun e a0 a1 => le_ovK fun ho => call_le ho Tryz.func56 rfl rfl rfl (r56 hc _ 0 _ _)) (le_fail _)
            · exact le_br1 (J := fun f l => CL T f l h) (fun e a0 => call_le (hN 55 rfl) Tryz.func55 rfl rfl rfl (r55 hc _ 0 _ _)) (le_fail _)
        · refine le_brec ?_ ?_
          · refine le_brec ?_ ?_
            · exact le_br1 (J := fun f l => CL T f l h) (fun e a0 => call_le (hN 54 rfl) Tryz.func54 rfl rfl rfl (r54 hc _ 0 _ _)) (le_fail _)
            · exact le_br1 (J := fun f l => CL T f l h) (fun e a0 => call_le (hN 53 rfl) Tryz.func53 rfl rfl rfl (r53 hc _ 0 _ _)) (le_fail _)
          · exact le_br1 (J := fun f l => CL T f l h) (fun e a0 => call_le (hN 52 rfl) Tryz.func52 rfl rfl rfl (r52 hc _ 0 _ _)) (le_fail _)
  · refine le_brec ?_ ?_
    · refine le_brec ?_ ?_
      · refine le_brec ?_ ?_
        · refine le_brec ?_ ?_
          · refine le_brec ?_ ?_
            · exact le_br3 (J := fun f l => CL T f l h) (fun e a0 a1 a2 => call_le (hN 43 rfl) Tryz.func43 rfl rfl rfl (r43 hc _ 0 _ _)) (le_fail _)
            · exact le_br1 (J := fun f l => CL T f l h) (fun e a0 => call_le (hN 42 rfl) Tryz.func42 rfl rfl rfl (r42 hc _ 0 _ _)) (le_fail _)
          · refine le_brec ?_ ?_
            · exact le_br2 (J := fun f l => CL T f l h) (fun e a0 a1 => call_le (hN 41 rfl) Tryz.func41 rfl rfl rfl (r41 hc _ 0 _ _)) (le_fail _)
            · exact le_br2 (J := fun f l => CL T f l h) (fun e a0 a1 => call_le (hN 40 rfl) Tryz.func40 rfl rfl rfl (r40 hc _ 0 _ _)) (le_fail _)
        · refine le_brec ?_ ?_
          · refine le_brec ?_ ?_
            · exact le_br1 (J := fun f l => CL T f l h) (fun e a0 => call_le (hN 39 rfl) Tryz.func39 rfl rfl rfl (r39 hc _ 0 _ _)) (le_fail _)
            · exact le_br2 (J := fun f l => CL T f l h) (fun e a0 a1 => call_le (hN 38 rfl) Tryz.func38 rfl rfl rfl (r38 hc _ 0 _ _)) (le_fail _)
          · refine le_brec ?_ ?_
            · exact le_br1 (J := fun f l => CL T f l h) (fun e a0 => call_le (hN 37 rfl) Tryz.func37 rfl rfl rfl (r37 hc _ 0 _ _)) (le_fail _)
            · exact le_br1 (J := fun f l => CL T f l h) (fun e a0 => call_le (hN 36 rfl) Tryz.func36 rfl rfl rfl (r36 hc _ 0 _ _)) (le_fail _)
      · refine le_brec ?_ ?_
        · refine le_brec ?_ ?_
          · refine le_brec ?_ ?_
            · exact le_br2 (J := fun f l => CL T f l h) (fun e a0 a1 => call_le (hN 35 rfl) Tryz.func35 rfl rfl rfl (r35 hc _ 0 _ _)) (le_fail _)
            · exact le_br3 (J := fun f l => CL T f l h) (fun e a0 a1 a2 => call_le (hN 34 rfl) Tryz.func34 rfl rfl rfl (r34 hc _ 0 _ _)) (le_fail _)
          · refine le_brec ?_ ?_
            · exact le_br2 (J := fun f l => CL T f l h) (fun e a0 a1 => call_le (hN 33 rfl) Tryz.func33 rfl rfl rfl (r33 hc _ 0 _ _)) (le_fail _)
            · exact le_br1 (J := fun f l => CL T f l h) (fun e a0 => call_le (hN 32 rfl) Tryz.func32 rfl rfl rfl (r32 hc _ 0 _ _)) (le_fail _)
        · refine le_brec ?_ ?_
          · refine le_brec ?_ ?_
            · exact le_br1 (J := fun f l => CL T f l h) (fun e a0 => call_le (hN 31 rfl) Tryz.func31 rfl rfl rfl (r31 hc _ 0 _ _)) (le_fail _)
            · exact le_br3 (J := fun f l => CL T f l h) (fun e a0 a1 a2 => call_le (hN 30 rfl) Tryz.func30 rfl rfl rfl (r30 hc _ 0 _ _)) (le_fail _)
          · exact le_br2 (J := fun f l => CL T f l h) (fun e a0 a1 => call_le (hN 29 rfl) Tryz.func29 rfl rfl rfl (r29 hc _ 0 _ _)) (le_fail _)
    · refine le_brec ?_ ?_
      · refine le_brec ?_ ?_
        · refine le_brec ?_ ?_
          · refine le_brec ?_ ?_
            · exact le_br1 (J := fun f l => CL T f l h) (fun e a0 => call_le (hN 28 rfl) Tryz.func28 rfl rfl rfl (r28 hc _ 0 _ _)) (le_fail _)
            · exact le_br2 (J := fun f l => CL T f l h) (fun e a0 a1 => call_le (hN 27 rfl) Tryz.func27 rfl rfl rfl (r27 hc _ 0 _ _)) (le_fail _)
          · refine le_brec ?_ ?_
            · exact le_br2 (J := fun f l => CL T f l h) (fun e a0 a1 => call_le (hN 26 rfl) Tryz.func26 rfl rfl rfl (r26 hc _ 0 _ _)) (le_fail _)
            · exact le_br3 (J := fun f l => CL T f l h) (fun e a0 a1 a2 => call_le (hN 25 rfl) Tryz.func25 rfl rfl rfl (r25 hc _ 0 _ _)) (le_fail _)
        · refine le_brec ?_ ?_
          · refine le_brec ?_ ?_
            · exact le_br2 (J := fun f l => CL T f l h) (fun e a0 a1 => call_le (hN 24 rfl) Tryz.func24 rfl rfl rfl (r24 hc _ 0 _ _)) (le_fail _)
            · exact le_br1 (J := fun f l => CL T f l h) (fun e a0 => call_le (hN 18 rfl) Tryz.func18 rfl rfl rfl (r18 hc _ 0 _ _)) (le_fail _)
          · exact le_br2 (J := fun f l => CL T f l h) (fun e a0 a1 => call_le (hN 17 rfl) Tryz.func17 rfl rfl rfl (r17 hc _ 0 _ _)) (le_fail _)
      · refine le_brec ?_ ?_
        · refine le_brec ?_ ?_
          · refine le_brec ?_ ?_
            · exact le_br1 (J := fun f l => CL T f l h) (fun e a0 => call_le (hN 15 rfl) Tryz.func15 rfl rfl rfl (r15 hc _ 0 _ _)) (le_fail _)
            · exact le_br1 (J := fun f l => CL T f l h) (fun e a0 => call_le (hN 14 rfl) Tryz.func14 rfl rfl rfl (r14 hc _ 0 _ _)) (le_fail _)
          · refine le_brec ?_ ?_
            · exact le_br2 (J := fun f l => CL T f l h) (fun e a0 a1 => call_le (hN 12 rfl) Tryz.func12 rfl rfl rfl (r12 hc _ 0 _ _)) (le_fail _)
            · exact le_br1 (J := fun f l => CL T f l h) (fun e a0 => call_le (hN 9 rfl) Tryz.func9 rfl rfl rfl (r9 hc _ 0 _ _)) (le_fail _)
        · refine le_brec ?_ ?_
          · refine le_brec ?_ ?_
            · exact le_br0 (J := fun f l => CL T f l h) (fun e => le_ovK fun ho => call_le ho Tryz.func8 rfl rfl rfl (r8 hc _ 0 _ _)) (le_fail _)
            · exact le_br1 (J := fun f l => CL T f l h) (fun e a0 => call_le (hN 7 rfl) Tryz.func7 rfl rfl rfl (r7 hc _ 0 _ _)) (le_fail _)
          · exact le_br2 (J := fun f l => CL T f l h) (fun e a0 a1 => call_le (hN 5 rfl) Tryz.func5 rfl rfl rfl (r5 hc _ 0 _ _)) (le_fail _)

/-- the run of a closed call -/
noncomputable def CN (T : Tab) (n : Nat) : CallF := @Nat.rec (fun _ => CallF) (fun _ _ _ => .fail) (fun _ cf => cfB T cf) n
theorem CN_le {T : Tab} (hN : ∀ f, tabB f = false → T.ov f = none) (n : Nat) : leC (CN T n) (CL T) := by
  induction n with
  | zero => exact fun _ _ _ => le_fail _
  | succ n ih => exact fun f l h => cfB_le hN _ ih f l h
theorem CN_val {T : Tab} (hN : ∀ f, tabB f = false → T.ov f = none) {n : Nat} {f : FuncId} {args : List IV} {h : H} {v : IV} (e : (CN T n f args h).val = some v) : ∃ h', CL T f args h = .ok v h' := run_val (CN_le hN n) e

end Go.Proofs.YtomgclpeimipoaaGreatDoor

namespace Go.Proofs.YtomgclpeimipoaaGreatDoor
open Go I
set_option maxRecDepth 100000
set_option linter.unusedVariables false
set_option linter.unusedSimpArgs false

def pol (f : FuncId) : Bool := true
noncomputable def tab0 : Tab := ⟨ovOf [], pol⟩
theorem step0 : OvStep tab0 := ovStep_of fun x hx args g => by cases hx
theorem sound0 : ∀ w₀ S, CallS Tryz.prog w₀ S (CL tab0) := call_sound (fun w₀ S => ovS_of fun x hx => by cases hx) Tryz.checked.mixed noNum
theorem no0 : ∀ f, tabB f = false → tab0.ov f = none := fun _ _ => rfl
theorem awake8 : ∃ h', CL tab0 8 [] H0 = .ok (.bool true) h' := CN_val no0 (n := 60) (by kernel_rfl)

end Go.Proofs.YtomgclpeimipoaaGreatDoor

namespace Go.Proofs.YtomgclpeimipoaaGreatDoor
open Go I
set_option maxRecDepth 100000
set_option linter.unusedVariables false
set_option linter.unusedSimpArgs false

theorem lenStr_raw (s : Str) : lenStr (.str s) = some (.int .i64 (s.len : Nat)) := rfl
theorem binS_raw (a b : Str) : binS .eql (.str a) (.str b) = some (.bool (a.eq b)) := rfl
theorem slc_raw (s : Str) (a b : Nat) (h1 : a ≤ b) (h2 : b ≤ s.len) : slcStr (.str s) (some (.int .i64 (a : Nat))) (some (.int .i64 (b : Nat))) = some (.str (s.ext a b)) := by
  simp only [slcStr, boundI]
  rw [if_pos ⟨by omega, by omega⟩]
  simp only
  rw [if_pos ⟨by omega, by omega⟩]
  simp
theorem begins25 {h : H} (g : Gd h) (s t : Str) (n : Nat) (hs : s.len ≤ 131072) (hn : n ≤ s.len) (ht : t.len ≤ 2) : CL tab0 25 [.str s, .int .i64 (n : Nat), .str t] h = .ok (.bool (decide (n + t.len ≤ s.len) && Str.eq (s.ext n (n + t.len)) t)) h := by
  refine c25 step0 rfl rfl g ?_ (by simp)
  have e2 : wr .i64 ((s.len : Int) - (n : Nat)) = (s.len : Int) - (n : Nat) := wr_i64 (by omega) (by omega)
  have e9 : wr .i64 ((n : Int) + (t.len : Nat)) = ((n + t.len : Nat) : Int) := by rw [wr_i64 (by omega) (by omega)]; omega
  by_cases hc : n + t.len ≤ s.len
  · have h4 : ((t.len : Nat) : Int) ≤ (s.len : Int) - (n : Nat) := by omega
    simp only [t25_0, lenStr_raw, W, decide_eq_true_eq, Bool.not_eq_true', decide_eq_false_iff_not, Bool.false_eq_true, Bool.not_true, Bool.not_false, decide_true, decide_false, not_true_eq_false, not_false_eq_true, and_true, true_and, and_false, false_and, ne_eq, Nat.zero_add, Nat.add_zero, cond_true, cond_false, ↓reduceIte, reduceCtorEq, Nat.reduceAdd, Int.reduceEq, Int.reduceNe, Int.reduceLT, Int.reduceLE, Int.reduceAdd, Int.reduceSub, Int.reduceMul, Int.reduceNeg, Nat.reduceMul, List.getElem?_cons_zero, List.getElem?_cons_succ, e2, h4, e9, slc_raw s n (n + t.len) (by omega) hc, binS_raw, hc, decide_true, Bool.true_and]
  · have h4 : ¬ ((t.len : Nat) : Int) ≤ (s.len : Int) - (n : Nat) := by omega
    simp only [t25_0, lenStr_raw, W, decide_eq_true_eq, Bool.not_eq_true', decide_eq_false_iff_not, Bool.false_eq_true, Bool.not_true, Bool.not_false, decide_true, decide_false, not_true_eq_false, not_false_eq_true, and_true, true_and, and_false, false_and, ne_eq, Nat.zero_add, Nat.add_zero, cond_true, cond_false, ↓reduceIte, reduceCtorEq, Nat.reduceAdd, Int.reduceEq, Int.reduceNe, Int.reduceLT, Int.reduceLE, Int.reduceAdd, Int.reduceSub, Int.reduceMul, Int.reduceNeg, Nat.reduceMul, List.getElem?_cons_zero, List.getElem?_cons_succ, e2, h4, hc, decide_false, Bool.false_and]

def twos : List Str := [⟨2, 9766⟩, ⟨2, 31868⟩, ⟨2, 15677⟩, ⟨2, 15649⟩, ⟨2, 15676⟩, ⟨2, 15678⟩, ⟨2, 15420⟩, ⟨2, 15934⟩]
def ones : Str := ⟨24, 1035797962038895658522808901809198590842054073607314417960⟩
def hit (s : Str) (n : Nat) (t : Str) : Bool := decide (n + t.len ≤ s.len) && Str.eq (s.ext n (n + t.len)) t
def twoE (s : Str) (n : Nat) : List Str → Option Str
  | [] => none
  | t :: l => if hit s n t = true then some t else twoE s n l
theorem loop1 {h : H} (g : Gd h) {b : Nat} (c : Cs h b false true (twos.map IV.str)) (s : Str) (n : Nat) (hs : s.len ≤ 131072) (hn : n ≤ s.len) : ∀ (k i : Nat), i + k = 8 → ∀ r : CRes, r ≠ .fail → J56 tab0 2 [.str s, .int .i64 (n : Nat), .str ones, .int .i64 0] h = r →
    J56 tab0 1 [.str s, .int .i64 (n : Nat), .slice b 0 8 1, .int .i64 (i : Nat)] h = (match twoE s n (twos.drop i) with | some t => .ok (.str t) h | none => r) := by
  intro k
  induction k with
  | zero =>
    intro i hi r hr e
    have hi8 : i = 8 := by omega
    subst hi8
    have hd : twos.drop 8 = [] := rfl
    rw [hd]
    simp only [twoE]
    refine e56_1 ?_ hr
    have : ¬ ((8 : Nat) : Int) < ((8 : Nat) : Int) := by omega
    simp only [t56_1, lenS, W, decide_eq_true_eq, Bool.not_eq_true', decide_eq_false_iff_not, Bool.false_eq_true, Bool.not_true, Bool.not_false, decide_true, decide_false, not_true_eq_false, not_false_eq_true, and_true, true_and, and_false, false_and, ne_eq, Nat.zero_add, Nat.add_zero, cond_true, cond_false, ↓reduceIte, reduceCtorEq, Nat.reduceAdd, Int.reduceEq, Int.reduceNe, Int.reduceLT, Int.reduceLE, Int.reduceAdd, Int.reduceSub, Int.reduceMul, Int.reduceNeg, Nat.reduceMul, List.getElem?_cons_zero, List.getElem?_cons_succ, this]
    exact e
  | succ k ih =>
    intro i hi r hr e
    have hlt : i < twos.length := by show i < 8; omega
    have hx : twos[i]? = some twos[i] := List.getElem?_eq_getElem hlt
    have hlt' : ((i : Nat) : Int) < ((8 : Nat) : Int) := by omega
    have eix : ixS 1 (.slice b 0 8 1) (.int .i64 (i : Nat)) = some (.ptr b i) := by
      rw [ixS_eq]; simp only [ixS0]; rw [if_pos ⟨trivial, by omega, by omega⟩]; simp
    have eld : I.ld0 h (.ptr b i) = some (.str twos[i]) := by
      rw [c.ld0 i, List.getElem?_map, hx]; rfl
    have ht2 : ∀ t ∈ twos, t.len ≤ 2 := by decide
    have e25 := begins25 g s twos[i] n hs hn (ht2 _ (List.getElem_mem hlt))
    have hd : twos.drop i = twos[i] :: twos.drop (i + 1) := List.drop_eq_getElem_cons hlt
    have ei : wr .i64 ((i : Int) + 1) = ((i + 1 : Nat) : Int) := by rw [wr_i64 (by omega) (by omega)]; omega
    rw [hd]
    simp only [twoE]
    by_cases hh : hit s n twos[i] = true
    · rw [if_pos hh]
      refine e56_1 ?_ (by simp)
      have e25' : CL tab0 25 [.str s, .int .i64 (n : Nat), .str twos[i]] h = .ok (.bool true) h := by rw [e25]; unfold hit at hh; rw [hh]
      simp only [t56_1, lenS, W, decide_eq_true_eq, Bool.not_eq_true', decide_eq_false_iff_not, Bool.false_eq_true, Bool.not_true, Bool.not_false, decide_true, decide_false, not_true_eq_false, not_false_eq_true, and_true, true_and, and_false, false_and, ne_eq, Nat.zero_add, Nat.add_zero, cond_true, cond_false, ↓reduceIte, reduceCtorEq, Nat.reduceAdd, Int.reduceEq, Int.reduceNe, Int.reduceLT, Int.reduceLE, Int.reduceAdd, Int.reduceSub, Int.reduceMul, Int.reduceNeg, Nat.reduceMul, List.getElem?_cons_zero, List.getElem?_cons_succ, hlt', eix, eld, e25']
    · rw [if_neg hh]
      have e25' : CL tab0 25 [.str s, .int .i64 (n : Nat), .str twos[i]] h = .ok (.bool false) h := by rw [e25]; unfold hit at hh; simp only [Bool.not_eq_true] at hh; rw [hh]
      refine e56_1 ?_ (by split <;> simp [hr])
      simp only [t56_1, lenS, W, decide_eq_true_eq, Bool.not_eq_true', decide_eq_false_iff_not, Bool.false_eq_true, Bool.not_true, Bool.not_false, decide_true, decide_false, not_true_eq_false, not_false_eq_true, and_true, true_and, and_false, false_and, ne_eq, Nat.zero_add, Nat.add_zero, cond_true, cond_false, ↓reduceIte, reduceCtorEq, Nat.reduceAdd, Int.reduceEq, Int.reduceNe, Int.reduceLT, Int.reduceLE, Int.reduceAdd, Int.reduceSub, Int.reduceMul, Int.reduceNeg, Nat.reduceMul, List.getElem?_cons_zero, List.getElem?_cons_succ, hlt', eix, eld, e25', ei]
      exact ih (i + 1) (by omega) r hr e
def oneR (c : Nat) : Nat → Nat → IV
  | 0, i => .str ⟨0, 0⟩
  | k + 1, i => if c = ones.at i then .str (ones.ext i (i + 1)) else oneR c k (i + 1)
theorem loop2 {h : H} (s : Str) (n : Nat) (hn : n < s.len) : ∀ (k i : Nat), i + k = 24 → J56 tab0 2 [.str s, .int .i64 (n : Nat), .str ones, .int .i64 (i : Nat)] h = .ok (oneR (s.at n) k i) h := by
  intro k
  induction k with
  | zero =>
    intro i hi
    have hi8 : i = 24 := by omega
    subst hi8
    refine e56_2 ?_ (by simp)
    have hl : lenStr (.str ones) = some (.int .i64 24) := rfl
    have : ¬ ((24 : Nat) : Int) < 24 := by omega
    simp only [t56_2, hl, W, decide_eq_true_eq, Bool.not_eq_true', decide_eq_false_iff_not, Bool.false_eq_true, Bool.not_true, Bool.not_false, decide_true, decide_false, not_true_eq_false, not_false_eq_true, and_true, true_and, and_false, false_and, ne_eq, Nat.zero_add, Nat.add_zero, cond_true, cond_false, ↓reduceIte, reduceCtorEq, Nat.reduceAdd, Int.reduceEq, Int.reduceNe, Int.reduceLT, Int.reduceLE, Int.reduceAdd, Int.reduceSub, Int.reduceMul, Int.reduceNeg, Nat.reduceMul, List.getElem?_cons_zero, List.getElem?_cons_succ, this, oneR]
  | succ k ih =>
    intro i hi
    refine e56_2 ?_ (by simp)
    have hl : lenStr (.str ones) = some (.int .i64 24) := rfl
    have hlt : ((i : Nat) : Int) < 24 := by omega
    have e14 : ixStr (.str s) (.int .i64 (n : Nat)) = some (.int .u8 (s.at n : Nat)) := by
      rw [ixStr_eq]; simp only [ixStr0]; rw [if_pos ⟨by omega, by omega⟩]; simp
    have e15 : ixStr (.str ones) (.int .i64 (i : Nat)) = some (.int .u8 (ones.at i : Nat)) := by
      rw [ixStr_eq]; simp only [ixStr0]; rw [if_pos ⟨by omega, by show ((i : Nat) : Int) < (24 : Nat); omega⟩]; simp
    have ei : wr .i64 ((i : Int) + 1) = ((i + 1 : Nat) : Int) := by rw [wr_i64 (by omega) (by omega)]; omega
    have e18 : slcStr (.str ones) (some (.int .i64 (i : Nat))) (some (.int .i64 ((i + 1 : Nat) : Int))) = some (.str (ones.ext i (i + 1))) := slc_raw ones i (i + 1) (by omega) (by show i + 1 ≤ 24; omega)
    by_cases hc : s.at n = ones.at i
    · have hc' : ((s.at n : Nat) : Int) = (ones.at i : Nat) := by rw [hc]
      simp only [t56_2, hl, W, decide_eq_true_eq, Bool.not_eq_true', decide_eq_false_iff_not, Bool.false_eq_true, Bool.not_true, Bool.not_false, decide_true, decide_false, not_true_eq_false, not_false_eq_true, and_true, true_and, and_false, false_and, ne_eq, Nat.zero_add, Nat.add_zero, cond_true, cond_false, ↓reduceIte, reduceCtorEq, Nat.reduceAdd, Int.reduceEq, Int.reduceNe, Int.reduceLT, Int.reduceLE, Int.reduceAdd, Int.reduceSub, Int.reduceMul, Int.reduceNeg, Nat.reduceMul, List.getElem?_cons_zero, List.getElem?_cons_succ, hlt, e14, e15, hc', ei, e18]
      unfold oneR
      rw [if_pos hc]
    · have hc' : ¬ ((s.at n : Nat) : Int) = (ones.at i : Nat) := by omega
      simp only [t56_2, hl, W, decide_eq_true_eq, Bool.not_eq_true', decide_eq_false_iff_not, Bool.false_eq_true, Bool.not_true, Bool.not_false, decide_true, decide_false, not_true_eq_false, not_false_eq_true, and_true, true_and, and_false, false_and, ne_eq, Nat.zero_add, Nat.add_zero, cond_true, cond_false, ↓reduceIte, reduceCtorEq, Nat.reduceAdd, Int.reduceEq, Int.reduceNe, Int.reduceLT, Int.reduceLE, Int.reduceAdd, Int.reduceSub, Int.reduceMul, Int.reduceNeg, Nat.reduceMul, List.getElem?_cons_zero, List.getElem?_cons_succ, hlt, e14, e15, hc', ei]
      rw [oneR, if_neg hc]
      exact ih (i + 1) (by omega)
/-- one byte's sign -/
def oneB (c : Nat) : Bool := [40, 41, 91, 93, 123, 125, 44, 59, 58, 46, 35, 64, 63, 43, 45, 126, 33, 38, 124, 94, 61, 60, 42, 62].any fun x => Nat.beq x c
def oneV (c : Nat) : IV := bif oneB c then .str ⟨1, c⟩ else .str ⟨0, 0⟩
theorem oneR_eq (c : Nat) (hc : c < 256) : oneR c 24 0 = oneV c := by
  have h : ((List.range 256).all fun c => IV.beq (oneR c 24 0) (oneV c)) = true := by kernel_rfl
  exact IV.beq_eq (List.all_eq_true.1 h c (List.mem_range.2 hc))
def twoB (s : Str) (n : Nat) : Bool := [9766, 31868, 15677, 15649, 15676, 15678, 15420, 15934].any fun x => Nat.beq x (Nat.mod (Nat.div s.val (Nat.pow 256 n)) 65536)
def g56 (args : List IV) : Option IV :=
  match args with
  | [.str s, .int .i64 (.ofNat n)] => bif (Nat.ble (Nat.succ n) s.len && Nat.ble s.len 131072) then
      (bif (Nat.ble (Nat.add n 2) s.len && twoB s n) then T.fN (Nat.mod (Nat.div s.val (Nat.pow 256 n)) 65536) fun x => some (.str ⟨2, x⟩) else T.fN (Nat.mod (Nat.div s.val (Nat.pow 256 n)) 256) fun x => some (oneV x)) else none
  | _ => none
theorem twoE_any (s : Str) (n : Nat) (hn : n + 2 ≤ s.len) : twoE s n twos = bif twoB s n then some ⟨2, s.val / 256 ^ n % 65536⟩ else none := by
  have he : s.ext n (n + 2) = ⟨2, s.val / 256 ^ n % 65536⟩ := by
    simp only [Str.ext]
    rw [show n + 2 - n = 2 by omega]
  have hh : ∀ x : Nat, hit s n ⟨2, x⟩ = Nat.beq x (s.val / 256 ^ n % 65536) := by
    intro x
    unfold hit
    simp only [decide_eq_true hn, Bool.true_and, he, Str.eq]
    have : Nat.beq 2 2 = true := rfl
    rw [this, Bool.true_and, T.nbeq, T.nbeq]
    by_cases hx : x = s.val / 256 ^ n % 65536
    · simp [hx]
    · have hx' : ¬ s.val / 256 ^ n % 65536 = x := fun e => hx e.symm
      simp [hx, hx']
  unfold twoB
  have hp : Nat.mod (Nat.div s.val (Nat.pow 256 n)) 65536 = s.val / 256 ^ n % 65536 := rfl
  rw [hp]
  generalize s.val / 256 ^ n % 65536 = v at *
  simp only [twos, twoE, hh, List.any_cons, List.any_nil, T.nbeq, decide_eq_true_eq]
  repeat' split
  all_goals simp_all
theorem twoE_none (s : Str) (n : Nat) (hn : ¬ n + 2 ≤ s.len) : twoE s n twos = none := by
  have hh : ∀ x : Nat, hit s n ⟨2, x⟩ = false := by
    intro x
    unfold hit
    simp only [decide_eq_false hn, Bool.false_and]
  simp [twos, twoE, hh]
theorem t56 : PureT Tryz.prog (CL tab0) 56 g56 := ⟨⟨_, _, Tryz.func56, rfl⟩, fun args v hv => by
  unfold g56 at hv
  split at hv
  · rename_i s n
    refine ⟨rfl, ?_, true, ?_⟩
    all_goals
      cases hc : (Nat.ble (Nat.succ n) s.len && Nat.ble s.len 131072) with
      | false => rw [hc] at hv; cases hv
      | true => ?_
    · rw [hc] at hv
      simp only [cond_true, T.fN_eq] at hv
      cases ht : (Nat.ble (Nat.add n 2) s.len && twoB s n) with
      | true => rw [ht] at hv; injection hv with hv; subst hv; rfl
      | false =>
        rw [ht] at hv; injection hv with hv; subst hv
        unfold oneV
        cases oneB (Nat.mod (Nat.div s.val (Nat.pow 256 n)) 256) <;> rfl
    · rw [hc] at hv
      simp only [cond_true, T.fN_eq] at hv
      rw [nble, nble, Bool.and_eq_true, decide_eq_true_eq, decide_eq_true_eq] at hc
      obtain ⟨h1, h2⟩ := hc
      have h1 : n < s.len := h1
      obtain ⟨h', e, x, c⟩ := bslK_imm (z := [.str ⟨0, 0⟩]) (vs := twos.map IV.str) (show Gd H0 from ⟨fun b _ => rfl, rfl⟩) (es := 1) rfl (by intro w hw; obtain ⟨t, _, rfl⟩ := List.mem_map.1 hw; rfl) rfl
      have hco : cellsOf (twos.map IV.str) = twos.map IV.str := rfl
      rw [hco] at c
      have el2 := loop2 (h := h') s n h1 24 0 rfl
      rw [oneR_eq (s.at n) (Nat.mod_lt _ (by omega))] at el2
      have el1 := loop1 x.gd c s n h2 (by omega) 8 0 rfl _ (by simp) el2
      rw [List.drop_zero] at el1
      refine ⟨h', c56 step0 rfl rfl (show Gd H0 from ⟨fun b _ => rfl, rfl⟩) ?_ (by simp)⟩
      have e' : bslK false 1 [.str ⟨0, 0⟩] 8 [(0, (.str ⟨2, 9766⟩)), (1, (.str ⟨2, 31868⟩)), (2, (.str ⟨2, 15677⟩)), (3, (.str ⟨2, 15649⟩)), (4, (.str ⟨2, 15676⟩)), (5, (.str ⟨2, 15678⟩)), (6, (.str ⟨2, 15420⟩)), (7, (.str ⟨2, 15934⟩))] ⟨0, .leaf, true⟩ = some (.slice 0 0 8 1, h') := e
      simp only [t56_0, e', W, decide_eq_true_eq, Bool.not_eq_true', decide_eq_false_iff_not, Bool.false_eq_true, Bool.not_true, Bool.not_false, decide_true, decide_false, not_true_eq_false, not_false_eq_true, and_true, true_and, and_false, false_and, ne_eq, Nat.zero_add, Nat.add_zero, cond_true, cond_false, ↓reduceIte, reduceCtorEq, Nat.reduceAdd, Int.reduceEq, Int.reduceNe, Int.reduceLT, Int.reduceLE, Int.reduceAdd, Int.reduceSub, Int.reduceMul, Int.reduceNeg, Nat.reduceMul, List.getElem?_cons_zero, List.getElem?_cons_succ]
      refine Eq.trans el1 ?_
      by_cases h3 : n + 2 ≤ s.len
      · rw [twoE_any s n h3]
        have h3' : Nat.ble (Nat.add n 2) s.len = true := by rw [nble]; exact decide_eq_true h3
        rw [h3', Bool.true_and] at hv
        cases htb : twoB s n with
        | true => rw [htb] at hv; injection hv with hv; subst hv; rfl
        | false => rw [htb] at hv; injection hv with hv; subst hv; rfl
      · rw [twoE_none s n h3]
        have h3' : Nat.ble (Nat.add n 2) s.len = false := by rw [nble]; exact decide_eq_false h3
        rw [h3', Bool.false_and] at hv
        injection hv with hv; subst hv; rfl
  · cases hv⟩

def g25 (args : List IV) : Option IV :=
  match args with
  | [.str s, .int .i64 (.ofNat n), .str t] => bif (Nat.ble n s.len && (Nat.ble s.len 131072 && Nat.ble t.len 2)) then
      some (.bool (bif Nat.ble (Nat.add n t.len) s.len then (Nat.beq t.len (Nat.sub (Nat.add n t.len) n) && Nat.beq (Nat.mod (Nat.div s.val (Nat.pow 256 n)) (Nat.pow 256 (Nat.sub (Nat.add n t.len) n))) t.val) else false)) else none
  | _ => none
theorem t25 : PureT Tryz.prog (CL tab0) 25 g25 := ⟨⟨_, _, Tryz.func25, rfl⟩, fun args v hv => by
  unfold g25 at hv
  split at hv
  · rename_i s n t
    cases hc : (Nat.ble n s.len && (Nat.ble s.len 131072 && Nat.ble t.len 2)) with
    | false => rw [hc] at hv; cases hv
    | true =>
      rw [hc] at hv
      simp only [cond_true] at hv
      injection hv with hv; subst hv
      rw [nble, nble, nble, Bool.and_eq_true, Bool.and_eq_true, decide_eq_true_eq, decide_eq_true_eq, decide_eq_true_eq] at hc
      have e := begins25 (show Gd H0 from ⟨fun b _ => rfl, rfl⟩) s t n hc.2.1 hc.1 hc.2.2
      refine ⟨rfl, rfl, true, H0, ?_⟩
      have hq : (decide (n + t.len ≤ s.len) && Str.eq (s.ext n (n + t.len)) t) = (bif Nat.ble (Nat.add n t.len) s.len then (Nat.beq t.len (Nat.sub (Nat.add n t.len) n) && Nat.beq (Nat.mod (Nat.div s.val (Nat.pow 256 n)) (Nat.pow 256 (Nat.sub (Nat.add n t.len) n))) t.val) else false) := by
        rw [nble]
        by_cases h : n + t.len ≤ s.len
        · have h' : Nat.add n t.len ≤ s.len := h
          rw [decide_eq_true h, decide_eq_true h', Bool.true_and, cond_true]
          have e1 : Nat.beq (Nat.sub (Nat.add n t.len) n) t.len = Nat.beq t.len (Nat.sub (Nat.add n t.len) n) := by
            rw [T.nbeq, T.nbeq]; exact decide_eq_decide.2 eq_comm
          rw [← e1]; rfl
        · have h' : ¬ Nat.add n t.len ≤ s.len := h
          rw [decide_eq_false h, decide_eq_false h']; rfl
      rw [← hq]
      exact e
  · cases hv⟩

end Go.Proofs.YtomgclpeimipoaaGreatDoor

namespace Go.Proofs.YtomgclpeimipoaaGreatDoor
open Go I
set_option maxRecDepth 100000
set_option linter.unusedVariables false

def tbl60 : List (Str × IV) := [(⟨1, 97⟩, .bool false), (⟨1, 98⟩, .bool false), (⟨1, 99⟩, .bool false), (⟨1, 121⟩, .bool false), (⟨1, 109⟩, .bool false), (⟨6, 111516500389741⟩, .bool true), (⟨9, 1870936414602775522917⟩, .bool true), (⟨6, 121390429860705⟩, .bool true), (⟨5, 500186508905⟩, .bool true), (⟨6, 128047746676079⟩, .bool true)]
def tbl79 : List (Str × IV) := [(⟨5, 435626798624⟩, .tup [.int .i64 0, .int .i64 0]), (⟨1, 59⟩, .tup [.int .i64 0, .int .i64 0]), (⟨1, 61⟩, .tup [.int .i64 0, .int .i64 0]), (⟨1, 40⟩, .tup [.int .i64 0, .int .i64 0]), (⟨1, 41⟩, .tup [.int .i64 0, .int .i64 0]), (⟨1, 44⟩, .tup [.int .i64 0, .int .i64 0]), (⟨2, 31868⟩, .tup [.int .i64 1, .int .i64 27]), (⟨2, 9766⟩, .tup [.int .i64 2, .int .i64 26]), (⟨1, 124⟩, .tup [.int .i64 3, .int .i64 25]), (⟨1, 94⟩, .tup [.int .i64 4, .int .i64 24]), (⟨1, 38⟩, .tup [.int .i64 5, .int .i64 23]), (⟨2, 15677⟩, .tup [.int .i64 6, .int .i64 21]), (⟨2, 15649⟩, .tup [.int .i64 6, .int .i64 22]), (⟨1, 60⟩, .tup [.int .i64 7, .int .i64 17]), (⟨2, 15676⟩, .tup [.int .i64 7, .int .i64 18]), (⟨1, 62⟩, .tup [.int .i64 7, .int .i64 19]), (⟨2, 15678⟩, .tup [.int .i64 7, .int .i64 20]), (⟨2, 15420⟩, .tup [.int .i64 8, .int .i64 15]), (⟨2, 15934⟩, .tup [.int .i64 8, .int .i64 16]), (⟨1, 43⟩, .tup [.int .i64 9, .int .i64 13]), (⟨1, 45⟩, .tup [.int .i64 9, .int .i64 14]), (⟨1, 126⟩, .tup [.int .i64 0, .int .i64 0]), (⟨1, 33⟩, .tup [.int .i64 0, .int .i64 0]), (⟨0, 0⟩, .tup [.int .i64 0, .int .i64 0]), (⟨6, 111516500389741⟩, .tup [.int .i64 0, .int .i64 0]), (⟨9, 1870936414602775522917⟩, .tup [.int .i64 0, .int .i64 0]), (⟨6, 121390429860705⟩, .tup [.int .i64 0, .int .i64 0]), (⟨5, 500186508905⟩, .tup [.int .i64 0, .int .i64 0]), (⟨6, 128047746676079⟩, .tup [.int .i64 0, .int .i64 0])]
def tbl80 : List (Str × IV) := [(⟨5, 435626798624⟩, .int .i64 0), (⟨1, 59⟩, .int .i64 0), (⟨1, 61⟩, .int .i64 0), (⟨1, 40⟩, .int .i64 0), (⟨1, 41⟩, .int .i64 0), (⟨1, 44⟩, .int .i64 0), (⟨2, 31868⟩, .int .i64 0), (⟨2, 9766⟩, .int .i64 0), (⟨1, 124⟩, .int .i64 11), (⟨1, 94⟩, .int .i64 12), (⟨1, 38⟩, .int .i64 10), (⟨2, 15677⟩, .int .i64 0), (⟨2, 15649⟩, .int .i64 0), (⟨1, 60⟩, .int .i64 0), (⟨2, 15676⟩, .int .i64 0), (⟨1, 62⟩, .int .i64 0), (⟨2, 15678⟩, .int .i64 0), (⟨2, 15420⟩, .int .i64 0), (⟨2, 15934⟩, .int .i64 0), (⟨1, 43⟩, .int .i64 0), (⟨1, 45⟩, .int .i64 9), (⟨1, 126⟩, .int .i64 7), (⟨1, 33⟩, .int .i64 8), (⟨0, 0⟩, .int .i64 0), (⟨6, 111516500389741⟩, .int .i64 0), (⟨9, 1870936414602775522917⟩, .int .i64 0), (⟨6, 121390429860705⟩, .int .i64 0), (⟨5, 500186508905⟩, .int .i64 0), (⟨6, 128047746676079⟩, .int .i64 0)]
theorem t60 : PureT Tryz.prog (CL tab0) 60 (gT tbl60) := pureT_tbl (CN_le no0 60) Tryz.func60 rfl (by kernel_rfl)
theorem t79 : PureT Tryz.prog (CL tab0) 79 (gT tbl79) := pureT_tbl (CN_le no0 60) Tryz.func79 rfl (by kernel_rfl)
theorem t80 : PureT Tryz.prog (CL tab0) 80 (gT tbl80) := pureT_tbl (CN_le no0 60) Tryz.func80 rfl (by kernel_rfl)
def g8 (args : List IV) : Option IV :=
  match args with
  | [] => some (.bool true)
  | _ => none
theorem t8 : PureT Tryz.prog (CL tab0) 8 g8 := ⟨⟨_, _, Tryz.func8, rfl⟩, fun args v h => by
  unfold g8 at h
  split at h
  · injection h with h; subst h
    obtain ⟨h', e⟩ := awake8
    exact ⟨rfl, rfl, true, h', e⟩
  · cases h⟩
noncomputable def tab1 : Tab := ⟨ovQ [(56, pureF g56), (60, pureF (gT tbl60)), (79, pureF (gT tbl79)), (80, pureF (gT tbl80)), (8, pureF g8)], pol⟩
theorem tab1_eq : tab1 = ⟨ovOf [(56, pureF g56), (60, pureF (gT tbl60)), (79, pureF (gT tbl79)), (80, pureF (gT tbl80)), (8, pureF g8)], pol⟩ := by unfold tab1; rw [ovQ_eq]
theorem no1 : ∀ f, tabB f = false → tab1.ov f = none := by
  intro f hf
  rw [tab1_eq]
  simp only [tabB, List.any_cons, List.any_nil, Bool.or_false, Bool.or_eq_false_iff] at hf
  simp only [ovOf, hf, cond_false]
theorem step1 : OvStep tab1 := tab1_eq ▸ ovStep_of fun x hx args g => by
  simp only [List.mem_cons, List.not_mem_nil, or_false] at hx
  rcases hx with rfl | rfl | rfl | rfl | rfl
  all_goals exact pureF_step _ args g
theorem sound1 : ∀ w₀ S, CallS Tryz.prog w₀ S (CL tab1) := tab1_eq ▸ call_sound (fun w₀ S => ovS_of fun x hx => by
  simp only [List.mem_cons, List.not_mem_nil, or_false] at hx
  rcases hx with rfl | rfl | rfl | rfl | rfl
  · exact pureF_S sound0 noNum t56 w₀ S
  · exact pureF_S sound0 noNum t60 w₀ S
  · exact pureF_S sound0 noNum t79 w₀ S
  · exact pureF_S sound0 noNum t80 w₀ S
  · exact pureF_S sound0 noNum t8 w₀ S) Tryz.checked.mixed noNum

end Go.Proofs.YtomgclpeimipoaaGreatDoor

namespace Go.Proofs.YtomgclpeimipoaaGreatDoor
open Go I
set_option maxRecDepth 100000
set_option linter.unusedVariables false
set_option linter.unusedSimpArgs false

/-- the run, two signs being chosen -/
noncomputable def run5 (p q : Int) : Option IV := (q5_0 (CN tab1 60) (fun _ _ _ => .fail) (.int .i64 p) (.int .i64 q) H0).val
theorem of_run5 {p q : Int} (e : run5 p q = some (.bool true)) : ∃ h', t5_0 (CL tab1) (J5 tab1) (.int .i64 p) (.int .i64 q) H0 = .ok (.bool true) h' := by
  obtain ⟨h', e'⟩ := CRes.of_val e
  rw [qe5_0] at e'
  refine ⟨h', ?_⟩
  have := m5 (R := fun _ _ _ => .fail) (R' := J5 tab1) (CN_le no1 60) (fun _ _ _ => le_fail _) (.int .i64 p) (.int .i64 q) H0 (by rw [e']; simp)
  rw [e'] at this; exact this
theorem mask16 (q : Int) : binN .and (.int .i64 q) (.int .i64 65535) = some (.int .i64 (q % 65536)) := by
  rw [binN_and]
  have e : (BitVec.ofInt 64 q &&& BitVec.ofInt 64 65535).toNat = (q % 65536).toNat := by
    rw [BitVec.toNat_and]
    have h7 : (BitVec.ofInt 64 65535).toNat = 2 ^ 16 - 1 := by decide
    rw [h7, Nat.and_two_pow_sub_one_eq_mod]
    rw [BitVec.toNat_ofInt]
    omega
  show some (IV.int .i64 (IntKind.i64.wrap (BitVec.ofInt 64 q &&& BitVec.ofInt 64 65535).toNat)) = _
  rw [e]
  have : 0 ≤ q % 65536 ∧ q % 65536 < 65536 := by omega
  rw [← wr_eq, wr_i64] <;> congr 2 <;> omega
theorem same5 (cf : CallF) (R : Rec) (a b : Int) (h : H) : t5_0 cf R (.int .i64 a) (.int .i64 b) h = t5_0 cf R (.int .i64 (a % 65536 % 15)) (.int .i64 (b % 65536 % 15)) h := by
  have h15 : (15 : Int) ≠ 0 := by omega
  have ta : ∀ a : Int, (a % 65536).tmod 15 = a % 65536 % 15 := fun a => by rw [Int.tmod_eq_emod_of_nonneg (by omega)]
  have ra : ∀ a : Int, a % 65536 % 15 % 65536 % 15 = a % 65536 % 15 := fun a => by omega
  unfold t5_0
  simp only [mask16, obind_some, binN_rem _ _ _ h15, ta, ra]
theorem gd0 : Gd H0 := ⟨fun b _ => rfl, rfl⟩
theorem levels5 (hall : ∀ p q : Nat, p < 15 → q < 15 → run5 (p : Nat) (q : Nat) = some (.bool true)) (a b : Int) : ∃ h', CL tab1 5 [.int .i64 a, .int .i64 b] H0 = .ok (.bool true) h' := by
  obtain ⟨h', e⟩ := of_run5 (hall (a % 65536 % 15).toNat (b % 65536 % 15).toNat (by omega) (by omega))
  have e1 : (((a % 65536 % 15).toNat : Nat) : Int) = a % 65536 % 15 := by omega
  have e2 : (((b % 65536 % 15).toNat : Nat) : Int) = b % 65536 % 15 := by omega
  rw [e1, e2] at e
  refine ⟨h', c5 step1 rfl rfl gd0 ?_ (by simp)⟩
  rw [same5]
  exact e

end Go.Proofs.YtomgclpeimipoaaGreatDoor
