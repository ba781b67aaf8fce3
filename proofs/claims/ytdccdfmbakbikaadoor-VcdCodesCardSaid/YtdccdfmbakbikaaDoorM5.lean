/- M5: Printed by run.py (own tool): the runs of closed calls, by each function's words. Printed by run.py (own tool): the runs of closed calls, by each function's words. -/
import Derived.Test.YtdccdfmbakbikaaDoorM3
import Derived.Test.YtdccdfmbakbikaaDoorM4
namespace Go.Proofs.YtdccdfmbakbikaaDoor
open Go I
set_option linter.unusedVariables false
set_option maxRecDepth 100000

-- 22
theorem m22 {cf cf' : CallF} {R R' : Rec} (hc : ∀ f l h, le (cf f l h) (cf' f l h)) (hR : ∀ i l h, le (R i l h) (R' i l h)) :
  (∀ (a0 a1 a2 : IV) (h : H), le (t22_0 cf R a0 a1 a2 h) (t22_0 cf' R' a0 a1 a2 h)) ∧
  (∀ (a0 a1 : IV) (h : H), le (t22_1 cf R a0 a1 h) (t22_1 cf' R' a0 a1 h)) := by
  refine ⟨?_, ?_⟩
  all_goals intros
  all_goals first | unfold t22_0 | unfold t22_1
  all_goals
  with_reducible repeat' first
    | refine le_obind fun _ => ?_
    | refine le_callP ?_ (fun _ _ => ?_) (fun _ _ => ?_)
    | refine le_condK ?_ ?_
    | exact hR _ _ _
    | refine le_obind2 fun _ _ => ?_
    | refine le_obindH fun _ => ?_
    | refine le_spanK (fun _ _ _ => ?_) (fun _ _ => ?_)
    | exact hc _ _ _
    | refine le_bif ?_ ?_
    | refine le_guardK ?_ ?_ ?_
    | refine le_mapK fun _ _ => ?_
    | refine le_panK fun _ _ => ?_
    | refine le_funK fun _ _ => ?_
    | exact le_refl _
    | apply_assumption
noncomputable def q22_0p1 (cf : CallF) (R : Rec) (h6 : H) (x5 : IV) (x3 : IV) (x4 : IV) (a2 : IV) (a0 : IV) (a1 : IV) : CRes :=
 QoH (QsA 0 h6 x5 x3) fun h7 =>
 Qo (Qnot x4) fun x8 =>
 Qif x8
 (panK a2 h7 nop)
 (R 1 [a0, a1] h7)
noncomputable def q22_0 (cf : CallF) (R : Rec) (a0 : IV) (a1 : IV) (a2 : IV) (h : H) : CRes :=
 Qo (eqIf .neq true a2 .nilIface) fun x1 =>
 Qif x1
 (Qo (assertI 55 true (some (.agg [])) a2) fun x2 =>
 Qo (Qext x2 0) fun x3 =>
 Qo (Qext x2 1) fun x4 =>
 Qo2 (QnI h []) fun x5 h6 =>
 q22_0p1 cf R h6 x5 x3 x4 a2 a0 a1)
 (.ok (.tup []) h)
theorem qe22_0 : q22_0 = t22_0 := by
  unfold q22_0 q22_0p1
  try simp only [QE]
  try rfl
noncomputable def q22_1 (cf : CallF) (R : Rec) (a0 : IV) (a1 : IV) (h : H) : CRes :=
 Qo (Qbld z0 p2 []) fun x9 =>
 QoH (QsA 4 h a0 x9) fun h10 =>
 QoH (QsA 1 h10 a1 (.int .i64 190)) fun h11 =>
 .ok (.tup []) h11
theorem qe22_1 : q22_1 = t22_1 := by
  unfold q22_1
  try simp only [QE]
  try rfl
noncomputable def bt22 (cf : CallF) (R : Rec) : Rec := fun i l h =>
 br3 i 0 l (fun a0 a1 a2 => t22_0 cf R a0 a1 a2 h) <|
 br2 i 1 l (fun a0 a1 => t22_1 cf R a0 a1 h) <|
 .fail
noncomputable def b22 (cf : CallF) (R : Rec) : Rec := fun i l h =>
 brQ3 i 0 l (fun a0 a1 a2 => q22_0 cf R a0 a1 a2 h) <|
 brQ2 i 1 l (fun a0 a1 => q22_1 cf R a0 a1 h) <|
 .fail
theorem be22 : b22 = bt22 := by
  unfold b22 bt22
  simp only [qe22_0, qe22_1, brQ2_eq, brQ3_eq]
theorem r22 {T : Tab} {cf : CallF} (hc : leC cf (CL T)) (n : Nat) : leR (recN (b22 cf) n) (J22 T) := be22 ▸ recN_le (fun R hR i l h => by
  unfold bt22
  refine le_br3 (J := fun i l => J22 T i l h) (fun _ a0 a1 a2 => le_e (fun hn => e22_0 rfl hn) ((m22 hc hR).1 a0 a1 a2 h)) ?_
  refine le_br2 (J := fun i l => J22 T i l h) (fun _ a0 a1 => le_e (fun hn => e22_1 rfl hn) ((m22 hc hR).2 a0 a1 h)) ?_
  exact le_fail _) n
noncomputable def L22 (cf : CallF) (l : List IV) (st : I.Mode) (h : H) : Option (I.Mode × H) :=
 match l with
 | [a0, a1] => lvM st (lvK (t22_0 cf (recN (b22 cf) 1000000) a0 a1 (recV st) h))
 | _ => none
theorem lle22 {T : Tab} {cf : CallF} (hc : leC cf (CL T)) (l : List IV) (st : I.Mode) (h : H) : leO (L22 cf l st h) (LV Tryd.prog (CL T) 22 l st h) := by
  unfold L22
  split
  · exact lvM_le fun hst => lvK_le ((m22 hc (r22 hc _)).1 _ _ _ h) fun v h' e => l22 hst e
  · intro z hz; cases hz
-- 7
theorem m7 {cf cf' : CallF} {R R' : Rec} (hc : ∀ f l h, le (cf f l h) (cf' f l h)) (hR : ∀ i l h, le (R i l h) (R' i l h)) :
  (∀ (a0 : IV) (h : H), le (t7_0 cf R a0 h) (t7_0 cf' R' a0 h)) ∧
  (∀ (a1 a4 a16 a17 a18 : IV) (h : H), le (t7_1 cf R a1 a4 a16 a17 a18 h) (t7_1 cf' R' a1 a4 a16 a17 a18 h)) ∧
  (∀ (a1 a4 a5 a6 a16 a17 a18 : IV) (h : H), le (t7_2 cf R a1 a4 a5 a6 a16 a17 a18 h) (t7_2 cf' R' a1 a4 a5 a6 a16 a17 a18 h)) ∧
  (∀ (a1 a4 a47 a48 a49 : IV) (h : H), le (t7_3 cf R a1 a4 a47 a48 a49 h) (t7_3 cf' R' a1 a4 a47 a48 a49 h)) ∧
  (∀ (a1 a4 a61 a62 a63 : IV) (h : H), le (t7_4 cf R a1 a4 a61 a62 a63 h) (t7_4 cf' R' a1 a4 a61 a62 a63 h)) ∧
  (∀ (a1 a4 a10 a61 a62 a63 a81 : IV) (h : H), le (t7_6 cf R a1 a4 a10 a61 a62 a63 a81 h) (t7_6 cf' R' a1 a4 a10 a61 a62 a63 a81 h)) ∧
  (∀ (a1 a4 a10 a61 a62 a63 : IV) (h : H), le (t7_5 cf R a1 a4 a10 a61 a62 a63 h) (t7_5 cf' R' a1 a4 a10 a61 a62 a63 h)) := by
  refine ⟨?_, ?_, ?_, ?_, ?_, ?_, ?_⟩
  all_goals intros
  all_goals first | unfold t7_0 | unfold t7_1 | unfold t7_2 | unfold t7_3 | unfold t7_4 | unfold t7_6 | unfold t7_5
  all_goals
  with_reducible repeat' first
    | refine le_obind fun _ => ?_
    | refine le_callP ?_ (fun _ _ => ?_) (fun _ _ => ?_)
    | refine le_condK ?_ ?_
    | exact hR _ _ _
    | refine le_obind2 fun _ _ => ?_
    | refine le_obindH fun _ => ?_
    | refine le_spanK (fun _ _ _ => ?_) (fun _ _ => ?_)
    | exact hc _ _ _
    | refine le_bif ?_ ?_
    | refine le_guardK ?_ ?_ ?_
    | refine le_mapK fun _ _ => ?_
    | refine le_panK fun _ _ => ?_
    | refine le_funK fun _ _ => ?_
    | exact le_refl _
    | apply_assumption
noncomputable def q7_0p1 (cf : CallF) (R : Rec) (x6 : IV) (h5 : H) (x1 : IV) : CRes :=
 Qif x6
 (.ok (.tup [(.str ⟨0, 0⟩), (.int .i64 1)]) h5)
 (Qo2 (newB h5 [.nilPtr, .nilSlice] 46) fun x7 h8 =>
 Qc (cf 16 [x7, (.str ⟨44, 372417928818112564871583596543448252004672529497768332514574081386684445445215142980140321110602442961956⟩)] h8) .pan fun x9 h10 =>
 Qo (Qfad 0 x1) fun x11 =>
 Qo (Ql0 h10 x11) fun x12 =>
 Qo (Qle x12) fun x13 =>
 R 1 [x1, x7, x12, x13, (.int .i64 0)] h10)
noncomputable def q7_0 (cf : CallF) (R : Rec) (a0 : IV) (h : H) : CRes :=
 Qo2 (QnI h (Qcells a0)) fun x1 h2 =>
 Qo (QlA 4 h2 x1) fun x3 =>
 Qc (cf 15 [x3] h2) .pan fun x4 h5 =>
 Qo (Qneq x4 (.int .i64 0)) fun x6 =>
 q7_0p1 cf R x6 h5 x1
theorem qe7_0 : q7_0 = t7_0 := by
  unfold q7_0 q7_0p1
  try simp only [QE]
  try rfl
noncomputable def q7_1 (cf : CallF) (R : Rec) (a1 : IV) (a4 : IV) (a16 : IV) (a17 : IV) (a18 : IV) (h : H) : CRes :=
 Qo (Qlss a18 a17) fun x14 =>
 Qif x14
 (Qo (Qix 1 a16 a18) fun x15 =>
 Qo (Ql0 h x15) fun x16 =>
 Qo (Qse x16 (.str ⟨1, 95⟩)) fun x17 =>
 Qif x17
 (.ok (.tup [(.str ⟨0, 0⟩), (.int .i64 1)]) h)
 (Qo (Qse x16 (.str ⟨0, 0⟩)) fun x18 =>
 Qif x18
 (R 2 [a1, a4, a18, (.str ⟨1, 95⟩), a16, a17, a18] h)
 (R 2 [a1, a4, a18, x16, a16, a17, a18] h)))
 (Qc (cf 16 [a4, (.str ⟨45, 95877086440312645158151348174744568952353856492712646089714385966300053302821846437583023914514791984559396⟩)] h) .pan fun x19 h20 =>
 Qo (Qfad 2 a1) fun x21 =>
 Qo (Ql0 h20 x21) fun x22 =>
 Qo (Qle x22) fun x23 =>
 R 3 [a1, a4, x22, x23, (.int .i64 0)] h20)
theorem qe7_1 : q7_1 = t7_1 := by
  unfold q7_1
  try simp only [QE]
  try rfl
noncomputable def q7_2p2 (cf : CallF) (R : Rec) (x31 : IV) (x32 : IV) (a6 : IV) (a4 : IV) (h33 : H) (a18 : IV) (a1 : IV) (a16 : IV) (a17 : IV) : CRes :=
 Qo (binS .add x31 x32) fun x34 =>
 Qo (binS .add x34 (.str ⟨1, 32⟩)) fun x35 =>
 Qo (binS .add x35 a6) fun x36 =>
 Qo (binS .add x36 (.str ⟨6, 11426465129504⟩)) fun x37 =>
 Qc (cf 16 [a4, x37] h33) .pan fun x38 h39 =>
 Qo (Qadd a18 (.int .i64 1)) fun x40 =>
 R 1 [a1, a4, a16, a17, x40] h39
noncomputable def q7_2p1 (cf : CallF) (R : Rec) (x27 : IV) (h : H) (a5 : IV) (a6 : IV) (a4 : IV) (a18 : IV) (a1 : IV) (a16 : IV) (a17 : IV) : CRes :=
 Qc (cf 17 [x27] h) .pan fun x28 h29 =>
 Qo (binS .add (.str ⟨10, 152987092854847431603748⟩) x28) fun x30 =>
 Qo (binS .add x30 (.str ⟨1, 32⟩)) fun x31 =>
 Qc (cf 18 [a5] h29) .pan fun x32 h33 =>
 q7_2p2 cf R x31 x32 a6 a4 h33 a18 a1 a16 a17
noncomputable def q7_2 (cf : CallF) (R : Rec) (a1 : IV) (a4 : IV) (a5 : IV) (a6 : IV) (a16 : IV) (a17 : IV) (a18 : IV) (h : H) : CRes :=
 Qo (Qfad 1 a1) fun x24 =>
 Qo (Ql0 h x24) fun x25 =>
 Qo (Qix 1 x25 a5) fun x26 =>
 Qo (Ql0 h x26) fun x27 =>
 q7_2p1 cf R x27 h a5 a6 a4 a18 a1 a16 a17
theorem qe7_2 : q7_2 = t7_2 := by
  unfold q7_2 q7_2p1 q7_2p2
  try simp only [QE]
  try rfl
noncomputable def q7_3 (cf : CallF) (R : Rec) (a1 : IV) (a4 : IV) (a47 : IV) (a48 : IV) (a49 : IV) (h : H) : CRes :=
 Qo (Qlss a49 a48) fun x41 =>
 Qif x41
 (Qo (Qix 1 a47 a49) fun x42 =>
 Qo (Ql0 h x42) fun x43 =>
 Qc (cf 19 [x43, a49] h) .pan fun x44 h45 =>
 Qc (cf 16 [a4, x44] h45) .pan fun x46 h47 =>
 Qo (Qadd a49 (.int .i64 1)) fun x48 =>
 R 3 [a1, a4, a47, a48, x48] h47)
 (Qc (cf 16 [a4, (.str ⟨5, 44634629412⟩)] h) .pan fun x49 h50 =>
 Qo (Qfad 3 a1) fun x51 =>
 Qo (Ql0 h50 x51) fun x52 =>
 Qo (Qle x52) fun x53 =>
 R 4 [a1, a4, x52, x53, (.int .i64 0)] h50)
theorem qe7_3 : q7_3 = t7_3 := by
  unfold q7_3
  try simp only [QE]
  try rfl
noncomputable def q7_4p2 (cf : CallF) (R : Rec) (x65 : IV) (h59 : H) (x57 : IV) (a1 : IV) (a4 : IV) (a61 : IV) (a62 : IV) (a63 : IV) : CRes :=
 Qo (Qfad 0 x65) fun x66 =>
 Qo (Ql0 h59 x66) fun x67 =>
 Qo (Qfad 0 x57) fun x68 =>
 Qo (Ql0 h59 x68) fun x69 =>
 Qo (Qneq x67 x69) fun x70 =>
 Qo (Qpk (.bool false) (some (.bool true)) (some x70)) fun x71 =>
 R 6 [a1, a4, x57, a61, a62, a63, x71] h59
noncomputable def q7_4p1 (cf : CallF) (R : Rec) (a63 : IV) (a1 : IV) (a4 : IV) (x57 : IV) (a61 : IV) (a62 : IV) (h59 : H) : CRes :=
 Qo (Qeql a63 (.int .i64 0)) fun x60 =>
 guardK x60 (Qo (Qpk (.bool true) (some (.bool true)) (some (.tup []))) fun x61 =>
 R 6 [a1, a4, x57, a61, a62, a63, x61] h59)
 (Qo (Qfad 3 a1) fun x62 =>
 Qo (Ql0 h59 x62) fun x63 =>
 Qo (Qsub a63 (.int .i64 1)) fun x64 =>
 Qo (Qix 3 x63 x64) fun x65 =>
 q7_4p2 cf R x65 h59 x57 a1 a4 a61 a62 a63)
 (Qo (Qpk (.tup []) (some (.bool true)) (some (.tup []))) fun x72 =>
 R 6 [a1, a4, x57, a61, a62, a63, x72] h59)
noncomputable def q7_4 (cf : CallF) (R : Rec) (a1 : IV) (a4 : IV) (a61 : IV) (a62 : IV) (a63 : IV) (h : H) : CRes :=
 Qo (Qlss a63 a62) fun x54 =>
 Qif x54
 (Qo (Qix 3 a61 a63) fun x55 =>
 Qo (QlA 3 h x55) fun x56 =>
 Qo2 (QnI h z1) fun x57 h58 =>
 QoH (QsA 3 h58 x57 x56) fun h59 =>
 q7_4p1 cf R a63 a1 a4 x57 a61 a62 h59)
 (Qc (cf 20 [a4] h) .pan fun x73 h74 =>
 Qo (Qgtr x73 (.int .i64 1048576)) fun x75 =>
 Qif x75
 (.ok (.tup [(.str ⟨0, 0⟩), (.int .i64 4)]) h74)
 (Qc (cf 21 [a4] h74) .pan fun x76 h77 =>
 .ok (.tup [x76, (.int .i64 0)]) h77))
theorem qe7_4 : q7_4 = t7_4 := by
  unfold q7_4 q7_4p1 q7_4p2
  try simp only [QE]
  try rfl
noncomputable def q7_6 (cf : CallF) (R : Rec) (a1 : IV) (a4 : IV) (a10 : IV) (a61 : IV) (a62 : IV) (a63 : IV) (a81 : IV) (h : H) : CRes :=
 Qif a81
 (Qo (Qfad 0 a10) fun x78 =>
 Qo (Ql0 h x78) fun x79 =>
 Qc (cf 17 [x79] h) .pan fun x80 h81 =>
 Qo (binS .add (.str ⟨1, 35⟩) x80) fun x82 =>
 Qo (binS .add x82 (.str ⟨1, 10⟩)) fun x83 =>
 Qc (cf 16 [a4, x83] h81) .pan fun x84 h85 =>
 R 5 [a1, a4, a10, a61, a62, a63] h85)
 (R 5 [a1, a4, a10, a61, a62, a63] h)
theorem qe7_6 : q7_6 = t7_6 := by
  unfold q7_6
  try simp only [QE]
  try rfl
noncomputable def q7_5p2 (cf : CallF) (R : Rec) (x96 : IV) (h95 : H) (a63 : IV) (a1 : IV) (a4 : IV) (a61 : IV) (a62 : IV) : CRes :=
 Qif x96
 (.ok (.tup [(.str ⟨0, 0⟩), (.int .i64 4)]) h95)
 (Qo (Qadd a63 (.int .i64 1)) fun x97 =>
 R 4 [a1, a4, a61, a62, x97] h95)
noncomputable def q7_5p1 (cf : CallF) (R : Rec) (x87 : IV) (x89 : IV) (h : H) (a4 : IV) (a63 : IV) (a1 : IV) (a61 : IV) (a62 : IV) : CRes :=
 Qc (cf 19 [x87, x89] h) .pan fun x90 h91 =>
 Qc (cf 16 [a4, x90] h91) .pan fun x92 h93 =>
 Qc (cf 20 [a4] h93) .pan fun x94 h95 =>
 Qo (Qgtr x94 (.int .i64 1048576)) fun x96 =>
 q7_5p2 cf R x96 h95 a63 a1 a4 a61 a62
noncomputable def q7_5 (cf : CallF) (R : Rec) (a1 : IV) (a4 : IV) (a10 : IV) (a61 : IV) (a62 : IV) (a63 : IV) (h : H) : CRes :=
 Qo (Qfad 2 a10) fun x86 =>
 Qo (Ql0 h x86) fun x87 =>
 Qo (Qfad 1 a10) fun x88 =>
 Qo (Ql0 h x88) fun x89 =>
 q7_5p1 cf R x87 x89 h a4 a63 a1 a61 a62
theorem qe7_5 : q7_5 = t7_5 := by
  unfold q7_5 q7_5p1 q7_5p2
  try simp only [QE]
  try rfl
noncomputable def bt7 (cf : CallF) (R : Rec) : Rec := fun i l h =>
 br1 i 0 l (fun a0 => t7_0 cf R a0 h) <|
 br5 i 1 l (fun a1 a4 a16 a17 a18 => t7_1 cf R a1 a4 a16 a17 a18 h) <|
 br7 i 2 l (fun a1 a4 a5 a6 a16 a17 a18 => t7_2 cf R a1 a4 a5 a6 a16 a17 a18 h) <|
 br5 i 3 l (fun a1 a4 a47 a48 a49 => t7_3 cf R a1 a4 a47 a48 a49 h) <|
 br5 i 4 l (fun a1 a4 a61 a62 a63 => t7_4 cf R a1 a4 a61 a62 a63 h) <|
 br7 i 6 l (fun a1 a4 a10 a61 a62 a63 a81 => t7_6 cf R a1 a4 a10 a61 a62 a63 a81 h) <|
 br6 i 5 l (fun a1 a4 a10 a61 a62 a63 => t7_5 cf R a1 a4 a10 a61 a62 a63 h) <|
 .fail
noncomputable def b7 (cf : CallF) (R : Rec) : Rec := fun i l h =>
 brQ1 i 0 l (fun a0 => q7_0 cf R a0 h) <|
 brQ5 i 1 l (fun a1 a4 a16 a17 a18 => q7_1 cf R a1 a4 a16 a17 a18 h) <|
 brQ7 i 2 l (fun a1 a4 a5 a6 a16 a17 a18 => q7_2 cf R a1 a4 a5 a6 a16 a17 a18 h) <|
 brQ5 i 3 l (fun a1 a4 a47 a48 a49 => q7_3 cf R a1 a4 a47 a48 a49 h) <|
 brQ5 i 4 l (fun a1 a4 a61 a62 a63 => q7_4 cf R a1 a4 a61 a62 a63 h) <|
 brQ7 i 6 l (fun a1 a4 a10 a61 a62 a63 a81 => q7_6 cf R a1 a4 a10 a61 a62 a63 a81 h) <|
 brQ6 i 5 l (fun a1 a4 a10 a61 a62 a63 => q7_5 cf R a1 a4 a10 a61 a62 a63 h) <|
 .fail
theorem be7 : b7 = bt7 := by
  unfold b7 bt7
  simp only [qe7_0, qe7_1, qe7_2, qe7_3, qe7_4, qe7_6, qe7_5, brQ1_eq, brQ5_eq, brQ6_eq, brQ7_eq]
theorem r7 {T : Tab} {cf : CallF} (hc : leC cf (CL T)) (n : Nat) : leR (recN (b7 cf) n) (J7 T) := be7 ▸ recN_le (fun R hR i l h => by
  unfold bt7
  refine le_br1 (J := fun i l => J7 T i l h) (fun _ a0 => le_e (fun hn => e7_0 rfl hn) ((m7 hc hR).1 a0 h)) ?_
  refine le_br5 (J := fun i l => J7 T i l h) (fun _ a1 a4 a16 a17 a18 => le_e (fun hn => e7_1 rfl hn) ((m7 hc hR).2.1 a1 a4 a16 a17 a18 h)) ?_
  refine le_br7 (J := fun i l => J7 T i l h) (fun _ a1 a4 a5 a6 a16 a17 a18 => le_e (fun hn => e7_2 rfl hn) ((m7 hc hR).2.2.1 a1 a4 a5 a6 a16 a17 a18 h)) ?_
  refine le_br5 (J := fun i l => J7 T i l h) (fun _ a1 a4 a47 a48 a49 => le_e (fun hn => e7_3 rfl hn) ((m7 hc hR).2.2.2.1 a1 a4 a47 a48 a49 h)) ?_
  refine le_br5 (J := fun i l => J7 T i l h) (fun _ a1 a4 a61 a62 a63 => le_e (fun hn => e7_4 rfl hn) ((m7 hc hR).2.2.2.2.1 a1 a4 a61 a62 a63 h)) ?_
  refine le_br7 (J := fun i l => J7 T i l h) (fun _ a1 a4 a10 a61 a62 a63 a81 => le_e (fun hn => e7_6 rfl hn) ((m7 hc hR).2.2.2.2.2.1 a1 a4 a10 a61 a62 a63 a81 h)) ?_
  refine le_br6 (J := fun i l => J7 T i l h) (fun _ a1 a4 a10 a61 a62 a63 => le_e (fun hn => e7_5 rfl hn) ((m7 hc hR).2.2.2.2.2.2 a1 a4 a10 a61 a62 a63 h)) ?_
  exact le_fail _) n
-- 8
noncomputable def u8_0 (cf : CallF) (L : List IV → I.Mode → H → Option (I.Mode × H)) (D : List IV → Rec) (R : Rec) (a0 : IV) (h : H) : CRes :=
 obind2 (newI h z0) fun x1 h2 =>
 obind2 (newI h2 [(.int .i64 0)]) fun x3 h4 =>
 obind (lenStr a0) fun x5 =>
 obind (binN .gtr x5 (.int .i64 1048576)) fun x6 =>
 condK x6
 (obind (bldK z0 p2 []) fun x7 =>
 obindH (stA 4 h4 x1 x7) fun h8 =>
 obindH (stA 1 h8 x3 (.int .i64 4)) fun h9 =>
 obind (ldA 4 h9 x1) fun x10 =>
 obind (ld0 h9 x3) fun x11 =>
 .ok (.tup [x10, x11]) h9)
 (callP (cf 23 [a0, (.str ⟨1, 10⟩)] h4) (dfP (L [x1, x3]) fun h12 =>
 obind (ldA 4 h12 x1) fun x13 =>
 obind (ld0 h12 x3) fun x14 =>
 .ok (.tup [x13, x14]) h12) fun x15 h16 =>
 mapK h16 fun x18 h17 =>
 obind (bldK z3 p4 [(0, x15), (1, x18)]) fun x19 =>
 obind2 (newI h17 (IV.cells x19)) fun x20 h21 =>
 callP (cf 24 [x20] h21) (dfP (L [x1, x3]) fun h22 =>
 obind (ldA 4 h22 x1) fun x23 =>
 obind (ld0 h22 x3) fun x24 =>
 .ok (.tup [x23, x24]) h22) fun x25 h26 =>
 obind (nilI x20) fun x27 =>
 obind (fadK 2 x27) fun x28 =>
 obind (fadK 0 x28) fun x29 =>
 obind (ld0 h26 x29) fun x30 =>
 obind (lenS x30) fun x31 =>
 D [x1, x3] 1 [a0, x1, x3, x20, x31, (.int .i64 0)] h26)
noncomputable def u8_1d (cf : CallF) (L : List IV → I.Mode → H → Option (I.Mode × H)) (D : List IV → Rec) (R : Rec) (d0 d1 a0 a2 a3 a4 a30 a31 : IV) (h : H) : CRes :=
 obind (binN .lss a31 a30) fun x32 =>
 condK x32
 (callP (cf 26 [a4] h) (dfP (L [d0, d1]) fun h33 =>
 obind (ldA 4 h33 a2) fun x34 =>
 obind (ld0 h33 a3) fun x35 =>
 .ok (.tup [x34, x35]) h33) fun x36 h37 =>
 callP (cf 25 [a4, x36] h37) (dfP (L [d0, d1]) fun h38 =>
 obind (ldA 4 h38 a2) fun x39 =>
 obind (ld0 h38 a3) fun x40 =>
 .ok (.tup [x39, x40]) h38) fun x41 h42 =>
 obind (extractI x41 0) fun x43 =>
 obind (extractI x41 1) fun x44 =>
 obind (nilI a4) fun x45 =>
 obind (fadK 2 x45) fun x46 =>
 obind (fadK 2 x46) fun x47 =>
 obind (ld0 h42 x47) fun x48 =>
 obind2 (bslK false 1 [(.str ⟨0, 0⟩)] 1 [(0, x44)] h42) fun x49 h50 =>
 obind2 (appK 1 16 h50 x48 x49) fun x51 h52 =>
 obind (nilI a4) fun x53 =>
 obind (fadK 2 x53) fun x54 =>
 obind (fadK 2 x54) fun x55 =>
 obindH (stA 1 h52 x55 x51) fun h56 =>
 obind (binN .add a31 (.int .i64 1)) fun x57 =>
 R 1 [a0, a2, a3, a4, a30, x57] h56)
 (callP (cf 26 [a4] h) (dfP (L [d0, d1]) fun h58 =>
 obind (ldA 4 h58 a2) fun x59 =>
 obind (ld0 h58 a3) fun x60 =>
 .ok (.tup [x59, x60]) h58) fun x61 h62 =>
 obind (binS .eql x61 (.str ⟨4, 1684956452⟩)) fun x63 =>
 callP (cf 27 [x63] h62) (dfP (L [d0, d1]) fun h64 =>
 obind (ldA 4 h64 a2) fun x65 =>
 obind (ld0 h64 a3) fun x66 =>
 .ok (.tup [x65, x66]) h64) fun x67 h68 =>
 callP (cf 26 [a4] h68) (dfP (L [d0, d1]) fun h69 =>
 obind (ldA 4 h69 a2) fun x70 =>
 obind (ld0 h69 a3) fun x71 =>
 .ok (.tup [x70, x71]) h69) fun x72 h73 =>
 R 2 [a0, a2, a3, a4, (.int .i64 (-1)), x72] h73)
noncomputable def u8_2d (cf : CallF) (L : List IV → I.Mode → H → Option (I.Mode × H)) (D : List IV → Rec) (R : Rec) (d0 d1 a0 a2 a3 a4 a7 a8 : IV) (h : H) : CRes :=
 obind (binS .neq a8 (.str ⟨0, 0⟩)) fun x74 =>
 condK x74
 (obind (ixStr a8 (.int .i64 0)) fun x75 =>
 obind (binN .eql x75 (.int .u8 35)) fun x76 =>
 condK x76
 (obind (slcStr a8 (some (.int .i64 1)) none) fun x77 =>
 callP (cf 28 [x77] h) (dfP (L [d0, d1]) fun h78 =>
 obind (ldA 4 h78 a2) fun x79 =>
 obind (ld0 h78 a3) fun x80 =>
 .ok (.tup [x79, x80]) h78) fun x81 h82 =>
 R 3 [a0, a2, a3, a4, x81] h82)
 (callP (cf 25 [a4, a8] h) (dfP (L [d0, d1]) fun h83 =>
 obind (ldA 4 h83 a2) fun x84 =>
 obind (ld0 h83 a3) fun x85 =>
 .ok (.tup [x84, x85]) h83) fun x86 h87 =>
 obind (extractI x86 0) fun x88 =>
 obind (extractI x86 1) fun x89 =>
 obind (nilI a4) fun x90 =>
 obind (fadK 2 x90) fun x91 =>
 obind (fadK 3 x91) fun x92 =>
 obind (ld0 h87 x92) fun x93 =>
 obind (bldK z1 p5 [(0, a7), (1, x88), (2, x89)]) fun x94 =>
 obind2 (bslK false 3 z1 1 [(0, x94)] h87) fun x95 h96 =>
 obind2 (appK 3 32 h96 x93 x95) fun x97 h98 =>
 obind (nilI a4) fun x99 =>
 obind (fadK 2 x99) fun x100 =>
 obind (fadK 3 x100) fun x101 =>
 obindH (stA 1 h98 x101 x97) fun h102 =>
 R 3 [a0, a2, a3, a4, a7] h102))
 (obind (nilI a4) fun x103 =>
 obind (fadK 2 x103) fun x104 =>
 obind (ldA 4 h x104) fun x105 =>
 callP (cf 7 [x105] h) (dfP (L [d0, d1]) fun h106 =>
 obind (ldA 4 h106 a2) fun x107 =>
 obind (ld0 h106 a3) fun x108 =>
 .ok (.tup [x107, x108]) h106) fun x109 h110 =>
 obind (extractI x109 0) fun x111 =>
 obind (extractI x109 1) fun x112 =>
 obind (binN .eql x112 (.int .i64 0)) fun x113 =>
 spanK x113 true h110 (fun k114 =>
 obind (binS .eql x111 a0) fun x117 =>
 k114 x117 h110) fun x115 h116 =>
 obind (pickI x113 (some x115) (some (.bool false))) fun x118 =>
 callP (cf 27 [x118] h116) (dfP (L [d0, d1]) fun h119 =>
 obind (ldA 4 h119 a2) fun x120 =>
 obind (ld0 h119 a3) fun x121 =>
 .ok (.tup [x120, x121]) h119) fun x122 h123 =>
 obind (nilI a4) fun x124 =>
 obind (fadK 2 x124) fun x125 =>
 obind (ldA 4 h123 x125) fun x126 =>
 obindH (stA 4 h123 a2 x126) fun h127 =>
 obindH (stA 1 h127 a3 (.int .i64 0)) fun h128 =>
 dfK (L [d0, d1] .ret h128) fun h129 =>
 obind (ldA 4 h129 a2) fun x130 =>
 obind (ld0 h129 a3) fun x131 =>
 .ok (.tup [x130, x131]) h129)
noncomputable def u8_3d (cf : CallF) (L : List IV → I.Mode → H → Option (I.Mode × H)) (D : List IV → Rec) (R : Rec) (d0 d1 a0 a2 a3 a4 a7 : IV) (h : H) : CRes :=
 callP (cf 26 [a4] h) (dfP (L [d0, d1]) fun h132 =>
 obind (ldA 4 h132 a2) fun x133 =>
 obind (ld0 h132 a3) fun x134 =>
 .ok (.tup [x133, x134]) h132) fun x135 h136 =>
 R 2 [a0, a2, a3, a4, a7, x135] h136
theorem m8 {cf cf' : CallF} {L L' : List IV → I.Mode → H → Option (I.Mode × H)} {D D' : List IV → Rec} {R R' : Rec} (hc : ∀ f l h, le (cf f l h) (cf' f l h)) (hL : ∀ l st h, leO (L l st h) (L' l st h)) (hD : ∀ l i x h, le (D l i x h) (D' l i x h)) (hR : ∀ i l h, le (R i l h) (R' i l h)) :
  (∀ (a0 : IV) (h : H), le (u8_0 cf L D R a0 h) (u8_0 cf' L' D' R' a0 h)) ∧
  (∀ (d0 d1 a0 a2 a3 a4 a30 a31 : IV) (h : H), le (u8_1d cf L D R d0 d1 a0 a2 a3 a4 a30 a31 h) (u8_1d cf' L' D' R' d0 d1 a0 a2 a3 a4 a30 a31 h)) ∧
  (∀ (d0 d1 a0 a2 a3 a4 a7 a8 : IV) (h : H), le (u8_2d cf L D R d0 d1 a0 a2 a3 a4 a7 a8 h) (u8_2d cf' L' D' R' d0 d1 a0 a2 a3 a4 a7 a8 h)) ∧
  (∀ (d0 d1 a0 a2 a3 a4 a7 : IV) (h : H), le (u8_3d cf L D R d0 d1 a0 a2 a3 a4 a7 h) (u8_3d cf' L' D' R' d0 d1 a0 a2 a3 a4 a7 h)) := by
  refine ⟨?_, ?_, ?_, ?_⟩
  all_goals intros
  all_goals first | unfold u8_0 | unfold u8_1d | unfold u8_2d | unfold u8_3d
  all_goals
  with_reducible repeat' first
    | refine le_obind fun _ => ?_
    | refine le_callP ?_ (fun _ _ => ?_) (fun _ _ => ?_)
    | refine le_condK ?_ ?_
    | exact hR _ _ _
    | refine le_obind2 fun _ _ => ?_
    | refine le_obindH fun _ => ?_
    | refine le_spanK (fun _ _ _ => ?_) (fun _ _ => ?_)
    | exact hc _ _ _
    | refine le_bif ?_ ?_
    | refine le_guardK ?_ ?_ ?_
    | refine le_mapK fun _ _ => ?_
    | refine le_panK fun _ _ => ?_
    | refine le_funK fun _ _ => ?_
    | exact hD _ _ _ _
    | refine le_dfP (hL _) (fun _ => ?_)
    | refine le_dfK (hL _ _ _) (fun _ => ?_)
    | exact le_refl _
    | apply_assumption
noncomputable def bd8 (cf : CallF) (d0 d1 : IV) (R : Rec) : Rec := fun i l h =>
 br6 i 1 l (fun a0 a2 a3 a4 a30 a31 => u8_1d cf (L22 cf) (fun _ _ _ _ => .fail) R d0 d1 a0 a2 a3 a4 a30 a31 h) <|
 br6 i 2 l (fun a0 a2 a3 a4 a7 a8 => u8_2d cf (L22 cf) (fun _ _ _ _ => .fail) R d0 d1 a0 a2 a3 a4 a7 a8 h) <|
 br5 i 3 l (fun a0 a2 a3 a4 a7 => u8_3d cf (L22 cf) (fun _ _ _ _ => .fail) R d0 d1 a0 a2 a3 a4 a7 h) <|
 .fail
theorem rd8 {T : Tab} {cf : CallF} (hc : leC cf (CL T)) (d0 d1 : IV) (n : Nat) : leR (recN (bd8 cf d0 d1) n) (J8d T d0 d1) := recN_le (fun R hR i l h => by
  unfold bd8
  refine le_br6 (J := fun i l => J8d T d0 d1 i l h) (fun _ a0 a2 a3 a4 a30 a31 => le_e (fun hn => e8_1d (r := u8_1d (CL T) (fun l => LV Tryd.prog (CL T) 22 l) (fun l => fj1 Tryd.prog (CL T) Tryd.f8 js8 22 l) (J8d T d0 d1) d0 d1 a0 a2 a3 a4 a30 a31 h) rfl hn) ((m8 hc (lle22 hc) (fun _ _ _ _ => le_fail _) hR).2.1 d0 d1 a0 a2 a3 a4 a30 a31 h)) ?_
  refine le_br6 (J := fun i l => J8d T d0 d1 i l h) (fun _ a0 a2 a3 a4 a7 a8 => le_e (fun hn => e8_2d (r := u8_2d (CL T) (fun l => LV Tryd.prog (CL T) 22 l) (fun l => fj1 Tryd.prog (CL T) Tryd.f8 js8 22 l) (J8d T d0 d1) d0 d1 a0 a2 a3 a4 a7 a8 h) rfl hn) ((m8 hc (lle22 hc) (fun _ _ _ _ => le_fail _) hR).2.2.1 d0 d1 a0 a2 a3 a4 a7 a8 h)) ?_
  refine le_br5 (J := fun i l => J8d T d0 d1 i l h) (fun _ a0 a2 a3 a4 a7 => le_e (fun hn => e8_3d (r := u8_3d (CL T) (fun l => LV Tryd.prog (CL T) 22 l) (fun l => fj1 Tryd.prog (CL T) Tryd.f8 js8 22 l) (J8d T d0 d1) d0 d1 a0 a2 a3 a4 a7 h) rfl hn) ((m8 hc (lle22 hc) (fun _ _ _ _ => le_fail _) hR).2.2.2 d0 d1 a0 a2 a3 a4 a7 h)) ?_
  exact le_fail _) n
noncomputable def D8 (cf : CallF) (l : List IV) : Rec :=
 match l with
 | [d0, d1] => recN (bd8 cf d0 d1) 1000000
 | _ => fun _ _ _ => .fail
theorem dle8 {T : Tab} {cf : CallF} (hc : leC cf (CL T)) (l : List IV) (i : Nat) (x : List IV) (h : H) : le (D8 cf l i x h) (fj1 Tryd.prog (CL T) Tryd.f8 js8 22 l i x h) := by
  unfold D8
  split
  · exact rd8 hc _ _ _ i x h
  · exact le_fail _
noncomputable def b8 (cf : CallF) (R : Rec) : Rec := fun i l h =>
 br1 i 0 l (fun a0 => u8_0 cf (L22 cf) (D8 cf) R a0 h) <|
 .fail
theorem r8 {T : Tab} {cf : CallF} (hc : leC cf (CL T)) (n : Nat) : leR (recN (b8 cf) n) (J8 T) := recN_le (fun R hR i l h => by
  unfold b8
  refine le_br1 (J := fun i l => J8 T i l h) (fun _ a0 => le_e (fun hn => e8_0 (r := u8_0 (CL T) (fun l => LV Tryd.prog (CL T) 22 l) (fun l => fj1 Tryd.prog (CL T) Tryd.f8 js8 22 l) (J8 T) a0 h) rfl hn) ((m8 hc (lle22 hc) (dle8 hc) hR).1 a0 h)) ?_
  exact le_fail _) n
-- 9
theorem m9 {cf cf' : CallF} {R R' : Rec} (hc : ∀ f l h, le (cf f l h) (cf' f l h)) (hR : ∀ i l h, le (R i l h) (R' i l h)) :
  (∀ (a0 a1 a2 : IV) (h : H), le (t9_0 cf R a0 a1 a2 h) (t9_0 cf' R' a0 a1 a2 h)) ∧
  (∀ (a2 a3 a4 a7 : IV) (h : H), le (t9_1 cf R a2 a3 a4 a7 h) (t9_1 cf' R' a2 a3 a4 a7 h)) ∧
  (∀ (a2 a3 a4 a8 : IV) (h : H), le (t9_2 cf R a2 a3 a4 a8 h) (t9_2 cf' R' a2 a3 a4 a8 h)) ∧
  (∀ (a2 a3 a4 a9 : IV) (h : H), le (t9_3 cf R a2 a3 a4 a9 h) (t9_3 cf' R' a2 a3 a4 a9 h)) ∧
  (∀ (a3 a4 a10 : IV) (h : H), le (t9_4 cf R a3 a4 a10 h) (t9_4 cf' R' a3 a4 a10 h)) := by
  refine ⟨?_, ?_, ?_, ?_, ?_⟩
  all_goals intros
  all_goals first | unfold t9_0 | unfold t9_1 | unfold t9_2 | unfold t9_3 | unfold t9_4
  all_goals
  with_reducible repeat' first
    | refine le_obind fun _ => ?_
    | refine le_callP ?_ (fun _ _ => ?_) (fun _ _ => ?_)
    | refine le_condK ?_ ?_
    | exact hR _ _ _
    | refine le_obind2 fun _ _ => ?_
    | refine le_obindH fun _ => ?_
    | refine le_spanK (fun _ _ _ => ?_) (fun _ _ => ?_)
    | exact hc _ _ _
    | refine le_bif ?_ ?_
    | refine le_guardK ?_ ?_ ?_
    | refine le_mapK fun _ _ => ?_
    | refine le_panK fun _ _ => ?_
    | refine le_funK fun _ _ => ?_
    | exact le_refl _
    | apply_assumption
noncomputable def q9_0p3 (cf : CallF) (R : Rec) (h4 : H) (x18 : IV) (x17 : IV) (k12 : IV → H → CRes) : CRes :=
 Qo (Ql0 h4 x18) fun x19 =>
 Qo (Qle x19) fun x20 =>
 Qo (Qneq x17 x20) fun x21 =>
 k12 x21 h4
noncomputable def q9_0p4 (cf : CallF) (R : Rec) (h14 : H) (x29 : IV) (x28 : IV) (k23 : IV → H → CRes) : CRes :=
 Qo (Ql0 h14 x29) fun x30 =>
 Qo (Qle x30) fun x31 =>
 Qo (Qneq x28 x31) fun x32 =>
 k23 x32 h14
noncomputable def q9_0p6 (cf : CallF) (R : Rec) (h36 : H) (x43 : IV) (x42 : IV) (k37 : IV → H → CRes) : CRes :=
 Qo (Ql0 h36 x43) fun x44 =>
 Qo (Qle x44) fun x45 =>
 Qo (Qneq x42 x45) fun x46 =>
 k37 x46 h36
noncomputable def q9_0p7 (cf : CallF) (R : Rec) (x33 : IV) (x48 : IV) (h49 : H) (a2 : IV) (x1 : IV) (x3 : IV) : CRes :=
 Qo (Qpk x33 (some (.bool true)) (some x48)) fun x51 =>
 Qif x51
 (.ok (.bool false) h49)
 (R 1 [a2, x1, x3, (.int .i64 0)] h49)
noncomputable def q9_0p5 (cf : CallF) (R : Rec) (x22 : IV) (x24 : IV) (h25 : H) (a2 : IV) (x1 : IV) (x3 : IV) : CRes :=
 Qo (Qpk x22 (some (.bool true)) (some x24)) fun x33 =>
 Qsp x33 false h25 (fun k34 =>
 k34 a2 h25) fun x35 h36 =>
 Qsp x35 true h36 (fun k37 =>
 Qo (Qfad 0 x1) fun x40 =>
 Qo (Ql0 h36 x40) fun x41 =>
 Qo (Qle x41) fun x42 =>
 Qo (Qfad 0 x3) fun x43 =>
 q9_0p6 cf R h36 x43 x42 k37) fun x38 h39 =>
 Qsp x33 false h39 (fun k47 =>
 Qo (Qpk x35 (some x38) (some (.bool false))) fun x50 =>
 k47 x50 h39) fun x48 h49 =>
 q9_0p7 cf R x33 x48 h49 a2 x1 x3
noncomputable def q9_0p2 (cf : CallF) (R : Rec) (x7 : IV) (x10 : IV) (h4 : H) (x1 : IV) (x3 : IV) (a2 : IV) : CRes :=
 Qo (Qneq x7 x10) fun x11 =>
 Qsp x11 false h4 (fun k12 =>
 Qo (Qfad 1 x1) fun x15 =>
 Qo (Ql0 h4 x15) fun x16 =>
 Qo (Qle x16) fun x17 =>
 Qo (Qfad 1 x3) fun x18 =>
 q9_0p3 cf R h4 x18 x17 k12) fun x13 h14 =>
 Qo (Qpk x11 (some (.bool true)) (some x13)) fun x22 =>
 Qsp x22 false h14 (fun k23 =>
 Qo (Qfad 3 x1) fun x26 =>
 Qo (Ql0 h14 x26) fun x27 =>
 Qo (Qle x27) fun x28 =>
 Qo (Qfad 3 x3) fun x29 =>
 q9_0p4 cf R h14 x29 x28 k23) fun x24 h25 =>
 q9_0p5 cf R x22 x24 h25 a2 x1 x3
noncomputable def q9_0p1 (cf : CallF) (R : Rec) (x6 : IV) (x3 : IV) (h4 : H) (x1 : IV) (a2 : IV) : CRes :=
 Qo (Qle x6) fun x7 =>
 Qo (Qfad 2 x3) fun x8 =>
 Qo (Ql0 h4 x8) fun x9 =>
 Qo (Qle x9) fun x10 =>
 q9_0p2 cf R x7 x10 h4 x1 x3 a2
noncomputable def q9_0 (cf : CallF) (R : Rec) (a0 : IV) (a1 : IV) (a2 : IV) (h : H) : CRes :=
 Qo2 (QnI h (Qcells a0)) fun x1 h2 =>
 Qo2 (QnI h2 (Qcells a1)) fun x3 h4 =>
 Qo (Qfad 2 x1) fun x5 =>
 Qo (Ql0 h4 x5) fun x6 =>
 q9_0p1 cf R x6 x3 h4 x1 a2
theorem qe9_0 : q9_0 = t9_0 := by
  unfold q9_0 q9_0p1 q9_0p2 q9_0p5 q9_0p7 q9_0p6 q9_0p4 q9_0p3
  try simp only [QE]
  try rfl
noncomputable def q9_1p3 (cf : CallF) (R : Rec) (x59 : IV) (x63 : IV) (h : H) (a7 : IV) (a2 : IV) (a3 : IV) (a4 : IV) : CRes :=
 Qo (binS .neq x59 x63) fun x64 =>
 Qif x64
 (.ok (.bool false) h)
 (Qo (Qadd a7 (.int .i64 1)) fun x65 =>
 R 1 [a2, a3, a4, x65] h)
noncomputable def q9_1p2 (cf : CallF) (R : Rec) (a4 : IV) (h : H) (a7 : IV) (x59 : IV) (a2 : IV) (a3 : IV) : CRes :=
 Qo (Qfad 2 a4) fun x60 =>
 Qo (Ql0 h x60) fun x61 =>
 Qo (Qix 1 x61 a7) fun x62 =>
 Qo (Ql0 h x62) fun x63 =>
 q9_1p3 cf R x59 x63 h a7 a2 a3 a4
noncomputable def q9_1p1 (cf : CallF) (R : Rec) (x55 : IV) (a3 : IV) (h : H) (a7 : IV) (a4 : IV) (a2 : IV) : CRes :=
 Qif x55
 (Qo (Qfad 2 a3) fun x56 =>
 Qo (Ql0 h x56) fun x57 =>
 Qo (Qix 1 x57 a7) fun x58 =>
 Qo (Ql0 h x58) fun x59 =>
 q9_1p2 cf R a4 h a7 x59 a2 a3)
 (R 2 [a2, a3, a4, (.int .i64 0)] h)
noncomputable def q9_1 (cf : CallF) (R : Rec) (a2 : IV) (a3 : IV) (a4 : IV) (a7 : IV) (h : H) : CRes :=
 Qo (Qfad 2 a3) fun x52 =>
 Qo (Ql0 h x52) fun x53 =>
 Qo (Qle x53) fun x54 =>
 Qo (Qlss a7 x54) fun x55 =>
 q9_1p1 cf R x55 a3 h a7 a4 a2
theorem qe9_1 : q9_1 = t9_1 := by
  unfold q9_1 q9_1p1 q9_1p2 q9_1p3
  try simp only [QE]
  try rfl
noncomputable def q9_2p3 (cf : CallF) (R : Rec) (x73 : IV) (x77 : IV) (h : H) (a8 : IV) (a2 : IV) (a3 : IV) (a4 : IV) : CRes :=
 Qo (Qneq x73 x77) fun x78 =>
 Qif x78
 (.ok (.bool false) h)
 (Qo (Qadd a8 (.int .i64 1)) fun x79 =>
 R 2 [a2, a3, a4, x79] h)
noncomputable def q9_2p2 (cf : CallF) (R : Rec) (a4 : IV) (h : H) (a8 : IV) (x73 : IV) (a2 : IV) (a3 : IV) : CRes :=
 Qo (Qfad 1 a4) fun x74 =>
 Qo (Ql0 h x74) fun x75 =>
 Qo (Qix 1 x75 a8) fun x76 =>
 Qo (Ql0 h x76) fun x77 =>
 q9_2p3 cf R x73 x77 h a8 a2 a3 a4
noncomputable def q9_2p1 (cf : CallF) (R : Rec) (x69 : IV) (a3 : IV) (h : H) (a8 : IV) (a4 : IV) (a2 : IV) : CRes :=
 Qif x69
 (Qo (Qfad 1 a3) fun x70 =>
 Qo (Ql0 h x70) fun x71 =>
 Qo (Qix 1 x71 a8) fun x72 =>
 Qo (Ql0 h x72) fun x73 =>
 q9_2p2 cf R a4 h a8 x73 a2 a3)
 (R 3 [a2, a3, a4, (.int .i64 0)] h)
noncomputable def q9_2 (cf : CallF) (R : Rec) (a2 : IV) (a3 : IV) (a4 : IV) (a8 : IV) (h : H) : CRes :=
 Qo (Qfad 1 a3) fun x66 =>
 Qo (Ql0 h x66) fun x67 =>
 Qo (Qle x67) fun x68 =>
 Qo (Qlss a8 x68) fun x69 =>
 q9_2p1 cf R x69 a3 h a8 a4 a2
theorem qe9_2 : q9_2 = t9_2 := by
  unfold q9_2 q9_2p1 q9_2p2 q9_2p3
  try simp only [QE]
  try rfl
noncomputable def q9_3p3 (cf : CallF) (R : Rec) (x91 : IV) (x95 : IV) (h86 : H) (a9 : IV) (a2 : IV) (a3 : IV) (a4 : IV) : CRes :=
 Qo (binS .neq x91 x95) fun x96 =>
 Qif x96
 (.ok (.bool false) h86)
 (Qo (Qadd a9 (.int .i64 1)) fun x97 =>
 R 3 [a2, a3, a4, x97] h86)
noncomputable def q9_3p2 (cf : CallF) (R : Rec) (a4 : IV) (h86 : H) (a9 : IV) (x91 : IV) (a2 : IV) (a3 : IV) : CRes :=
 Qo (Qfad 0 a4) fun x92 =>
 Qo (Ql0 h86 x92) fun x93 =>
 Qo (Qix 1 x93 a9) fun x94 =>
 Qo (Ql0 h86 x94) fun x95 =>
 q9_3p3 cf R x91 x95 h86 a9 a2 a3 a4
noncomputable def q9_3p1 (cf : CallF) (R : Rec) (x83 : IV) (h : H) (a2 : IV) (a3 : IV) (a9 : IV) (a4 : IV) : CRes :=
 Qsp x83 true h (fun k84 =>
 k84 a2 h) fun x85 h86 =>
 Qo (Qpk x83 (some x85) (some (.bool false))) fun x87 =>
 Qif x87
 (Qo (Qfad 0 a3) fun x88 =>
 Qo (Ql0 h86 x88) fun x89 =>
 Qo (Qix 1 x89 a9) fun x90 =>
 Qo (Ql0 h86 x90) fun x91 =>
 q9_3p2 cf R a4 h86 a9 x91 a2 a3)
 (R 4 [a3, a4, (.int .i64 0)] h86)
noncomputable def q9_3 (cf : CallF) (R : Rec) (a2 : IV) (a3 : IV) (a4 : IV) (a9 : IV) (h : H) : CRes :=
 Qo (Qfad 0 a3) fun x80 =>
 Qo (Ql0 h x80) fun x81 =>
 Qo (Qle x81) fun x82 =>
 Qo (Qlss a9 x82) fun x83 =>
 q9_3p1 cf R x83 h a2 a3 a9 a4
theorem qe9_3 : q9_3 = t9_3 := by
  unfold q9_3 q9_3p1 q9_3p2 q9_3p3
  try simp only [QE]
  try rfl
noncomputable def q9_4p3 (cf : CallF) (R : Rec) (h : H) (x105 : IV) (x109 : IV) (a10 : IV) (a3 : IV) (a4 : IV) : CRes :=
 Qo (binK Tryd.prog h .neq 41 false false x105 x109) fun x110 =>
 Qif x110
 (.ok (.bool false) h)
 (Qo (Qadd a10 (.int .i64 1)) fun x111 =>
 R 4 [a3, a4, x111] h)
noncomputable def q9_4p2 (cf : CallF) (R : Rec) (a4 : IV) (h : H) (a10 : IV) (x105 : IV) (a3 : IV) : CRes :=
 Qo (Qfad 3 a4) fun x106 =>
 Qo (Ql0 h x106) fun x107 =>
 Qo (Qix 3 x107 a10) fun x108 =>
 Qo (QlA 3 h x108) fun x109 =>
 q9_4p3 cf R h x105 x109 a10 a3 a4
noncomputable def q9_4p1 (cf : CallF) (R : Rec) (x101 : IV) (a3 : IV) (h : H) (a10 : IV) (a4 : IV) : CRes :=
 Qif x101
 (Qo (Qfad 3 a3) fun x102 =>
 Qo (Ql0 h x102) fun x103 =>
 Qo (Qix 3 x103 a10) fun x104 =>
 Qo (QlA 3 h x104) fun x105 =>
 q9_4p2 cf R a4 h a10 x105 a3)
 (.ok (.bool true) h)
noncomputable def q9_4 (cf : CallF) (R : Rec) (a3 : IV) (a4 : IV) (a10 : IV) (h : H) : CRes :=
 Qo (Qfad 3 a3) fun x98 =>
 Qo (Ql0 h x98) fun x99 =>
 Qo (Qle x99) fun x100 =>
 Qo (Qlss a10 x100) fun x101 =>
 q9_4p1 cf R x101 a3 h a10 a4
theorem qe9_4 : q9_4 = t9_4 := by
  unfold q9_4 q9_4p1 q9_4p2 q9_4p3
  try simp only [QE]
  try rfl
noncomputable def bt9 (cf : CallF) (R : Rec) : Rec := fun i l h =>
 br3 i 0 l (fun a0 a1 a2 => t9_0 cf R a0 a1 a2 h) <|
 br4 i 1 l (fun a2 a3 a4 a7 => t9_1 cf R a2 a3 a4 a7 h) <|
 br4 i 2 l (fun a2 a3 a4 a8 => t9_2 cf R a2 a3 a4 a8 h) <|
 br4 i 3 l (fun a2 a3 a4 a9 => t9_3 cf R a2 a3 a4 a9 h) <|
 br3 i 4 l (fun a3 a4 a10 => t9_4 cf R a3 a4 a10 h) <|
 .fail
noncomputable def b9 (cf : CallF) (R : Rec) : Rec := fun i l h =>
 brQ3 i 0 l (fun a0 a1 a2 => q9_0 cf R a0 a1 a2 h) <|
 brQ4 i 1 l (fun a2 a3 a4 a7 => q9_1 cf R a2 a3 a4 a7 h) <|
 brQ4 i 2 l (fun a2 a3 a4 a8 => q9_2 cf R a2 a3 a4 a8 h) <|
 brQ4 i 3 l (fun a2 a3 a4 a9 => q9_3 cf R a2 a3 a4 a9 h) <|
 brQ3 i 4 l (fun a3 a4 a10 => q9_4 cf R a3 a4 a10 h) <|
 .fail
theorem be9 : b9 = bt9 := by
  unfold b9 bt9
  simp only [qe9_0, qe9_1, qe9_2, qe9_3, qe9_4, brQ3_eq, brQ4_eq]
theorem r9 {T : Tab} {cf : CallF} (hc : leC cf (CL T)) (n : Nat) : leR (recN (b9 cf) n) (J9 T) := be9 ▸ recN_le (fun R hR i l h => by
  unfold bt9
  refine le_br3 (J := fun i l => J9 T i l h) (fun _ a0 a1 a2 => le_e (fun hn => e9_0 rfl hn) ((m9 hc hR).1 a0 a1 a2 h)) ?_
  refine le_br4 (J := fun i l => J9 T i l h) (fun _ a2 a3 a4 a7 => le_e (fun hn => e9_1 rfl hn) ((m9 hc hR).2.1 a2 a3 a4 a7 h)) ?_
  refine le_br4 (J := fun i l => J9 T i l h) (fun _ a2 a3 a4 a8 => le_e (fun hn => e9_2 rfl hn) ((m9 hc hR).2.2.1 a2 a3 a4 a8 h)) ?_
  refine le_br4 (J := fun i l => J9 T i l h) (fun _ a2 a3 a4 a9 => le_e (fun hn => e9_3 rfl hn) ((m9 hc hR).2.2.2.1 a2 a3 a4 a9 h)) ?_
  refine le_br3 (J := fun i l => J9 T i l h) (fun _ a3 a4 a10 => le_e (fun hn => e9_4 rfl hn) ((m9 hc hR).2.2.2.2 a3 a4 a10 h)) ?_
  exact le_fail _) n
-- 12
theorem m12 {cf cf' : CallF} {R R' : Rec} (hc : ∀ f l h, le (cf f l h) (cf' f l h)) (hR : ∀ i l h, le (R i l h) (R' i l h)) : (∀ (h : H), le (t12_0 cf R h) (t12_0 cf' R' h)) := by
  intros
  unfold t12_0
  with_reducible repeat' first
    | refine le_obind fun _ => ?_
    | refine le_callP ?_ (fun _ _ => ?_) (fun _ _ => ?_)
    | refine le_condK ?_ ?_
    | exact hR _ _ _
    | refine le_obind2 fun _ _ => ?_
    | refine le_obindH fun _ => ?_
    | refine le_spanK (fun _ _ _ => ?_) (fun _ _ => ?_)
    | exact hc _ _ _
    | refine le_bif ?_ ?_
    | refine le_guardK ?_ ?_ ?_
    | refine le_mapK fun _ _ => ?_
    | refine le_panK fun _ _ => ?_
    | refine le_funK fun _ _ => ?_
    | exact le_refl _
    | apply_assumption
noncomputable def q12_0p7 (cf : CallF) (R : Rec) (x48 : IV) (x50 : IV) (h51 : H) (x17 : IV) : CRes :=
 Qo (Qpk x48 (some x50) (some (.bool false))) fun x53 =>
 Qsp x53 true h51 (fun k54 =>
 Qo (Qls x17) fun x57 =>
 Qo (Qgtr x57 (.int .i64 12)) fun x58 =>
 k54 x58 h51) fun x55 h56 =>
 Qo (Qpk x53 (some x55) (some (.bool false))) fun x59 =>
 Qsp x59 true h56 (fun k60 =>
 Qo (Qls x17) fun x63 =>
 Qo (Qsub x63 (.int .i64 6)) fun x64 =>
 Qo (slcStr x17 (some x64) none) fun x65 =>
 Qo (Qse x65 (.str ⟨6, 11137672951075⟩)) fun x66 =>
 k60 x66 h56) fun x61 h62 =>
 Qo (Qpk x59 (some x61) (some (.bool false))) fun x67 =>
 .ok x67 h62
noncomputable def q12_0p6 (cf : CallF) (R : Rec) (x35 : IV) (x37 : IV) (h38 : H) (x28 : IV) (x29 : IV) (x17 : IV) : CRes :=
 Qo (Qpk x35 (some x37) (some (.bool false))) fun x43 =>
 Qsp x43 true h38 (fun k44 =>
 Qo (Qse x28 (.str ⟨2, 8481⟩)) fun x47 =>
 k44 x47 h38) fun x45 h46 =>
 Qo (Qpk x43 (some x45) (some (.bool false))) fun x48 =>
 Qsp x48 true h46 (fun k49 =>
 Qo (Qeql x29 (.int .i64 0)) fun x52 =>
 k49 x52 h46) fun x50 h51 =>
 q12_0p7 cf R x48 x50 h51 x17
noncomputable def q12_0p5 (cf : CallF) (R : Rec) (x18 : IV) (h27 : H) (x22 : IV) (x23 : IV) (x11 : IV) (x28 : IV) (x29 : IV) (x17 : IV) : CRes :=
 Qo (Qeql x18 (.int .i64 0)) fun x30 =>
 Qsp x30 true h27 (fun k31 =>
 Qo (Qeql x22 (.int .i64 0)) fun x34 =>
 k31 x34 h27) fun x32 h33 =>
 Qo (Qpk x30 (some x32) (some (.bool false))) fun x35 =>
 Qsp x35 true h33 (fun k36 =>
 Qo (QlA 4 h33 x23) fun x39 =>
 Qo (QlA 4 h33 x11) fun x40 =>
 Qc (cf 9 [x39, x40, (.bool true)] h33) .pan fun x41 h42 =>
 k36 x41 h42) fun x37 h38 =>
 q12_0p6 cf R x35 x37 h38 x28 x29 x17
noncomputable def q12_0p4 (cf : CallF) (R : Rec) (h24 : H) (x23 : IV) (x21 : IV) (x18 : IV) (x22 : IV) (x11 : IV) (x17 : IV) : CRes :=
 QoH (QsA 4 h24 x23 x21) fun h25 =>
 Qc (cf 13 [(.int .i64 94)] h25) .pan fun x26 h27 =>
 Qo (Qext x26 0) fun x28 =>
 Qo (Qext x26 1) fun x29 =>
 q12_0p5 cf R x18 h27 x22 x23 x11 x28 x29 x17
noncomputable def q12_0p3 (cf : CallF) (R : Rec) (x17 : IV) (h16 : H) (x18 : IV) (x11 : IV) : CRes :=
 Qc (cf 8 [x17] h16) .pan fun x19 h20 =>
 Qo (Qext x19 0) fun x21 =>
 Qo (Qext x19 1) fun x22 =>
 Qo2 (QnI h20 z0) fun x23 h24 =>
 q12_0p4 cf R h24 x23 x21 x18 x22 x11 x17
noncomputable def q12_0p2 (cf : CallF) (R : Rec) (h13 : H) (x11 : IV) : CRes :=
 Qo (QlA 4 h13 x11) fun x14 =>
 Qc (cf 7 [x14] h13) .pan fun x15 h16 =>
 Qo (Qext x15 0) fun x17 =>
 Qo (Qext x15 1) fun x18 =>
 q12_0p3 cf R x17 h16 x18 x11
noncomputable def q12_0p1 (cf : CallF) (R : Rec) (x7 : IV) (h6 : H) (x1 : IV) (x3 : IV) (x5 : IV) : CRes :=
 Qo2 (Qbsl false 3 z1 1 [(0, x7)] h6) fun x8 h9 =>
 Qo (Qbld z0 p2 [(0, x1), (1, x3), (2, x5), (3, x8)]) fun x10 =>
 Qo2 (QnI h9 z0) fun x11 h12 =>
 QoH (QsA 4 h12 x11 x10) fun h13 =>
 q12_0p2 cf R h13 x11
noncomputable def q12_0 (cf : CallF) (R : Rec) (h : H) : CRes :=
 Qo2 (Qbsl false 1 [(.str ⟨0, 0⟩)] 1 [(0, (.str ⟨1, 97⟩))] h) fun x1 h2 =>
 Qo2 (Qbsl true 1 [(.int .i64 0)] 1 [(0, (.int .i64 1))] h2) fun x3 h4 =>
 Qo2 (Qbsl false 1 [(.str ⟨0, 0⟩)] 1 [(0, (.str ⟨1, 120⟩))] h4) fun x5 h6 =>
 Qo (Qbld z1 p5 [(0, (.int .i64 5)), (2, (.str ⟨1, 49⟩))]) fun x7 =>
 q12_0p1 cf R x7 h6 x1 x3 x5
theorem qe12_0 : q12_0 = t12_0 := by
  unfold q12_0 q12_0p1 q12_0p2 q12_0p3 q12_0p4 q12_0p5 q12_0p6 q12_0p7
  try simp only [QE]
  try rfl
noncomputable def bt12 (cf : CallF) (R : Rec) : Rec := fun i l h =>
 br0 i 0 l (t12_0 cf R h) <|
 .fail
noncomputable def b12 (cf : CallF) (R : Rec) : Rec := fun i l h =>
 brQ0 i 0 l (q12_0 cf R h) <|
 .fail
theorem be12 : b12 = bt12 := by
  unfold b12 bt12
  simp only [qe12_0, brQ0_eq]
theorem r12 {T : Tab} {cf : CallF} (hc : leC cf (CL T)) (n : Nat) : leR (recN (b12 cf) n) (J12 T) := be12 ▸ recN_le (fun R hR i l h => by
  unfold bt12
  refine le_br0 (J := fun i l => J12 T i l h) (fun _ => le_e (fun hn => e12_0 rfl hn) ((m12 hc hR) h)) ?_
  exact le_fail _) n
-- 13
theorem m13 {cf cf' : CallF} {R R' : Rec} (hc : ∀ f l h, le (cf f l h) (cf' f l h)) (hR : ∀ i l h, le (R i l h) (R' i l h)) : (∀ (a0 : IV) (h : H), le (t13_0 cf R a0 h) (t13_0 cf' R' a0 h)) := by
  intros
  unfold t13_0
  with_reducible repeat' first
    | refine le_obind fun _ => ?_
    | refine le_callP ?_ (fun _ _ => ?_) (fun _ _ => ?_)
    | refine le_condK ?_ ?_
    | exact hR _ _ _
    | refine le_obind2 fun _ _ => ?_
    | refine le_obindH fun _ => ?_
    | refine le_spanK (fun _ _ _ => ?_) (fun _ _ => ?_)
    | exact hc _ _ _
    | refine le_bif ?_ ?_
    | refine le_guardK ?_ ?_ ?_
    | refine le_mapK fun _ _ => ?_
    | refine le_panK fun _ _ => ?_
    | refine le_funK fun _ _ => ?_
    | exact le_refl _
    | apply_assumption
noncomputable def q13_0 (cf : CallF) (R : Rec) (a0 : IV) (h : H) : CRes :=
 Qo (Qlss a0 (.int .i64 0)) fun x1 =>
 Qsp x1 false h (fun k2 =>
 Qo (Qgeq a0 (.int .i64 4096)) fun x5 =>
 k2 x5 h) fun x3 h4 =>
 Qo (Qpk x1 (some (.bool true)) (some x3)) fun x6 =>
 Qif x6
 (.ok (.tup [(.str ⟨0, 0⟩), (.int .i64 1)]) h4)
 (Qc (cf 18 [a0] h4) .pan fun x7 h8 =>
 .ok (.tup [x7, (.int .i64 0)]) h8)
theorem qe13_0 : q13_0 = t13_0 := by
  unfold q13_0
  try simp only [QE]
  try rfl
noncomputable def bt13 (cf : CallF) (R : Rec) : Rec := fun i l h =>
 br1 i 0 l (fun a0 => t13_0 cf R a0 h) <|
 .fail
noncomputable def b13 (cf : CallF) (R : Rec) : Rec := fun i l h =>
 brQ1 i 0 l (fun a0 => q13_0 cf R a0 h) <|
 .fail
theorem be13 : b13 = bt13 := by
  unfold b13 bt13
  simp only [qe13_0, brQ1_eq]
theorem r13 {T : Tab} {cf : CallF} (hc : leC cf (CL T)) (n : Nat) : leR (recN (b13 cf) n) (J13 T) := be13 ▸ recN_le (fun R hR i l h => by
  unfold bt13
  refine le_br1 (J := fun i l => J13 T i l h) (fun _ a0 => le_e (fun hn => e13_0 rfl hn) ((m13 hc hR) a0 h)) ?_
  exact le_fail _) n
-- 15
theorem m15 {cf cf' : CallF} {R R' : Rec} (hc : ∀ f l h, le (cf f l h) (cf' f l h)) (hR : ∀ i l h, le (R i l h) (R' i l h)) :
  (∀ (a0 : IV) (h : H), le (t15_0 cf R a0 h) (t15_0 cf' R' a0 h)) ∧
  (∀ (a1 a3 a28 a29 : IV) (h : H), le (t15_1 cf R a1 a3 a28 a29 h) (t15_1 cf' R' a1 a3 a28 a29 h)) ∧
  (∀ (a1 a3 a28 a29 a70 : IV) (h : H), le (t15_2 cf R a1 a3 a28 a29 a70 h) (t15_2 cf' R' a1 a3 a28 a29 a70 h)) ∧
  (∀ (a1 a3 a6 a76 a77 a78 : IV) (h : H), le (t15_3 cf R a1 a3 a6 a76 a77 a78 h) (t15_3 cf' R' a1 a3 a6 a76 a77 a78 h)) ∧
  (∀ (a1 a3 a6 a8 a76 a77 a78 a116 : IV) (h : H), le (t15_4 cf R a1 a3 a6 a8 a76 a77 a78 a116 h) (t15_4 cf' R' a1 a3 a6 a8 a76 a77 a78 a116 h)) ∧
  (∀ (a1 a3 a6 a8 a76 a77 a78 a142 : IV) (h : H), le (t15_5 cf R a1 a3 a6 a8 a76 a77 a78 a142 h) (t15_5 cf' R' a1 a3 a6 a8 a76 a77 a78 a142 h)) := by
  refine ⟨?_, ?_, ?_, ?_, ?_, ?_⟩
  all_goals intros
  all_goals first | unfold t15_0 | unfold t15_1 | unfold t15_2 | unfold t15_3 | unfold t15_4 | unfold t15_5
  all_goals
  with_reducible repeat' first
    | refine le_obind fun _ => ?_
    | refine le_callP ?_ (fun _ _ => ?_) (fun _ _ => ?_)
    | refine le_condK ?_ ?_
    | exact hR _ _ _
    | refine le_obind2 fun _ _ => ?_
    | refine le_obindH fun _ => ?_
    | refine le_spanK (fun _ _ _ => ?_) (fun _ _ => ?_)
    | exact hc _ _ _
    | refine le_bif ?_ ?_
    | refine le_guardK ?_ ?_ ?_
    | refine le_mapK fun _ _ => ?_
    | refine le_panK fun _ _ => ?_
    | refine le_funK fun _ _ => ?_
    | exact le_refl _
    | apply_assumption
noncomputable def q15_0p2 (cf : CallF) (R : Rec) (x14 : IV) (x16 : IV) (h17 : H) (x1 : IV) (x5 : IV) : CRes :=
 Qo (Qpk x14 (some (.bool true)) (some x16)) fun x22 =>
 Qif x22
 (.ok (.int .i64 1) h17)
 (R 1 [x1, x5, x5, (.int .i64 0)] h17)
noncomputable def q15_0p1 (cf : CallF) (R : Rec) (x5 : IV) (h2 : H) (x1 : IV) : CRes :=
 Qo (Qgtr x5 (.int .i64 4096)) fun x6 =>
 Qsp x6 false h2 (fun k7 =>
 Qo (Qfad 1 x1) fun x10 =>
 Qo (Ql0 h2 x10) fun x11 =>
 Qo (Qle x11) fun x12 =>
 Qo (Qneq x12 x5) fun x13 =>
 k7 x13 h2) fun x8 h9 =>
 Qo (Qpk x6 (some (.bool true)) (some x8)) fun x14 =>
 Qsp x14 false h9 (fun k15 =>
 Qo (Qfad 2 x1) fun x18 =>
 Qo (Ql0 h9 x18) fun x19 =>
 Qo (Qle x19) fun x20 =>
 Qo (Qneq x20 x5) fun x21 =>
 k15 x21 h9) fun x16 h17 =>
 q15_0p2 cf R x14 x16 h17 x1 x5
noncomputable def q15_0 (cf : CallF) (R : Rec) (a0 : IV) (h : H) : CRes :=
 Qo2 (QnI h (Qcells a0)) fun x1 h2 =>
 Qo (Qfad 0 x1) fun x3 =>
 Qo (Ql0 h2 x3) fun x4 =>
 Qo (Qle x4) fun x5 =>
 q15_0p1 cf R x5 h2 x1
theorem qe15_0 : q15_0 = t15_0 := by
  unfold q15_0 q15_0p1 q15_0p2
  try simp only [QE]
  try rfl
noncomputable def q15_1p3 (cf : CallF) (R : Rec) (h : H) (x40 : IV) (x37 : IV) (a1 : IV) (a3 : IV) (a28 : IV) (a29 : IV) : CRes :=
 Qo (Ql0 h x40) fun x41 =>
 Qo (Qneq x37 x41) fun x42 =>
 Qo (Qpk (.bool false) (some (.bool true)) (some x42)) fun x43 =>
 R 2 [a1, a3, a28, a29, x43] h
noncomputable def q15_1p2 (cf : CallF) (R : Rec) (x36 : IV) (a1 : IV) (h : H) (a29 : IV) (a3 : IV) (a28 : IV) : CRes :=
 Qo (Qls x36) fun x37 =>
 Qo (Qfad 1 a1) fun x38 =>
 Qo (Ql0 h x38) fun x39 =>
 Qo (Qix 1 x39 a29) fun x40 =>
 q15_1p3 cf R h x40 x37 a1 a3 a28 a29
noncomputable def q15_1p6 (cf : CallF) (R : Rec) (h52 : H) (x63 : IV) (x60 : IV) (a1 : IV) (a3 : IV) (a28 : IV) (a29 : IV) : CRes :=
 Qo (Ql0 h52 x63) fun x64 =>
 Qo (Qneq x60 x64) fun x65 =>
 Qo (Qpk (.bool false) (some (.bool true)) (some x65)) fun x66 =>
 R 2 [a1, a3, a28, a29, x66] h52
noncomputable def q15_1p5 (cf : CallF) (R : Rec) (x59 : IV) (a1 : IV) (h52 : H) (a29 : IV) (a3 : IV) (a28 : IV) : CRes :=
 Qo (Qls x59) fun x60 =>
 Qo (Qfad 1 a1) fun x61 =>
 Qo (Ql0 h52 x61) fun x62 =>
 Qo (Qix 1 x62 a29) fun x63 =>
 q15_1p6 cf R h52 x63 x60 a1 a3 a28 a29
noncomputable def q15_1p4 (cf : CallF) (R : Rec) (x48 : IV) (h : H) (a1 : IV) (a3 : IV) (a28 : IV) (a29 : IV) : CRes :=
 Qc (cf 34 [x48] h) (fun v49 h50 =>
 .pan v49 h50) fun x51 h52 =>
 Qo (Qneq x51 (.int .i64 0)) fun x53 =>
 Qo (Qpk (.bool false) (some (.bool true)) (some x53)) fun x54 =>
 guardK x54 (Qo (Qpk (.bool true) (some (.bool true)) (some (.tup []))) fun x55 =>
 R 2 [a1, a3, a28, a29, x55] h52)
 (Qo (Qfad 2 a1) fun x56 =>
 Qo (Ql0 h52 x56) fun x57 =>
 Qo (Qix 1 x57 a29) fun x58 =>
 Qo (Ql0 h52 x58) fun x59 =>
 q15_1p5 cf R x59 a1 h52 a29 a3 a28)
 (Qo (Qpk (.tup []) (some (.bool true)) (some (.tup []))) fun x67 =>
 R 2 [a1, a3, a28, a29, x67] h52)
noncomputable def q15_1p8 (cf : CallF) (R : Rec) (h : H) (x77 : IV) (x74 : IV) (a1 : IV) (a3 : IV) (a28 : IV) (a29 : IV) : CRes :=
 Qo (Ql0 h x77) fun x78 =>
 Qo (Qneq x74 x78) fun x79 =>
 Qo (Qpk (.bool false) (some (.bool true)) (some x79)) fun x80 =>
 R 2 [a1, a3, a28, a29, x80] h
noncomputable def q15_1p7 (cf : CallF) (R : Rec) (x73 : IV) (a1 : IV) (h : H) (a29 : IV) (a3 : IV) (a28 : IV) : CRes :=
 Qo (Qls x73) fun x74 =>
 Qo (Qfad 1 a1) fun x75 =>
 Qo (Ql0 h x75) fun x76 =>
 Qo (Qix 1 x76 a29) fun x77 =>
 q15_1p8 cf R h x77 x74 a1 a3 a28 a29
noncomputable def q15_1p11 (cf : CallF) (R : Rec) (h89 : H) (x100 : IV) (x97 : IV) (a1 : IV) (a3 : IV) (a28 : IV) (a29 : IV) : CRes :=
 Qo (Ql0 h89 x100) fun x101 =>
 Qo (Qneq x97 x101) fun x102 =>
 Qo (Qpk (.bool false) (some (.bool true)) (some x102)) fun x103 =>
 R 2 [a1, a3, a28, a29, x103] h89
noncomputable def q15_1p10 (cf : CallF) (R : Rec) (x96 : IV) (a1 : IV) (h89 : H) (a29 : IV) (a3 : IV) (a28 : IV) : CRes :=
 Qo (Qls x96) fun x97 =>
 Qo (Qfad 1 a1) fun x98 =>
 Qo (Ql0 h89 x98) fun x99 =>
 Qo (Qix 1 x99 a29) fun x100 =>
 q15_1p11 cf R h89 x100 x97 a1 a3 a28 a29
noncomputable def q15_1p14 (cf : CallF) (R : Rec) (h112 : H) (x123 : IV) (x120 : IV) (a1 : IV) (a3 : IV) (a28 : IV) (a29 : IV) : CRes :=
 Qo (Ql0 h112 x123) fun x124 =>
 Qo (Qneq x120 x124) fun x125 =>
 Qo (Qpk (.bool false) (some (.bool true)) (some x125)) fun x126 =>
 R 2 [a1, a3, a28, a29, x126] h112
noncomputable def q15_1p13 (cf : CallF) (R : Rec) (x119 : IV) (a1 : IV) (h112 : H) (a29 : IV) (a3 : IV) (a28 : IV) : CRes :=
 Qo (Qls x119) fun x120 =>
 Qo (Qfad 1 a1) fun x121 =>
 Qo (Ql0 h112 x121) fun x122 =>
 Qo (Qix 1 x122 a29) fun x123 =>
 q15_1p14 cf R h112 x123 x120 a1 a3 a28 a29
noncomputable def q15_1p12 (cf : CallF) (R : Rec) (x108 : IV) (h89 : H) (a1 : IV) (a3 : IV) (a28 : IV) (a29 : IV) : CRes :=
 Qc (cf 34 [x108] h89) (fun v109 h110 =>
 .pan v109 h110) fun x111 h112 =>
 Qo (Qneq x111 (.int .i64 0)) fun x113 =>
 Qo (Qpk (.bool false) (some (.bool true)) (some x113)) fun x114 =>
 guardK x114 (Qo (Qpk (.bool true) (some (.bool true)) (some (.tup []))) fun x115 =>
 R 2 [a1, a3, a28, a29, x115] h112)
 (Qo (Qfad 2 a1) fun x116 =>
 Qo (Ql0 h112 x116) fun x117 =>
 Qo (Qix 1 x117 a29) fun x118 =>
 Qo (Ql0 h112 x118) fun x119 =>
 q15_1p13 cf R x119 a1 h112 a29 a3 a28)
 (Qo (Qpk (.tup []) (some (.bool true)) (some (.tup []))) fun x127 =>
 R 2 [a1, a3, a28, a29, x127] h112)
noncomputable def q15_1p16 (cf : CallF) (R : Rec) (h89 : H) (x137 : IV) (x134 : IV) (a1 : IV) (a3 : IV) (a28 : IV) (a29 : IV) : CRes :=
 Qo (Ql0 h89 x137) fun x138 =>
 Qo (Qneq x134 x138) fun x139 =>
 Qo (Qpk (.bool false) (some (.bool true)) (some x139)) fun x140 =>
 R 2 [a1, a3, a28, a29, x140] h89
noncomputable def q15_1p15 (cf : CallF) (R : Rec) (x133 : IV) (a1 : IV) (h89 : H) (a29 : IV) (a3 : IV) (a28 : IV) : CRes :=
 Qo (Qls x133) fun x134 =>
 Qo (Qfad 1 a1) fun x135 =>
 Qo (Ql0 h89 x135) fun x136 =>
 Qo (Qix 1 x136 a29) fun x137 =>
 q15_1p16 cf R h89 x137 x134 a1 a3 a28 a29
noncomputable def q15_1p9 (cf : CallF) (R : Rec) (x85 : IV) (h : H) (a1 : IV) (a3 : IV) (a28 : IV) (a29 : IV) : CRes :=
 Qc (cf 33 [x85, (.func 32 [])] h) (fun v86 h87 =>
 .pan v86 h87) fun x88 h89 =>
 Qo (Qpk (.bool false) (some (.bool true)) (some x88)) fun x90 =>
 guardK x90 (Qo (Qpk (.bool true) (some (.bool true)) (some (.tup []))) fun x91 =>
 guardK x91 (Qo (Qpk (.bool true) (some (.bool true)) (some (.tup []))) fun x92 =>
 R 2 [a1, a3, a28, a29, x92] h89)
 (Qo (Qfad 2 a1) fun x93 =>
 Qo (Ql0 h89 x93) fun x94 =>
 Qo (Qix 1 x94 a29) fun x95 =>
 Qo (Ql0 h89 x95) fun x96 =>
 q15_1p10 cf R x96 a1 h89 a29 a3 a28)
 (Qo (Qpk (.tup []) (some (.bool true)) (some (.tup []))) fun x104 =>
 R 2 [a1, a3, a28, a29, x104] h89))
 (Qo (Qfad 2 a1) fun x105 =>
 Qo (Ql0 h89 x105) fun x106 =>
 Qo (Qix 1 x106 a29) fun x107 =>
 Qo (Ql0 h89 x107) fun x108 =>
 q15_1p12 cf R x108 h89 a1 a3 a28 a29)
 (Qo (Qpk (.tup []) (some (.bool true)) (some (.tup []))) fun x128 =>
 guardK x128 (Qo (Qpk (.bool true) (some (.bool true)) (some (.tup []))) fun x129 =>
 R 2 [a1, a3, a28, a29, x129] h89)
 (Qo (Qfad 2 a1) fun x130 =>
 Qo (Ql0 h89 x130) fun x131 =>
 Qo (Qix 1 x131 a29) fun x132 =>
 Qo (Ql0 h89 x132) fun x133 =>
 q15_1p15 cf R x133 a1 h89 a29 a3 a28)
 (Qo (Qpk (.tup []) (some (.bool true)) (some (.tup []))) fun x141 =>
 R 2 [a1, a3, a28, a29, x141] h89))
noncomputable def q15_1p18 (cf : CallF) (R : Rec) (h : H) (x152 : IV) (x149 : IV) (a1 : IV) (a3 : IV) (a28 : IV) (a29 : IV) : CRes :=
 Qo (Ql0 h x152) fun x153 =>
 Qo (Qneq x149 x153) fun x154 =>
 Qo (Qpk (.bool false) (some (.bool true)) (some x154)) fun x155 =>
 R 2 [a1, a3, a28, a29, x155] h
noncomputable def q15_1p17 (cf : CallF) (R : Rec) (x148 : IV) (a1 : IV) (h : H) (a29 : IV) (a3 : IV) (a28 : IV) : CRes :=
 Qo (Qls x148) fun x149 =>
 Qo (Qfad 1 a1) fun x150 =>
 Qo (Ql0 h x150) fun x151 =>
 Qo (Qix 1 x151 a29) fun x152 =>
 q15_1p18 cf R h x152 x149 a1 a3 a28 a29
noncomputable def q15_1p21 (cf : CallF) (R : Rec) (h164 : H) (x175 : IV) (x172 : IV) (a1 : IV) (a3 : IV) (a28 : IV) (a29 : IV) : CRes :=
 Qo (Ql0 h164 x175) fun x176 =>
 Qo (Qneq x172 x176) fun x177 =>
 Qo (Qpk (.bool false) (some (.bool true)) (some x177)) fun x178 =>
 R 2 [a1, a3, a28, a29, x178] h164
noncomputable def q15_1p20 (cf : CallF) (R : Rec) (x171 : IV) (a1 : IV) (h164 : H) (a29 : IV) (a3 : IV) (a28 : IV) : CRes :=
 Qo (Qls x171) fun x172 =>
 Qo (Qfad 1 a1) fun x173 =>
 Qo (Ql0 h164 x173) fun x174 =>
 Qo (Qix 1 x174 a29) fun x175 =>
 q15_1p21 cf R h164 x175 x172 a1 a3 a28 a29
noncomputable def q15_1p19 (cf : CallF) (R : Rec) (x160 : IV) (h : H) (a1 : IV) (a3 : IV) (a28 : IV) (a29 : IV) : CRes :=
 Qc (cf 34 [x160] h) (fun v161 h162 =>
 .pan v161 h162) fun x163 h164 =>
 Qo (Qneq x163 (.int .i64 0)) fun x165 =>
 Qo (Qpk (.bool false) (some (.bool true)) (some x165)) fun x166 =>
 guardK x166 (Qo (Qpk (.bool true) (some (.bool true)) (some (.tup []))) fun x167 =>
 R 2 [a1, a3, a28, a29, x167] h164)
 (Qo (Qfad 2 a1) fun x168 =>
 Qo (Ql0 h164 x168) fun x169 =>
 Qo (Qix 1 x169 a29) fun x170 =>
 Qo (Ql0 h164 x170) fun x171 =>
 q15_1p20 cf R x171 a1 h164 a29 a3 a28)
 (Qo (Qpk (.tup []) (some (.bool true)) (some (.tup []))) fun x179 =>
 R 2 [a1, a3, a28, a29, x179] h164)
noncomputable def q15_1p23 (cf : CallF) (R : Rec) (h : H) (x189 : IV) (x186 : IV) (a1 : IV) (a3 : IV) (a28 : IV) (a29 : IV) : CRes :=
 Qo (Ql0 h x189) fun x190 =>
 Qo (Qneq x186 x190) fun x191 =>
 Qo (Qpk (.bool false) (some (.bool true)) (some x191)) fun x192 =>
 R 2 [a1, a3, a28, a29, x192] h
noncomputable def q15_1p22 (cf : CallF) (R : Rec) (x185 : IV) (a1 : IV) (h : H) (a29 : IV) (a3 : IV) (a28 : IV) : CRes :=
 Qo (Qls x185) fun x186 =>
 Qo (Qfad 1 a1) fun x187 =>
 Qo (Ql0 h x187) fun x188 =>
 Qo (Qix 1 x188 a29) fun x189 =>
 q15_1p23 cf R h x189 x186 a1 a3 a28 a29
noncomputable def q15_1p1 (cf : CallF) (R : Rec) (x27 : IV) (a1 : IV) (a3 : IV) (a28 : IV) (a29 : IV) (h : H) : CRes :=
 Qo (Qls x27) fun x28 =>
 Qo (Qgtr x28 (.int .i64 256)) fun x29 =>
 guardK x29 (Qo (Qpk (.bool true) (some (.bool true)) (some (.tup []))) fun x30 =>
 guardK x30 (Qo (Qpk (.bool true) (some (.bool true)) (some (.tup []))) fun x31 =>
 guardK x31 (Qo (Qpk (.bool true) (some (.bool true)) (some (.tup []))) fun x32 =>
 R 2 [a1, a3, a28, a29, x32] h)
 (Qo (Qfad 2 a1) fun x33 =>
 Qo (Ql0 h x33) fun x34 =>
 Qo (Qix 1 x34 a29) fun x35 =>
 Qo (Ql0 h x35) fun x36 =>
 q15_1p2 cf R x36 a1 h a29 a3 a28)
 (Qo (Qpk (.tup []) (some (.bool true)) (some (.tup []))) fun x44 =>
 R 2 [a1, a3, a28, a29, x44] h))
 (Qo (Qfad 2 a1) fun x45 =>
 Qo (Ql0 h x45) fun x46 =>
 Qo (Qix 1 x46 a29) fun x47 =>
 Qo (Ql0 h x47) fun x48 =>
 q15_1p4 cf R x48 h a1 a3 a28 a29)
 (Qo (Qpk (.tup []) (some (.bool true)) (some (.tup []))) fun x68 =>
 guardK x68 (Qo (Qpk (.bool true) (some (.bool true)) (some (.tup []))) fun x69 =>
 R 2 [a1, a3, a28, a29, x69] h)
 (Qo (Qfad 2 a1) fun x70 =>
 Qo (Ql0 h x70) fun x71 =>
 Qo (Qix 1 x71 a29) fun x72 =>
 Qo (Ql0 h x72) fun x73 =>
 q15_1p7 cf R x73 a1 h a29 a3 a28)
 (Qo (Qpk (.tup []) (some (.bool true)) (some (.tup []))) fun x81 =>
 R 2 [a1, a3, a28, a29, x81] h)))
 (Qo (Qfad 0 a1) fun x82 =>
 Qo (Ql0 h x82) fun x83 =>
 Qo (Qix 1 x83 a29) fun x84 =>
 Qo (Ql0 h x84) fun x85 =>
 q15_1p9 cf R x85 h a1 a3 a28 a29)
 (Qo (Qpk (.tup []) (some (.bool true)) (some (.tup []))) fun x142 =>
 guardK x142 (Qo (Qpk (.bool true) (some (.bool true)) (some (.tup []))) fun x143 =>
 guardK x143 (Qo (Qpk (.bool true) (some (.bool true)) (some (.tup []))) fun x144 =>
 R 2 [a1, a3, a28, a29, x144] h)
 (Qo (Qfad 2 a1) fun x145 =>
 Qo (Ql0 h x145) fun x146 =>
 Qo (Qix 1 x146 a29) fun x147 =>
 Qo (Ql0 h x147) fun x148 =>
 q15_1p17 cf R x148 a1 h a29 a3 a28)
 (Qo (Qpk (.tup []) (some (.bool true)) (some (.tup []))) fun x156 =>
 R 2 [a1, a3, a28, a29, x156] h))
 (Qo (Qfad 2 a1) fun x157 =>
 Qo (Ql0 h x157) fun x158 =>
 Qo (Qix 1 x158 a29) fun x159 =>
 Qo (Ql0 h x159) fun x160 =>
 q15_1p19 cf R x160 h a1 a3 a28 a29)
 (Qo (Qpk (.tup []) (some (.bool true)) (some (.tup []))) fun x180 =>
 guardK x180 (Qo (Qpk (.bool true) (some (.bool true)) (some (.tup []))) fun x181 =>
 R 2 [a1, a3, a28, a29, x181] h)
 (Qo (Qfad 2 a1) fun x182 =>
 Qo (Ql0 h x182) fun x183 =>
 Qo (Qix 1 x183 a29) fun x184 =>
 Qo (Ql0 h x184) fun x185 =>
 q15_1p22 cf R x185 a1 h a29 a3 a28)
 (Qo (Qpk (.tup []) (some (.bool true)) (some (.tup []))) fun x193 =>
 R 2 [a1, a3, a28, a29, x193] h)))
noncomputable def q15_1 (cf : CallF) (R : Rec) (a1 : IV) (a3 : IV) (a28 : IV) (a29 : IV) (h : H) : CRes :=
 Qo (Qlss a29 a28) fun x23 =>
 Qif x23
 (Qo (Qfad 0 a1) fun x24 =>
 Qo (Ql0 h x24) fun x25 =>
 Qo (Qix 1 x25 a29) fun x26 =>
 Qo (Ql0 h x26) fun x27 =>
 q15_1p1 cf R x27 a1 a3 a28 a29 h)
 (Qo (Qfad 2 a1) fun x194 =>
 Qo (Ql0 h x194) fun x195 =>
 Qc (cf 35 [x195] h) .pan fun x196 h197 =>
 Qo (Qfad 3 a1) fun x198 =>
 Qo (Ql0 h197 x198) fun x199 =>
 Qo (Qle x199) fun x200 =>
 R 3 [a1, a3, x196, x199, x200, (.int .i64 0)] h197)
theorem qe15_1 : q15_1 = t15_1 := by
  unfold q15_1 q15_1p1 q15_1p22 q15_1p23 q15_1p19 q15_1p20 q15_1p21 q15_1p17 q15_1p18 q15_1p9 q15_1p15 q15_1p16 q15_1p12 q15_1p13 q15_1p14 q15_1p10 q15_1p11 q15_1p7 q15_1p8 q15_1p4 q15_1p5 q15_1p6 q15_1p2 q15_1p3
  try simp only [QE]
  try rfl
noncomputable def q15_2 (cf : CallF) (R : Rec) (a1 : IV) (a3 : IV) (a28 : IV) (a29 : IV) (a70 : IV) (h : H) : CRes :=
 Qif a70
 (.ok (.int .i64 1) h)
 (Qo (Qadd a29 (.int .i64 1)) fun x201 =>
 R 1 [a1, a3, a28, x201] h)
theorem qe15_2 : q15_2 = t15_2 := by
  unfold q15_2
  try simp only [QE]
  try rfl
noncomputable def q15_3p2 (cf : CallF) (R : Rec) (h207 : H) (x219 : IV) (x205 : IV) (a1 : IV) (a3 : IV) (a6 : IV) (a76 : IV) (a77 : IV) (a78 : IV) : CRes :=
 Qo (QlA 3 h207 x219) fun x220 =>
 Qo (QlA 3 h207 x205) fun x221 =>
 Qc (cf 36 [x220, x221] h207) (fun v222 h223 =>
 .pan v222 h223) fun x224 h225 =>
 Qo (Qgeq x224 (.int .i64 0)) fun x226 =>
 Qo (Qpk (.bool true) (some x226) (some (.bool false))) fun x227 =>
 Qo (Qpk (.bool false) (some (.bool true)) (some x227)) fun x228 =>
 R 4 [a1, a3, a6, x205, a76, a77, a78, x228] h225
noncomputable def q15_3p3 (cf : CallF) (R : Rec) (h207 : H) (x243 : IV) (x205 : IV) (a1 : IV) (a3 : IV) (a6 : IV) (a76 : IV) (a77 : IV) (a78 : IV) : CRes :=
 Qo (QlA 3 h207 x243) fun x244 =>
 Qo (QlA 3 h207 x205) fun x245 =>
 Qc (cf 36 [x244, x245] h207) (fun v246 h247 =>
 .pan v246 h247) fun x248 h249 =>
 Qo (Qgeq x248 (.int .i64 0)) fun x250 =>
 Qo (Qpk (.bool true) (some x250) (some (.bool false))) fun x251 =>
 Qo (Qpk (.bool false) (some (.bool true)) (some x251)) fun x252 =>
 R 4 [a1, a3, a6, x205, a76, a77, a78, x252] h249
noncomputable def q15_3p4 (cf : CallF) (R : Rec) (h207 : H) (x264 : IV) (x205 : IV) (a1 : IV) (a3 : IV) (a6 : IV) (a76 : IV) (a77 : IV) (a78 : IV) : CRes :=
 Qo (QlA 3 h207 x264) fun x265 =>
 Qo (QlA 3 h207 x205) fun x266 =>
 Qc (cf 36 [x265, x266] h207) (fun v267 h268 =>
 .pan v267 h268) fun x269 h270 =>
 Qo (Qgeq x269 (.int .i64 0)) fun x271 =>
 Qo (Qpk (.bool true) (some x271) (some (.bool false))) fun x272 =>
 Qo (Qpk (.bool false) (some (.bool true)) (some x272)) fun x273 =>
 R 4 [a1, a3, a6, x205, a76, a77, a78, x273] h270
noncomputable def q15_3p5 (cf : CallF) (R : Rec) (h207 : H) (x289 : IV) (x205 : IV) (a1 : IV) (a3 : IV) (a6 : IV) (a76 : IV) (a77 : IV) (a78 : IV) : CRes :=
 Qo (QlA 3 h207 x289) fun x290 =>
 Qo (QlA 3 h207 x205) fun x291 =>
 Qc (cf 36 [x290, x291] h207) (fun v292 h293 =>
 .pan v292 h293) fun x294 h295 =>
 Qo (Qgeq x294 (.int .i64 0)) fun x296 =>
 Qo (Qpk (.bool true) (some x296) (some (.bool false))) fun x297 =>
 Qo (Qpk (.bool false) (some (.bool true)) (some x297)) fun x298 =>
 R 4 [a1, a3, a6, x205, a76, a77, a78, x298] h295
noncomputable def q15_3p6 (cf : CallF) (R : Rec) (h207 : H) (x313 : IV) (x205 : IV) (a1 : IV) (a3 : IV) (a6 : IV) (a76 : IV) (a77 : IV) (a78 : IV) : CRes :=
 Qo (QlA 3 h207 x313) fun x314 =>
 Qo (QlA 3 h207 x205) fun x315 =>
 Qc (cf 36 [x314, x315] h207) (fun v316 h317 =>
 .pan v316 h317) fun x318 h319 =>
 Qo (Qgeq x318 (.int .i64 0)) fun x320 =>
 Qo (Qpk (.bool true) (some x320) (some (.bool false))) fun x321 =>
 Qo (Qpk (.bool false) (some (.bool true)) (some x321)) fun x322 =>
 R 4 [a1, a3, a6, x205, a76, a77, a78, x322] h319
noncomputable def q15_3p7 (cf : CallF) (R : Rec) (h207 : H) (x334 : IV) (x205 : IV) (a1 : IV) (a3 : IV) (a6 : IV) (a76 : IV) (a77 : IV) (a78 : IV) : CRes :=
 Qo (QlA 3 h207 x334) fun x335 =>
 Qo (QlA 3 h207 x205) fun x336 =>
 Qc (cf 36 [x335, x336] h207) (fun v337 h338 =>
 .pan v337 h338) fun x339 h340 =>
 Qo (Qgeq x339 (.int .i64 0)) fun x341 =>
 Qo (Qpk (.bool true) (some x341) (some (.bool false))) fun x342 =>
 Qo (Qpk (.bool false) (some (.bool true)) (some x342)) fun x343 =>
 R 4 [a1, a3, a6, x205, a76, a77, a78, x343] h340
noncomputable def q15_3p8 (cf : CallF) (R : Rec) (h207 : H) (x356 : IV) (x205 : IV) (a1 : IV) (a3 : IV) (a6 : IV) (a76 : IV) (a77 : IV) (a78 : IV) : CRes :=
 Qo (QlA 3 h207 x356) fun x357 =>
 Qo (QlA 3 h207 x205) fun x358 =>
 Qc (cf 36 [x357, x358] h207) (fun v359 h360 =>
 .pan v359 h360) fun x361 h362 =>
 Qo (Qgeq x361 (.int .i64 0)) fun x363 =>
 Qo (Qpk (.bool true) (some x363) (some (.bool false))) fun x364 =>
 Qo (Qpk (.bool false) (some (.bool true)) (some x364)) fun x365 =>
 R 4 [a1, a3, a6, x205, a76, a77, a78, x365] h362
noncomputable def q15_3p9 (cf : CallF) (R : Rec) (h207 : H) (x380 : IV) (x205 : IV) (a1 : IV) (a3 : IV) (a6 : IV) (a76 : IV) (a77 : IV) (a78 : IV) : CRes :=
 Qo (QlA 3 h207 x380) fun x381 =>
 Qo (QlA 3 h207 x205) fun x382 =>
 Qc (cf 36 [x381, x382] h207) (fun v383 h384 =>
 .pan v383 h384) fun x385 h386 =>
 Qo (Qgeq x385 (.int .i64 0)) fun x387 =>
 Qo (Qpk (.bool true) (some x387) (some (.bool false))) fun x388 =>
 Qo (Qpk (.bool false) (some (.bool true)) (some x388)) fun x389 =>
 R 4 [a1, a3, a6, x205, a76, a77, a78, x389] h386
noncomputable def q15_3p10 (cf : CallF) (R : Rec) (h207 : H) (x401 : IV) (x205 : IV) (a1 : IV) (a3 : IV) (a6 : IV) (a76 : IV) (a77 : IV) (a78 : IV) : CRes :=
 Qo (QlA 3 h207 x401) fun x402 =>
 Qo (QlA 3 h207 x205) fun x403 =>
 Qc (cf 36 [x402, x403] h207) (fun v404 h405 =>
 .pan v404 h405) fun x406 h407 =>
 Qo (Qgeq x406 (.int .i64 0)) fun x408 =>
 Qo (Qpk (.bool true) (some x408) (some (.bool false))) fun x409 =>
 Qo (Qpk (.bool false) (some (.bool true)) (some x409)) fun x410 =>
 R 4 [a1, a3, a6, x205, a76, a77, a78, x410] h407
noncomputable def q15_3p11 (cf : CallF) (R : Rec) (h207 : H) (x427 : IV) (x205 : IV) (a1 : IV) (a3 : IV) (a6 : IV) (a76 : IV) (a77 : IV) (a78 : IV) : CRes :=
 Qo (QlA 3 h207 x427) fun x428 =>
 Qo (QlA 3 h207 x205) fun x429 =>
 Qc (cf 36 [x428, x429] h207) (fun v430 h431 =>
 .pan v430 h431) fun x432 h433 =>
 Qo (Qgeq x432 (.int .i64 0)) fun x434 =>
 Qo (Qpk (.bool true) (some x434) (some (.bool false))) fun x435 =>
 Qo (Qpk (.bool false) (some (.bool true)) (some x435)) fun x436 =>
 R 4 [a1, a3, a6, x205, a76, a77, a78, x436] h433
noncomputable def q15_3p12 (cf : CallF) (R : Rec) (h207 : H) (x451 : IV) (x205 : IV) (a1 : IV) (a3 : IV) (a6 : IV) (a76 : IV) (a77 : IV) (a78 : IV) : CRes :=
 Qo (QlA 3 h207 x451) fun x452 =>
 Qo (QlA 3 h207 x205) fun x453 =>
 Qc (cf 36 [x452, x453] h207) (fun v454 h455 =>
 .pan v454 h455) fun x456 h457 =>
 Qo (Qgeq x456 (.int .i64 0)) fun x458 =>
 Qo (Qpk (.bool true) (some x458) (some (.bool false))) fun x459 =>
 Qo (Qpk (.bool false) (some (.bool true)) (some x459)) fun x460 =>
 R 4 [a1, a3, a6, x205, a76, a77, a78, x460] h457
noncomputable def q15_3p13 (cf : CallF) (R : Rec) (h207 : H) (x472 : IV) (x205 : IV) (a1 : IV) (a3 : IV) (a6 : IV) (a76 : IV) (a77 : IV) (a78 : IV) : CRes :=
 Qo (QlA 3 h207 x472) fun x473 =>
 Qo (QlA 3 h207 x205) fun x474 =>
 Qc (cf 36 [x473, x474] h207) (fun v475 h476 =>
 .pan v475 h476) fun x477 h478 =>
 Qo (Qgeq x477 (.int .i64 0)) fun x479 =>
 Qo (Qpk (.bool true) (some x479) (some (.bool false))) fun x480 =>
 Qo (Qpk (.bool false) (some (.bool true)) (some x480)) fun x481 =>
 R 4 [a1, a3, a6, x205, a76, a77, a78, x481] h478
noncomputable def q15_3p14 (cf : CallF) (R : Rec) (h207 : H) (x497 : IV) (x205 : IV) (a1 : IV) (a3 : IV) (a6 : IV) (a76 : IV) (a77 : IV) (a78 : IV) : CRes :=
 Qo (QlA 3 h207 x497) fun x498 =>
 Qo (QlA 3 h207 x205) fun x499 =>
 Qc (cf 36 [x498, x499] h207) (fun v500 h501 =>
 .pan v500 h501) fun x502 h503 =>
 Qo (Qgeq x502 (.int .i64 0)) fun x504 =>
 Qo (Qpk (.bool true) (some x504) (some (.bool false))) fun x505 =>
 Qo (Qpk (.bool false) (some (.bool true)) (some x505)) fun x506 =>
 R 4 [a1, a3, a6, x205, a76, a77, a78, x506] h503
noncomputable def q15_3p15 (cf : CallF) (R : Rec) (h207 : H) (x521 : IV) (x205 : IV) (a1 : IV) (a3 : IV) (a6 : IV) (a76 : IV) (a77 : IV) (a78 : IV) : CRes :=
 Qo (QlA 3 h207 x521) fun x522 =>
 Qo (QlA 3 h207 x205) fun x523 =>
 Qc (cf 36 [x522, x523] h207) (fun v524 h525 =>
 .pan v524 h525) fun x526 h527 =>
 Qo (Qgeq x526 (.int .i64 0)) fun x528 =>
 Qo (Qpk (.bool true) (some x528) (some (.bool false))) fun x529 =>
 Qo (Qpk (.bool false) (some (.bool true)) (some x529)) fun x530 =>
 R 4 [a1, a3, a6, x205, a76, a77, a78, x530] h527
noncomputable def q15_3p16 (cf : CallF) (R : Rec) (h207 : H) (x542 : IV) (x205 : IV) (a1 : IV) (a3 : IV) (a6 : IV) (a76 : IV) (a77 : IV) (a78 : IV) : CRes :=
 Qo (QlA 3 h207 x542) fun x543 =>
 Qo (QlA 3 h207 x205) fun x544 =>
 Qc (cf 36 [x543, x544] h207) (fun v545 h546 =>
 .pan v545 h546) fun x547 h548 =>
 Qo (Qgeq x547 (.int .i64 0)) fun x549 =>
 Qo (Qpk (.bool true) (some x549) (some (.bool false))) fun x550 =>
 Qo (Qpk (.bool false) (some (.bool true)) (some x550)) fun x551 =>
 R 4 [a1, a3, a6, x205, a76, a77, a78, x551] h548
noncomputable def q15_3p17 (cf : CallF) (R : Rec) (h207 : H) (x564 : IV) (x205 : IV) (a1 : IV) (a3 : IV) (a6 : IV) (a76 : IV) (a77 : IV) (a78 : IV) : CRes :=
 Qo (QlA 3 h207 x564) fun x565 =>
 Qo (QlA 3 h207 x205) fun x566 =>
 Qc (cf 36 [x565, x566] h207) (fun v567 h568 =>
 .pan v567 h568) fun x569 h570 =>
 Qo (Qgeq x569 (.int .i64 0)) fun x571 =>
 Qo (Qpk (.bool true) (some x571) (some (.bool false))) fun x572 =>
 Qo (Qpk (.bool false) (some (.bool true)) (some x572)) fun x573 =>
 R 4 [a1, a3, a6, x205, a76, a77, a78, x573] h570
noncomputable def q15_3p18 (cf : CallF) (R : Rec) (h207 : H) (x588 : IV) (x205 : IV) (a1 : IV) (a3 : IV) (a6 : IV) (a76 : IV) (a77 : IV) (a78 : IV) : CRes :=
 Qo (QlA 3 h207 x588) fun x589 =>
 Qo (QlA 3 h207 x205) fun x590 =>
 Qc (cf 36 [x589, x590] h207) (fun v591 h592 =>
 .pan v591 h592) fun x593 h594 =>
 Qo (Qgeq x593 (.int .i64 0)) fun x595 =>
 Qo (Qpk (.bool true) (some x595) (some (.bool false))) fun x596 =>
 Qo (Qpk (.bool false) (some (.bool true)) (some x596)) fun x597 =>
 R 4 [a1, a3, a6, x205, a76, a77, a78, x597] h594
noncomputable def q15_3p19 (cf : CallF) (R : Rec) (h207 : H) (x609 : IV) (x205 : IV) (a1 : IV) (a3 : IV) (a6 : IV) (a76 : IV) (a77 : IV) (a78 : IV) : CRes :=
 Qo (QlA 3 h207 x609) fun x610 =>
 Qo (QlA 3 h207 x205) fun x611 =>
 Qc (cf 36 [x610, x611] h207) (fun v612 h613 =>
 .pan v612 h613) fun x614 h615 =>
 Qo (Qgeq x614 (.int .i64 0)) fun x616 =>
 Qo (Qpk (.bool true) (some x616) (some (.bool false))) fun x617 =>
 Qo (Qpk (.bool false) (some (.bool true)) (some x617)) fun x618 =>
 R 4 [a1, a3, a6, x205, a76, a77, a78, x618] h615
noncomputable def q15_3p20 (cf : CallF) (R : Rec) (h207 : H) (x632 : IV) (x205 : IV) (a1 : IV) (a3 : IV) (a6 : IV) (a76 : IV) (a77 : IV) (a78 : IV) : CRes :=
 Qo (QlA 3 h207 x632) fun x633 =>
 Qo (QlA 3 h207 x205) fun x634 =>
 Qc (cf 36 [x633, x634] h207) (fun v635 h636 =>
 .pan v635 h636) fun x637 h638 =>
 Qo (Qgeq x637 (.int .i64 0)) fun x639 =>
 Qo (Qpk (.bool true) (some x639) (some (.bool false))) fun x640 =>
 Qo (Qpk (.bool false) (some (.bool true)) (some x640)) fun x641 =>
 R 4 [a1, a3, a6, x205, a76, a77, a78, x641] h638
noncomputable def q15_3p21 (cf : CallF) (R : Rec) (h207 : H) (x656 : IV) (x205 : IV) (a1 : IV) (a3 : IV) (a6 : IV) (a76 : IV) (a77 : IV) (a78 : IV) : CRes :=
 Qo (QlA 3 h207 x656) fun x657 =>
 Qo (QlA 3 h207 x205) fun x658 =>
 Qc (cf 36 [x657, x658] h207) (fun v659 h660 =>
 .pan v659 h660) fun x661 h662 =>
 Qo (Qgeq x661 (.int .i64 0)) fun x663 =>
 Qo (Qpk (.bool true) (some x663) (some (.bool false))) fun x664 =>
 Qo (Qpk (.bool false) (some (.bool true)) (some x664)) fun x665 =>
 R 4 [a1, a3, a6, x205, a76, a77, a78, x665] h662
noncomputable def q15_3p22 (cf : CallF) (R : Rec) (h207 : H) (x677 : IV) (x205 : IV) (a1 : IV) (a3 : IV) (a6 : IV) (a76 : IV) (a77 : IV) (a78 : IV) : CRes :=
 Qo (QlA 3 h207 x677) fun x678 =>
 Qo (QlA 3 h207 x205) fun x679 =>
 Qc (cf 36 [x678, x679] h207) (fun v680 h681 =>
 .pan v680 h681) fun x682 h683 =>
 Qo (Qgeq x682 (.int .i64 0)) fun x684 =>
 Qo (Qpk (.bool true) (some x684) (some (.bool false))) fun x685 =>
 Qo (Qpk (.bool false) (some (.bool true)) (some x685)) fun x686 =>
 R 4 [a1, a3, a6, x205, a76, a77, a78, x686] h683
noncomputable def q15_3p23 (cf : CallF) (R : Rec) (h207 : H) (x702 : IV) (x205 : IV) (a1 : IV) (a3 : IV) (a6 : IV) (a76 : IV) (a77 : IV) (a78 : IV) : CRes :=
 Qo (QlA 3 h207 x702) fun x703 =>
 Qo (QlA 3 h207 x205) fun x704 =>
 Qc (cf 36 [x703, x704] h207) (fun v705 h706 =>
 .pan v705 h706) fun x707 h708 =>
 Qo (Qgeq x707 (.int .i64 0)) fun x709 =>
 Qo (Qpk (.bool true) (some x709) (some (.bool false))) fun x710 =>
 Qo (Qpk (.bool false) (some (.bool true)) (some x710)) fun x711 =>
 R 4 [a1, a3, a6, x205, a76, a77, a78, x711] h708
noncomputable def q15_3p24 (cf : CallF) (R : Rec) (h207 : H) (x726 : IV) (x205 : IV) (a1 : IV) (a3 : IV) (a6 : IV) (a76 : IV) (a77 : IV) (a78 : IV) : CRes :=
 Qo (QlA 3 h207 x726) fun x727 =>
 Qo (QlA 3 h207 x205) fun x728 =>
 Qc (cf 36 [x727, x728] h207) (fun v729 h730 =>
 .pan v729 h730) fun x731 h732 =>
 Qo (Qgeq x731 (.int .i64 0)) fun x733 =>
 Qo (Qpk (.bool true) (some x733) (some (.bool false))) fun x734 =>
 Qo (Qpk (.bool false) (some (.bool true)) (some x734)) fun x735 =>
 R 4 [a1, a3, a6, x205, a76, a77, a78, x735] h732
noncomputable def q15_3p25 (cf : CallF) (R : Rec) (h207 : H) (x747 : IV) (x205 : IV) (a1 : IV) (a3 : IV) (a6 : IV) (a76 : IV) (a77 : IV) (a78 : IV) : CRes :=
 Qo (QlA 3 h207 x747) fun x748 =>
 Qo (QlA 3 h207 x205) fun x749 =>
 Qc (cf 36 [x748, x749] h207) (fun v750 h751 =>
 .pan v750 h751) fun x752 h753 =>
 Qo (Qgeq x752 (.int .i64 0)) fun x754 =>
 Qo (Qpk (.bool true) (some x754) (some (.bool false))) fun x755 =>
 Qo (Qpk (.bool false) (some (.bool true)) (some x755)) fun x756 =>
 R 4 [a1, a3, a6, x205, a76, a77, a78, x756] h753
noncomputable def q15_3p26 (cf : CallF) (R : Rec) (h207 : H) (x769 : IV) (x205 : IV) (a1 : IV) (a3 : IV) (a6 : IV) (a76 : IV) (a77 : IV) (a78 : IV) : CRes :=
 Qo (QlA 3 h207 x769) fun x770 =>
 Qo (QlA 3 h207 x205) fun x771 =>
 Qc (cf 36 [x770, x771] h207) (fun v772 h773 =>
 .pan v772 h773) fun x774 h775 =>
 Qo (Qgeq x774 (.int .i64 0)) fun x776 =>
 Qo (Qpk (.bool true) (some x776) (some (.bool false))) fun x777 =>
 Qo (Qpk (.bool false) (some (.bool true)) (some x777)) fun x778 =>
 R 4 [a1, a3, a6, x205, a76, a77, a78, x778] h775
noncomputable def q15_3p27 (cf : CallF) (R : Rec) (h207 : H) (x793 : IV) (x205 : IV) (a1 : IV) (a3 : IV) (a6 : IV) (a76 : IV) (a77 : IV) (a78 : IV) : CRes :=
 Qo (QlA 3 h207 x793) fun x794 =>
 Qo (QlA 3 h207 x205) fun x795 =>
 Qc (cf 36 [x794, x795] h207) (fun v796 h797 =>
 .pan v796 h797) fun x798 h799 =>
 Qo (Qgeq x798 (.int .i64 0)) fun x800 =>
 Qo (Qpk (.bool true) (some x800) (some (.bool false))) fun x801 =>
 Qo (Qpk (.bool false) (some (.bool true)) (some x801)) fun x802 =>
 R 4 [a1, a3, a6, x205, a76, a77, a78, x802] h799
noncomputable def q15_3p28 (cf : CallF) (R : Rec) (h207 : H) (x814 : IV) (x205 : IV) (a1 : IV) (a3 : IV) (a6 : IV) (a76 : IV) (a77 : IV) (a78 : IV) : CRes :=
 Qo (QlA 3 h207 x814) fun x815 =>
 Qo (QlA 3 h207 x205) fun x816 =>
 Qc (cf 36 [x815, x816] h207) (fun v817 h818 =>
 .pan v817 h818) fun x819 h820 =>
 Qo (Qgeq x819 (.int .i64 0)) fun x821 =>
 Qo (Qpk (.bool true) (some x821) (some (.bool false))) fun x822 =>
 Qo (Qpk (.bool false) (some (.bool true)) (some x822)) fun x823 =>
 R 4 [a1, a3, a6, x205, a76, a77, a78, x823] h820
noncomputable def q15_3p1 (cf : CallF) (R : Rec) (x205 : IV) (h207 : H) (a1 : IV) (a3 : IV) (a6 : IV) (a76 : IV) (a77 : IV) (a78 : IV) : CRes :=
 Qo (Qfad 1 x205) fun x208 =>
 Qo (Ql0 h207 x208) fun x209 =>
 Qo (Qlss x209 (.int .i64 0)) fun x210 =>
 guardK x210 (Qo (Qpk (.bool true) (some (.bool true)) (some (.tup []))) fun x211 =>
 guardK x211 (Qo (Qpk (.bool true) (some (.bool true)) (some (.tup []))) fun x212 =>
 guardK x212 (Qo (Qpk (.bool true) (some (.bool true)) (some (.tup []))) fun x213 =>
 guardK x213 (Qo (Qpk (.bool true) (some (.bool true)) (some (.tup []))) fun x214 =>
 R 4 [a1, a3, a6, x205, a76, a77, a78, x214] h207)
 (Qo (Qgtr a78 (.int .i64 0)) fun x215 =>
 guardK x215 (Qo (Qfad 3 a1) fun x216 =>
 Qo (Ql0 h207 x216) fun x217 =>
 Qo (Qsub a78 (.int .i64 1)) fun x218 =>
 Qo (Qix 3 x217 x218) fun x219 =>
 q15_3p2 cf R h207 x219 x205 a1 a3 a6 a76 a77 a78)
 (Qo (Qpk (.bool false) (some (.tup [])) (some (.bool false))) fun x229 =>
 Qo (Qpk (.bool false) (some (.bool true)) (some x229)) fun x230 =>
 R 4 [a1, a3, a6, x205, a76, a77, a78, x230] h207)
 (Qo (Qpk (.tup []) (some (.tup [])) (some (.bool false))) fun x231 =>
 Qo (Qpk (.bool false) (some (.bool true)) (some x231)) fun x232 =>
 R 4 [a1, a3, a6, x205, a76, a77, a78, x232] h207))
 (Qo (Qpk (.tup []) (some (.bool true)) (some (.tup []))) fun x233 =>
 R 4 [a1, a3, a6, x205, a76, a77, a78, x233] h207))
 (Qo (Qfad 0 x205) fun x234 =>
 Qo (Ql0 h207 x234) fun x235 =>
 Qo (Qgtr x235 (.int .i64 4611686018427387903)) fun x236 =>
 Qo (Qpk (.bool false) (some (.bool true)) (some x236)) fun x237 =>
 guardK x237 (Qo (Qpk (.bool true) (some (.bool true)) (some (.tup []))) fun x238 =>
 R 4 [a1, a3, a6, x205, a76, a77, a78, x238] h207)
 (Qo (Qgtr a78 (.int .i64 0)) fun x239 =>
 guardK x239 (Qo (Qfad 3 a1) fun x240 =>
 Qo (Ql0 h207 x240) fun x241 =>
 Qo (Qsub a78 (.int .i64 1)) fun x242 =>
 Qo (Qix 3 x241 x242) fun x243 =>
 q15_3p3 cf R h207 x243 x205 a1 a3 a6 a76 a77 a78)
 (Qo (Qpk (.bool false) (some (.tup [])) (some (.bool false))) fun x253 =>
 Qo (Qpk (.bool false) (some (.bool true)) (some x253)) fun x254 =>
 R 4 [a1, a3, a6, x205, a76, a77, a78, x254] h207)
 (Qo (Qpk (.tup []) (some (.tup [])) (some (.bool false))) fun x255 =>
 Qo (Qpk (.bool false) (some (.bool true)) (some x255)) fun x256 =>
 R 4 [a1, a3, a6, x205, a76, a77, a78, x256] h207))
 (Qo (Qpk (.tup []) (some (.bool true)) (some (.tup []))) fun x257 =>
 R 4 [a1, a3, a6, x205, a76, a77, a78, x257] h207))
 (Qo (Qpk (.tup []) (some (.bool true)) (some (.tup []))) fun x258 =>
 guardK x258 (Qo (Qpk (.bool true) (some (.bool true)) (some (.tup []))) fun x259 =>
 R 4 [a1, a3, a6, x205, a76, a77, a78, x259] h207)
 (Qo (Qgtr a78 (.int .i64 0)) fun x260 =>
 guardK x260 (Qo (Qfad 3 a1) fun x261 =>
 Qo (Ql0 h207 x261) fun x262 =>
 Qo (Qsub a78 (.int .i64 1)) fun x263 =>
 Qo (Qix 3 x262 x263) fun x264 =>
 q15_3p4 cf R h207 x264 x205 a1 a3 a6 a76 a77 a78)
 (Qo (Qpk (.bool false) (some (.tup [])) (some (.bool false))) fun x274 =>
 Qo (Qpk (.bool false) (some (.bool true)) (some x274)) fun x275 =>
 R 4 [a1, a3, a6, x205, a76, a77, a78, x275] h207)
 (Qo (Qpk (.tup []) (some (.tup [])) (some (.bool false))) fun x276 =>
 Qo (Qpk (.bool false) (some (.bool true)) (some x276)) fun x277 =>
 R 4 [a1, a3, a6, x205, a76, a77, a78, x277] h207))
 (Qo (Qpk (.tup []) (some (.bool true)) (some (.tup []))) fun x278 =>
 R 4 [a1, a3, a6, x205, a76, a77, a78, x278] h207)))
 (Qo (Qfad 0 x205) fun x279 =>
 Qo (Ql0 h207 x279) fun x280 =>
 Qo (Qlss x280 (.int .i64 0)) fun x281 =>
 Qo (Qpk (.bool false) (some (.bool true)) (some x281)) fun x282 =>
 guardK x282 (Qo (Qpk (.bool true) (some (.bool true)) (some (.tup []))) fun x283 =>
 guardK x283 (Qo (Qpk (.bool true) (some (.bool true)) (some (.tup []))) fun x284 =>
 R 4 [a1, a3, a6, x205, a76, a77, a78, x284] h207)
 (Qo (Qgtr a78 (.int .i64 0)) fun x285 =>
 guardK x285 (Qo (Qfad 3 a1) fun x286 =>
 Qo (Ql0 h207 x286) fun x287 =>
 Qo (Qsub a78 (.int .i64 1)) fun x288 =>
 Qo (Qix 3 x287 x288) fun x289 =>
 q15_3p5 cf R h207 x289 x205 a1 a3 a6 a76 a77 a78)
 (Qo (Qpk (.bool false) (some (.tup [])) (some (.bool false))) fun x299 =>
 Qo (Qpk (.bool false) (some (.bool true)) (some x299)) fun x300 =>
 R 4 [a1, a3, a6, x205, a76, a77, a78, x300] h207)
 (Qo (Qpk (.tup []) (some (.tup [])) (some (.bool false))) fun x301 =>
 Qo (Qpk (.bool false) (some (.bool true)) (some x301)) fun x302 =>
 R 4 [a1, a3, a6, x205, a76, a77, a78, x302] h207))
 (Qo (Qpk (.tup []) (some (.bool true)) (some (.tup []))) fun x303 =>
 R 4 [a1, a3, a6, x205, a76, a77, a78, x303] h207))
 (Qo (Qfad 0 x205) fun x304 =>
 Qo (Ql0 h207 x304) fun x305 =>
 Qo (Qgtr x305 (.int .i64 4611686018427387903)) fun x306 =>
 Qo (Qpk (.bool false) (some (.bool true)) (some x306)) fun x307 =>
 guardK x307 (Qo (Qpk (.bool true) (some (.bool true)) (some (.tup []))) fun x308 =>
 R 4 [a1, a3, a6, x205, a76, a77, a78, x308] h207)
 (Qo (Qgtr a78 (.int .i64 0)) fun x309 =>
 guardK x309 (Qo (Qfad 3 a1) fun x310 =>
 Qo (Ql0 h207 x310) fun x311 =>
 Qo (Qsub a78 (.int .i64 1)) fun x312 =>
 Qo (Qix 3 x311 x312) fun x313 =>
 q15_3p6 cf R h207 x313 x205 a1 a3 a6 a76 a77 a78)
 (Qo (Qpk (.bool false) (some (.tup [])) (some (.bool false))) fun x323 =>
 Qo (Qpk (.bool false) (some (.bool true)) (some x323)) fun x324 =>
 R 4 [a1, a3, a6, x205, a76, a77, a78, x324] h207)
 (Qo (Qpk (.tup []) (some (.tup [])) (some (.bool false))) fun x325 =>
 Qo (Qpk (.bool false) (some (.bool true)) (some x325)) fun x326 =>
 R 4 [a1, a3, a6, x205, a76, a77, a78, x326] h207))
 (Qo (Qpk (.tup []) (some (.bool true)) (some (.tup []))) fun x327 =>
 R 4 [a1, a3, a6, x205, a76, a77, a78, x327] h207))
 (Qo (Qpk (.tup []) (some (.bool true)) (some (.tup []))) fun x328 =>
 guardK x328 (Qo (Qpk (.bool true) (some (.bool true)) (some (.tup []))) fun x329 =>
 R 4 [a1, a3, a6, x205, a76, a77, a78, x329] h207)
 (Qo (Qgtr a78 (.int .i64 0)) fun x330 =>
 guardK x330 (Qo (Qfad 3 a1) fun x331 =>
 Qo (Ql0 h207 x331) fun x332 =>
 Qo (Qsub a78 (.int .i64 1)) fun x333 =>
 Qo (Qix 3 x332 x333) fun x334 =>
 q15_3p7 cf R h207 x334 x205 a1 a3 a6 a76 a77 a78)
 (Qo (Qpk (.bool false) (some (.tup [])) (some (.bool false))) fun x344 =>
 Qo (Qpk (.bool false) (some (.bool true)) (some x344)) fun x345 =>
 R 4 [a1, a3, a6, x205, a76, a77, a78, x345] h207)
 (Qo (Qpk (.tup []) (some (.tup [])) (some (.bool false))) fun x346 =>
 Qo (Qpk (.bool false) (some (.bool true)) (some x346)) fun x347 =>
 R 4 [a1, a3, a6, x205, a76, a77, a78, x347] h207))
 (Qo (Qpk (.tup []) (some (.bool true)) (some (.tup []))) fun x348 =>
 R 4 [a1, a3, a6, x205, a76, a77, a78, x348] h207)))
 (Qo (Qpk (.tup []) (some (.bool true)) (some (.tup []))) fun x349 =>
 guardK x349 (Qo (Qpk (.bool true) (some (.bool true)) (some (.tup []))) fun x350 =>
 guardK x350 (Qo (Qpk (.bool true) (some (.bool true)) (some (.tup []))) fun x351 =>
 R 4 [a1, a3, a6, x205, a76, a77, a78, x351] h207)
 (Qo (Qgtr a78 (.int .i64 0)) fun x352 =>
 guardK x352 (Qo (Qfad 3 a1) fun x353 =>
 Qo (Ql0 h207 x353) fun x354 =>
 Qo (Qsub a78 (.int .i64 1)) fun x355 =>
 Qo (Qix 3 x354 x355) fun x356 =>
 q15_3p8 cf R h207 x356 x205 a1 a3 a6 a76 a77 a78)
 (Qo (Qpk (.bool false) (some (.tup [])) (some (.bool false))) fun x366 =>
 Qo (Qpk (.bool false) (some (.bool true)) (some x366)) fun x367 =>
 R 4 [a1, a3, a6, x205, a76, a77, a78, x367] h207)
 (Qo (Qpk (.tup []) (some (.tup [])) (some (.bool false))) fun x368 =>
 Qo (Qpk (.bool false) (some (.bool true)) (some x368)) fun x369 =>
 R 4 [a1, a3, a6, x205, a76, a77, a78, x369] h207))
 (Qo (Qpk (.tup []) (some (.bool true)) (some (.tup []))) fun x370 =>
 R 4 [a1, a3, a6, x205, a76, a77, a78, x370] h207))
 (Qo (Qfad 0 x205) fun x371 =>
 Qo (Ql0 h207 x371) fun x372 =>
 Qo (Qgtr x372 (.int .i64 4611686018427387903)) fun x373 =>
 Qo (Qpk (.bool false) (some (.bool true)) (some x373)) fun x374 =>
 guardK x374 (Qo (Qpk (.bool true) (some (.bool true)) (some (.tup []))) fun x375 =>
 R 4 [a1, a3, a6, x205, a76, a77, a78, x375] h207)
 (Qo (Qgtr a78 (.int .i64 0)) fun x376 =>
 guardK x376 (Qo (Qfad 3 a1) fun x377 =>
 Qo (Ql0 h207 x377) fun x378 =>
 Qo (Qsub a78 (.int .i64 1)) fun x379 =>
 Qo (Qix 3 x378 x379) fun x380 =>
 q15_3p9 cf R h207 x380 x205 a1 a3 a6 a76 a77 a78)
 (Qo (Qpk (.bool false) (some (.tup [])) (some (.bool false))) fun x390 =>
 Qo (Qpk (.bool false) (some (.bool true)) (some x390)) fun x391 =>
 R 4 [a1, a3, a6, x205, a76, a77, a78, x391] h207)
 (Qo (Qpk (.tup []) (some (.tup [])) (some (.bool false))) fun x392 =>
 Qo (Qpk (.bool false) (some (.bool true)) (some x392)) fun x393 =>
 R 4 [a1, a3, a6, x205, a76, a77, a78, x393] h207))
 (Qo (Qpk (.tup []) (some (.bool true)) (some (.tup []))) fun x394 =>
 R 4 [a1, a3, a6, x205, a76, a77, a78, x394] h207))
 (Qo (Qpk (.tup []) (some (.bool true)) (some (.tup []))) fun x395 =>
 guardK x395 (Qo (Qpk (.bool true) (some (.bool true)) (some (.tup []))) fun x396 =>
 R 4 [a1, a3, a6, x205, a76, a77, a78, x396] h207)
 (Qo (Qgtr a78 (.int .i64 0)) fun x397 =>
 guardK x397 (Qo (Qfad 3 a1) fun x398 =>
 Qo (Ql0 h207 x398) fun x399 =>
 Qo (Qsub a78 (.int .i64 1)) fun x400 =>
 Qo (Qix 3 x399 x400) fun x401 =>
 q15_3p10 cf R h207 x401 x205 a1 a3 a6 a76 a77 a78)
 (Qo (Qpk (.bool false) (some (.tup [])) (some (.bool false))) fun x411 =>
 Qo (Qpk (.bool false) (some (.bool true)) (some x411)) fun x412 =>
 R 4 [a1, a3, a6, x205, a76, a77, a78, x412] h207)
 (Qo (Qpk (.tup []) (some (.tup [])) (some (.bool false))) fun x413 =>
 Qo (Qpk (.bool false) (some (.bool true)) (some x413)) fun x414 =>
 R 4 [a1, a3, a6, x205, a76, a77, a78, x414] h207))
 (Qo (Qpk (.tup []) (some (.bool true)) (some (.tup []))) fun x415 =>
 R 4 [a1, a3, a6, x205, a76, a77, a78, x415] h207))))
 (Qo (Qfad 1 x205) fun x416 =>
 Qo (Ql0 h207 x416) fun x417 =>
 Qo (Qgeq x417 a3) fun x418 =>
 Qo (Qpk (.bool false) (some (.bool true)) (some x418)) fun x419 =>
 guardK x419 (Qo (Qpk (.bool true) (some (.bool true)) (some (.tup []))) fun x420 =>
 guardK x420 (Qo (Qpk (.bool true) (some (.bool true)) (some (.tup []))) fun x421 =>
 guardK x421 (Qo (Qpk (.bool true) (some (.bool true)) (some (.tup []))) fun x422 =>
 R 4 [a1, a3, a6, x205, a76, a77, a78, x422] h207)
 (Qo (Qgtr a78 (.int .i64 0)) fun x423 =>
 guardK x423 (Qo (Qfad 3 a1) fun x424 =>
 Qo (Ql0 h207 x424) fun x425 =>
 Qo (Qsub a78 (.int .i64 1)) fun x426 =>
 Qo (Qix 3 x425 x426) fun x427 =>
 q15_3p11 cf R h207 x427 x205 a1 a3 a6 a76 a77 a78)
 (Qo (Qpk (.bool false) (some (.tup [])) (some (.bool false))) fun x437 =>
 Qo (Qpk (.bool false) (some (.bool true)) (some x437)) fun x438 =>
 R 4 [a1, a3, a6, x205, a76, a77, a78, x438] h207)
 (Qo (Qpk (.tup []) (some (.tup [])) (some (.bool false))) fun x439 =>
 Qo (Qpk (.bool false) (some (.bool true)) (some x439)) fun x440 =>
 R 4 [a1, a3, a6, x205, a76, a77, a78, x440] h207))
 (Qo (Qpk (.tup []) (some (.bool true)) (some (.tup []))) fun x441 =>
 R 4 [a1, a3, a6, x205, a76, a77, a78, x441] h207))
 (Qo (Qfad 0 x205) fun x442 =>
 Qo (Ql0 h207 x442) fun x443 =>
 Qo (Qgtr x443 (.int .i64 4611686018427387903)) fun x444 =>
 Qo (Qpk (.bool false) (some (.bool true)) (some x444)) fun x445 =>
 guardK x445 (Qo (Qpk (.bool true) (some (.bool true)) (some (.tup []))) fun x446 =>
 R 4 [a1, a3, a6, x205, a76, a77, a78, x446] h207)
 (Qo (Qgtr a78 (.int .i64 0)) fun x447 =>
 guardK x447 (Qo (Qfad 3 a1) fun x448 =>
 Qo (Ql0 h207 x448) fun x449 =>
 Qo (Qsub a78 (.int .i64 1)) fun x450 =>
 Qo (Qix 3 x449 x450) fun x451 =>
 q15_3p12 cf R h207 x451 x205 a1 a3 a6 a76 a77 a78)
 (Qo (Qpk (.bool false) (some (.tup [])) (some (.bool false))) fun x461 =>
 Qo (Qpk (.bool false) (some (.bool true)) (some x461)) fun x462 =>
 R 4 [a1, a3, a6, x205, a76, a77, a78, x462] h207)
 (Qo (Qpk (.tup []) (some (.tup [])) (some (.bool false))) fun x463 =>
 Qo (Qpk (.bool false) (some (.bool true)) (some x463)) fun x464 =>
 R 4 [a1, a3, a6, x205, a76, a77, a78, x464] h207))
 (Qo (Qpk (.tup []) (some (.bool true)) (some (.tup []))) fun x465 =>
 R 4 [a1, a3, a6, x205, a76, a77, a78, x465] h207))
 (Qo (Qpk (.tup []) (some (.bool true)) (some (.tup []))) fun x466 =>
 guardK x466 (Qo (Qpk (.bool true) (some (.bool true)) (some (.tup []))) fun x467 =>
 R 4 [a1, a3, a6, x205, a76, a77, a78, x467] h207)
 (Qo (Qgtr a78 (.int .i64 0)) fun x468 =>
 guardK x468 (Qo (Qfad 3 a1) fun x469 =>
 Qo (Ql0 h207 x469) fun x470 =>
 Qo (Qsub a78 (.int .i64 1)) fun x471 =>
 Qo (Qix 3 x470 x471) fun x472 =>
 q15_3p13 cf R h207 x472 x205 a1 a3 a6 a76 a77 a78)
 (Qo (Qpk (.bool false) (some (.tup [])) (some (.bool false))) fun x482 =>
 Qo (Qpk (.bool false) (some (.bool true)) (some x482)) fun x483 =>
 R 4 [a1, a3, a6, x205, a76, a77, a78, x483] h207)
 (Qo (Qpk (.tup []) (some (.tup [])) (some (.bool false))) fun x484 =>
 Qo (Qpk (.bool false) (some (.bool true)) (some x484)) fun x485 =>
 R 4 [a1, a3, a6, x205, a76, a77, a78, x485] h207))
 (Qo (Qpk (.tup []) (some (.bool true)) (some (.tup []))) fun x486 =>
 R 4 [a1, a3, a6, x205, a76, a77, a78, x486] h207)))
 (Qo (Qfad 0 x205) fun x487 =>
 Qo (Ql0 h207 x487) fun x488 =>
 Qo (Qlss x488 (.int .i64 0)) fun x489 =>
 Qo (Qpk (.bool false) (some (.bool true)) (some x489)) fun x490 =>
 guardK x490 (Qo (Qpk (.bool true) (some (.bool true)) (some (.tup []))) fun x491 =>
 guardK x491 (Qo (Qpk (.bool true) (some (.bool true)) (some (.tup []))) fun x492 =>
 R 4 [a1, a3, a6, x205, a76, a77, a78, x492] h207)
 (Qo (Qgtr a78 (.int .i64 0)) fun x493 =>
 guardK x493 (Qo (Qfad 3 a1) fun x494 =>
 Qo (Ql0 h207 x494) fun x495 =>
 Qo (Qsub a78 (.int .i64 1)) fun x496 =>
 Qo (Qix 3 x495 x496) fun x497 =>
 q15_3p14 cf R h207 x497 x205 a1 a3 a6 a76 a77 a78)
 (Qo (Qpk (.bool false) (some (.tup [])) (some (.bool false))) fun x507 =>
 Qo (Qpk (.bool false) (some (.bool true)) (some x507)) fun x508 =>
 R 4 [a1, a3, a6, x205, a76, a77, a78, x508] h207)
 (Qo (Qpk (.tup []) (some (.tup [])) (some (.bool false))) fun x509 =>
 Qo (Qpk (.bool false) (some (.bool true)) (some x509)) fun x510 =>
 R 4 [a1, a3, a6, x205, a76, a77, a78, x510] h207))
 (Qo (Qpk (.tup []) (some (.bool true)) (some (.tup []))) fun x511 =>
 R 4 [a1, a3, a6, x205, a76, a77, a78, x511] h207))
 (Qo (Qfad 0 x205) fun x512 =>
 Qo (Ql0 h207 x512) fun x513 =>
 Qo (Qgtr x513 (.int .i64 4611686018427387903)) fun x514 =>
 Qo (Qpk (.bool false) (some (.bool true)) (some x514)) fun x515 =>
 guardK x515 (Qo (Qpk (.bool true) (some (.bool true)) (some (.tup []))) fun x516 =>
 R 4 [a1, a3, a6, x205, a76, a77, a78, x516] h207)
 (Qo (Qgtr a78 (.int .i64 0)) fun x517 =>
 guardK x517 (Qo (Qfad 3 a1) fun x518 =>
 Qo (Ql0 h207 x518) fun x519 =>
 Qo (Qsub a78 (.int .i64 1)) fun x520 =>
 Qo (Qix 3 x519 x520) fun x521 =>
 q15_3p15 cf R h207 x521 x205 a1 a3 a6 a76 a77 a78)
 (Qo (Qpk (.bool false) (some (.tup [])) (some (.bool false))) fun x531 =>
 Qo (Qpk (.bool false) (some (.bool true)) (some x531)) fun x532 =>
 R 4 [a1, a3, a6, x205, a76, a77, a78, x532] h207)
 (Qo (Qpk (.tup []) (some (.tup [])) (some (.bool false))) fun x533 =>
 Qo (Qpk (.bool false) (some (.bool true)) (some x533)) fun x534 =>
 R 4 [a1, a3, a6, x205, a76, a77, a78, x534] h207))
 (Qo (Qpk (.tup []) (some (.bool true)) (some (.tup []))) fun x535 =>
 R 4 [a1, a3, a6, x205, a76, a77, a78, x535] h207))
 (Qo (Qpk (.tup []) (some (.bool true)) (some (.tup []))) fun x536 =>
 guardK x536 (Qo (Qpk (.bool true) (some (.bool true)) (some (.tup []))) fun x537 =>
 R 4 [a1, a3, a6, x205, a76, a77, a78, x537] h207)
 (Qo (Qgtr a78 (.int .i64 0)) fun x538 =>
 guardK x538 (Qo (Qfad 3 a1) fun x539 =>
 Qo (Ql0 h207 x539) fun x540 =>
 Qo (Qsub a78 (.int .i64 1)) fun x541 =>
 Qo (Qix 3 x540 x541) fun x542 =>
 q15_3p16 cf R h207 x542 x205 a1 a3 a6 a76 a77 a78)
 (Qo (Qpk (.bool false) (some (.tup [])) (some (.bool false))) fun x552 =>
 Qo (Qpk (.bool false) (some (.bool true)) (some x552)) fun x553 =>
 R 4 [a1, a3, a6, x205, a76, a77, a78, x553] h207)
 (Qo (Qpk (.tup []) (some (.tup [])) (some (.bool false))) fun x554 =>
 Qo (Qpk (.bool false) (some (.bool true)) (some x554)) fun x555 =>
 R 4 [a1, a3, a6, x205, a76, a77, a78, x555] h207))
 (Qo (Qpk (.tup []) (some (.bool true)) (some (.tup []))) fun x556 =>
 R 4 [a1, a3, a6, x205, a76, a77, a78, x556] h207)))
 (Qo (Qpk (.tup []) (some (.bool true)) (some (.tup []))) fun x557 =>
 guardK x557 (Qo (Qpk (.bool true) (some (.bool true)) (some (.tup []))) fun x558 =>
 guardK x558 (Qo (Qpk (.bool true) (some (.bool true)) (some (.tup []))) fun x559 =>
 R 4 [a1, a3, a6, x205, a76, a77, a78, x559] h207)
 (Qo (Qgtr a78 (.int .i64 0)) fun x560 =>
 guardK x560 (Qo (Qfad 3 a1) fun x561 =>
 Qo (Ql0 h207 x561) fun x562 =>
 Qo (Qsub a78 (.int .i64 1)) fun x563 =>
 Qo (Qix 3 x562 x563) fun x564 =>
 q15_3p17 cf R h207 x564 x205 a1 a3 a6 a76 a77 a78)
 (Qo (Qpk (.bool false) (some (.tup [])) (some (.bool false))) fun x574 =>
 Qo (Qpk (.bool false) (some (.bool true)) (some x574)) fun x575 =>
 R 4 [a1, a3, a6, x205, a76, a77, a78, x575] h207)
 (Qo (Qpk (.tup []) (some (.tup [])) (some (.bool false))) fun x576 =>
 Qo (Qpk (.bool false) (some (.bool true)) (some x576)) fun x577 =>
 R 4 [a1, a3, a6, x205, a76, a77, a78, x577] h207))
 (Qo (Qpk (.tup []) (some (.bool true)) (some (.tup []))) fun x578 =>
 R 4 [a1, a3, a6, x205, a76, a77, a78, x578] h207))
 (Qo (Qfad 0 x205) fun x579 =>
 Qo (Ql0 h207 x579) fun x580 =>
 Qo (Qgtr x580 (.int .i64 4611686018427387903)) fun x581 =>
 Qo (Qpk (.bool false) (some (.bool true)) (some x581)) fun x582 =>
 guardK x582 (Qo (Qpk (.bool true) (some (.bool true)) (some (.tup []))) fun x583 =>
 R 4 [a1, a3, a6, x205, a76, a77, a78, x583] h207)
 (Qo (Qgtr a78 (.int .i64 0)) fun x584 =>
 guardK x584 (Qo (Qfad 3 a1) fun x585 =>
 Qo (Ql0 h207 x585) fun x586 =>
 Qo (Qsub a78 (.int .i64 1)) fun x587 =>
 Qo (Qix 3 x586 x587) fun x588 =>
 q15_3p18 cf R h207 x588 x205 a1 a3 a6 a76 a77 a78)
 (Qo (Qpk (.bool false) (some (.tup [])) (some (.bool false))) fun x598 =>
 Qo (Qpk (.bool false) (some (.bool true)) (some x598)) fun x599 =>
 R 4 [a1, a3, a6, x205, a76, a77, a78, x599] h207)
 (Qo (Qpk (.tup []) (some (.tup [])) (some (.bool false))) fun x600 =>
 Qo (Qpk (.bool false) (some (.bool true)) (some x600)) fun x601 =>
 R 4 [a1, a3, a6, x205, a76, a77, a78, x601] h207))
 (Qo (Qpk (.tup []) (some (.bool true)) (some (.tup []))) fun x602 =>
 R 4 [a1, a3, a6, x205, a76, a77, a78, x602] h207))
 (Qo (Qpk (.tup []) (some (.bool true)) (some (.tup []))) fun x603 =>
 guardK x603 (Qo (Qpk (.bool true) (some (.bool true)) (some (.tup []))) fun x604 =>
 R 4 [a1, a3, a6, x205, a76, a77, a78, x604] h207)
 (Qo (Qgtr a78 (.int .i64 0)) fun x605 =>
 guardK x605 (Qo (Qfad 3 a1) fun x606 =>
 Qo (Ql0 h207 x606) fun x607 =>
 Qo (Qsub a78 (.int .i64 1)) fun x608 =>
 Qo (Qix 3 x607 x608) fun x609 =>
 q15_3p19 cf R h207 x609 x205 a1 a3 a6 a76 a77 a78)
 (Qo (Qpk (.bool false) (some (.tup [])) (some (.bool false))) fun x619 =>
 Qo (Qpk (.bool false) (some (.bool true)) (some x619)) fun x620 =>
 R 4 [a1, a3, a6, x205, a76, a77, a78, x620] h207)
 (Qo (Qpk (.tup []) (some (.tup [])) (some (.bool false))) fun x621 =>
 Qo (Qpk (.bool false) (some (.bool true)) (some x621)) fun x622 =>
 R 4 [a1, a3, a6, x205, a76, a77, a78, x622] h207))
 (Qo (Qpk (.tup []) (some (.bool true)) (some (.tup []))) fun x623 =>
 R 4 [a1, a3, a6, x205, a76, a77, a78, x623] h207))))
 (Qo (Qpk (.tup []) (some (.bool true)) (some (.tup []))) fun x624 =>
 guardK x624 (Qo (Qpk (.bool true) (some (.bool true)) (some (.tup []))) fun x625 =>
 guardK x625 (Qo (Qpk (.bool true) (some (.bool true)) (some (.tup []))) fun x626 =>
 guardK x626 (Qo (Qpk (.bool true) (some (.bool true)) (some (.tup []))) fun x627 =>
 R 4 [a1, a3, a6, x205, a76, a77, a78, x627] h207)
 (Qo (Qgtr a78 (.int .i64 0)) fun x628 =>
 guardK x628 (Qo (Qfad 3 a1) fun x629 =>
 Qo (Ql0 h207 x629) fun x630 =>
 Qo (Qsub a78 (.int .i64 1)) fun x631 =>
 Qo (Qix 3 x630 x631) fun x632 =>
 q15_3p20 cf R h207 x632 x205 a1 a3 a6 a76 a77 a78)
 (Qo (Qpk (.bool false) (some (.tup [])) (some (.bool false))) fun x642 =>
 Qo (Qpk (.bool false) (some (.bool true)) (some x642)) fun x643 =>
 R 4 [a1, a3, a6, x205, a76, a77, a78, x643] h207)
 (Qo (Qpk (.tup []) (some (.tup [])) (some (.bool false))) fun x644 =>
 Qo (Qpk (.bool false) (some (.bool true)) (some x644)) fun x645 =>
 R 4 [a1, a3, a6, x205, a76, a77, a78, x645] h207))
 (Qo (Qpk (.tup []) (some (.bool true)) (some (.tup []))) fun x646 =>
 R 4 [a1, a3, a6, x205, a76, a77, a78, x646] h207))
 (Qo (Qfad 0 x205) fun x647 =>
 Qo (Ql0 h207 x647) fun x648 =>
 Qo (Qgtr x648 (.int .i64 4611686018427387903)) fun x649 =>
 Qo (Qpk (.bool false) (some (.bool true)) (some x649)) fun x650 =>
 guardK x650 (Qo (Qpk (.bool true) (some (.bool true)) (some (.tup []))) fun x651 =>
 R 4 [a1, a3, a6, x205, a76, a77, a78, x651] h207)
 (Qo (Qgtr a78 (.int .i64 0)) fun x652 =>
 guardK x652 (Qo (Qfad 3 a1) fun x653 =>
 Qo (Ql0 h207 x653) fun x654 =>
 Qo (Qsub a78 (.int .i64 1)) fun x655 =>
 Qo (Qix 3 x654 x655) fun x656 =>
 q15_3p21 cf R h207 x656 x205 a1 a3 a6 a76 a77 a78)
 (Qo (Qpk (.bool false) (some (.tup [])) (some (.bool false))) fun x666 =>
 Qo (Qpk (.bool false) (some (.bool true)) (some x666)) fun x667 =>
 R 4 [a1, a3, a6, x205, a76, a77, a78, x667] h207)
 (Qo (Qpk (.tup []) (some (.tup [])) (some (.bool false))) fun x668 =>
 Qo (Qpk (.bool false) (some (.bool true)) (some x668)) fun x669 =>
 R 4 [a1, a3, a6, x205, a76, a77, a78, x669] h207))
 (Qo (Qpk (.tup []) (some (.bool true)) (some (.tup []))) fun x670 =>
 R 4 [a1, a3, a6, x205, a76, a77, a78, x670] h207))
 (Qo (Qpk (.tup []) (some (.bool true)) (some (.tup []))) fun x671 =>
 guardK x671 (Qo (Qpk (.bool true) (some (.bool true)) (some (.tup []))) fun x672 =>
 R 4 [a1, a3, a6, x205, a76, a77, a78, x672] h207)
 (Qo (Qgtr a78 (.int .i64 0)) fun x673 =>
 guardK x673 (Qo (Qfad 3 a1) fun x674 =>
 Qo (Ql0 h207 x674) fun x675 =>
 Qo (Qsub a78 (.int .i64 1)) fun x676 =>
 Qo (Qix 3 x675 x676) fun x677 =>
 q15_3p22 cf R h207 x677 x205 a1 a3 a6 a76 a77 a78)
 (Qo (Qpk (.bool false) (some (.tup [])) (some (.bool false))) fun x687 =>
 Qo (Qpk (.bool false) (some (.bool true)) (some x687)) fun x688 =>
 R 4 [a1, a3, a6, x205, a76, a77, a78, x688] h207)
 (Qo (Qpk (.tup []) (some (.tup [])) (some (.bool false))) fun x689 =>
 Qo (Qpk (.bool false) (some (.bool true)) (some x689)) fun x690 =>
 R 4 [a1, a3, a6, x205, a76, a77, a78, x690] h207))
 (Qo (Qpk (.tup []) (some (.bool true)) (some (.tup []))) fun x691 =>
 R 4 [a1, a3, a6, x205, a76, a77, a78, x691] h207)))
 (Qo (Qfad 0 x205) fun x692 =>
 Qo (Ql0 h207 x692) fun x693 =>
 Qo (Qlss x693 (.int .i64 0)) fun x694 =>
 Qo (Qpk (.bool false) (some (.bool true)) (some x694)) fun x695 =>
 guardK x695 (Qo (Qpk (.bool true) (some (.bool true)) (some (.tup []))) fun x696 =>
 guardK x696 (Qo (Qpk (.bool true) (some (.bool true)) (some (.tup []))) fun x697 =>
 R 4 [a1, a3, a6, x205, a76, a77, a78, x697] h207)
 (Qo (Qgtr a78 (.int .i64 0)) fun x698 =>
 guardK x698 (Qo (Qfad 3 a1) fun x699 =>
 Qo (Ql0 h207 x699) fun x700 =>
 Qo (Qsub a78 (.int .i64 1)) fun x701 =>
 Qo (Qix 3 x700 x701) fun x702 =>
 q15_3p23 cf R h207 x702 x205 a1 a3 a6 a76 a77 a78)
 (Qo (Qpk (.bool false) (some (.tup [])) (some (.bool false))) fun x712 =>
 Qo (Qpk (.bool false) (some (.bool true)) (some x712)) fun x713 =>
 R 4 [a1, a3, a6, x205, a76, a77, a78, x713] h207)
 (Qo (Qpk (.tup []) (some (.tup [])) (some (.bool false))) fun x714 =>
 Qo (Qpk (.bool false) (some (.bool true)) (some x714)) fun x715 =>
 R 4 [a1, a3, a6, x205, a76, a77, a78, x715] h207))
 (Qo (Qpk (.tup []) (some (.bool true)) (some (.tup []))) fun x716 =>
 R 4 [a1, a3, a6, x205, a76, a77, a78, x716] h207))
 (Qo (Qfad 0 x205) fun x717 =>
 Qo (Ql0 h207 x717) fun x718 =>
 Qo (Qgtr x718 (.int .i64 4611686018427387903)) fun x719 =>
 Qo (Qpk (.bool false) (some (.bool true)) (some x719)) fun x720 =>
 guardK x720 (Qo (Qpk (.bool true) (some (.bool true)) (some (.tup []))) fun x721 =>
 R 4 [a1, a3, a6, x205, a76, a77, a78, x721] h207)
 (Qo (Qgtr a78 (.int .i64 0)) fun x722 =>
 guardK x722 (Qo (Qfad 3 a1) fun x723 =>
 Qo (Ql0 h207 x723) fun x724 =>
 Qo (Qsub a78 (.int .i64 1)) fun x725 =>
 Qo (Qix 3 x724 x725) fun x726 =>
 q15_3p24 cf R h207 x726 x205 a1 a3 a6 a76 a77 a78)
 (Qo (Qpk (.bool false) (some (.tup [])) (some (.bool false))) fun x736 =>
 Qo (Qpk (.bool false) (some (.bool true)) (some x736)) fun x737 =>
 R 4 [a1, a3, a6, x205, a76, a77, a78, x737] h207)
 (Qo (Qpk (.tup []) (some (.tup [])) (some (.bool false))) fun x738 =>
 Qo (Qpk (.bool false) (some (.bool true)) (some x738)) fun x739 =>
 R 4 [a1, a3, a6, x205, a76, a77, a78, x739] h207))
 (Qo (Qpk (.tup []) (some (.bool true)) (some (.tup []))) fun x740 =>
 R 4 [a1, a3, a6, x205, a76, a77, a78, x740] h207))
 (Qo (Qpk (.tup []) (some (.bool true)) (some (.tup []))) fun x741 =>
 guardK x741 (Qo (Qpk (.bool true) (some (.bool true)) (some (.tup []))) fun x742 =>
 R 4 [a1, a3, a6, x205, a76, a77, a78, x742] h207)
 (Qo (Qgtr a78 (.int .i64 0)) fun x743 =>
 guardK x743 (Qo (Qfad 3 a1) fun x744 =>
 Qo (Ql0 h207 x744) fun x745 =>
 Qo (Qsub a78 (.int .i64 1)) fun x746 =>
 Qo (Qix 3 x745 x746) fun x747 =>
 q15_3p25 cf R h207 x747 x205 a1 a3 a6 a76 a77 a78)
 (Qo (Qpk (.bool false) (some (.tup [])) (some (.bool false))) fun x757 =>
 Qo (Qpk (.bool false) (some (.bool true)) (some x757)) fun x758 =>
 R 4 [a1, a3, a6, x205, a76, a77, a78, x758] h207)
 (Qo (Qpk (.tup []) (some (.tup [])) (some (.bool false))) fun x759 =>
 Qo (Qpk (.bool false) (some (.bool true)) (some x759)) fun x760 =>
 R 4 [a1, a3, a6, x205, a76, a77, a78, x760] h207))
 (Qo (Qpk (.tup []) (some (.bool true)) (some (.tup []))) fun x761 =>
 R 4 [a1, a3, a6, x205, a76, a77, a78, x761] h207)))
 (Qo (Qpk (.tup []) (some (.bool true)) (some (.tup []))) fun x762 =>
 guardK x762 (Qo (Qpk (.bool true) (some (.bool true)) (some (.tup []))) fun x763 =>
 guardK x763 (Qo (Qpk (.bool true) (some (.bool true)) (some (.tup []))) fun x764 =>
 R 4 [a1, a3, a6, x205, a76, a77, a78, x764] h207)
 (Qo (Qgtr a78 (.int .i64 0)) fun x765 =>
 guardK x765 (Qo (Qfad 3 a1) fun x766 =>
 Qo (Ql0 h207 x766) fun x767 =>
 Qo (Qsub a78 (.int .i64 1)) fun x768 =>
 Qo (Qix 3 x767 x768) fun x769 =>
 q15_3p26 cf R h207 x769 x205 a1 a3 a6 a76 a77 a78)
 (Qo (Qpk (.bool false) (some (.tup [])) (some (.bool false))) fun x779 =>
 Qo (Qpk (.bool false) (some (.bool true)) (some x779)) fun x780 =>
 R 4 [a1, a3, a6, x205, a76, a77, a78, x780] h207)
 (Qo (Qpk (.tup []) (some (.tup [])) (some (.bool false))) fun x781 =>
 Qo (Qpk (.bool false) (some (.bool true)) (some x781)) fun x782 =>
 R 4 [a1, a3, a6, x205, a76, a77, a78, x782] h207))
 (Qo (Qpk (.tup []) (some (.bool true)) (some (.tup []))) fun x783 =>
 R 4 [a1, a3, a6, x205, a76, a77, a78, x783] h207))
 (Qo (Qfad 0 x205) fun x784 =>
 Qo (Ql0 h207 x784) fun x785 =>
 Qo (Qgtr x785 (.int .i64 4611686018427387903)) fun x786 =>
 Qo (Qpk (.bool false) (some (.bool true)) (some x786)) fun x787 =>
 guardK x787 (Qo (Qpk (.bool true) (some (.bool true)) (some (.tup []))) fun x788 =>
 R 4 [a1, a3, a6, x205, a76, a77, a78, x788] h207)
 (Qo (Qgtr a78 (.int .i64 0)) fun x789 =>
 guardK x789 (Qo (Qfad 3 a1) fun x790 =>
 Qo (Ql0 h207 x790) fun x791 =>
 Qo (Qsub a78 (.int .i64 1)) fun x792 =>
 Qo (Qix 3 x791 x792) fun x793 =>
 q15_3p27 cf R h207 x793 x205 a1 a3 a6 a76 a77 a78)
 (Qo (Qpk (.bool false) (some (.tup [])) (some (.bool false))) fun x803 =>
 Qo (Qpk (.bool false) (some (.bool true)) (some x803)) fun x804 =>
 R 4 [a1, a3, a6, x205, a76, a77, a78, x804] h207)
 (Qo (Qpk (.tup []) (some (.tup [])) (some (.bool false))) fun x805 =>
 Qo (Qpk (.bool false) (some (.bool true)) (some x805)) fun x806 =>
 R 4 [a1, a3, a6, x205, a76, a77, a78, x806] h207))
 (Qo (Qpk (.tup []) (some (.bool true)) (some (.tup []))) fun x807 =>
 R 4 [a1, a3, a6, x205, a76, a77, a78, x807] h207))
 (Qo (Qpk (.tup []) (some (.bool true)) (some (.tup []))) fun x808 =>
 guardK x808 (Qo (Qpk (.bool true) (some (.bool true)) (some (.tup []))) fun x809 =>
 R 4 [a1, a3, a6, x205, a76, a77, a78, x809] h207)
 (Qo (Qgtr a78 (.int .i64 0)) fun x810 =>
 guardK x810 (Qo (Qfad 3 a1) fun x811 =>
 Qo (Ql0 h207 x811) fun x812 =>
 Qo (Qsub a78 (.int .i64 1)) fun x813 =>
 Qo (Qix 3 x812 x813) fun x814 =>
 q15_3p28 cf R h207 x814 x205 a1 a3 a6 a76 a77 a78)
 (Qo (Qpk (.bool false) (some (.tup [])) (some (.bool false))) fun x824 =>
 Qo (Qpk (.bool false) (some (.bool true)) (some x824)) fun x825 =>
 R 4 [a1, a3, a6, x205, a76, a77, a78, x825] h207)
 (Qo (Qpk (.tup []) (some (.tup [])) (some (.bool false))) fun x826 =>
 Qo (Qpk (.bool false) (some (.bool true)) (some x826)) fun x827 =>
 R 4 [a1, a3, a6, x205, a76, a77, a78, x827] h207))
 (Qo (Qpk (.tup []) (some (.bool true)) (some (.tup []))) fun x828 =>
 R 4 [a1, a3, a6, x205, a76, a77, a78, x828] h207))))
noncomputable def q15_3 (cf : CallF) (R : Rec) (a1 : IV) (a3 : IV) (a6 : IV) (a76 : IV) (a77 : IV) (a78 : IV) (h : H) : CRes :=
 Qo (Qlss a78 a77) fun x202 =>
 Qif x202
 (Qo (Qix 3 a76 a78) fun x203 =>
 Qo (QlA 3 h x203) fun x204 =>
 Qo2 (QnI h z1) fun x205 h206 =>
 QoH (QsA 3 h206 x205 x204) fun h207 =>
 q15_3p1 cf R x205 h207 a1 a3 a6 a76 a77 a78)
 (.ok (.int .i64 0) h)
theorem qe15_3 : q15_3 = t15_3 := by
  unfold q15_3 q15_3p1 q15_3p28 q15_3p27 q15_3p26 q15_3p25 q15_3p24 q15_3p23 q15_3p22 q15_3p21 q15_3p20 q15_3p19 q15_3p18 q15_3p17 q15_3p16 q15_3p15 q15_3p14 q15_3p13 q15_3p12 q15_3p11 q15_3p10 q15_3p9 q15_3p8 q15_3p7 q15_3p6 q15_3p5 q15_3p4 q15_3p3 q15_3p2
  try simp only [QE]
  try rfl
noncomputable def q15_4p1 (cf : CallF) (R : Rec) (a6 : IV) (x841 : IV) (h834 : H) (x839 : IV) (a1 : IV) (a3 : IV) (a8 : IV) (a76 : IV) (a77 : IV) (a78 : IV) : CRes :=
 Qo (Qix 1 a6 x841) fun x842 =>
 Qo (Ql0 h834 x842) fun x843 =>
 Qo (Qse x839 x843) fun x844 =>
 Qo (Qpk (.bool false) (some (.bool true)) (some x844)) fun x845 =>
 R 5 [a1, a3, a6, a8, a76, a77, a78, x845] h834
noncomputable def q15_4p4 (cf : CallF) (R : Rec) (a6 : IV) (x862 : IV) (h834 : H) (x860 : IV) (a1 : IV) (a3 : IV) (a8 : IV) (a76 : IV) (a77 : IV) (a78 : IV) : CRes :=
 Qo (Qix 1 a6 x862) fun x863 =>
 Qo (Ql0 h834 x863) fun x864 =>
 Qo (Qse x860 x864) fun x865 =>
 Qo (Qpk (.bool false) (some (.bool true)) (some x865)) fun x866 =>
 R 5 [a1, a3, a6, a8, a76, a77, a78, x866] h834
noncomputable def q15_4p3 (cf : CallF) (R : Rec) (h834 : H) (x854 : IV) (x849 : IV) (a1 : IV) (a3 : IV) (a6 : IV) (a8 : IV) (a76 : IV) (a77 : IV) (a78 : IV) : CRes :=
 Qo (Ql0 h834 x854) fun x855 =>
 Qo (Qneq x849 x855) fun x856 =>
 Qo (Qpk (.bool false) (some (.bool true)) (some x856)) fun x857 =>
 guardK x857 (Qo (Qpk (.bool true) (some (.bool true)) (some (.tup []))) fun x858 =>
 R 5 [a1, a3, a6, a8, a76, a77, a78, x858] h834)
 (Qo (Qfad 2 a8) fun x859 =>
 Qo (Ql0 h834 x859) fun x860 =>
 Qo (Qfad 1 a8) fun x861 =>
 Qo (Ql0 h834 x861) fun x862 =>
 q15_4p4 cf R a6 x862 h834 x860 a1 a3 a8 a76 a77 a78)
 (Qo (Qpk (.tup []) (some (.bool true)) (some (.tup []))) fun x867 =>
 R 5 [a1, a3, a6, a8, a76, a77, a78, x867] h834)
noncomputable def q15_4p2 (cf : CallF) (R : Rec) (h834 : H) (x850 : IV) (a8 : IV) (x849 : IV) (a1 : IV) (a3 : IV) (a6 : IV) (a76 : IV) (a77 : IV) (a78 : IV) : CRes :=
 Qo (Ql0 h834 x850) fun x851 =>
 Qo (Qfad 1 a8) fun x852 =>
 Qo (Ql0 h834 x852) fun x853 =>
 Qo (Qix 1 x851 x853) fun x854 =>
 q15_4p3 cf R h834 x854 x849 a1 a3 a6 a8 a76 a77 a78
noncomputable def q15_4p5 (cf : CallF) (R : Rec) (a6 : IV) (x873 : IV) (h834 : H) (x871 : IV) (a1 : IV) (a3 : IV) (a8 : IV) (a76 : IV) (a77 : IV) (a78 : IV) : CRes :=
 Qo (Qix 1 a6 x873) fun x874 =>
 Qo (Ql0 h834 x874) fun x875 =>
 Qo (Qse x871 x875) fun x876 =>
 Qo (Qpk (.bool false) (some (.bool true)) (some x876)) fun x877 =>
 R 5 [a1, a3, a6, a8, a76, a77, a78, x877] h834
noncomputable def q15_4 (cf : CallF) (R : Rec) (a1 : IV) (a3 : IV) (a6 : IV) (a8 : IV) (a76 : IV) (a77 : IV) (a78 : IV) (a116 : IV) (h : H) : CRes :=
 Qif a116
 (.ok (.int .i64 1) h)
 (Qo (Qfad 2 a8) fun x829 =>
 Qo (Ql0 h x829) fun x830 =>
 Qc (cf 34 [x830] h) (fun v831 h832 =>
 .pan v831 h832) fun x833 h834 =>
 Qo (Qneq x833 (.int .i64 0)) fun x835 =>
 guardK x835 (Qo (Qpk (.bool true) (some (.bool true)) (some (.tup []))) fun x836 =>
 guardK x836 (Qo (Qpk (.bool true) (some (.bool true)) (some (.tup []))) fun x837 =>
 R 5 [a1, a3, a6, a8, a76, a77, a78, x837] h834)
 (Qo (Qfad 2 a8) fun x838 =>
 Qo (Ql0 h834 x838) fun x839 =>
 Qo (Qfad 1 a8) fun x840 =>
 Qo (Ql0 h834 x840) fun x841 =>
 q15_4p1 cf R a6 x841 h834 x839 a1 a3 a8 a76 a77 a78)
 (Qo (Qpk (.tup []) (some (.bool true)) (some (.tup []))) fun x846 =>
 R 5 [a1, a3, a6, a8, a76, a77, a78, x846] h834))
 (Qo (Qfad 2 a8) fun x847 =>
 Qo (Ql0 h834 x847) fun x848 =>
 Qo (Qls x848) fun x849 =>
 Qo (Qfad 1 a1) fun x850 =>
 q15_4p2 cf R h834 x850 a8 x849 a1 a3 a6 a76 a77 a78)
 (Qo (Qpk (.tup []) (some (.bool true)) (some (.tup []))) fun x868 =>
 guardK x868 (Qo (Qpk (.bool true) (some (.bool true)) (some (.tup []))) fun x869 =>
 R 5 [a1, a3, a6, a8, a76, a77, a78, x869] h834)
 (Qo (Qfad 2 a8) fun x870 =>
 Qo (Ql0 h834 x870) fun x871 =>
 Qo (Qfad 1 a8) fun x872 =>
 Qo (Ql0 h834 x872) fun x873 =>
 q15_4p5 cf R a6 x873 h834 x871 a1 a3 a8 a76 a77 a78)
 (Qo (Qpk (.tup []) (some (.bool true)) (some (.tup []))) fun x878 =>
 R 5 [a1, a3, a6, a8, a76, a77, a78, x878] h834)))
theorem qe15_4 : q15_4 = t15_4 := by
  unfold q15_4 q15_4p5 q15_4p2 q15_4p3 q15_4p4 q15_4p1
  try simp only [QE]
  try rfl
noncomputable def q15_5p1 (cf : CallF) (R : Rec) (a6 : IV) (x880 : IV) (h : H) (x882 : IV) (a78 : IV) (a1 : IV) (a3 : IV) (a76 : IV) (a77 : IV) : CRes :=
 Qo (Qix 1 a6 x880) fun x883 =>
 QoH (QsA 1 h x883 x882) fun h884 =>
 Qo (Qadd a78 (.int .i64 1)) fun x885 =>
 R 3 [a1, a3, a6, a76, a77, x885] h884
noncomputable def q15_5 (cf : CallF) (R : Rec) (a1 : IV) (a3 : IV) (a6 : IV) (a8 : IV) (a76 : IV) (a77 : IV) (a78 : IV) (a142 : IV) (h : H) : CRes :=
 Qif a142
 (.ok (.int .i64 1) h)
 (Qo (Qfad 1 a8) fun x879 =>
 Qo (Ql0 h x879) fun x880 =>
 Qo (Qfad 2 a8) fun x881 =>
 Qo (Ql0 h x881) fun x882 =>
 q15_5p1 cf R a6 x880 h x882 a78 a1 a3 a76 a77)
theorem qe15_5 : q15_5 = t15_5 := by
  unfold q15_5 q15_5p1
  try simp only [QE]
  try rfl
noncomputable def bt15 (cf : CallF) (R : Rec) : Rec := fun i l h =>
 br1 i 0 l (fun a0 => t15_0 cf R a0 h) <|
 br4 i 1 l (fun a1 a3 a28 a29 => t15_1 cf R a1 a3 a28 a29 h) <|
 br5 i 2 l (fun a1 a3 a28 a29 a70 => t15_2 cf R a1 a3 a28 a29 a70 h) <|
 br6 i 3 l (fun a1 a3 a6 a76 a77 a78 => t15_3 cf R a1 a3 a6 a76 a77 a78 h) <|
 br8 i 4 l (fun a1 a3 a6 a8 a76 a77 a78 a116 => t15_4 cf R a1 a3 a6 a8 a76 a77 a78 a116 h) <|
 br8 i 5 l (fun a1 a3 a6 a8 a76 a77 a78 a142 => t15_5 cf R a1 a3 a6 a8 a76 a77 a78 a142 h) <|
 .fail
noncomputable def b15 (cf : CallF) (R : Rec) : Rec := fun i l h =>
 brQ1 i 0 l (fun a0 => q15_0 cf R a0 h) <|
 brQ4 i 1 l (fun a1 a3 a28 a29 => q15_1 cf R a1 a3 a28 a29 h) <|
 brQ5 i 2 l (fun a1 a3 a28 a29 a70 => q15_2 cf R a1 a3 a28 a29 a70 h) <|
 brQ6 i 3 l (fun a1 a3 a6 a76 a77 a78 => q15_3 cf R a1 a3 a6 a76 a77 a78 h) <|
 brQ8 i 4 l (fun a1 a3 a6 a8 a76 a77 a78 a116 => q15_4 cf R a1 a3 a6 a8 a76 a77 a78 a116 h) <|
 brQ8 i 5 l (fun a1 a3 a6 a8 a76 a77 a78 a142 => q15_5 cf R a1 a3 a6 a8 a76 a77 a78 a142 h) <|
 .fail
theorem be15 : b15 = bt15 := by
  unfold b15 bt15
  simp only [qe15_0, qe15_1, qe15_2, qe15_3, qe15_4, qe15_5, brQ1_eq, brQ4_eq, brQ5_eq, brQ6_eq, brQ8_eq]
theorem r15 {T : Tab} {cf : CallF} (hc : leC cf (CL T)) (n : Nat) : leR (recN (b15 cf) n) (J15 T) := be15 ▸ recN_le (fun R hR i l h => by
  unfold bt15
  refine le_br1 (J := fun i l => J15 T i l h) (fun _ a0 => le_e (fun hn => e15_0 rfl hn) ((m15 hc hR).1 a0 h)) ?_
  refine le_br4 (J := fun i l => J15 T i l h) (fun _ a1 a3 a28 a29 => le_e (fun hn => e15_1 rfl hn) ((m15 hc hR).2.1 a1 a3 a28 a29 h)) ?_
  refine le_br5 (J := fun i l => J15 T i l h) (fun _ a1 a3 a28 a29 a70 => le_e (fun hn => e15_2 rfl hn) ((m15 hc hR).2.2.1 a1 a3 a28 a29 a70 h)) ?_
  refine le_br6 (J := fun i l => J15 T i l h) (fun _ a1 a3 a6 a76 a77 a78 => le_e (fun hn => e15_3 rfl hn) ((m15 hc hR).2.2.2.1 a1 a3 a6 a76 a77 a78 h)) ?_
  refine le_br8 (J := fun i l => J15 T i l h) (fun _ a1 a3 a6 a8 a76 a77 a78 a116 => le_e (fun hn => e15_4 rfl hn) ((m15 hc hR).2.2.2.2.1 a1 a3 a6 a8 a76 a77 a78 a116 h)) ?_
  refine le_br8 (J := fun i l => J15 T i l h) (fun _ a1 a3 a6 a8 a76 a77 a78 a142 => le_e (fun hn => e15_5 rfl hn) ((m15 hc hR).2.2.2.2.2 a1 a3 a6 a8 a76 a77 a78 a142 h)) ?_
  exact le_fail _) n
-- 16
theorem m16 {cf cf' : CallF} {R R' : Rec} (hc : ∀ f l h, le (cf f l h) (cf' f l h)) (hR : ∀ i l h, le (R i l h) (R' i l h)) : (∀ (a0 a1 : IV) (h : H), le (t16_0 cf R a0 a1 h) (t16_0 cf' R' a0 a1 h)) := by
  intros
  unfold t16_0
  with_reducible repeat' first
    | refine le_obind fun _ => ?_
    | refine le_callP ?_ (fun _ _ => ?_) (fun _ _ => ?_)
    | refine le_condK ?_ ?_
    | exact hR _ _ _
    | refine le_obind2 fun _ _ => ?_
    | refine le_obindH fun _ => ?_
    | refine le_spanK (fun _ _ _ => ?_) (fun _ _ => ?_)
    | exact hc _ _ _
    | refine le_bif ?_ ?_
    | refine le_guardK ?_ ?_ ?_
    | refine le_mapK fun _ _ => ?_
    | refine le_panK fun _ _ => ?_
    | refine le_funK fun _ _ => ?_
    | exact le_refl _
    | apply_assumption
noncomputable def q16_0p1 (cf : CallF) (R : Rec) (h2 : H) (x5 : IV) (a1 : IV) (a0 : IV) : CRes :=
 Qo2 (appB 5 1 1 h2 x5 a1) fun x6 h7 =>
 Qo (Qnil a0) fun x8 =>
 Qo (Qfad 1 x8) fun x9 =>
 QoH (QsA 1 h7 x9 x6) fun h10 =>
 Qo (Qls a1) fun x11 =>
 .ok (.tup [x11, .nilIface]) h10
noncomputable def q16_0 (cf : CallF) (R : Rec) (a0 : IV) (a1 : IV) (h : H) : CRes :=
 Qc (cf 37 [a0] h) .pan fun x1 h2 =>
 Qo (Qnil a0) fun x3 =>
 Qo (Qfad 1 x3) fun x4 =>
 Qo (Ql0 h2 x4) fun x5 =>
 q16_0p1 cf R h2 x5 a1 a0
theorem qe16_0 : q16_0 = t16_0 := by
  unfold q16_0 q16_0p1
  try simp only [QE]
  try rfl
noncomputable def bt16 (cf : CallF) (R : Rec) : Rec := fun i l h =>
 br2 i 0 l (fun a0 a1 => t16_0 cf R a0 a1 h) <|
 .fail
noncomputable def b16 (cf : CallF) (R : Rec) : Rec := fun i l h =>
 brQ2 i 0 l (fun a0 a1 => q16_0 cf R a0 a1 h) <|
 .fail
theorem be16 : b16 = bt16 := by
  unfold b16 bt16
  simp only [qe16_0, brQ2_eq]
theorem r16 {T : Tab} {cf : CallF} (hc : leC cf (CL T)) (n : Nat) : leR (recN (b16 cf) n) (J16 T) := be16 ▸ recN_le (fun R hR i l h => by
  unfold bt16
  refine le_br2 (J := fun i l => J16 T i l h) (fun _ a0 a1 => le_e (fun hn => e16_0 rfl hn) ((m16 hc hR) a0 a1 h)) ?_
  exact le_fail _) n

end Go.Proofs.YtdccdfmbakbikaaDoor

namespace Go.Proofs.YtdccdfmbakbikaaDoor
open Go I
set_option linter.unusedVariables false
set_option maxRecDepth 100000

-- 17
theorem m17 {cf cf' : CallF} {R R' : Rec} (hc : ∀ f l h, le (cf f l h) (cf' f l h)) (hR : ∀ i l h, le (R i l h) (R' i l h)) : (∀ (a0 : IV) (h : H), le (t17_0 cf R a0 h) (t17_0 cf' R' a0 h)) := by
  intros
  unfold t17_0
  with_reducible repeat' first
    | refine le_obind fun _ => ?_
    | refine le_callP ?_ (fun _ _ => ?_) (fun _ _ => ?_)
    | refine le_condK ?_ ?_
    | exact hR _ _ _
    | refine le_obind2 fun _ _ => ?_
    | refine le_obindH fun _ => ?_
    | refine le_spanK (fun _ _ _ => ?_) (fun _ _ => ?_)
    | exact hc _ _ _
    | refine le_bif ?_ ?_
    | refine le_guardK ?_ ?_ ?_
    | refine le_mapK fun _ _ => ?_
    | refine le_panK fun _ _ => ?_
    | refine le_funK fun _ _ => ?_
    | exact le_refl _
    | apply_assumption
noncomputable def q17_0 (cf : CallF) (R : Rec) (a0 : IV) (h : H) : CRes :=
 Qc (cf 38 [a0] h) .pan fun x1 h2 =>
 .ok x1 h2
theorem qe17_0 : q17_0 = t17_0 := by
  unfold q17_0
  try simp only [QE]
  try rfl
noncomputable def bt17 (cf : CallF) (R : Rec) : Rec := fun i l h =>
 br1 i 0 l (fun a0 => t17_0 cf R a0 h) <|
 .fail
noncomputable def b17 (cf : CallF) (R : Rec) : Rec := fun i l h =>
 brQ1 i 0 l (fun a0 => q17_0 cf R a0 h) <|
 .fail
theorem be17 : b17 = bt17 := by
  unfold b17 bt17
  simp only [qe17_0, brQ1_eq]
theorem r17 {T : Tab} {cf : CallF} (hc : leC cf (CL T)) (n : Nat) : leR (recN (b17 cf) n) (J17 T) := be17 ▸ recN_le (fun R hR i l h => by
  unfold bt17
  refine le_br1 (J := fun i l => J17 T i l h) (fun _ a0 => le_e (fun hn => e17_0 rfl hn) ((m17 hc hR) a0 h)) ?_
  exact le_fail _) n
-- 18
theorem m18 {cf cf' : CallF} {R R' : Rec} (hc : ∀ f l h, le (cf f l h) (cf' f l h)) (hR : ∀ i l h, le (R i l h) (R' i l h)) :
  (∀ (a0 : IV) (h : H), le (t18_0 cf R a0 h) (t18_0 cf' R' a0 h)) ∧
  (∀ (a0 a3 : IV) (h : H), le (t18_1 cf R a0 a3 h) (t18_1 cf' R' a0 a3 h)) := by
  refine ⟨?_, ?_⟩
  all_goals intros
  all_goals first | unfold t18_0 | unfold t18_1
  all_goals
  with_reducible repeat' first
    | refine le_obind fun _ => ?_
    | refine le_callP ?_ (fun _ _ => ?_) (fun _ _ => ?_)
    | refine le_condK ?_ ?_
    | exact hR _ _ _
    | refine le_obind2 fun _ _ => ?_
    | refine le_obindH fun _ => ?_
    | refine le_spanK (fun _ _ _ => ?_) (fun _ _ => ?_)
    | exact hc _ _ _
    | refine le_bif ?_ ?_
    | refine le_guardK ?_ ?_ ?_
    | refine le_mapK fun _ _ => ?_
    | refine le_panK fun _ _ => ?_
    | refine le_funK fun _ _ => ?_
    | exact le_refl _
    | apply_assumption
noncomputable def q18_0 (cf : CallF) (R : Rec) (a0 : IV) (h : H) : CRes :=
 R 1 [a0, .nilSlice] h
theorem qe18_0 : q18_0 = t18_0 := by
  unfold q18_0
  try simp only [QE]
  try rfl
noncomputable def q18_1p1 (cf : CallF) (R : Rec) (h6 : H) (a3 : IV) (x5 : IV) (a0 : IV) : CRes :=
 Qo2 (appB 5 1 1 h6 a3 x5) fun x7 h8 =>
 Qo (binN .quo a0 (.int .i64 94)) fun x9 =>
 Qo (Qsub x9 (.int .i64 1)) fun x10 =>
 R 1 [x10, x7] h8
noncomputable def q18_1 (cf : CallF) (R : Rec) (a0 : IV) (a3 : IV) (h : H) : CRes :=
 Qo (Qgeq a0 (.int .i64 0)) fun x1 =>
 Qif x1
 (Qo (binN .rem a0 (.int .i64 94)) fun x2 =>
 Qo (Qadd (.int .i64 33) x2) fun x3 =>
 Qo (cvN .u8 x3) fun x4 =>
 Qo2 (Qbsl true 1 [(.int .u8 0)] 1 [(0, x4)] h) fun x5 h6 =>
 q18_1p1 cf R h6 a3 x5 a0)
 (Qo (cvS h a3) fun x11 =>
 .ok x11 h)
theorem qe18_1 : q18_1 = t18_1 := by
  unfold q18_1 q18_1p1
  try simp only [QE]
  try rfl
noncomputable def bt18 (cf : CallF) (R : Rec) : Rec := fun i l h =>
 br1 i 0 l (fun a0 => t18_0 cf R a0 h) <|
 br2 i 1 l (fun a0 a3 => t18_1 cf R a0 a3 h) <|
 .fail
noncomputable def b18 (cf : CallF) (R : Rec) : Rec := fun i l h =>
 brQ1 i 0 l (fun a0 => q18_0 cf R a0 h) <|
 brQ2 i 1 l (fun a0 a3 => q18_1 cf R a0 a3 h) <|
 .fail
theorem be18 : b18 = bt18 := by
  unfold b18 bt18
  simp only [qe18_0, qe18_1, brQ1_eq, brQ2_eq]
theorem r18 {T : Tab} {cf : CallF} (hc : leC cf (CL T)) (n : Nat) : leR (recN (b18 cf) n) (J18 T) := be18 ▸ recN_le (fun R hR i l h => by
  unfold bt18
  refine le_br1 (J := fun i l => J18 T i l h) (fun _ a0 => le_e (fun hn => e18_0 rfl hn) ((m18 hc hR).1 a0 h)) ?_
  refine le_br2 (J := fun i l => J18 T i l h) (fun _ a0 a3 => le_e (fun hn => e18_1 rfl hn) ((m18 hc hR).2 a0 a3 h)) ?_
  exact le_fail _) n
-- 19
theorem m19 {cf cf' : CallF} {R R' : Rec} (hc : ∀ f l h, le (cf f l h) (cf' f l h)) (hR : ∀ i l h, le (R i l h) (R' i l h)) : (∀ (a0 a1 : IV) (h : H), le (t19_0 cf R a0 a1 h) (t19_0 cf' R' a0 a1 h)) := by
  intros
  unfold t19_0
  with_reducible repeat' first
    | refine le_obind fun _ => ?_
    | refine le_callP ?_ (fun _ _ => ?_) (fun _ _ => ?_)
    | refine le_condK ?_ ?_
    | exact hR _ _ _
    | refine le_obind2 fun _ _ => ?_
    | refine le_obindH fun _ => ?_
    | refine le_spanK (fun _ _ _ => ?_) (fun _ _ => ?_)
    | exact hc _ _ _
    | refine le_bif ?_ ?_
    | refine le_guardK ?_ ?_ ?_
    | refine le_mapK fun _ _ => ?_
    | refine le_panK fun _ _ => ?_
    | refine le_funK fun _ _ => ?_
    | exact le_refl _
    | apply_assumption
noncomputable def q19_0 (cf : CallF) (R : Rec) (a0 : IV) (a1 : IV) (h : H) : CRes :=
 Qo (Qls a0) fun x1 =>
 Qo (Qeql x1 (.int .i64 1)) fun x2 =>
 Qif x2
 (Qc (cf 18 [a1] h) .pan fun x3 h4 =>
 Qo (binS .add a0 x3) fun x5 =>
 Qo (binS .add x5 (.str ⟨1, 10⟩)) fun x6 =>
 .ok x6 h4)
 (Qo (binS .add (.str ⟨1, 98⟩) a0) fun x7 =>
 Qo (binS .add x7 (.str ⟨1, 32⟩)) fun x8 =>
 Qc (cf 18 [a1] h) .pan fun x9 h10 =>
 Qo (binS .add x8 x9) fun x11 =>
 Qo (binS .add x11 (.str ⟨1, 10⟩)) fun x12 =>
 .ok x12 h10)
theorem qe19_0 : q19_0 = t19_0 := by
  unfold q19_0
  try simp only [QE]
  try rfl
noncomputable def bt19 (cf : CallF) (R : Rec) : Rec := fun i l h =>
 br2 i 0 l (fun a0 a1 => t19_0 cf R a0 a1 h) <|
 .fail
noncomputable def b19 (cf : CallF) (R : Rec) : Rec := fun i l h =>
 brQ2 i 0 l (fun a0 a1 => q19_0 cf R a0 a1 h) <|
 .fail
theorem be19 : b19 = bt19 := by
  unfold b19 bt19
  simp only [qe19_0, brQ2_eq]
theorem r19 {T : Tab} {cf : CallF} (hc : leC cf (CL T)) (n : Nat) : leR (recN (b19 cf) n) (J19 T) := be19 ▸ recN_le (fun R hR i l h => by
  unfold bt19
  refine le_br2 (J := fun i l => J19 T i l h) (fun _ a0 a1 => le_e (fun hn => e19_0 rfl hn) ((m19 hc hR) a0 a1 h)) ?_
  exact le_fail _) n
-- 20
theorem m20 {cf cf' : CallF} {R R' : Rec} (hc : ∀ f l h, le (cf f l h) (cf' f l h)) (hR : ∀ i l h, le (R i l h) (R' i l h)) : (∀ (a0 : IV) (h : H), le (t20_0 cf R a0 h) (t20_0 cf' R' a0 h)) := by
  intros
  unfold t20_0
  with_reducible repeat' first
    | refine le_obind fun _ => ?_
    | refine le_callP ?_ (fun _ _ => ?_) (fun _ _ => ?_)
    | refine le_condK ?_ ?_
    | exact hR _ _ _
    | refine le_obind2 fun _ _ => ?_
    | refine le_obindH fun _ => ?_
    | refine le_spanK (fun _ _ _ => ?_) (fun _ _ => ?_)
    | exact hc _ _ _
    | refine le_bif ?_ ?_
    | refine le_guardK ?_ ?_ ?_
    | refine le_mapK fun _ _ => ?_
    | refine le_panK fun _ _ => ?_
    | refine le_funK fun _ _ => ?_
    | exact le_refl _
    | apply_assumption
noncomputable def q20_0 (cf : CallF) (R : Rec) (a0 : IV) (h : H) : CRes :=
 Qo (Qnil a0) fun x1 =>
 Qo (Qfad 1 x1) fun x2 =>
 Qo (Ql0 h x2) fun x3 =>
 Qo (Qle x3) fun x4 =>
 .ok x4 h
theorem qe20_0 : q20_0 = t20_0 := by
  unfold q20_0
  try simp only [QE]
  try rfl
noncomputable def bt20 (cf : CallF) (R : Rec) : Rec := fun i l h =>
 br1 i 0 l (fun a0 => t20_0 cf R a0 h) <|
 .fail
noncomputable def b20 (cf : CallF) (R : Rec) : Rec := fun i l h =>
 brQ1 i 0 l (fun a0 => q20_0 cf R a0 h) <|
 .fail
theorem be20 : b20 = bt20 := by
  unfold b20 bt20
  simp only [qe20_0, brQ1_eq]
theorem r20 {T : Tab} {cf : CallF} (hc : leC cf (CL T)) (n : Nat) : leR (recN (b20 cf) n) (J20 T) := be20 ▸ recN_le (fun R hR i l h => by
  unfold bt20
  refine le_br1 (J := fun i l => J20 T i l h) (fun _ a0 => le_e (fun hn => e20_0 rfl hn) ((m20 hc hR) a0 h)) ?_
  exact le_fail _) n
-- 21
theorem m21 {cf cf' : CallF} {R R' : Rec} (hc : ∀ f l h, le (cf f l h) (cf' f l h)) (hR : ∀ i l h, le (R i l h) (R' i l h)) : (∀ (a0 : IV) (h : H), le (t21_0 cf R a0 h) (t21_0 cf' R' a0 h)) := by
  intros
  unfold t21_0
  with_reducible repeat' first
    | refine le_obind fun _ => ?_
    | refine le_callP ?_ (fun _ _ => ?_) (fun _ _ => ?_)
    | refine le_condK ?_ ?_
    | exact hR _ _ _
    | refine le_obind2 fun _ _ => ?_
    | refine le_obindH fun _ => ?_
    | refine le_spanK (fun _ _ _ => ?_) (fun _ _ => ?_)
    | exact hc _ _ _
    | refine le_bif ?_ ?_
    | refine le_guardK ?_ ?_ ?_
    | refine le_mapK fun _ _ => ?_
    | refine le_panK fun _ _ => ?_
    | refine le_funK fun _ _ => ?_
    | exact le_refl _
    | apply_assumption
noncomputable def q21_0p2 (cf : CallF) (R : Rec) (x8 : IV) (x7 : IV) (h : H) (x4 : IV) : CRes :=
 bif IV.beq x8 x7 then
 Qo (Qle x7) fun x9 =>
 Qo (Qle x7) fun x10 =>
 bif IV.beq x10 x9 then
 Qo2 (bytesStr 5 h x4 x9) fun x11 h12 =>
 .ok x11 h12
 else .fail
 else .fail
noncomputable def q21_0p1 (cf : CallF) (R : Rec) (a0 : IV) (h : H) (x4 : IV) : CRes :=
 Qo (Qnil a0) fun x5 =>
 Qo (Qfad 1 x5) fun x6 =>
 Qo (Ql0 h x6) fun x7 =>
 Qo (Ql0 h x6) fun x8 =>
 q21_0p2 cf R x8 x7 h x4
noncomputable def q21_0 (cf : CallF) (R : Rec) (a0 : IV) (h : H) : CRes :=
 Qo (Qnil a0) fun x1 =>
 Qo (Qfad 1 x1) fun x2 =>
 Qo (Ql0 h x2) fun x3 =>
 Qo (sliceDataI x3) fun x4 =>
 q21_0p1 cf R a0 h x4
theorem qe21_0 : q21_0 = t21_0 := by
  unfold q21_0 q21_0p1 q21_0p2
  try simp only [QE]
  try rfl
noncomputable def bt21 (cf : CallF) (R : Rec) : Rec := fun i l h =>
 br1 i 0 l (fun a0 => t21_0 cf R a0 h) <|
 .fail
noncomputable def b21 (cf : CallF) (R : Rec) : Rec := fun i l h =>
 brQ1 i 0 l (fun a0 => q21_0 cf R a0 h) <|
 .fail
theorem be21 : b21 = bt21 := by
  unfold b21 bt21
  simp only [qe21_0, brQ1_eq]
theorem r21 {T : Tab} {cf : CallF} (hc : leC cf (CL T)) (n : Nat) : leR (recN (b21 cf) n) (J21 T) := be21 ▸ recN_le (fun R hR i l h => by
  unfold bt21
  refine le_br1 (J := fun i l => J21 T i l h) (fun _ a0 => le_e (fun hn => e21_0 rfl hn) ((m21 hc hR) a0 h)) ?_
  exact le_fail _) n
-- 23
theorem m23 {cf cf' : CallF} {R R' : Rec} (hc : ∀ f l h, le (cf f l h) (cf' f l h)) (hR : ∀ i l h, le (R i l h) (R' i l h)) : (∀ (a0 a1 : IV) (h : H), le (t23_0 cf R a0 a1 h) (t23_0 cf' R' a0 a1 h)) := by
  intros
  unfold t23_0
  with_reducible repeat' first
    | refine le_obind fun _ => ?_
    | refine le_callP ?_ (fun _ _ => ?_) (fun _ _ => ?_)
    | refine le_condK ?_ ?_
    | exact hR _ _ _
    | refine le_obind2 fun _ _ => ?_
    | refine le_obindH fun _ => ?_
    | refine le_spanK (fun _ _ _ => ?_) (fun _ _ => ?_)
    | exact hc _ _ _
    | refine le_bif ?_ ?_
    | refine le_guardK ?_ ?_ ?_
    | refine le_mapK fun _ _ => ?_
    | refine le_panK fun _ _ => ?_
    | refine le_funK fun _ _ => ?_
    | exact le_refl _
    | apply_assumption
noncomputable def q23_0 (cf : CallF) (R : Rec) (a0 : IV) (a1 : IV) (h : H) : CRes :=
 Qc (cf 39 [a0, a1, (.int .i64 0), (.int .i64 (-1))] h) .pan fun x1 h2 =>
 .ok x1 h2
theorem qe23_0 : q23_0 = t23_0 := by
  unfold q23_0
  try simp only [QE]
  try rfl
noncomputable def bt23 (cf : CallF) (R : Rec) : Rec := fun i l h =>
 br2 i 0 l (fun a0 a1 => t23_0 cf R a0 a1 h) <|
 .fail
noncomputable def b23 (cf : CallF) (R : Rec) : Rec := fun i l h =>
 brQ2 i 0 l (fun a0 a1 => q23_0 cf R a0 a1 h) <|
 .fail
theorem be23 : b23 = bt23 := by
  unfold b23 bt23
  simp only [qe23_0, brQ2_eq]
theorem r23 {T : Tab} {cf : CallF} (hc : leC cf (CL T)) (n : Nat) : leR (recN (b23 cf) n) (J23 T) := be23 ▸ recN_le (fun R hR i l h => by
  unfold bt23
  refine le_br2 (J := fun i l => J23 T i l h) (fun _ a0 a1 => le_e (fun hn => e23_0 rfl hn) ((m23 hc hR) a0 a1 h)) ?_
  exact le_fail _) n
-- 24
theorem m24 {cf cf' : CallF} {R R' : Rec} (hc : ∀ f l h, le (cf f l h) (cf' f l h)) (hR : ∀ i l h, le (R i l h) (R' i l h)) :
  (∀ (a0 : IV) (h : H), le (t24_0 cf R a0 h) (t24_0 cf' R' a0 h)) ∧
  (∀ (a0 a2 : IV) (h : H), le (t24_1 cf R a0 a2 h) (t24_1 cf' R' a0 a2 h)) ∧
  (∀ (a0 a3 : IV) (h : H), le (t24_2 cf R a0 a3 h) (t24_2 cf' R' a0 a3 h)) := by
  refine ⟨?_, ?_, ?_⟩
  all_goals intros
  all_goals first | unfold t24_0 | unfold t24_1 | unfold t24_2
  all_goals
  with_reducible repeat' first
    | refine le_obind fun _ => ?_
    | refine le_callP ?_ (fun _ _ => ?_) (fun _ _ => ?_)
    | refine le_condK ?_ ?_
    | exact hR _ _ _
    | refine le_obind2 fun _ _ => ?_
    | refine le_obindH fun _ => ?_
    | refine le_spanK (fun _ _ _ => ?_) (fun _ _ => ?_)
    | exact hc _ _ _
    | refine le_bif ?_ ?_
    | refine le_guardK ?_ ?_ ?_
    | refine le_mapK fun _ _ => ?_
    | refine le_panK fun _ _ => ?_
    | refine le_funK fun _ _ => ?_
    | exact le_refl _
    | apply_assumption
noncomputable def q24_0 (cf : CallF) (R : Rec) (a0 : IV) (h : H) : CRes :=
 Qc (cf 26 [a0] h) .pan fun x1 h2 =>
 Qo (Qse x1 (.str ⟨20, 573360969688401281526989655801287553678907634724⟩)) fun x3 =>
 Qsp x3 true h2 (fun k4 =>
 Qc (cf 26 [a0] h2) .pan fun x7 h8 =>
 Qo (Qse x7 (.str ⟨22, 37575784509498047304093631126285379671082732007682852⟩)) fun x9 =>
 k4 x9 h8) fun x5 h6 =>
 Qo (Qpk x3 (some x5) (some (.bool false))) fun x10 =>
 Qc (cf 27 [x10] h6) .pan fun x11 h12 =>
 Qc (cf 26 [a0] h12) .pan fun x13 h14 =>
 R 1 [a0, x13] h14
theorem qe24_0 : q24_0 = t24_0 := by
  unfold q24_0
  try simp only [QE]
  try rfl
noncomputable def q24_1p9 (cf : CallF) (R : Rec) (x76 : IV) (x16 : IV) (h73 : H) (a0 : IV) : CRes :=
 Qif x76
 (Qo (Qix 1 x16 (.int .i64 4)) fun x77 =>
 QoH (QsA 1 h73 x77 (.str ⟨0, 0⟩)) fun h78 =>
 R 2 [a0, x16] h78)
 (R 2 [a0, x16] h73)
noncomputable def q24_1p8 (cf : CallF) (R : Rec) (h69 : H) (x72 : IV) (x68 : IV) (x16 : IV) (a0 : IV) : CRes :=
 QoH (QsA 1 h69 x72 x68) fun h73 =>
 Qo (Qix 1 x16 (.int .i64 4)) fun x74 =>
 Qo (Ql0 h73 x74) fun x75 =>
 Qo (Qse x75 (.str ⟨1, 95⟩)) fun x76 =>
 q24_1p9 cf R x76 x16 h73 a0
noncomputable def q24_1p7 (cf : CallF) (R : Rec) (h63 : H) (x56 : IV) (x57 : IV) (x62 : IV) (a0 : IV) (x16 : IV) : CRes :=
 Qo (Ql0 h63 x56) fun x64 =>
 bif IV.beq x64 x57 then
 Qo2 (Qbsl true 1 [(.int .i64 0)] 1 [(0, x62)] h63) fun x65 h66 =>
 Qo (Ql0 h66 x56) fun x67 =>
 bif IV.beq x67 x57 then
 Qo2 (appK 1 8 h66 x57 x65) fun x68 h69 =>
 Qo (Qnil a0) fun x70 =>
 Qo (Qfad 2 x70) fun x71 =>
 Qo (Qfad 1 x71) fun x72 =>
 q24_1p8 cf R h69 x72 x68 x16 a0
 else .fail
 else .fail
noncomputable def q24_1p6 (cf : CallF) (R : Rec) (h53 : H) (x56 : IV) (x16 : IV) (a0 : IV) : CRes :=
 Qo (Ql0 h53 x56) fun x57 =>
 Qo (Qix 1 x16 (.int .i64 2)) fun x58 =>
 Qo (Ql0 h53 x58) fun x59 =>
 Qc (cf 28 [x59] h53) (fun v60 h61 =>
 .pan v60 h61) fun x62 h63 =>
 q24_1p7 cf R h63 x56 x57 x62 a0 x16
noncomputable def q24_1p5 (cf : CallF) (R : Rec) (h42 : H) (x45 : IV) (x47 : IV) (x52 : IV) (a0 : IV) (x16 : IV) : CRes :=
 QoH (mupK true h42 x45 x47 x52) fun h53 =>
 Qo (Qnil a0) fun x54 =>
 Qo (Qfad 2 x54) fun x55 =>
 Qo (Qfad 1 x55) fun x56 =>
 q24_1p6 cf R h53 x56 x16 a0
noncomputable def q24_1p4 (cf : CallF) (R : Rec) (x48 : IV) (h42 : H) (x45 : IV) (x47 : IV) (a0 : IV) (x16 : IV) : CRes :=
 Qo (Qfad 2 x48) fun x49 =>
 Qo (Qfad 0 x49) fun x50 =>
 Qo (Ql0 h42 x50) fun x51 =>
 Qo (Qle x51) fun x52 =>
 q24_1p5 cf R h42 x45 x47 x52 a0 x16
noncomputable def q24_1p3 (cf : CallF) (R : Rec) (h42 : H) (x44 : IV) (x16 : IV) (a0 : IV) : CRes :=
 Qo (Ql0 h42 x44) fun x45 =>
 Qo (Qix 1 x16 (.int .i64 3)) fun x46 =>
 Qo (Ql0 h42 x46) fun x47 =>
 Qo (Qnil a0) fun x48 =>
 q24_1p4 cf R x48 h42 x45 x47 a0 x16
noncomputable def q24_1p2 (cf : CallF) (R : Rec) (x33 : IV) (x35 : IV) (h36 : H) (a0 : IV) (x16 : IV) : CRes :=
 Qo (Qpk x33 (some x35) (some (.bool false))) fun x40 =>
 Qc (cf 27 [x40] h36) .pan fun x41 h42 =>
 Qo (Qnil a0) fun x43 =>
 Qo (Qfad 1 x43) fun x44 =>
 q24_1p3 cf R h42 x44 x16 a0
noncomputable def q24_1p1 (cf : CallF) (R : Rec) (x19 : IV) (x21 : IV) (h22 : H) (x16 : IV) (a0 : IV) : CRes :=
 Qo (Qpk x19 (some x21) (some (.bool false))) fun x26 =>
 Qsp x26 true h22 (fun k27 =>
 Qo (Qix 1 x16 (.int .i64 1)) fun x30 =>
 Qo (Ql0 h22 x30) fun x31 =>
 Qo (Qse x31 (.str ⟨4, 1701996919⟩)) fun x32 =>
 k27 x32 h22) fun x28 h29 =>
 Qo (Qpk x26 (some x28) (some (.bool false))) fun x33 =>
 Qsp x33 true h29 (fun k34 =>
 Qo (Qix 1 x16 (.int .i64 5)) fun x37 =>
 Qo (Ql0 h29 x37) fun x38 =>
 Qo (Qse x38 (.str ⟨4, 1684956452⟩)) fun x39 =>
 k34 x39 h29) fun x35 h36 =>
 q24_1p2 cf R x33 x35 h36 a0 x16
noncomputable def q24_1 (cf : CallF) (R : Rec) (a0 : IV) (a2 : IV) (h : H) : CRes :=
 Qo (binS .neq a2 (.str ⟨13, 7956981874617361452794851128612⟩)) fun x15 =>
 Qif x15
 (Qc (cf 23 [a2, (.str ⟨1, 32⟩)] h) .pan fun x16 h17 =>
 Qo (Qle x16) fun x18 =>
 Qo (Qeql x18 (.int .i64 6)) fun x19 =>
 Qsp x19 true h17 (fun k20 =>
 Qo (Qix 1 x16 (.int .i64 0)) fun x23 =>
 Qo (Ql0 h17 x23) fun x24 =>
 Qo (Qse x24 (.str ⟨4, 1918989860⟩)) fun x25 =>
 k20 x25 h17) fun x21 h22 =>
 q24_1p1 cf R x19 x21 h22 x16 a0)
 (Qc (cf 26 [a0] h) .pan fun x79 h80 =>
 Qo (Qse x79 (.str ⟨20, 573360969688401287803447223673949885673767855396⟩)) fun x81 =>
 Qsp x81 true h80 (fun k82 =>
 Qc (cf 26 [a0] h80) .pan fun x85 h86 =>
 Qo (Qse x85 (.str ⟨9, 2129617567494907978788⟩)) fun x87 =>
 k82 x87 h86) fun x83 h84 =>
 Qo (Qpk x81 (some x83) (some (.bool false))) fun x88 =>
 Qc (cf 27 [x88] h84) .pan fun x89 h90 =>
 .ok (.tup []) h90)
theorem qe24_1 : q24_1 = t24_1 := by
  unfold q24_1 q24_1p1 q24_1p2 q24_1p3 q24_1p4 q24_1p5 q24_1p6 q24_1p7 q24_1p8 q24_1p9
  try simp only [QE]
  try rfl
noncomputable def q24_2p2 (cf : CallF) (R : Rec) (x99 : IV) (x94 : IV) (h98 : H) (x97 : IV) (a0 : IV) : CRes :=
 bif IV.beq x99 x94 then
 Qo2 (appK 1 16 h98 x94 x97) fun x100 h101 =>
 Qo (Qnil a0) fun x102 =>
 Qo (Qfad 2 x102) fun x103 =>
 Qo (Qfad 0 x103) fun x104 =>
 QoH (QsA 1 h101 x104 x100) fun h105 =>
 Qc (cf 26 [a0] h105) .pan fun x106 h107 =>
 R 1 [a0, x106] h107
 else .fail
noncomputable def q24_2p1 (cf : CallF) (R : Rec) (a3 : IV) (h : H) (x93 : IV) (x94 : IV) (a0 : IV) : CRes :=
 Qo (Qix 1 a3 (.int .i64 4)) fun x95 =>
 Qo (Ql0 h x95) fun x96 =>
 Qo2 (Qbsl false 1 [(.str ⟨0, 0⟩)] 1 [(0, x96)] h) fun x97 h98 =>
 Qo (Ql0 h98 x93) fun x99 =>
 q24_2p2 cf R x99 x94 h98 x97 a0
noncomputable def q24_2 (cf : CallF) (R : Rec) (a0 : IV) (a3 : IV) (h : H) : CRes :=
 Qo (Qnil a0) fun x91 =>
 Qo (Qfad 2 x91) fun x92 =>
 Qo (Qfad 0 x92) fun x93 =>
 Qo (Ql0 h x93) fun x94 =>
 q24_2p1 cf R a3 h x93 x94 a0
theorem qe24_2 : q24_2 = t24_2 := by
  unfold q24_2 q24_2p1 q24_2p2
  try simp only [QE]
  try rfl
noncomputable def bt24 (cf : CallF) (R : Rec) : Rec := fun i l h =>
 br1 i 0 l (fun a0 => t24_0 cf R a0 h) <|
 br2 i 1 l (fun a0 a2 => t24_1 cf R a0 a2 h) <|
 br2 i 2 l (fun a0 a3 => t24_2 cf R a0 a3 h) <|
 .fail
noncomputable def b24 (cf : CallF) (R : Rec) : Rec := fun i l h =>
 brQ1 i 0 l (fun a0 => q24_0 cf R a0 h) <|
 brQ2 i 1 l (fun a0 a2 => q24_1 cf R a0 a2 h) <|
 brQ2 i 2 l (fun a0 a3 => q24_2 cf R a0 a3 h) <|
 .fail
theorem be24 : b24 = bt24 := by
  unfold b24 bt24
  simp only [qe24_0, qe24_1, qe24_2, brQ1_eq, brQ2_eq]
theorem r24 {T : Tab} {cf : CallF} (hc : leC cf (CL T)) (n : Nat) : leR (recN (b24 cf) n) (J24 T) := be24 ▸ recN_le (fun R hR i l h => by
  unfold bt24
  refine le_br1 (J := fun i l => J24 T i l h) (fun _ a0 => le_e (fun hn => e24_0 rfl hn) ((m24 hc hR).1 a0 h)) ?_
  refine le_br2 (J := fun i l => J24 T i l h) (fun _ a0 a2 => le_e (fun hn => e24_1 rfl hn) ((m24 hc hR).2.1 a0 a2 h)) ?_
  refine le_br2 (J := fun i l => J24 T i l h) (fun _ a0 a3 => le_e (fun hn => e24_2 rfl hn) ((m24 hc hR).2.2 a0 a3 h)) ?_
  exact le_fail _) n
-- 25
theorem m25 {cf cf' : CallF} {R R' : Rec} (hc : ∀ f l h, le (cf f l h) (cf' f l h)) (hR : ∀ i l h, le (R i l h) (R' i l h)) :
  (∀ (a0 a1 : IV) (h : H), le (t25_0 cf R a0 a1 h) (t25_0 cf' R' a0 a1 h)) ∧
  (∀ (a0 a5 a6 : IV) (h : H), le (t25_1 cf R a0 a5 a6 h) (t25_1 cf' R' a0 a5 a6 h)) := by
  refine ⟨?_, ?_⟩
  all_goals intros
  all_goals first | unfold t25_0 | unfold t25_1
  all_goals
  with_reducible repeat' first
    | refine le_obind fun _ => ?_
    | refine le_callP ?_ (fun _ _ => ?_) (fun _ _ => ?_)
    | refine le_condK ?_ ?_
    | exact hR _ _ _
    | refine le_obind2 fun _ _ => ?_
    | refine le_obindH fun _ => ?_
    | refine le_spanK (fun _ _ _ => ?_) (fun _ _ => ?_)
    | exact hc _ _ _
    | refine le_bif ?_ ?_
    | refine le_guardK ?_ ?_ ?_
    | refine le_mapK fun _ _ => ?_
    | refine le_panK fun _ _ => ?_
    | refine le_funK fun _ _ => ?_
    | exact le_refl _
    | apply_assumption
noncomputable def q25_0p1 (cf : CallF) (R : Rec) (a1 : IV) (h3 : H) (a0 : IV) (x4 : IV) (x5 : IV) : CRes :=
 Qo (Qis a1 (.int .i64 0)) fun x6 =>
 Qo (Qeql x6 (.int .u8 98)) fun x7 =>
 Qif x7
 (Qo (slcStr a1 (some (.int .i64 1)) none) fun x8 =>
 Qc (cf 40 [x8, (.str ⟨1, 32⟩)] h3) .pan fun x9 h10 =>
 Qo (Qext x9 0) fun x11 =>
 Qo (Qext x9 1) fun x12 =>
 Qo (Qext x9 2) fun x13 =>
 R 1 [a0, x11, x12] h10)
 (R 1 [a0, x4, x5] h3)
noncomputable def q25_0 (cf : CallF) (R : Rec) (a0 : IV) (a1 : IV) (h : H) : CRes :=
 Qo (binS .neq a1 (.str ⟨0, 0⟩)) fun x1 =>
 Qc (cf 27 [x1] h) .pan fun x2 h3 =>
 Qo (slcStr a1 none (some (.int .i64 1))) fun x4 =>
 Qo (slcStr a1 (some (.int .i64 1)) none) fun x5 =>
 q25_0p1 cf R a1 h3 a0 x4 x5
theorem qe25_0 : q25_0 = t25_0 := by
  unfold q25_0 q25_0p1
  try simp only [QE]
  try rfl
noncomputable def q25_1p1 (cf : CallF) (R : Rec) (x17 : IV) (h : H) (a5 : IV) : CRes :=
 Qo (Qext x17 0) fun x18 =>
 Qo (Qext x17 1) fun x19 =>
 Qc (cf 27 [x19] h) .pan fun x20 h21 =>
 .ok (.tup [x18, a5]) h21
noncomputable def q25_1 (cf : CallF) (R : Rec) (a0 : IV) (a5 : IV) (a6 : IV) (h : H) : CRes :=
 Qo (Qnil a0) fun x14 =>
 Qo (Qfad 1 x14) fun x15 =>
 Qo (Ql0 h x15) fun x16 =>
 Qo (lkK true (.int .i64 0) h x16 a6 true) fun x17 =>
 q25_1p1 cf R x17 h a5
theorem qe25_1 : q25_1 = t25_1 := by
  unfold q25_1 q25_1p1
  try simp only [QE]
  try rfl
noncomputable def bt25 (cf : CallF) (R : Rec) : Rec := fun i l h =>
 br2 i 0 l (fun a0 a1 => t25_0 cf R a0 a1 h) <|
 br3 i 1 l (fun a0 a5 a6 => t25_1 cf R a0 a5 a6 h) <|
 .fail
noncomputable def b25 (cf : CallF) (R : Rec) : Rec := fun i l h =>
 brQ2 i 0 l (fun a0 a1 => q25_0 cf R a0 a1 h) <|
 brQ3 i 1 l (fun a0 a5 a6 => q25_1 cf R a0 a5 a6 h) <|
 .fail
theorem be25 : b25 = bt25 := by
  unfold b25 bt25
  simp only [qe25_0, qe25_1, brQ2_eq, brQ3_eq]
theorem r25 {T : Tab} {cf : CallF} (hc : leC cf (CL T)) (n : Nat) : leR (recN (b25 cf) n) (J25 T) := be25 ▸ recN_le (fun R hR i l h => by
  unfold bt25
  refine le_br2 (J := fun i l => J25 T i l h) (fun _ a0 a1 => le_e (fun hn => e25_0 rfl hn) ((m25 hc hR).1 a0 a1 h)) ?_
  refine le_br3 (J := fun i l => J25 T i l h) (fun _ a0 a5 a6 => le_e (fun hn => e25_1 rfl hn) ((m25 hc hR).2 a0 a5 a6 h)) ?_
  exact le_fail _) n
-- 26
theorem m26 {cf cf' : CallF} {R R' : Rec} (hc : ∀ f l h, le (cf f l h) (cf' f l h)) (hR : ∀ i l h, le (R i l h) (R' i l h)) : (∀ (a0 : IV) (h : H), le (t26_0 cf R a0 h) (t26_0 cf' R' a0 h)) := by
  intros
  unfold t26_0
  with_reducible repeat' first
    | refine le_obind fun _ => ?_
    | refine le_callP ?_ (fun _ _ => ?_) (fun _ _ => ?_)
    | refine le_condK ?_ ?_
    | exact hR _ _ _
    | refine le_obind2 fun _ _ => ?_
    | refine le_obindH fun _ => ?_
    | refine le_spanK (fun _ _ _ => ?_) (fun _ _ => ?_)
    | exact hc _ _ _
    | refine le_bif ?_ ?_
    | refine le_guardK ?_ ?_ ?_
    | refine le_mapK fun _ _ => ?_
    | refine le_panK fun _ _ => ?_
    | refine le_funK fun _ _ => ?_
    | exact le_refl _
    | apply_assumption
noncomputable def q26_0p3 (cf : CallF) (R : Rec) (x13 : IV) (h7 : H) (a0 : IV) (x12 : IV) : CRes :=
 Qo (Qfad 0 x13) fun x14 =>
 Qo (Ql0 h7 x14) fun x15 =>
 Qo (slcS 1 x15 (some (.int .i64 1)) none none) fun x16 =>
 Qo (Qnil a0) fun x17 =>
 Qo (Qfad 0 x17) fun x18 =>
 QoH (QsA 1 h7 x18 x16) fun h19 =>
 .ok x12 h19
noncomputable def q26_0p2 (cf : CallF) (R : Rec) (h7 : H) (x9 : IV) (a0 : IV) : CRes :=
 Qo (Ql0 h7 x9) fun x10 =>
 Qo (Qix 1 x10 (.int .i64 0)) fun x11 =>
 Qo (Ql0 h7 x11) fun x12 =>
 Qo (Qnil a0) fun x13 =>
 q26_0p3 cf R x13 h7 a0 x12
noncomputable def q26_0p1 (cf : CallF) (R : Rec) (x4 : IV) (h : H) (a0 : IV) : CRes :=
 Qo (Qgtr x4 (.int .i64 0)) fun x5 =>
 Qc (cf 27 [x5] h) .pan fun x6 h7 =>
 Qo (Qnil a0) fun x8 =>
 Qo (Qfad 0 x8) fun x9 =>
 q26_0p2 cf R h7 x9 a0
noncomputable def q26_0 (cf : CallF) (R : Rec) (a0 : IV) (h : H) : CRes :=
 Qo (Qnil a0) fun x1 =>
 Qo (Qfad 0 x1) fun x2 =>
 Qo (Ql0 h x2) fun x3 =>
 Qo (Qle x3) fun x4 =>
 q26_0p1 cf R x4 h a0
theorem qe26_0 : q26_0 = t26_0 := by
  unfold q26_0 q26_0p1 q26_0p2 q26_0p3
  try simp only [QE]
  try rfl
noncomputable def bt26 (cf : CallF) (R : Rec) : Rec := fun i l h =>
 br1 i 0 l (fun a0 => t26_0 cf R a0 h) <|
 .fail
noncomputable def b26 (cf : CallF) (R : Rec) : Rec := fun i l h =>
 brQ1 i 0 l (fun a0 => q26_0 cf R a0 h) <|
 .fail
theorem be26 : b26 = bt26 := by
  unfold b26 bt26
  simp only [qe26_0, brQ1_eq]
theorem r26 {T : Tab} {cf : CallF} (hc : leC cf (CL T)) (n : Nat) : leR (recN (b26 cf) n) (J26 T) := be26 ▸ recN_le (fun R hR i l h => by
  unfold bt26
  refine le_br1 (J := fun i l => J26 T i l h) (fun _ a0 => le_e (fun hn => e26_0 rfl hn) ((m26 hc hR) a0 h)) ?_
  exact le_fail _) n
-- 27
theorem m27 {cf cf' : CallF} {R R' : Rec} (hc : ∀ f l h, le (cf f l h) (cf' f l h)) (hR : ∀ i l h, le (R i l h) (R' i l h)) : (∀ (a0 : IV) (h : H), le (t27_0 cf R a0 h) (t27_0 cf' R' a0 h)) := by
  intros
  unfold t27_0
  with_reducible repeat' first
    | refine le_obind fun _ => ?_
    | refine le_callP ?_ (fun _ _ => ?_) (fun _ _ => ?_)
    | refine le_condK ?_ ?_
    | exact hR _ _ _
    | refine le_obind2 fun _ _ => ?_
    | refine le_obindH fun _ => ?_
    | refine le_spanK (fun _ _ _ => ?_) (fun _ _ => ?_)
    | exact hc _ _ _
    | refine le_bif ?_ ?_
    | refine le_guardK ?_ ?_ ?_
    | refine le_mapK fun _ _ => ?_
    | refine le_panK fun _ _ => ?_
    | refine le_funK fun _ _ => ?_
    | exact le_refl _
    | apply_assumption
noncomputable def q27_0 (cf : CallF) (R : Rec) (a0 : IV) (h : H) : CRes :=
 Qo (Qnot a0) fun x1 =>
 Qif x1
 (Qo (Qbld [] [] []) fun x2 =>
 panK (.iface 55 x2) h .pan)
 (.ok (.tup []) h)
theorem qe27_0 : q27_0 = t27_0 := by
  unfold q27_0
  try simp only [QE]
  try rfl
noncomputable def bt27 (cf : CallF) (R : Rec) : Rec := fun i l h =>
 br1 i 0 l (fun a0 => t27_0 cf R a0 h) <|
 .fail
noncomputable def b27 (cf : CallF) (R : Rec) : Rec := fun i l h =>
 brQ1 i 0 l (fun a0 => q27_0 cf R a0 h) <|
 .fail
theorem be27 : b27 = bt27 := by
  unfold b27 bt27
  simp only [qe27_0, brQ1_eq]
theorem r27 {T : Tab} {cf : CallF} (hc : leC cf (CL T)) (n : Nat) : leR (recN (b27 cf) n) (J27 T) := be27 ▸ recN_le (fun R hR i l h => by
  unfold bt27
  refine le_br1 (J := fun i l => J27 T i l h) (fun _ a0 => le_e (fun hn => e27_0 rfl hn) ((m27 hc hR) a0 h)) ?_
  exact le_fail _) n
-- 28
theorem m28 {cf cf' : CallF} {R R' : Rec} (hc : ∀ f l h, le (cf f l h) (cf' f l h)) (hR : ∀ i l h, le (R i l h) (R' i l h)) : (∀ (a0 : IV) (h : H), le (t28_0 cf R a0 h) (t28_0 cf' R' a0 h)) := by
  intros
  unfold t28_0
  with_reducible repeat' first
    | refine le_obind fun _ => ?_
    | refine le_callP ?_ (fun _ _ => ?_) (fun _ _ => ?_)
    | refine le_condK ?_ ?_
    | exact hR _ _ _
    | refine le_obind2 fun _ _ => ?_
    | refine le_obindH fun _ => ?_
    | refine le_spanK (fun _ _ _ => ?_) (fun _ _ => ?_)
    | exact hc _ _ _
    | refine le_bif ?_ ?_
    | refine le_guardK ?_ ?_ ?_
    | refine le_mapK fun _ _ => ?_
    | refine le_panK fun _ _ => ?_
    | refine le_funK fun _ _ => ?_
    | exact le_refl _
    | apply_assumption
noncomputable def q28_0p1 (cf : CallF) (R : Rec) (x5 : IV) (h2 : H) (x3 : IV) (a0 : IV) : CRes :=
 Qsp x5 true h2 (fun k6 =>
 Qc (cf 17 [x3] h2) .pan fun x9 h10 =>
 Qo (Qse x9 a0) fun x11 =>
 k6 x11 h10) fun x7 h8 =>
 Qo (Qpk x5 (some x7) (some (.bool false))) fun x12 =>
 Qc (cf 27 [x12] h8) .pan fun x13 h14 =>
 .ok x3 h14
noncomputable def q28_0 (cf : CallF) (R : Rec) (a0 : IV) (h : H) : CRes :=
 Qc (cf 41 [a0] h) .pan fun x1 h2 =>
 Qo (Qext x1 0) fun x3 =>
 Qo (Qext x1 1) fun x4 =>
 Qo (eqIf .eql true x4 .nilIface) fun x5 =>
 q28_0p1 cf R x5 h2 x3 a0
theorem qe28_0 : q28_0 = t28_0 := by
  unfold q28_0 q28_0p1
  try simp only [QE]
  try rfl
noncomputable def bt28 (cf : CallF) (R : Rec) : Rec := fun i l h =>
 br1 i 0 l (fun a0 => t28_0 cf R a0 h) <|
 .fail
noncomputable def b28 (cf : CallF) (R : Rec) : Rec := fun i l h =>
 brQ1 i 0 l (fun a0 => q28_0 cf R a0 h) <|
 .fail
theorem be28 : b28 = bt28 := by
  unfold b28 bt28
  simp only [qe28_0, brQ1_eq]
theorem r28 {T : Tab} {cf : CallF} (hc : leC cf (CL T)) (n : Nat) : leR (recN (b28 cf) n) (J28 T) := be28 ▸ recN_le (fun R hR i l h => by
  unfold bt28
  refine le_br1 (J := fun i l => J28 T i l h) (fun _ a0 => le_e (fun hn => e28_0 rfl hn) ((m28 hc hR) a0 h)) ?_
  exact le_fail _) n
-- 32
theorem m32 {cf cf' : CallF} {R R' : Rec} (hc : ∀ f l h, le (cf f l h) (cf' f l h)) (hR : ∀ i l h, le (R i l h) (R' i l h)) : (∀ (a0 : IV) (h : H), le (t32_0 cf R a0 h) (t32_0 cf' R' a0 h)) := by
  intros
  unfold t32_0
  with_reducible repeat' first
    | refine le_obind fun _ => ?_
    | refine le_callP ?_ (fun _ _ => ?_) (fun _ _ => ?_)
    | refine le_condK ?_ ?_
    | exact hR _ _ _
    | refine le_obind2 fun _ _ => ?_
    | refine le_obindH fun _ => ?_
    | refine le_spanK (fun _ _ _ => ?_) (fun _ _ => ?_)
    | exact hc _ _ _
    | refine le_bif ?_ ?_
    | refine le_guardK ?_ ?_ ?_
    | refine le_mapK fun _ _ => ?_
    | refine le_panK fun _ _ => ?_
    | refine le_funK fun _ _ => ?_
    | exact le_refl _
    | apply_assumption
noncomputable def q32_0 (cf : CallF) (R : Rec) (a0 : IV) (h : H) : CRes :=
 Qo (Qlss a0 (.int .i32 33)) fun x1 =>
 Qsp x1 false h (fun k2 =>
 Qo (Qgtr a0 (.int .i32 126)) fun x5 =>
 k2 x5 h) fun x3 h4 =>
 Qo (Qpk x1 (some (.bool true)) (some x3)) fun x6 =>
 .ok x6 h4
theorem qe32_0 : q32_0 = t32_0 := by
  unfold q32_0
  try simp only [QE]
  try rfl
noncomputable def bt32 (cf : CallF) (R : Rec) : Rec := fun i l h =>
 br1 i 0 l (fun a0 => t32_0 cf R a0 h) <|
 .fail
noncomputable def b32 (cf : CallF) (R : Rec) : Rec := fun i l h =>
 brQ1 i 0 l (fun a0 => q32_0 cf R a0 h) <|
 .fail
theorem be32 : b32 = bt32 := by
  unfold b32 bt32
  simp only [qe32_0, brQ1_eq]
theorem r32 {T : Tab} {cf : CallF} (hc : leC cf (CL T)) (n : Nat) : leR (recN (b32 cf) n) (J32 T) := be32 ▸ recN_le (fun R hR i l h => by
  unfold bt32
  refine le_br1 (J := fun i l => J32 T i l h) (fun _ a0 => le_e (fun hn => e32_0 rfl hn) ((m32 hc hR) a0 h)) ?_
  exact le_fail _) n
-- 33
theorem m33 {cf cf' : CallF} {R R' : Rec} (hc : ∀ f l h, le (cf f l h) (cf' f l h)) (hR : ∀ i l h, le (R i l h) (R' i l h)) : (∀ (a0 a1 : IV) (h : H), le (t33_0 cf R a0 a1 h) (t33_0 cf' R' a0 a1 h)) := by
  intros
  unfold t33_0
  with_reducible repeat' first
    | refine le_obind fun _ => ?_
    | refine le_callP ?_ (fun _ _ => ?_) (fun _ _ => ?_)
    | refine le_condK ?_ ?_
    | exact hR _ _ _
    | refine le_obind2 fun _ _ => ?_
    | refine le_obindH fun _ => ?_
    | refine le_spanK (fun _ _ _ => ?_) (fun _ _ => ?_)
    | exact hc _ _ _
    | refine le_bif ?_ ?_
    | refine le_guardK ?_ ?_ ?_
    | refine le_mapK fun _ _ => ?_
    | refine le_panK fun _ _ => ?_
    | refine le_funK fun _ _ => ?_
    | exact le_refl _
    | apply_assumption
noncomputable def q33_0 (cf : CallF) (R : Rec) (a0 : IV) (a1 : IV) (h : H) : CRes :=
 Qc (cf 42 [a0, a1] h) .pan fun x1 h2 =>
 Qo (Qgeq x1 (.int .i64 0)) fun x3 =>
 .ok x3 h2
theorem qe33_0 : q33_0 = t33_0 := by
  unfold q33_0
  try simp only [QE]
  try rfl
noncomputable def bt33 (cf : CallF) (R : Rec) : Rec := fun i l h =>
 br2 i 0 l (fun a0 a1 => t33_0 cf R a0 a1 h) <|
 .fail
noncomputable def b33 (cf : CallF) (R : Rec) : Rec := fun i l h =>
 brQ2 i 0 l (fun a0 a1 => q33_0 cf R a0 a1 h) <|
 .fail
theorem be33 : b33 = bt33 := by
  unfold b33 bt33
  simp only [qe33_0, brQ2_eq]
theorem r33 {T : Tab} {cf : CallF} (hc : leC cf (CL T)) (n : Nat) : leR (recN (b33 cf) n) (J33 T) := be33 ▸ recN_le (fun R hR i l h => by
  unfold bt33
  refine le_br2 (J := fun i l => J33 T i l h) (fun _ a0 a1 => le_e (fun hn => e33_0 rfl hn) ((m33 hc hR) a0 a1 h)) ?_
  exact le_fail _) n
-- 34
theorem m34 {cf cf' : CallF} {R R' : Rec} (hc : ∀ f l h, le (cf f l h) (cf' f l h)) (hR : ∀ i l h, le (R i l h) (R' i l h)) : (∀ (a0 : IV) (h : H), le (t34_0 cf R a0 h) (t34_0 cf' R' a0 h)) := by
  intros
  unfold t34_0
  with_reducible repeat' first
    | refine le_obind fun _ => ?_
    | refine le_callP ?_ (fun _ _ => ?_) (fun _ _ => ?_)
    | refine le_condK ?_ ?_
    | exact hR _ _ _
    | refine le_obind2 fun _ _ => ?_
    | refine le_obindH fun _ => ?_
    | refine le_spanK (fun _ _ _ => ?_) (fun _ _ => ?_)
    | exact hc _ _ _
    | refine le_bif ?_ ?_
    | refine le_guardK ?_ ?_ ?_
    | refine le_mapK fun _ _ => ?_
    | refine le_panK fun _ _ => ?_
    | refine le_funK fun _ _ => ?_
    | exact le_refl _
    | apply_assumption
noncomputable def q34_0p1 (cf : CallF) (R : Rec) (x8 : IV) (h5 : H) (a0 : IV) : CRes :=
 Qsp x8 false h5 (fun k9 =>
 Qc (cf 43 [a0, (.str ⟨4, 2054697264⟩)] h5) .pan fun x12 h13 =>
 Qo (binS .neq x12 (.str ⟨0, 0⟩)) fun x14 =>
 k9 x14 h13) fun x10 h11 =>
 Qo (Qpk x8 (some (.bool true)) (some x10)) fun x15 =>
 Qif x15
 (.ok (.int .i64 10) h11)
 (.ok (.int .i64 0) h11)
noncomputable def q34_0 (cf : CallF) (R : Rec) (a0 : IV) (h : H) : CRes :=
 Qo (Qls a0) fun x1 =>
 Qo (Qlss x1 (.int .i64 1)) fun x2 =>
 Qsp x2 false h (fun k3 =>
 Qo (Qls a0) fun x6 =>
 Qo (Qgtr x6 (.int .i64 256)) fun x7 =>
 k3 x7 h) fun x4 h5 =>
 Qo (Qpk x2 (some (.bool true)) (some x4)) fun x8 =>
 q34_0p1 cf R x8 h5 a0
theorem qe34_0 : q34_0 = t34_0 := by
  unfold q34_0 q34_0p1
  try simp only [QE]
  try rfl
noncomputable def bt34 (cf : CallF) (R : Rec) : Rec := fun i l h =>
 br1 i 0 l (fun a0 => t34_0 cf R a0 h) <|
 .fail
noncomputable def b34 (cf : CallF) (R : Rec) : Rec := fun i l h =>
 brQ1 i 0 l (fun a0 => q34_0 cf R a0 h) <|
 .fail
theorem be34 : b34 = bt34 := by
  unfold b34 bt34
  simp only [qe34_0, brQ1_eq]
theorem r34 {T : Tab} {cf : CallF} (hc : leC cf (CL T)) (n : Nat) : leR (recN (b34 cf) n) (J34 T) := be34 ▸ recN_le (fun R hR i l h => by
  unfold bt34
  refine le_br1 (J := fun i l => J34 T i l h) (fun _ a0 => le_e (fun hn => e34_0 rfl hn) ((m34 hc hR) a0 h)) ?_
  exact le_fail _) n
-- 35
theorem m35 {cf cf' : CallF} {R R' : Rec} (hc : ∀ f l h, le (cf f l h) (cf' f l h)) (hR : ∀ i l h, le (R i l h) (R' i l h)) : (∀ (a0 : IV) (h : H), le (t35_0 cf R a0 h) (t35_0 cf' R' a0 h)) := by
  intros
  unfold t35_0
  with_reducible repeat' first
    | refine le_obind fun _ => ?_
    | refine le_callP ?_ (fun _ _ => ?_) (fun _ _ => ?_)
    | refine le_condK ?_ ?_
    | exact hR _ _ _
    | refine le_obind2 fun _ _ => ?_
    | refine le_obindH fun _ => ?_
    | refine le_spanK (fun _ _ _ => ?_) (fun _ _ => ?_)
    | exact hc _ _ _
    | refine le_bif ?_ ?_
    | refine le_guardK ?_ ?_ ?_
    | refine le_mapK fun _ _ => ?_
    | refine le_panK fun _ _ => ?_
    | refine le_funK fun _ _ => ?_
    | exact le_refl _
    | apply_assumption
noncomputable def q35_0 (cf : CallF) (R : Rec) (a0 : IV) (h : H) : CRes :=
 Qo (eqSl .eql a0 .nilSlice) fun x1 =>
 Qif x1
 (.ok .nilSlice h)
 (Qo2 (Qbsl false 1 [(.str ⟨0, 0⟩)] 0 [] h) fun x2 h3 =>
 Qo2 (appK 1 16 h3 x2 a0) fun x4 h5 =>
 .ok x4 h5)
theorem qe35_0 : q35_0 = t35_0 := by
  unfold q35_0
  try simp only [QE]
  try rfl
noncomputable def bt35 (cf : CallF) (R : Rec) : Rec := fun i l h =>
 br1 i 0 l (fun a0 => t35_0 cf R a0 h) <|
 .fail
noncomputable def b35 (cf : CallF) (R : Rec) : Rec := fun i l h =>
 brQ1 i 0 l (fun a0 => q35_0 cf R a0 h) <|
 .fail
theorem be35 : b35 = bt35 := by
  unfold b35 bt35
  simp only [qe35_0, brQ1_eq]
theorem r35 {T : Tab} {cf : CallF} (hc : leC cf (CL T)) (n : Nat) : leR (recN (b35 cf) n) (J35 T) := be35 ▸ recN_le (fun R hR i l h => by
  unfold bt35
  refine le_br1 (J := fun i l => J35 T i l h) (fun _ a0 => le_e (fun hn => e35_0 rfl hn) ((m35 hc hR) a0 h)) ?_
  exact le_fail _) n
-- 36
theorem m36 {cf cf' : CallF} {R R' : Rec} (hc : ∀ f l h, le (cf f l h) (cf' f l h)) (hR : ∀ i l h, le (R i l h) (R' i l h)) : (∀ (a0 a1 : IV) (h : H), le (t36_0 cf R a0 a1 h) (t36_0 cf' R' a0 a1 h)) := by
  intros
  unfold t36_0
  with_reducible repeat' first
    | refine le_obind fun _ => ?_
    | refine le_callP ?_ (fun _ _ => ?_) (fun _ _ => ?_)
    | refine le_condK ?_ ?_
    | exact hR _ _ _
    | refine le_obind2 fun _ _ => ?_
    | refine le_obindH fun _ => ?_
    | refine le_spanK (fun _ _ _ => ?_) (fun _ _ => ?_)
    | exact hc _ _ _
    | refine le_bif ?_ ?_
    | refine le_guardK ?_ ?_ ?_
    | refine le_mapK fun _ _ => ?_
    | refine le_panK fun _ _ => ?_
    | refine le_funK fun _ _ => ?_
    | exact le_refl _
    | apply_assumption
noncomputable def q36_0p2 (cf : CallF) (R : Rec) (h16 : H) (x17 : IV) (h4 : H) (x3 : IV) (x15 : IV) : CRes :=
 Qo (Ql0 h16 x17) fun x18 =>
 Qo (Ql0 h4 x17) fun x19 =>
 bif IV.beq x19 x18 then
 Qo (Qfad 1 x3) fun x20 =>
 Qo (Ql0 h16 x20) fun x21 =>
 Qo (Ql0 h4 x20) fun x22 =>
 bif IV.beq x22 x21 then
 Qc (cf 45 [x18, x21] h16) (fun v23 h24 =>
 .pan v23 h24) fun x25 h26 =>
 Qo2 (Qbsl true 1 [(.int .i64 0)] 2 [(0, x15), (1, x25)] h26) fun x27 h28 =>
 Qc (cf 44 [x27] h28) (fun v29 h30 =>
 .pan v29 h30) fun x31 h32 =>
 .ok x31 h32
 else .fail
 else .fail
noncomputable def q36_0p1 (cf : CallF) (R : Rec) (x3 : IV) (h4 : H) (x6 : IV) (x1 : IV) : CRes :=
 Qo (Qfad 0 x3) fun x7 =>
 Qo (Ql0 h4 x7) fun x8 =>
 Qc (cf 45 [x6, x8] h4) (fun v9 h10 =>
 Qo (Qfad 1 x1) fun x11 =>
 Qo (Ql0 h4 x11) fun x12 =>
 Qo (Qfad 1 x3) fun x13 =>
 Qo (Ql0 h4 x13) fun x14 =>
 .pan v9 h10) fun x15 h16 =>
 Qo (Qfad 1 x1) fun x17 =>
 q36_0p2 cf R h16 x17 h4 x3 x15
noncomputable def q36_0 (cf : CallF) (R : Rec) (a0 : IV) (a1 : IV) (h : H) : CRes :=
 Qo2 (QnI h (Qcells a0)) fun x1 h2 =>
 Qo2 (QnI h2 (Qcells a1)) fun x3 h4 =>
 Qo (Qfad 0 x1) fun x5 =>
 Qo (Ql0 h4 x5) fun x6 =>
 q36_0p1 cf R x3 h4 x6 x1
theorem qe36_0 : q36_0 = t36_0 := by
  unfold q36_0 q36_0p1 q36_0p2
  try simp only [QE]
  try rfl
noncomputable def bt36 (cf : CallF) (R : Rec) : Rec := fun i l h =>
 br2 i 0 l (fun a0 a1 => t36_0 cf R a0 a1 h) <|
 .fail
noncomputable def b36 (cf : CallF) (R : Rec) : Rec := fun i l h =>
 brQ2 i 0 l (fun a0 a1 => q36_0 cf R a0 a1 h) <|
 .fail
theorem be36 : b36 = bt36 := by
  unfold b36 bt36
  simp only [qe36_0, brQ2_eq]
theorem r36 {T : Tab} {cf : CallF} (hc : leC cf (CL T)) (n : Nat) : leR (recN (b36 cf) n) (J36 T) := be36 ▸ recN_le (fun R hR i l h => by
  unfold bt36
  refine le_br2 (J := fun i l => J36 T i l h) (fun _ a0 a1 => le_e (fun hn => e36_0 rfl hn) ((m36 hc hR) a0 a1 h)) ?_
  exact le_fail _) n
-- 37
theorem m37 {cf cf' : CallF} {R R' : Rec} (hc : ∀ f l h, le (cf f l h) (cf' f l h)) (hR : ∀ i l h, le (R i l h) (R' i l h)) : (∀ (a0 : IV) (h : H), le (t37_0 cf R a0 h) (t37_0 cf' R' a0 h)) := by
  intros
  unfold t37_0
  with_reducible repeat' first
    | refine le_obind fun _ => ?_
    | refine le_callP ?_ (fun _ _ => ?_) (fun _ _ => ?_)
    | refine le_condK ?_ ?_
    | exact hR _ _ _
    | refine le_obind2 fun _ _ => ?_
    | refine le_obindH fun _ => ?_
    | refine le_spanK (fun _ _ _ => ?_) (fun _ _ => ?_)
    | exact hc _ _ _
    | refine le_bif ?_ ?_
    | refine le_guardK ?_ ?_ ?_
    | refine le_mapK fun _ _ => ?_
    | refine le_panK fun _ _ => ?_
    | refine le_funK fun _ _ => ?_
    | exact le_refl _
    | apply_assumption
noncomputable def q37_0p1 (cf : CallF) (R : Rec) (x4 : IV) (h : H) (a0 : IV) : CRes :=
 Qif x4
 (Qo2 (convI Tryd.prog h 43 82 a0) fun x5 h6 =>
 Qc (cf 46 [x5] h6) .pan fun x7 h8 =>
 Qo2 (convI Tryd.prog h8 82 43 x7) fun x9 h10 =>
 Qo (Qnil a0) fun x11 =>
 Qo (Qfad 0 x11) fun x12 =>
 QoH (QsA 1 h10 x12 x9) fun h13 =>
 .ok (.tup []) h13)
 (Qo (Qnil a0) fun x14 =>
 Qo (Qfad 0 x14) fun x15 =>
 Qo (Ql0 h x15) fun x16 =>
 Qo (eqP .neq h x16 a0) fun x17 =>
 Qif x17
 (CRes.fail)
 (.ok (.tup []) h))
noncomputable def q37_0 (cf : CallF) (R : Rec) (a0 : IV) (h : H) : CRes :=
 Qo (Qnil a0) fun x1 =>
 Qo (Qfad 0 x1) fun x2 =>
 Qo (Ql0 h x2) fun x3 =>
 Qo (eqP .eql h x3 .nilPtr) fun x4 =>
 q37_0p1 cf R x4 h a0
theorem qe37_0 : q37_0 = t37_0 := by
  unfold q37_0 q37_0p1
  try simp only [QE]
  try rfl
noncomputable def bt37 (cf : CallF) (R : Rec) : Rec := fun i l h =>
 br1 i 0 l (fun a0 => t37_0 cf R a0 h) <|
 .fail
noncomputable def b37 (cf : CallF) (R : Rec) : Rec := fun i l h =>
 brQ1 i 0 l (fun a0 => q37_0 cf R a0 h) <|
 .fail
theorem be37 : b37 = bt37 := by
  unfold b37 bt37
  simp only [qe37_0, brQ1_eq]
theorem r37 {T : Tab} {cf : CallF} (hc : leC cf (CL T)) (n : Nat) : leR (recN (b37 cf) n) (J37 T) := be37 ▸ recN_le (fun R hR i l h => by
  unfold bt37
  refine le_br1 (J := fun i l => J37 T i l h) (fun _ a0 => le_e (fun hn => e37_0 rfl hn) ((m37 hc hR) a0 h)) ?_
  exact le_fail _) n
-- 39
theorem m39 {cf cf' : CallF} {R R' : Rec} (hc : ∀ f l h, le (cf f l h) (cf' f l h)) (hR : ∀ i l h, le (R i l h) (R' i l h)) :
  (∀ (a0 a1 a2 a3 : IV) (h : H), le (t39_0 cf R a0 a1 a2 a3 h) (t39_0 cf' R' a0 a1 a2 a3 h)) ∧
  (∀ (a0 a1 a2 a3 : IV) (h : H), le (t39_1 cf R a0 a1 a2 a3 h) (t39_1 cf' R' a0 a1 a2 a3 h)) ∧
  (∀ (a0 a1 a2 a3 a9 a10 : IV) (h : H), le (t39_3 cf R a0 a1 a2 a3 a9 a10 h) (t39_3 cf' R' a0 a1 a2 a3 a9 a10 h)) ∧
  (∀ (a0 a9 a10 : IV) (h : H), le (t39_2 cf R a0 a9 a10 h) (t39_2 cf' R' a0 a9 a10 h)) := by
  refine ⟨?_, ?_, ?_, ?_⟩
  all_goals intros
  all_goals first | unfold t39_0 | unfold t39_1 | unfold t39_3 | unfold t39_2
  all_goals
  with_reducible repeat' first
    | refine le_obind fun _ => ?_
    | refine le_callP ?_ (fun _ _ => ?_) (fun _ _ => ?_)
    | refine le_condK ?_ ?_
    | exact hR _ _ _
    | refine le_obind2 fun _ _ => ?_
    | refine le_obindH fun _ => ?_
    | refine le_spanK (fun _ _ _ => ?_) (fun _ _ => ?_)
    | exact hc _ _ _
    | refine le_bif ?_ ?_
    | refine le_guardK ?_ ?_ ?_
    | refine le_mapK fun _ _ => ?_
    | refine le_panK fun _ _ => ?_
    | refine le_funK fun _ _ => ?_
    | exact le_refl _
    | apply_assumption
noncomputable def q39_0 (cf : CallF) (R : Rec) (a0 : IV) (a1 : IV) (a2 : IV) (a3 : IV) (h : H) : CRes :=
 Qo (Qeql a3 (.int .i64 0)) fun x1 =>
 Qif x1
 (.ok .nilSlice h)
 (Qo (Qse a1 (.str ⟨0, 0⟩)) fun x2 =>
 Qif x2
 (Qc (cf 48 [a0, a3] h) .pan fun x3 h4 =>
 .ok x3 h4)
 (Qo (Qlss a3 (.int .i64 0)) fun x5 =>
 Qif x5
 (Qc (cf 49 [a0, a1] h) .pan fun x6 h7 =>
 Qo (Qadd x6 (.int .i64 1)) fun x8 =>
 R 1 [a0, a1, a2, x8] h7)
 (R 1 [a0, a1, a2, a3] h)))
theorem qe39_0 : q39_0 = t39_0 := by
  unfold q39_0
  try simp only [QE]
  try rfl
noncomputable def q39_1 (cf : CallF) (R : Rec) (a0 : IV) (a1 : IV) (a2 : IV) (a3 : IV) (h : H) : CRes :=
 Qo (Qls a0) fun x9 =>
 Qo (Qadd x9 (.int .i64 1)) fun x10 =>
 Qo (minI a3 x10) fun x11 =>
 Qo2 (mksK 1 16 [(.str ⟨0, 0⟩)] h x11 x11) fun x12 h13 =>
 Qo (Qsub x11 (.int .i64 1)) fun x14 =>
 R 3 [a0, a1, a2, x14, x12, (.int .i64 0)] h13
theorem qe39_1 : q39_1 = t39_1 := by
  unfold q39_1
  try simp only [QE]
  try rfl
noncomputable def q39_3p1 (cf : CallF) (R : Rec) (a1 : IV) (x16 : IV) (a0 : IV) (a10 : IV) (a2 : IV) (a3 : IV) (a9 : IV) (h22 : H) : CRes :=
 Qo (Qls a1) fun x23 =>
 Qo (Qadd x16 x23) fun x24 =>
 Qo (slcStr a0 (some x24) none) fun x25 =>
 Qo (Qadd a10 (.int .i64 1)) fun x26 =>
 R 3 [x25, a1, a2, a3, a9, x26] h22
noncomputable def q39_3 (cf : CallF) (R : Rec) (a0 : IV) (a1 : IV) (a2 : IV) (a3 : IV) (a9 : IV) (a10 : IV) (h : H) : CRes :=
 Qo (Qlss a10 a3) fun x15 =>
 Qif x15
 (Qc (cf 50 [a0, a1] h) .pan fun x16 h17 =>
 Qo (Qlss x16 (.int .i64 0)) fun x18 =>
 Qif x18
 (R 2 [a0, a9, a10] h17)
 (Qo (Qadd x16 a2) fun x19 =>
 Qo (slcStr a0 none (some x19)) fun x20 =>
 Qo (Qix 1 a9 a10) fun x21 =>
 QoH (QsA 1 h17 x21 x20) fun h22 =>
 q39_3p1 cf R a1 x16 a0 a10 a2 a3 a9 h22))
 (R 2 [a0, a9, a10] h)
theorem qe39_3 : q39_3 = t39_3 := by
  unfold q39_3 q39_3p1
  try simp only [QE]
  try rfl
noncomputable def q39_2 (cf : CallF) (R : Rec) (a0 : IV) (a9 : IV) (a10 : IV) (h : H) : CRes :=
 Qo (Qix 1 a9 a10) fun x27 =>
 QoH (QsA 1 h x27 a0) fun h28 =>
 Qo (Qadd a10 (.int .i64 1)) fun x29 =>
 Qo (slcS 1 a9 none (some x29) none) fun x30 =>
 .ok x30 h28
theorem qe39_2 : q39_2 = t39_2 := by
  unfold q39_2
  try simp only [QE]
  try rfl
noncomputable def bt39 (cf : CallF) (R : Rec) : Rec := fun i l h =>
 br4 i 0 l (fun a0 a1 a2 a3 => t39_0 cf R a0 a1 a2 a3 h) <|
 br4 i 1 l (fun a0 a1 a2 a3 => t39_1 cf R a0 a1 a2 a3 h) <|
 br6 i 3 l (fun a0 a1 a2 a3 a9 a10 => t39_3 cf R a0 a1 a2 a3 a9 a10 h) <|
 br3 i 2 l (fun a0 a9 a10 => t39_2 cf R a0 a9 a10 h) <|
 .fail
noncomputable def b39 (cf : CallF) (R : Rec) : Rec := fun i l h =>
 brQ4 i 0 l (fun a0 a1 a2 a3 => q39_0 cf R a0 a1 a2 a3 h) <|
 brQ4 i 1 l (fun a0 a1 a2 a3 => q39_1 cf R a0 a1 a2 a3 h) <|
 brQ6 i 3 l (fun a0 a1 a2 a3 a9 a10 => q39_3 cf R a0 a1 a2 a3 a9 a10 h) <|
 brQ3 i 2 l (fun a0 a9 a10 => q39_2 cf R a0 a9 a10 h) <|
 .fail
theorem be39 : b39 = bt39 := by
  unfold b39 bt39
  simp only [qe39_0, qe39_1, qe39_3, qe39_2, brQ3_eq, brQ4_eq, brQ6_eq]
theorem r39 {T : Tab} {cf : CallF} (hc : leC cf (CL T)) (n : Nat) : leR (recN (b39 cf) n) (J39 T) := be39 ▸ recN_le (fun R hR i l h => by
  unfold bt39
  refine le_br4 (J := fun i l => J39 T i l h) (fun _ a0 a1 a2 a3 => le_e (fun hn => e39_0 rfl hn) ((m39 hc hR).1 a0 a1 a2 a3 h)) ?_
  refine le_br4 (J := fun i l => J39 T i l h) (fun _ a0 a1 a2 a3 => le_e (fun hn => e39_1 rfl hn) ((m39 hc hR).2.1 a0 a1 a2 a3 h)) ?_
  refine le_br6 (J := fun i l => J39 T i l h) (fun _ a0 a1 a2 a3 a9 a10 => le_e (fun hn => e39_3 rfl hn) ((m39 hc hR).2.2.1 a0 a1 a2 a3 a9 a10 h)) ?_
  refine le_br3 (J := fun i l => J39 T i l h) (fun _ a0 a9 a10 => le_e (fun hn => e39_2 rfl hn) ((m39 hc hR).2.2.2 a0 a9 a10 h)) ?_
  exact le_fail _) n
-- 40
theorem m40 {cf cf' : CallF} {R R' : Rec} (hc : ∀ f l h, le (cf f l h) (cf' f l h)) (hR : ∀ i l h, le (R i l h) (R' i l h)) : (∀ (a0 a1 : IV) (h : H), le (t40_0 cf R a0 a1 h) (t40_0 cf' R' a0 a1 h)) := by
  intros
  unfold t40_0
  with_reducible repeat' first
    | refine le_obind fun _ => ?_
    | refine le_callP ?_ (fun _ _ => ?_) (fun _ _ => ?_)
    | refine le_condK ?_ ?_
    | exact hR _ _ _
    | refine le_obind2 fun _ _ => ?_
    | refine le_obindH fun _ => ?_
    | refine le_spanK (fun _ _ _ => ?_) (fun _ _ => ?_)
    | exact hc _ _ _
    | refine le_bif ?_ ?_
    | refine le_guardK ?_ ?_ ?_
    | refine le_mapK fun _ _ => ?_
    | refine le_panK fun _ _ => ?_
    | refine le_funK fun _ _ => ?_
    | exact le_refl _
    | apply_assumption
noncomputable def q40_0 (cf : CallF) (R : Rec) (a0 : IV) (a1 : IV) (h : H) : CRes :=
 Qc (cf 51 [a0, a1] h) .pan fun x1 h2 =>
 Qo (Qext x1 0) fun x3 =>
 Qo (Qext x1 1) fun x4 =>
 Qo (Qext x1 2) fun x5 =>
 .ok (.tup [x3, x4, x5]) h2
theorem qe40_0 : q40_0 = t40_0 := by
  unfold q40_0
  try simp only [QE]
  try rfl
noncomputable def bt40 (cf : CallF) (R : Rec) : Rec := fun i l h =>
 br2 i 0 l (fun a0 a1 => t40_0 cf R a0 a1 h) <|
 .fail
noncomputable def b40 (cf : CallF) (R : Rec) : Rec := fun i l h =>
 brQ2 i 0 l (fun a0 a1 => q40_0 cf R a0 a1 h) <|
 .fail
theorem be40 : b40 = bt40 := by
  unfold b40 bt40
  simp only [qe40_0, brQ2_eq]
theorem r40 {T : Tab} {cf : CallF} (hc : leC cf (CL T)) (n : Nat) : leR (recN (b40 cf) n) (J40 T) := be40 ▸ recN_le (fun R hR i l h => by
  unfold bt40
  refine le_br2 (J := fun i l => J40 T i l h) (fun _ a0 a1 => le_e (fun hn => e40_0 rfl hn) ((m40 hc hR) a0 a1 h)) ?_
  exact le_fail _) n
-- 41
theorem m41 {cf cf' : CallF} {R R' : Rec} (hc : ∀ f l h, le (cf f l h) (cf' f l h)) (hR : ∀ i l h, le (R i l h) (R' i l h)) : (∀ (a0 : IV) (h : H), le (t41_0 cf R a0 h) (t41_0 cf' R' a0 h)) := by
  intros
  unfold t41_0
  with_reducible repeat' first
    | refine le_obind fun _ => ?_
    | refine le_callP ?_ (fun _ _ => ?_) (fun _ _ => ?_)
    | refine le_condK ?_ ?_
    | exact hR _ _ _
    | refine le_obind2 fun _ _ => ?_
    | refine le_obindH fun _ => ?_
    | refine le_spanK (fun _ _ _ => ?_) (fun _ _ => ?_)
    | exact hc _ _ _
    | refine le_bif ?_ ?_
    | refine le_guardK ?_ ?_ ?_
    | refine le_mapK fun _ _ => ?_
    | refine le_panK fun _ _ => ?_
    | refine le_funK fun _ _ => ?_
    | exact le_refl _
    | apply_assumption
noncomputable def q41_0p1 (cf : CallF) (R : Rec) (x5 : IV) (a0 : IV) (x4 : IV) (h2 : H) (x3 : IV) : CRes :=
 Qif x5
 (Qc (cf 53 [(.str ⟨4, 1768911937⟩), a0, (.int .i64 0), (.int .i64 0), x4] h2) .pan fun x6 h7 =>
 .ok (.tup [x3, x6]) h7)
 (.ok (.tup [x3, .nilIface]) h2)
noncomputable def q41_0 (cf : CallF) (R : Rec) (a0 : IV) (h : H) : CRes :=
 Qc (cf 52 [a0] h) .pan fun x1 h2 =>
 Qo (Qext x1 0) fun x3 =>
 Qo (Qext x1 1) fun x4 =>
 Qo (eqIf .neq true x4 .nilIface) fun x5 =>
 q41_0p1 cf R x5 a0 x4 h2 x3
theorem qe41_0 : q41_0 = t41_0 := by
  unfold q41_0 q41_0p1
  try simp only [QE]
  try rfl
noncomputable def bt41 (cf : CallF) (R : Rec) : Rec := fun i l h =>
 br1 i 0 l (fun a0 => t41_0 cf R a0 h) <|
 .fail
noncomputable def b41 (cf : CallF) (R : Rec) : Rec := fun i l h =>
 brQ1 i 0 l (fun a0 => q41_0 cf R a0 h) <|
 .fail
theorem be41 : b41 = bt41 := by
  unfold b41 bt41
  simp only [qe41_0, brQ1_eq]
theorem r41 {T : Tab} {cf : CallF} (hc : leC cf (CL T)) (n : Nat) : leR (recN (b41 cf) n) (J41 T) := be41 ▸ recN_le (fun R hR i l h => by
  unfold bt41
  refine le_br1 (J := fun i l => J41 T i l h) (fun _ a0 => le_e (fun hn => e41_0 rfl hn) ((m41 hc hR) a0 h)) ?_
  exact le_fail _) n
-- 42
theorem m42 {cf cf' : CallF} {R R' : Rec} (hc : ∀ f l h, le (cf f l h) (cf' f l h)) (hR : ∀ i l h, le (R i l h) (R' i l h)) : (∀ (a0 a1 : IV) (h : H), le (t42_0 cf R a0 a1 h) (t42_0 cf' R' a0 a1 h)) := by
  intros
  unfold t42_0
  with_reducible repeat' first
    | refine le_obind fun _ => ?_
    | refine le_callP ?_ (fun _ _ => ?_) (fun _ _ => ?_)
    | refine le_condK ?_ ?_
    | exact hR _ _ _
    | refine le_obind2 fun _ _ => ?_
    | refine le_obindH fun _ => ?_
    | refine le_spanK (fun _ _ _ => ?_) (fun _ _ => ?_)
    | exact hc _ _ _
    | refine le_bif ?_ ?_
    | refine le_guardK ?_ ?_ ?_
    | refine le_mapK fun _ _ => ?_
    | refine le_panK fun _ _ => ?_
    | refine le_funK fun _ _ => ?_
    | exact le_refl _
    | apply_assumption
noncomputable def q42_0 (cf : CallF) (R : Rec) (a0 : IV) (a1 : IV) (h : H) : CRes :=
 Qc (cf 54 [a0, a1, (.bool true)] h) .pan fun x1 h2 =>
 .ok x1 h2
theorem qe42_0 : q42_0 = t42_0 := by
  unfold q42_0
  try simp only [QE]
  try rfl
noncomputable def bt42 (cf : CallF) (R : Rec) : Rec := fun i l h =>
 br2 i 0 l (fun a0 a1 => t42_0 cf R a0 a1 h) <|
 .fail
noncomputable def b42 (cf : CallF) (R : Rec) : Rec := fun i l h =>
 brQ2 i 0 l (fun a0 a1 => q42_0 cf R a0 a1 h) <|
 .fail
theorem be42 : b42 = bt42 := by
  unfold b42 bt42
  simp only [qe42_0, brQ2_eq]
theorem r42 {T : Tab} {cf : CallF} (hc : leC cf (CL T)) (n : Nat) : leR (recN (b42 cf) n) (J42 T) := be42 ▸ recN_le (fun R hR i l h => by
  unfold bt42
  refine le_br2 (J := fun i l => J42 T i l h) (fun _ a0 a1 => le_e (fun hn => e42_0 rfl hn) ((m42 hc hR) a0 a1 h)) ?_
  exact le_fail _) n
-- 43
theorem m43 {cf cf' : CallF} {R R' : Rec} (hc : ∀ f l h, le (cf f l h) (cf' f l h)) (hR : ∀ i l h, le (R i l h) (R' i l h)) : (∀ (a0 a1 : IV) (h : H), le (t43_0 cf R a0 a1 h) (t43_0 cf' R' a0 a1 h)) := by
  intros
  unfold t43_0
  with_reducible repeat' first
    | refine le_obind fun _ => ?_
    | refine le_callP ?_ (fun _ _ => ?_) (fun _ _ => ?_)
    | refine le_condK ?_ ?_
    | exact hR _ _ _
    | refine le_obind2 fun _ _ => ?_
    | refine le_obindH fun _ => ?_
    | refine le_spanK (fun _ _ _ => ?_) (fun _ _ => ?_)
    | exact hc _ _ _
    | refine le_bif ?_ ?_
    | refine le_guardK ?_ ?_ ?_
    | refine le_mapK fun _ _ => ?_
    | refine le_panK fun _ _ => ?_
    | refine le_funK fun _ _ => ?_
    | exact le_refl _
    | apply_assumption
noncomputable def q43_0p2 (cf : CallF) (R : Rec) (h31 : H) (x30 : IV) (x28 : IV) (x29 : IV) (a0 : IV) (a1 : IV) : CRes :=
 QoH (QsA 256 h31 x30 x28) fun h32 =>
 Qif x29
 (Qc (cf 59 [a0, x30] h32) .pan fun x33 h34 =>
 Qc (cf 58 [x33, x30] h34) .pan fun x35 h36 =>
 .ok x35 h36)
 (Qc (cf 61 [a0, a1] h32) .pan fun x37 h38 =>
 Qc (cf 60 [x37, a1] h38) .pan fun x39 h40 =>
 .ok x39 h40)
noncomputable def q43_0p1 (cf : CallF) (R : Rec) (x14 : IV) (a1 : IV) (a0 : IV) (h11 : H) : CRes :=
 Qif x14
 (Qo (Qis a1 (.int .i64 0)) fun x15 =>
 Qc (cf 56 [a0, x15] h11) (fun v16 h17 =>
 Qo (Qis a1 (.int .i64 0)) fun x18 =>
 .pan v16 h17) fun x19 h20 =>
 Qo (Qis a1 (.int .i64 0)) fun x21 =>
 Qc (cf 55 [x19, x21] h20) (fun v22 h23 =>
 .pan v22 h23) fun x24 h25 =>
 .ok x24 h25)
 (Qc (cf 57 [a1] h11) .pan fun x26 h27 =>
 Qo (Qext x26 0) fun x28 =>
 Qo (Qext x26 1) fun x29 =>
 Qo2 (QnI h27 z6) fun x30 h31 =>
 q43_0p2 cf R h31 x30 x28 x29 a0 a1)
noncomputable def q43_0 (cf : CallF) (R : Rec) (a0 : IV) (a1 : IV) (h : H) : CRes :=
 Qo (Qse a0 (.str ⟨0, 0⟩)) fun x1 =>
 Qsp x1 false h (fun k2 =>
 Qo (Qse a1 (.str ⟨0, 0⟩)) fun x5 =>
 k2 x5 h) fun x3 h4 =>
 Qo (Qpk x1 (some (.bool true)) (some x3)) fun x6 =>
 Qif x6
 (.ok a0 h4)
 (Qo (Qls a1) fun x7 =>
 Qo (Qeql x7 (.int .i64 1)) fun x8 =>
 Qsp x8 true h4 (fun k9 =>
 Qo (Qis a1 (.int .i64 0)) fun x12 =>
 Qo (Qlss x12 (.int .u8 128)) fun x13 =>
 k9 x13 h4) fun x10 h11 =>
 Qo (Qpk x8 (some x10) (some (.bool false))) fun x14 =>
 q43_0p1 cf R x14 a1 a0 h11)
theorem qe43_0 : q43_0 = t43_0 := by
  unfold q43_0 q43_0p1 q43_0p2
  try simp only [QE]
  try rfl
noncomputable def bt43 (cf : CallF) (R : Rec) : Rec := fun i l h =>
 br2 i 0 l (fun a0 a1 => t43_0 cf R a0 a1 h) <|
 .fail
noncomputable def b43 (cf : CallF) (R : Rec) : Rec := fun i l h =>
 brQ2 i 0 l (fun a0 a1 => q43_0 cf R a0 a1 h) <|
 .fail
theorem be43 : b43 = bt43 := by
  unfold b43 bt43
  simp only [qe43_0, brQ2_eq]
theorem r43 {T : Tab} {cf : CallF} (hc : leC cf (CL T)) (n : Nat) : leR (recN (b43 cf) n) (J43 T) := be43 ▸ recN_le (fun R hR i l h => by
  unfold bt43
  refine le_br2 (J := fun i l => J43 T i l h) (fun _ a0 a1 => le_e (fun hn => e43_0 rfl hn) ((m43 hc hR) a0 a1 h)) ?_
  exact le_fail _) n
-- 44
theorem m44 {cf cf' : CallF} {R R' : Rec} (hc : ∀ f l h, le (cf f l h) (cf' f l h)) (hR : ∀ i l h, le (R i l h) (R' i l h)) :
  (∀ (a0 : IV) (h : H), le (t44_0 cf R a0 h) (t44_0 cf' R' a0 h)) ∧
  (∀ (a3 a6 a7 a8 : IV) (h : H), le (t44_1 cf R a3 a6 a7 a8 h) (t44_1 cf' R' a3 a6 a7 a8 h)) := by
  refine ⟨?_, ?_⟩
  all_goals intros
  all_goals first | unfold t44_0 | unfold t44_1
  all_goals
  with_reducible repeat' first
    | refine le_obind fun _ => ?_
    | refine le_callP ?_ (fun _ _ => ?_) (fun _ _ => ?_)
    | refine le_condK ?_ ?_
    | exact hR _ _ _
    | refine le_obind2 fun _ _ => ?_
    | refine le_obindH fun _ => ?_
    | refine le_spanK (fun _ _ _ => ?_) (fun _ _ => ?_)
    | exact hc _ _ _
    | refine le_bif ?_ ?_
    | refine le_guardK ?_ ?_ ?_
    | refine le_mapK fun _ _ => ?_
    | refine le_panK fun _ _ => ?_
    | refine le_funK fun _ _ => ?_
    | exact le_refl _
    | apply_assumption
noncomputable def q44_0 (cf : CallF) (R : Rec) (a0 : IV) (h : H) : CRes :=
 Qo (Qle a0) fun x1 =>
 R 1 [(.int .i64 0), a0, x1, (.int .i64 0)] h
theorem qe44_0 : q44_0 = t44_0 := by
  unfold q44_0
  try simp only [QE]
  try rfl
noncomputable def q44_1 (cf : CallF) (R : Rec) (a3 : IV) (a6 : IV) (a7 : IV) (a8 : IV) (h : H) : CRes :=
 Qo (Qlss a8 a7) fun x2 =>
 Qif x2
 (Qo (Qix 1 a6 a8) fun x3 =>
 Qo (Ql0 h x3) fun x4 =>
 Qo (Qneq x4 a3) fun x5 =>
 Qif x5
 (.ok x4 h)
 (Qo (Qadd a8 (.int .i64 1)) fun x6 =>
 R 1 [a3, a6, a7, x6] h))
 (.ok a3 h)
theorem qe44_1 : q44_1 = t44_1 := by
  unfold q44_1
  try simp only [QE]
  try rfl
noncomputable def bt44 (cf : CallF) (R : Rec) : Rec := fun i l h =>
 br1 i 0 l (fun a0 => t44_0 cf R a0 h) <|
 br4 i 1 l (fun a3 a6 a7 a8 => t44_1 cf R a3 a6 a7 a8 h) <|
 .fail
noncomputable def b44 (cf : CallF) (R : Rec) : Rec := fun i l h =>
 brQ1 i 0 l (fun a0 => q44_0 cf R a0 h) <|
 brQ4 i 1 l (fun a3 a6 a7 a8 => q44_1 cf R a3 a6 a7 a8 h) <|
 .fail
theorem be44 : b44 = bt44 := by
  unfold b44 bt44
  simp only [qe44_0, qe44_1, brQ1_eq, brQ4_eq]
theorem r44 {T : Tab} {cf : CallF} (hc : leC cf (CL T)) (n : Nat) : leR (recN (b44 cf) n) (J44 T) := be44 ▸ recN_le (fun R hR i l h => by
  unfold bt44
  refine le_br1 (J := fun i l => J44 T i l h) (fun _ a0 => le_e (fun hn => e44_0 rfl hn) ((m44 hc hR).1 a0 h)) ?_
  refine le_br4 (J := fun i l => J44 T i l h) (fun _ a3 a6 a7 a8 => le_e (fun hn => e44_1 rfl hn) ((m44 hc hR).2 a3 a6 a7 a8 h)) ?_
  exact le_fail _) n
-- 45
theorem m45 {cf cf' : CallF} {R R' : Rec} (hc : ∀ f l h, le (cf f l h) (cf' f l h)) (hR : ∀ i l h, le (R i l h) (R' i l h)) : (∀ (a0 a1 : IV) (h : H), le (t45_0 cf R a0 a1 h) (t45_0 cf' R' a0 a1 h)) := by
  intros
  unfold t45_0
  with_reducible repeat' first
    | refine le_obind fun _ => ?_
    | refine le_callP ?_ (fun _ _ => ?_) (fun _ _ => ?_)
    | refine le_condK ?_ ?_
    | exact hR _ _ _
    | refine le_obind2 fun _ _ => ?_
    | refine le_obindH fun _ => ?_
    | refine le_spanK (fun _ _ _ => ?_) (fun _ _ => ?_)
    | exact hc _ _ _
    | refine le_bif ?_ ?_
    | refine le_guardK ?_ ?_ ?_
    | refine le_mapK fun _ _ => ?_
    | refine le_panK fun _ _ => ?_
    | refine le_funK fun _ _ => ?_
    | exact le_refl _
    | apply_assumption
noncomputable def q45_0 (cf : CallF) (R : Rec) (a0 : IV) (a1 : IV) (h : H) : CRes :=
 Qc (cf 62 [a0] h) .pan fun x1 h2 =>
 Qc (cf 62 [a1] h2) .pan fun x3 h4 =>
 Qif x1
 (Qif x3
 (.ok (.int .i64 0) h4)
 (.ok (.int .i64 (-1)) h4))
 (Qif x3
 (.ok (.int .i64 1) h4)
 (Qo (Qlss a0 a1) fun x5 =>
 Qif x5
 (.ok (.int .i64 (-1)) h4)
 (Qo (Qgtr a0 a1) fun x6 =>
 Qif x6
 (.ok (.int .i64 1) h4)
 (.ok (.int .i64 0) h4))))
theorem qe45_0 : q45_0 = t45_0 := by
  unfold q45_0
  try simp only [QE]
  try rfl
noncomputable def bt45 (cf : CallF) (R : Rec) : Rec := fun i l h =>
 br2 i 0 l (fun a0 a1 => t45_0 cf R a0 a1 h) <|
 .fail
noncomputable def b45 (cf : CallF) (R : Rec) : Rec := fun i l h =>
 brQ2 i 0 l (fun a0 a1 => q45_0 cf R a0 a1 h) <|
 .fail
theorem be45 : b45 = bt45 := by
  unfold b45 bt45
  simp only [qe45_0, brQ2_eq]
theorem r45 {T : Tab} {cf : CallF} (hc : leC cf (CL T)) (n : Nat) : leR (recN (b45 cf) n) (J45 T) := be45 ▸ recN_le (fun R hR i l h => by
  unfold bt45
  refine le_br2 (J := fun i l => J45 T i l h) (fun _ a0 a1 => le_e (fun hn => e45_0 rfl hn) ((m45 hc hR) a0 a1 h)) ?_
  exact le_fail _) n
-- 50
theorem m50 {cf cf' : CallF} {R R' : Rec} (hc : ∀ f l h, le (cf f l h) (cf' f l h)) (hR : ∀ i l h, le (R i l h) (R' i l h)) : (∀ (a0 a1 : IV) (h : H), le (t50_0 cf R a0 a1 h) (t50_0 cf' R' a0 a1 h)) := by
  intros
  unfold t50_0
  with_reducible repeat' first
    | refine le_obind fun _ => ?_
    | refine le_callP ?_ (fun _ _ => ?_) (fun _ _ => ?_)
    | refine le_condK ?_ ?_
    | exact hR _ _ _
    | refine le_obind2 fun _ _ => ?_
    | refine le_obindH fun _ => ?_
    | refine le_spanK (fun _ _ _ => ?_) (fun _ _ => ?_)
    | exact hc _ _ _
    | refine le_bif ?_ ?_
    | refine le_guardK ?_ ?_ ?_
    | refine le_mapK fun _ _ => ?_
    | refine le_panK fun _ _ => ?_
    | refine le_funK fun _ _ => ?_
    | exact le_refl _
    | apply_assumption
noncomputable def q50_0 (cf : CallF) (R : Rec) (a0 : IV) (a1 : IV) (h : H) : CRes :=
 Qc (cf 70 [a0, a1] h) .pan fun x1 h2 =>
 .ok x1 h2
theorem qe50_0 : q50_0 = t50_0 := by
  unfold q50_0
  try simp only [QE]
  try rfl
noncomputable def bt50 (cf : CallF) (R : Rec) : Rec := fun i l h =>
 br2 i 0 l (fun a0 a1 => t50_0 cf R a0 a1 h) <|
 .fail
noncomputable def b50 (cf : CallF) (R : Rec) : Rec := fun i l h =>
 brQ2 i 0 l (fun a0 a1 => q50_0 cf R a0 a1 h) <|
 .fail
theorem be50 : b50 = bt50 := by
  unfold b50 bt50
  simp only [qe50_0, brQ2_eq]
theorem r50 {T : Tab} {cf : CallF} (hc : leC cf (CL T)) (n : Nat) : leR (recN (b50 cf) n) (J50 T) := be50 ▸ recN_le (fun R hR i l h => by
  unfold bt50
  refine le_br2 (J := fun i l => J50 T i l h) (fun _ a0 a1 => le_e (fun hn => e50_0 rfl hn) ((m50 hc hR) a0 a1 h)) ?_
  exact le_fail _) n
-- 51
theorem m51 {cf cf' : CallF} {R R' : Rec} (hc : ∀ f l h, le (cf f l h) (cf' f l h)) (hR : ∀ i l h, le (R i l h) (R' i l h)) : (∀ (a0 a1 : IV) (h : H), le (t51_0 cf R a0 a1 h) (t51_0 cf' R' a0 a1 h)) := by
  intros
  unfold t51_0
  with_reducible repeat' first
    | refine le_obind fun _ => ?_
    | refine le_callP ?_ (fun _ _ => ?_) (fun _ _ => ?_)
    | refine le_condK ?_ ?_
    | exact hR _ _ _
    | refine le_obind2 fun _ _ => ?_
    | refine le_obindH fun _ => ?_
    | refine le_spanK (fun _ _ _ => ?_) (fun _ _ => ?_)
    | exact hc _ _ _
    | refine le_bif ?_ ?_
    | refine le_guardK ?_ ?_ ?_
    | refine le_mapK fun _ _ => ?_
    | refine le_panK fun _ _ => ?_
    | refine le_funK fun _ _ => ?_
    | exact le_refl _
    | apply_assumption
noncomputable def q51_0 (cf : CallF) (R : Rec) (a0 : IV) (a1 : IV) (h : H) : CRes :=
 Qc (cf 70 [a0, a1] h) .pan fun x1 h2 =>
 Qo (Qgeq x1 (.int .i64 0)) fun x3 =>
 Qif x3
 (Qo (slcStr a0 none (some x1)) fun x4 =>
 Qo (Qls a1) fun x5 =>
 Qo (Qadd x1 x5) fun x6 =>
 Qo (slcStr a0 (some x6) none) fun x7 =>
 .ok (.tup [x4, x7, (.bool true)]) h2)
 (.ok (.tup [a0, (.str ⟨0, 0⟩), (.bool false)]) h2)
theorem qe51_0 : q51_0 = t51_0 := by
  unfold q51_0
  try simp only [QE]
  try rfl
noncomputable def bt51 (cf : CallF) (R : Rec) : Rec := fun i l h =>
 br2 i 0 l (fun a0 a1 => t51_0 cf R a0 a1 h) <|
 .fail
noncomputable def b51 (cf : CallF) (R : Rec) : Rec := fun i l h =>
 brQ2 i 0 l (fun a0 a1 => q51_0 cf R a0 a1 h) <|
 .fail
theorem be51 : b51 = bt51 := by
  unfold b51 bt51
  simp only [qe51_0, brQ2_eq]
theorem r51 {T : Tab} {cf : CallF} (hc : leC cf (CL T)) (n : Nat) : leR (recN (b51 cf) n) (J51 T) := be51 ▸ recN_le (fun R hR i l h => by
  unfold bt51
  refine le_br2 (J := fun i l => J51 T i l h) (fun _ a0 a1 => le_e (fun hn => e51_0 rfl hn) ((m51 hc hR) a0 a1 h)) ?_
  exact le_fail _) n
-- 52
theorem m52 {cf cf' : CallF} {R R' : Rec} (hc : ∀ f l h, le (cf f l h) (cf' f l h)) (hR : ∀ i l h, le (R i l h) (R' i l h)) :
  (∀ (a0 : IV) (h : H), le (t52_0 cf R a0 h) (t52_0 cf' R' a0 h)) ∧
  (∀ (a0 a5 : IV) (h : H), le (t52_1 cf R a0 a5 h) (t52_1 cf' R' a0 a5 h)) ∧
  (∀ (a5 a6 a47 a48 a49 : IV) (h : H), le (t52_2 cf R a5 a6 a47 a48 a49 h) (t52_2 cf' R' a5 a6 a47 a48 a49 h)) ∧
  (∀ (a6 : IV) (h : H), le (t52_3 cf R a6 h) (t52_3 cf' R' a6 h)) := by
  refine ⟨?_, ?_, ?_, ?_⟩
  all_goals intros
  all_goals first | unfold t52_0 | unfold t52_1 | unfold t52_2 | unfold t52_3
  all_goals
  with_reducible repeat' first
    | refine le_obind fun _ => ?_
    | refine le_callP ?_ (fun _ _ => ?_) (fun _ _ => ?_)
    | refine le_condK ?_ ?_
    | exact hR _ _ _
    | refine le_obind2 fun _ _ => ?_
    | refine le_obindH fun _ => ?_
    | refine le_spanK (fun _ _ _ => ?_) (fun _ _ => ?_)
    | exact hc _ _ _
    | refine le_bif ?_ ?_
    | refine le_guardK ?_ ?_ ?_
    | refine le_mapK fun _ _ => ?_
    | refine le_panK fun _ _ => ?_
    | refine le_funK fun _ _ => ?_
    | exact le_refl _
    | apply_assumption
noncomputable def q52_0p3 (cf : CallF) (R : Rec) (x30 : IV) (a0 : IV) (h27 : H) : CRes :=
 Qif x30
 (Qo (slcStr a0 (some (.int .i64 1)) none) fun x31 =>
 Qo (Qls x31) fun x32 =>
 Qo (Qlss x32 (.int .i64 1)) fun x33 =>
 Qif x33
 (.ok (.tup [(.int .i64 0), (.iface 106 (.int .i64 2))]) h27)
 (R 1 [x31, a0] h27))
 (R 1 [a0, a0] h27)
noncomputable def q52_0p2 (cf : CallF) (R : Rec) (x22 : IV) (a0 : IV) (h20 : H) : CRes :=
 Qif x22
 (Qo (Qis a0 (.int .i64 0)) fun x23 =>
 Qo (Qeql x23 (.int .u8 45)) fun x24 =>
 Qsp x24 false h20 (fun k25 =>
 Qo (Qis a0 (.int .i64 0)) fun x28 =>
 Qo (Qeql x28 (.int .u8 43)) fun x29 =>
 k25 x29 h20) fun x26 h27 =>
 Qo (Qpk x24 (some (.bool true)) (some x26)) fun x30 =>
 q52_0p3 cf R x30 a0 h27)
 (Qc (cf 71 [a0, (.int .i64 10), (.int .i64 0)] h20) .pan fun x34 h35 =>
 Qo (Qext x34 0) fun x36 =>
 Qo (Qext x34 1) fun x37 =>
 .ok (.tup [x36, x37]) h35)
noncomputable def q52_0p1 (cf : CallF) (R : Rec) (x7 : IV) (h8 : H) (x1 : IV) (x4 : IV) (x2 : IV) (a0 : IV) : CRes :=
 Qsp x7 true h8 (fun k10 =>
 Qo (Qlss x1 (.int .i64 19)) fun x13 =>
 k10 x13 h8) fun x11 h12 =>
 Qsp x4 true h12 (fun k14 =>
 Qo (Qpk x7 (some x11) (some (.bool false))) fun x17 =>
 k14 x17 h12) fun x15 h16 =>
 Qsp x2 false h16 (fun k18 =>
 Qo (Qpk x4 (some x15) (some (.bool false))) fun x21 =>
 k18 x21 h16) fun x19 h20 =>
 Qo (Qpk x2 (some (.bool true)) (some x19)) fun x22 =>
 q52_0p2 cf R x22 a0 h20
noncomputable def q52_0 (cf : CallF) (R : Rec) (a0 : IV) (h : H) : CRes :=
 Qo (Qls a0) fun x1 =>
 Qo (Qpk (.bool false) (some (.tup [])) (some (.bool false))) fun x2 =>
 Qsp x2 false h (fun k3 =>
 k3 (.bool true) h) fun x4 h5 =>
 Qsp x4 true h5 (fun k6 =>
 Qo (Qlss (.int .i64 0) x1) fun x9 =>
 k6 x9 h5) fun x7 h8 =>
 q52_0p1 cf R x7 h8 x1 x4 x2 a0
theorem qe52_0 : q52_0 = t52_0 := by
  unfold q52_0 q52_0p1 q52_0p2 q52_0p3
  try simp only [QE]
  try rfl
noncomputable def q52_1 (cf : CallF) (R : Rec) (a0 : IV) (a5 : IV) (h : H) : CRes :=
 Qo2 (cvB h a0) fun x38 h39 =>
 Qo (Qle x38) fun x40 =>
 R 2 [a5, (.int .i64 0), x38, x40, (.int .i64 0)] h39
theorem qe52_1 : q52_1 = t52_1 := by
  unfold q52_1
  try simp only [QE]
  try rfl
noncomputable def q52_2p1 (cf : CallF) (R : Rec) (x45 : IV) (h : H) (a6 : IV) (x44 : IV) (a49 : IV) (a5 : IV) (a47 : IV) (a48 : IV) : CRes :=
 Qif x45
 (.ok (.tup [(.int .i64 0), (.iface 106 (.int .i64 2))]) h)
 (Qo (binN .mul a6 (.int .i64 10)) fun x46 =>
 Qo (cvN .i64 x44) fun x47 =>
 Qo (Qadd x46 x47) fun x48 =>
 Qo (Qadd a49 (.int .i64 1)) fun x49 =>
 R 2 [a5, x48, a47, a48, x49] h)
noncomputable def q52_2 (cf : CallF) (R : Rec) (a5 : IV) (a6 : IV) (a47 : IV) (a48 : IV) (a49 : IV) (h : H) : CRes :=
 Qo (Qlss a49 a48) fun x41 =>
 Qif x41
 (Qo (Qix 1 a47 a49) fun x42 =>
 Qo (Ql0 h x42) fun x43 =>
 Qo (Qsub x43 (.int .u8 48)) fun x44 =>
 Qo (Qgtr x44 (.int .u8 9)) fun x45 =>
 q52_2p1 cf R x45 h a6 x44 a49 a5 a47 a48)
 (Qo (Qis a5 (.int .i64 0)) fun x50 =>
 Qo (Qeql x50 (.int .u8 45)) fun x51 =>
 Qif x51
 (Qo (unI .neg a6) fun x52 =>
 R 3 [x52] h)
 (R 3 [a6] h))
theorem qe52_2 : q52_2 = t52_2 := by
  unfold q52_2 q52_2p1
  try simp only [QE]
  try rfl
noncomputable def q52_3 (cf : CallF) (R : Rec) (a6 : IV) (h : H) : CRes :=
 .ok (.tup [a6, .nilIface]) h
theorem qe52_3 : q52_3 = t52_3 := by
  unfold q52_3
  try simp only [QE]
  try rfl
noncomputable def bt52 (cf : CallF) (R : Rec) : Rec := fun i l h =>
 br1 i 0 l (fun a0 => t52_0 cf R a0 h) <|
 br2 i 1 l (fun a0 a5 => t52_1 cf R a0 a5 h) <|
 br5 i 2 l (fun a5 a6 a47 a48 a49 => t52_2 cf R a5 a6 a47 a48 a49 h) <|
 br1 i 3 l (fun a6 => t52_3 cf R a6 h) <|
 .fail
noncomputable def b52 (cf : CallF) (R : Rec) : Rec := fun i l h =>
 brQ1 i 0 l (fun a0 => q52_0 cf R a0 h) <|
 brQ2 i 1 l (fun a0 a5 => q52_1 cf R a0 a5 h) <|
 brQ5 i 2 l (fun a5 a6 a47 a48 a49 => q52_2 cf R a5 a6 a47 a48 a49 h) <|
 brQ1 i 3 l (fun a6 => q52_3 cf R a6 h) <|
 .fail
theorem be52 : b52 = bt52 := by
  unfold b52 bt52
  simp only [qe52_0, qe52_1, qe52_2, qe52_3, brQ1_eq, brQ2_eq, brQ5_eq]
theorem r52 {T : Tab} {cf : CallF} (hc : leC cf (CL T)) (n : Nat) : leR (recN (b52 cf) n) (J52 T) := be52 ▸ recN_le (fun R hR i l h => by
  unfold bt52
  refine le_br1 (J := fun i l => J52 T i l h) (fun _ a0 => le_e (fun hn => e52_0 rfl hn) ((m52 hc hR).1 a0 h)) ?_
  refine le_br2 (J := fun i l => J52 T i l h) (fun _ a0 a5 => le_e (fun hn => e52_1 rfl hn) ((m52 hc hR).2.1 a0 a5 h)) ?_
  refine le_br5 (J := fun i l => J52 T i l h) (fun _ a5 a6 a47 a48 a49 => le_e (fun hn => e52_2 rfl hn) ((m52 hc hR).2.2.1 a5 a6 a47 a48 a49 h)) ?_
  refine le_br1 (J := fun i l => J52 T i l h) (fun _ a6 => le_e (fun hn => e52_3 rfl hn) ((m52 hc hR).2.2.2 a6 h)) ?_
  exact le_fail _) n
-- 54
theorem m54 {cf cf' : CallF} {R R' : Rec} (hc : ∀ f l h, le (cf f l h) (cf' f l h)) (hR : ∀ i l h, le (R i l h) (R' i l h)) :
  (∀ (a0 a1 a2 : IV) (h : H), le (t54_0 cf R a0 a1 a2 h) (t54_0 cf' R' a0 a1 a2 h)) ∧
  (∀ (a1 a2 a10 : IV) (h : H), le (t54_1 cf R a1 a2 a10 h) (t54_1 cf' R' a1 a2 a10 h)) := by
  refine ⟨?_, ?_⟩
  all_goals intros
  all_goals first | unfold t54_0 | unfold t54_1
  all_goals
  with_reducible repeat' first
    | refine le_obind fun _ => ?_
    | refine le_callP ?_ (fun _ _ => ?_) (fun _ _ => ?_)
    | refine le_condK ?_ ?_
    | exact hR _ _ _
    | refine le_obind2 fun _ _ => ?_
    | refine le_obindH fun _ => ?_
    | refine le_spanK (fun _ _ _ => ?_) (fun _ _ => ?_)
    | exact hc _ _ _
    | refine le_bif ?_ ?_
    | refine le_guardK ?_ ?_ ?_
    | refine le_mapK fun _ _ => ?_
    | refine le_panK fun _ _ => ?_
    | refine le_funK fun _ _ => ?_
    | exact le_refl _
    | apply_assumption
noncomputable def q54_0 (cf : CallF) (R : Rec) (a0 : IV) (a1 : IV) (a2 : IV) (h : H) : CRes :=
 Qo2 (rngS h a0) fun x1 h2 =>
 R 1 [a1, a2, x1] h2
theorem qe54_0 : q54_0 = t54_0 := by
  unfold q54_0
  try simp only [QE]
  try rfl
noncomputable def q54_1 (cf : CallF) (R : Rec) (a1 : IV) (a2 : IV) (a10 : IV) (h : H) : CRes :=
 Qo2 (nextI h a10 true) fun x3 h4 =>
 Qo (Qext x3 0) fun x5 =>
 Qif x5
 (Qo (Qext x3 1) fun x6 =>
 Qo (Qext x3 2) fun x7 =>
 funK a1 fun f10 c11 => Qc (cf f10 ([x7] ++ c11) h4) .pan fun x8 h9 =>
 Qo (eqB .eql x8 a2) fun x12 =>
 Qif x12
 (.ok x6 h9)
 (R 1 [a1, a2, a10] h9))
 (.ok (.int .i64 (-1)) h4)
theorem qe54_1 : q54_1 = t54_1 := by
  unfold q54_1
  try simp only [QE]
  try rfl
noncomputable def bt54 (cf : CallF) (R : Rec) : Rec := fun i l h =>
 br3 i 0 l (fun a0 a1 a2 => t54_0 cf R a0 a1 a2 h) <|
 br3 i 1 l (fun a1 a2 a10 => t54_1 cf R a1 a2 a10 h) <|
 .fail
noncomputable def b54 (cf : CallF) (R : Rec) : Rec := fun i l h =>
 brQ3 i 0 l (fun a0 a1 a2 => q54_0 cf R a0 a1 a2 h) <|
 brQ3 i 1 l (fun a1 a2 a10 => q54_1 cf R a1 a2 a10 h) <|
 .fail
theorem be54 : b54 = bt54 := by
  unfold b54 bt54
  simp only [qe54_0, qe54_1, brQ3_eq]
theorem r54 {T : Tab} {cf : CallF} (hc : leC cf (CL T)) (n : Nat) : leR (recN (b54 cf) n) (J54 T) := be54 ▸ recN_le (fun R hR i l h => by
  unfold bt54
  refine le_br3 (J := fun i l => J54 T i l h) (fun _ a0 a1 a2 => le_e (fun hn => e54_0 rfl hn) ((m54 hc hR).1 a0 a1 a2 h)) ?_
  refine le_br3 (J := fun i l => J54 T i l h) (fun _ a1 a2 a10 => le_e (fun hn => e54_1 rfl hn) ((m54 hc hR).2 a1 a2 a10 h)) ?_
  exact le_fail _) n
-- 55
theorem m55 {cf cf' : CallF} {R R' : Rec} (hc : ∀ f l h, le (cf f l h) (cf' f l h)) (hR : ∀ i l h, le (R i l h) (R' i l h)) :
  (∀ (a0 a1 : IV) (h : H), le (t55_0 cf R a0 a1 h) (t55_0 cf' R' a0 a1 h)) ∧
  (∀ (a0 a1 : IV) (h : H), le (t55_1 cf R a0 a1 h) (t55_1 cf' R' a0 a1 h)) := by
  refine ⟨?_, ?_⟩
  all_goals intros
  all_goals first | unfold t55_0 | unfold t55_1
  all_goals
  with_reducible repeat' first
    | refine le_obind fun _ => ?_
    | refine le_callP ?_ (fun _ _ => ?_) (fun _ _ => ?_)
    | refine le_condK ?_ ?_
    | exact hR _ _ _
    | refine le_obind2 fun _ _ => ?_
    | refine le_obindH fun _ => ?_
    | refine le_spanK (fun _ _ _ => ?_) (fun _ _ => ?_)
    | exact hc _ _ _
    | refine le_bif ?_ ?_
    | refine le_guardK ?_ ?_ ?_
    | refine le_mapK fun _ _ => ?_
    | refine le_panK fun _ _ => ?_
    | refine le_funK fun _ _ => ?_
    | exact le_refl _
    | apply_assumption
noncomputable def q55_0 (cf : CallF) (R : Rec) (a0 : IV) (a1 : IV) (h : H) : CRes :=
 R 1 [a0, a1] h
theorem qe55_0 : q55_0 = t55_0 := by
  unfold q55_0
  try simp only [QE]
  try rfl
noncomputable def q55_1p1 (cf : CallF) (R : Rec) (x8 : IV) (a0 : IV) (a1 : IV) (h5 : H) : CRes :=
 Qif x8
 (Qo (slcStr a0 (some (.int .i64 1)) none) fun x9 =>
 R 1 [x9, a1] h5)
 (.ok a0 h5)
noncomputable def q55_1 (cf : CallF) (R : Rec) (a0 : IV) (a1 : IV) (h : H) : CRes :=
 Qo (Qls a0) fun x1 =>
 Qo (Qgtr x1 (.int .i64 0)) fun x2 =>
 Qsp x2 true h (fun k3 =>
 Qo (Qis a0 (.int .i64 0)) fun x6 =>
 Qo (Qeql x6 a1) fun x7 =>
 k3 x7 h) fun x4 h5 =>
 Qo (Qpk x2 (some x4) (some (.bool false))) fun x8 =>
 q55_1p1 cf R x8 a0 a1 h5
theorem qe55_1 : q55_1 = t55_1 := by
  unfold q55_1 q55_1p1
  try simp only [QE]
  try rfl
noncomputable def bt55 (cf : CallF) (R : Rec) : Rec := fun i l h =>
 br2 i 0 l (fun a0 a1 => t55_0 cf R a0 a1 h) <|
 br2 i 1 l (fun a0 a1 => t55_1 cf R a0 a1 h) <|
 .fail
noncomputable def b55 (cf : CallF) (R : Rec) : Rec := fun i l h =>
 brQ2 i 0 l (fun a0 a1 => q55_0 cf R a0 a1 h) <|
 brQ2 i 1 l (fun a0 a1 => q55_1 cf R a0 a1 h) <|
 .fail
theorem be55 : b55 = bt55 := by
  unfold b55 bt55
  simp only [qe55_0, qe55_1, brQ2_eq]
theorem r55 {T : Tab} {cf : CallF} (hc : leC cf (CL T)) (n : Nat) : leR (recN (b55 cf) n) (J55 T) := be55 ▸ recN_le (fun R hR i l h => by
  unfold bt55
  refine le_br2 (J := fun i l => J55 T i l h) (fun _ a0 a1 => le_e (fun hn => e55_0 rfl hn) ((m55 hc hR).1 a0 a1 h)) ?_
  refine le_br2 (J := fun i l => J55 T i l h) (fun _ a0 a1 => le_e (fun hn => e55_1 rfl hn) ((m55 hc hR).2 a0 a1 h)) ?_
  exact le_fail _) n
-- 56
theorem m56 {cf cf' : CallF} {R R' : Rec} (hc : ∀ f l h, le (cf f l h) (cf' f l h)) (hR : ∀ i l h, le (R i l h) (R' i l h)) :
  (∀ (a0 a1 : IV) (h : H), le (t56_0 cf R a0 a1 h) (t56_0 cf' R' a0 a1 h)) ∧
  (∀ (a0 a1 : IV) (h : H), le (t56_1 cf R a0 a1 h) (t56_1 cf' R' a0 a1 h)) := by
  refine ⟨?_, ?_⟩
  all_goals intros
  all_goals first | unfold t56_0 | unfold t56_1
  all_goals
  with_reducible repeat' first
    | refine le_obind fun _ => ?_
    | refine le_callP ?_ (fun _ _ => ?_) (fun _ _ => ?_)
    | refine le_condK ?_ ?_
    | exact hR _ _ _
    | refine le_obind2 fun _ _ => ?_
    | refine le_obindH fun _ => ?_
    | refine le_spanK (fun _ _ _ => ?_) (fun _ _ => ?_)
    | exact hc _ _ _
    | refine le_bif ?_ ?_
    | refine le_guardK ?_ ?_ ?_
    | refine le_mapK fun _ _ => ?_
    | refine le_panK fun _ _ => ?_
    | refine le_funK fun _ _ => ?_
    | exact le_refl _
    | apply_assumption
noncomputable def q56_0 (cf : CallF) (R : Rec) (a0 : IV) (a1 : IV) (h : H) : CRes :=
 R 1 [a0, a1] h
theorem qe56_0 : q56_0 = t56_0 := by
  unfold q56_0
  try simp only [QE]
  try rfl
noncomputable def q56_1p1 (cf : CallF) (R : Rec) (x10 : IV) (a0 : IV) (a1 : IV) (h5 : H) : CRes :=
 Qif x10
 (Qo (Qls a0) fun x11 =>
 Qo (Qsub x11 (.int .i64 1)) fun x12 =>
 Qo (slcStr a0 none (some x12)) fun x13 =>
 R 1 [x13, a1] h5)
 (.ok a0 h5)
noncomputable def q56_1 (cf : CallF) (R : Rec) (a0 : IV) (a1 : IV) (h : H) : CRes :=
 Qo (Qls a0) fun x1 =>
 Qo (Qgtr x1 (.int .i64 0)) fun x2 =>
 Qsp x2 true h (fun k3 =>
 Qo (Qls a0) fun x6 =>
 Qo (Qsub x6 (.int .i64 1)) fun x7 =>
 Qo (Qis a0 x7) fun x8 =>
 Qo (Qeql x8 a1) fun x9 =>
 k3 x9 h) fun x4 h5 =>
 Qo (Qpk x2 (some x4) (some (.bool false))) fun x10 =>
 q56_1p1 cf R x10 a0 a1 h5
theorem qe56_1 : q56_1 = t56_1 := by
  unfold q56_1 q56_1p1
  try simp only [QE]
  try rfl
noncomputable def bt56 (cf : CallF) (R : Rec) : Rec := fun i l h =>
 br2 i 0 l (fun a0 a1 => t56_0 cf R a0 a1 h) <|
 br2 i 1 l (fun a0 a1 => t56_1 cf R a0 a1 h) <|
 .fail
noncomputable def b56 (cf : CallF) (R : Rec) : Rec := fun i l h =>
 brQ2 i 0 l (fun a0 a1 => q56_0 cf R a0 a1 h) <|
 brQ2 i 1 l (fun a0 a1 => q56_1 cf R a0 a1 h) <|
 .fail
theorem be56 : b56 = bt56 := by
  unfold b56 bt56
  simp only [qe56_0, qe56_1, brQ2_eq]
theorem r56 {T : Tab} {cf : CallF} (hc : leC cf (CL T)) (n : Nat) : leR (recN (b56 cf) n) (J56 T) := be56 ▸ recN_le (fun R hR i l h => by
  unfold bt56
  refine le_br2 (J := fun i l => J56 T i l h) (fun _ a0 a1 => le_e (fun hn => e56_0 rfl hn) ((m56 hc hR).1 a0 a1 h)) ?_
  refine le_br2 (J := fun i l => J56 T i l h) (fun _ a0 a1 => le_e (fun hn => e56_1 rfl hn) ((m56 hc hR).2 a0 a1 h)) ?_
  exact le_fail _) n
-- 57
theorem m57 {cf cf' : CallF} {R R' : Rec} (hc : ∀ f l h, le (cf f l h) (cf' f l h)) (hR : ∀ i l h, le (R i l h) (R' i l h)) :
  (∀ (a0 : IV) (h : H), le (t57_0 cf R a0 h) (t57_0 cf' R' a0 h)) ∧
  (∀ (a0 a2 a4 : IV) (h : H), le (t57_1 cf R a0 a2 a4 h) (t57_1 cf' R' a0 a2 a4 h)) := by
  refine ⟨?_, ?_⟩
  all_goals intros
  all_goals first | unfold t57_0 | unfold t57_1
  all_goals
  with_reducible repeat' first
    | refine le_obind fun _ => ?_
    | refine le_callP ?_ (fun _ _ => ?_) (fun _ _ => ?_)
    | refine le_condK ?_ ?_
    | exact hR _ _ _
    | refine le_obind2 fun _ _ => ?_
    | refine le_obindH fun _ => ?_
    | refine le_spanK (fun _ _ _ => ?_) (fun _ _ => ?_)
    | exact hc _ _ _
    | refine le_bif ?_ ?_
    | refine le_guardK ?_ ?_ ?_
    | refine le_mapK fun _ _ => ?_
    | refine le_panK fun _ _ => ?_
    | refine le_funK fun _ _ => ?_
    | exact le_refl _
    | apply_assumption
noncomputable def q57_0 (cf : CallF) (R : Rec) (a0 : IV) (h : H) : CRes :=
 Qo2 (QnI h z6) fun x1 h2 =>
 R 1 [a0, x1, (.int .i64 0)] h2
theorem qe57_0 : q57_0 = t57_0 := by
  unfold q57_0
  try simp only [QE]
  try rfl
noncomputable def q57_1 (cf : CallF) (R : Rec) (a0 : IV) (a2 : IV) (a4 : IV) (h : H) : CRes :=
 Qo (Qls a0) fun x3 =>
 Qo (Qlss a4 x3) fun x4 =>
 Qif x4
 (Qo (Qis a0 a4) fun x5 =>
 Qo (Qgeq x5 (.int .u8 128)) fun x6 =>
 Qif x6
 (Qo (QlA 256 h a2) fun x7 =>
 QoH (QsA 256 h a2 x7) fun h8 =>
 Qo (QlA 256 h8 a2) fun x9 =>
 .ok (.tup [x9, (.bool false)]) h8)
 (Qo (ixA 256 1 a2 x5) fun x10 =>
 QoH (QsA 1 h x10 (.bool true)) fun h11 =>
 Qo (Qadd a4 (.int .i64 1)) fun x12 =>
 R 1 [a0, a2, x12] h11))
 (Qo (QlA 256 h a2) fun x13 =>
 QoH (QsA 256 h a2 x13) fun h14 =>
 Qo (QlA 256 h14 a2) fun x15 =>
 .ok (.tup [x15, (.bool true)]) h14)
theorem qe57_1 : q57_1 = t57_1 := by
  unfold q57_1
  try simp only [QE]
  try rfl
noncomputable def bt57 (cf : CallF) (R : Rec) : Rec := fun i l h =>
 br1 i 0 l (fun a0 => t57_0 cf R a0 h) <|
 br3 i 1 l (fun a0 a2 a4 => t57_1 cf R a0 a2 a4 h) <|
 .fail
noncomputable def b57 (cf : CallF) (R : Rec) : Rec := fun i l h =>
 brQ1 i 0 l (fun a0 => q57_0 cf R a0 h) <|
 brQ3 i 1 l (fun a0 a2 a4 => q57_1 cf R a0 a2 a4 h) <|
 .fail
theorem be57 : b57 = bt57 := by
  unfold b57 bt57
  simp only [qe57_0, qe57_1, brQ1_eq, brQ3_eq]
theorem r57 {T : Tab} {cf : CallF} (hc : leC cf (CL T)) (n : Nat) : leR (recN (b57 cf) n) (J57 T) := be57 ▸ recN_le (fun R hR i l h => by
  unfold bt57
  refine le_br1 (J := fun i l => J57 T i l h) (fun _ a0 => le_e (fun hn => e57_0 rfl hn) ((m57 hc hR).1 a0 h)) ?_
  refine le_br3 (J := fun i l => J57 T i l h) (fun _ a0 a2 a4 => le_e (fun hn => e57_1 rfl hn) ((m57 hc hR).2 a0 a2 a4 h)) ?_
  exact le_fail _) n
-- 58
theorem m58 {cf cf' : CallF} {R R' : Rec} (hc : ∀ f l h, le (cf f l h) (cf' f l h)) (hR : ∀ i l h, le (R i l h) (R' i l h)) :
  (∀ (a0 a1 : IV) (h : H), le (t58_0 cf R a0 a1 h) (t58_0 cf' R' a0 a1 h)) ∧
  (∀ (a0 a1 : IV) (h : H), le (t58_2 cf R a0 a1 h) (t58_2 cf' R' a0 a1 h)) ∧
  (∀ (a0 : IV) (h : H), le (t58_1 cf R a0 h) (t58_1 cf' R' a0 h)) := by
  refine ⟨?_, ?_, ?_⟩
  all_goals intros
  all_goals first | unfold t58_0 | unfold t58_2 | unfold t58_1
  all_goals
  with_reducible repeat' first
    | refine le_obind fun _ => ?_
    | refine le_callP ?_ (fun _ _ => ?_) (fun _ _ => ?_)
    | refine le_condK ?_ ?_
    | exact hR _ _ _
    | refine le_obind2 fun _ _ => ?_
    | refine le_obindH fun _ => ?_
    | refine le_spanK (fun _ _ _ => ?_) (fun _ _ => ?_)
    | exact hc _ _ _
    | refine le_bif ?_ ?_
    | refine le_guardK ?_ ?_ ?_
    | refine le_mapK fun _ _ => ?_
    | refine le_panK fun _ _ => ?_
    | refine le_funK fun _ _ => ?_
    | exact le_refl _
    | apply_assumption
noncomputable def q58_0 (cf : CallF) (R : Rec) (a0 : IV) (a1 : IV) (h : H) : CRes :=
 R 2 [a0, a1] h
theorem qe58_0 : q58_0 = t58_0 := by
  unfold q58_0
  try simp only [QE]
  try rfl
noncomputable def q58_2 (cf : CallF) (R : Rec) (a0 : IV) (a1 : IV) (h : H) : CRes :=
 Qo (Qls a0) fun x1 =>
 Qo (Qgtr x1 (.int .i64 0)) fun x2 =>
 Qif x2
 (Qo (Qis a0 (.int .i64 0)) fun x3 =>
 Qc (cf 76 [a1, x3] h) .pan fun x4 h5 =>
 Qo (Qnot x4) fun x6 =>
 Qif x6
 (R 1 [a0] h5)
 (Qo (slcStr a0 (some (.int .i64 1)) none) fun x7 =>
 R 2 [x7, a1] h5))
 (R 1 [a0] h)
theorem qe58_2 : q58_2 = t58_2 := by
  unfold q58_2
  try simp only [QE]
  try rfl
noncomputable def q58_1 (cf : CallF) (R : Rec) (a0 : IV) (h : H) : CRes :=
 .ok a0 h
theorem qe58_1 : q58_1 = t58_1 := by
  unfold q58_1
  try simp only [QE]
  try rfl
noncomputable def bt58 (cf : CallF) (R : Rec) : Rec := fun i l h =>
 br2 i 0 l (fun a0 a1 => t58_0 cf R a0 a1 h) <|
 br2 i 2 l (fun a0 a1 => t58_2 cf R a0 a1 h) <|
 br1 i 1 l (fun a0 => t58_1 cf R a0 h) <|
 .fail
noncomputable def b58 (cf : CallF) (R : Rec) : Rec := fun i l h =>
 brQ2 i 0 l (fun a0 a1 => q58_0 cf R a0 a1 h) <|
 brQ2 i 2 l (fun a0 a1 => q58_2 cf R a0 a1 h) <|
 brQ1 i 1 l (fun a0 => q58_1 cf R a0 h) <|
 .fail
theorem be58 : b58 = bt58 := by
  unfold b58 bt58
  simp only [qe58_0, qe58_2, qe58_1, brQ1_eq, brQ2_eq]
theorem r58 {T : Tab} {cf : CallF} (hc : leC cf (CL T)) (n : Nat) : leR (recN (b58 cf) n) (J58 T) := be58 ▸ recN_le (fun R hR i l h => by
  unfold bt58
  refine le_br2 (J := fun i l => J58 T i l h) (fun _ a0 a1 => le_e (fun hn => e58_0 rfl hn) ((m58 hc hR).1 a0 a1 h)) ?_
  refine le_br2 (J := fun i l => J58 T i l h) (fun _ a0 a1 => le_e (fun hn => e58_2 rfl hn) ((m58 hc hR).2.1 a0 a1 h)) ?_
  refine le_br1 (J := fun i l => J58 T i l h) (fun _ a0 => le_e (fun hn => e58_1 rfl hn) ((m58 hc hR).2.2 a0 h)) ?_
  exact le_fail _) n
-- 59
theorem m59 {cf cf' : CallF} {R R' : Rec} (hc : ∀ f l h, le (cf f l h) (cf' f l h)) (hR : ∀ i l h, le (R i l h) (R' i l h)) :
  (∀ (a0 a1 : IV) (h : H), le (t59_0 cf R a0 a1 h) (t59_0 cf' R' a0 a1 h)) ∧
  (∀ (a0 a1 : IV) (h : H), le (t59_2 cf R a0 a1 h) (t59_2 cf' R' a0 a1 h)) ∧
  (∀ (a0 : IV) (h : H), le (t59_1 cf R a0 h) (t59_1 cf' R' a0 h)) := by
  refine ⟨?_, ?_, ?_⟩
  all_goals intros
  all_goals first | unfold t59_0 | unfold t59_2 | unfold t59_1
  all_goals
  with_reducible repeat' first
    | refine le_obind fun _ => ?_
    | refine le_callP ?_ (fun _ _ => ?_) (fun _ _ => ?_)
    | refine le_condK ?_ ?_
    | exact hR _ _ _
    | refine le_obind2 fun _ _ => ?_
    | refine le_obindH fun _ => ?_
    | refine le_spanK (fun _ _ _ => ?_) (fun _ _ => ?_)
    | exact hc _ _ _
    | refine le_bif ?_ ?_
    | refine le_guardK ?_ ?_ ?_
    | refine le_mapK fun _ _ => ?_
    | refine le_panK fun _ _ => ?_
    | refine le_funK fun _ _ => ?_
    | exact le_refl _
    | apply_assumption
noncomputable def q59_0 (cf : CallF) (R : Rec) (a0 : IV) (a1 : IV) (h : H) : CRes :=
 R 2 [a0, a1] h
theorem qe59_0 : q59_0 = t59_0 := by
  unfold q59_0
  try simp only [QE]
  try rfl
noncomputable def q59_2p1 (cf : CallF) (R : Rec) (x6 : IV) (a0 : IV) (h7 : H) (a1 : IV) : CRes :=
 Qo (Qnot x6) fun x8 =>
 Qif x8
 (R 1 [a0] h7)
 (Qo (Qls a0) fun x9 =>
 Qo (Qsub x9 (.int .i64 1)) fun x10 =>
 Qo (slcStr a0 none (some x10)) fun x11 =>
 R 2 [x11, a1] h7)
noncomputable def q59_2 (cf : CallF) (R : Rec) (a0 : IV) (a1 : IV) (h : H) : CRes :=
 Qo (Qls a0) fun x1 =>
 Qo (Qgtr x1 (.int .i64 0)) fun x2 =>
 Qif x2
 (Qo (Qls a0) fun x3 =>
 Qo (Qsub x3 (.int .i64 1)) fun x4 =>
 Qo (Qis a0 x4) fun x5 =>
 Qc (cf 76 [a1, x5] h) .pan fun x6 h7 =>
 q59_2p1 cf R x6 a0 h7 a1)
 (R 1 [a0] h)
theorem qe59_2 : q59_2 = t59_2 := by
  unfold q59_2 q59_2p1
  try simp only [QE]
  try rfl
noncomputable def q59_1 (cf : CallF) (R : Rec) (a0 : IV) (h : H) : CRes :=
 .ok a0 h
theorem qe59_1 : q59_1 = t59_1 := by
  unfold q59_1
  try simp only [QE]
  try rfl
noncomputable def bt59 (cf : CallF) (R : Rec) : Rec := fun i l h =>
 br2 i 0 l (fun a0 a1 => t59_0 cf R a0 a1 h) <|
 br2 i 2 l (fun a0 a1 => t59_2 cf R a0 a1 h) <|
 br1 i 1 l (fun a0 => t59_1 cf R a0 h) <|
 .fail
noncomputable def b59 (cf : CallF) (R : Rec) : Rec := fun i l h =>
 brQ2 i 0 l (fun a0 a1 => q59_0 cf R a0 a1 h) <|
 brQ2 i 2 l (fun a0 a1 => q59_2 cf R a0 a1 h) <|
 brQ1 i 1 l (fun a0 => q59_1 cf R a0 h) <|
 .fail
theorem be59 : b59 = bt59 := by
  unfold b59 bt59
  simp only [qe59_0, qe59_2, qe59_1, brQ1_eq, brQ2_eq]
theorem r59 {T : Tab} {cf : CallF} (hc : leC cf (CL T)) (n : Nat) : leR (recN (b59 cf) n) (J59 T) := be59 ▸ recN_le (fun R hR i l h => by
  unfold bt59
  refine le_br2 (J := fun i l => J59 T i l h) (fun _ a0 a1 => le_e (fun hn => e59_0 rfl hn) ((m59 hc hR).1 a0 a1 h)) ?_
  refine le_br2 (J := fun i l => J59 T i l h) (fun _ a0 a1 => le_e (fun hn => e59_2 rfl hn) ((m59 hc hR).2.1 a0 a1 h)) ?_
  refine le_br1 (J := fun i l => J59 T i l h) (fun _ a0 => le_e (fun hn => e59_1 rfl hn) ((m59 hc hR).2.2 a0 h)) ?_
  exact le_fail _) n
-- 62
theorem m62 {cf cf' : CallF} {R R' : Rec} (hc : ∀ f l h, le (cf f l h) (cf' f l h)) (hR : ∀ i l h, le (R i l h) (R' i l h)) : (∀ (a0 : IV) (h : H), le (t62_0 cf R a0 h) (t62_0 cf' R' a0 h)) := by
  intros
  unfold t62_0
  with_reducible repeat' first
    | refine le_obind fun _ => ?_
    | refine le_callP ?_ (fun _ _ => ?_) (fun _ _ => ?_)
    | refine le_condK ?_ ?_
    | exact hR _ _ _
    | refine le_obind2 fun _ _ => ?_
    | refine le_obindH fun _ => ?_
    | refine le_spanK (fun _ _ _ => ?_) (fun _ _ => ?_)
    | exact hc _ _ _
    | refine le_bif ?_ ?_
    | refine le_guardK ?_ ?_ ?_
    | refine le_mapK fun _ _ => ?_
    | refine le_panK fun _ _ => ?_
    | refine le_funK fun _ _ => ?_
    | exact le_refl _
    | apply_assumption
noncomputable def q62_0 (cf : CallF) (R : Rec) (a0 : IV) (h : H) : CRes :=
 Qo (Qneq a0 a0) fun x1 =>
 .ok x1 h
theorem qe62_0 : q62_0 = t62_0 := by
  unfold q62_0
  try simp only [QE]
  try rfl
noncomputable def bt62 (cf : CallF) (R : Rec) : Rec := fun i l h =>
 br1 i 0 l (fun a0 => t62_0 cf R a0 h) <|
 .fail
noncomputable def b62 (cf : CallF) (R : Rec) : Rec := fun i l h =>
 brQ1 i 0 l (fun a0 => q62_0 cf R a0 h) <|
 .fail
theorem be62 : b62 = bt62 := by
  unfold b62 bt62
  simp only [qe62_0, brQ1_eq]
theorem r62 {T : Tab} {cf : CallF} (hc : leC cf (CL T)) (n : Nat) : leR (recN (b62 cf) n) (J62 T) := be62 ▸ recN_le (fun R hR i l h => by
  unfold bt62
  refine le_br1 (J := fun i l => J62 T i l h) (fun _ a0 => le_e (fun hn => e62_0 rfl hn) ((m62 hc hR) a0 h)) ?_
  exact le_fail _) n
-- 67
theorem m67 {cf cf' : CallF} {R R' : Rec} (hc : ∀ f l h, le (cf f l h) (cf' f l h)) (hR : ∀ i l h, le (R i l h) (R' i l h)) :
  (∀ (a0 : IV) (h : H), le (t67_0 cf R a0 h) (t67_0 cf' R' a0 h)) ∧
  (∀ (a2 a4 : IV) (h : H), le (t67_1 cf R a2 a4 h) (t67_1 cf' R' a2 a4 h)) := by
  refine ⟨?_, ?_⟩
  all_goals intros
  all_goals first | unfold t67_0 | unfold t67_1
  all_goals
  with_reducible repeat' first
    | refine le_obind fun _ => ?_
    | refine le_callP ?_ (fun _ _ => ?_) (fun _ _ => ?_)
    | refine le_condK ?_ ?_
    | exact hR _ _ _
    | refine le_obind2 fun _ _ => ?_
    | refine le_obindH fun _ => ?_
    | refine le_spanK (fun _ _ _ => ?_) (fun _ _ => ?_)
    | exact hc _ _ _
    | refine le_bif ?_ ?_
    | refine le_guardK ?_ ?_ ?_
    | refine le_mapK fun _ _ => ?_
    | refine le_panK fun _ _ => ?_
    | refine le_funK fun _ _ => ?_
    | exact le_refl _
    | apply_assumption
noncomputable def q67_0 (cf : CallF) (R : Rec) (a0 : IV) (h : H) : CRes :=
 Qo2 (rngS h a0) fun x1 h2 =>
 R 1 [(.int .i64 0), x1] h2
theorem qe67_0 : q67_0 = t67_0 := by
  unfold q67_0
  try simp only [QE]
  try rfl
noncomputable def q67_1 (cf : CallF) (R : Rec) (a2 : IV) (a4 : IV) (h : H) : CRes :=
 Qo2 (nextI h a4 true) fun x3 h4 =>
 Qo (Qext x3 0) fun x5 =>
 Qif x5
 (Qo (Qadd a2 (.int .i64 1)) fun x6 =>
 R 1 [x6, a4] h4)
 (.ok a2 h4)
theorem qe67_1 : q67_1 = t67_1 := by
  unfold q67_1
  try simp only [QE]
  try rfl
noncomputable def bt67 (cf : CallF) (R : Rec) : Rec := fun i l h =>
 br1 i 0 l (fun a0 => t67_0 cf R a0 h) <|
 br2 i 1 l (fun a2 a4 => t67_1 cf R a2 a4 h) <|
 .fail
noncomputable def b67 (cf : CallF) (R : Rec) : Rec := fun i l h =>
 brQ1 i 0 l (fun a0 => q67_0 cf R a0 h) <|
 brQ2 i 1 l (fun a2 a4 => q67_1 cf R a2 a4 h) <|
 .fail
theorem be67 : b67 = bt67 := by
  unfold b67 bt67
  simp only [qe67_0, qe67_1, brQ1_eq, brQ2_eq]
theorem r67 {T : Tab} {cf : CallF} (hc : leC cf (CL T)) (n : Nat) : leR (recN (b67 cf) n) (J67 T) := be67 ▸ recN_le (fun R hR i l h => by
  unfold bt67
  refine le_br1 (J := fun i l => J67 T i l h) (fun _ a0 => le_e (fun hn => e67_0 rfl hn) ((m67 hc hR).1 a0 h)) ?_
  refine le_br2 (J := fun i l => J67 T i l h) (fun _ a2 a4 => le_e (fun hn => e67_1 rfl hn) ((m67 hc hR).2 a2 a4 h)) ?_
  exact le_fail _) n
-- 68
theorem m68 {cf cf' : CallF} {R R' : Rec} (hc : ∀ f l h, le (cf f l h) (cf' f l h)) (hR : ∀ i l h, le (R i l h) (R' i l h)) : (∀ (a0 : IV) (h : H), le (t68_0 cf R a0 h) (t68_0 cf' R' a0 h)) := by
  intros
  unfold t68_0
  with_reducible repeat' first
    | refine le_obind fun _ => ?_
    | refine le_callP ?_ (fun _ _ => ?_) (fun _ _ => ?_)
    | refine le_condK ?_ ?_
    | exact hR _ _ _
    | refine le_obind2 fun _ _ => ?_
    | refine le_obindH fun _ => ?_
    | refine le_spanK (fun _ _ _ => ?_) (fun _ _ => ?_)
    | exact hc _ _ _
    | refine le_bif ?_ ?_
    | refine le_guardK ?_ ?_ ?_
    | refine le_mapK fun _ _ => ?_
    | refine le_panK fun _ _ => ?_
    | refine le_funK fun _ _ => ?_
    | exact le_refl _
    | apply_assumption
noncomputable def q68_0 (cf : CallF) (R : Rec) (a0 : IV) (h : H) : CRes :=
 Qo (binS .neq a0 (.str ⟨0, 0⟩)) fun x1 =>
 Qsp x1 true h (fun k2 =>
 Qo (Qis a0 (.int .i64 0)) fun x5 =>
 Qo (Qlss x5 (.int .u8 128)) fun x6 =>
 k2 x6 h) fun x3 h4 =>
 Qo (Qpk x1 (some x3) (some (.bool false))) fun x7 =>
 Qif x7
 (Qo (Qis a0 (.int .i64 0)) fun x8 =>
 Qo (cvN .i32 x8) fun x9 =>
 .ok (.tup [x9, (.int .i64 1)]) h4)
 (Qc (cf 84 [a0] h4) .pan fun x10 h11 =>
 Qo (Qext x10 0) fun x12 =>
 Qo (Qext x10 1) fun x13 =>
 .ok (.tup [x12, x13]) h11)
theorem qe68_0 : q68_0 = t68_0 := by
  unfold q68_0
  try simp only [QE]
  try rfl
noncomputable def bt68 (cf : CallF) (R : Rec) : Rec := fun i l h =>
 br1 i 0 l (fun a0 => t68_0 cf R a0 h) <|
 .fail
noncomputable def b68 (cf : CallF) (R : Rec) : Rec := fun i l h =>
 brQ1 i 0 l (fun a0 => q68_0 cf R a0 h) <|
 .fail
theorem be68 : b68 = bt68 := by
  unfold b68 bt68
  simp only [qe68_0, brQ1_eq]
theorem r68 {T : Tab} {cf : CallF} (hc : leC cf (CL T)) (n : Nat) : leR (recN (b68 cf) n) (J68 T) := be68 ▸ recN_le (fun R hR i l h => by
  unfold bt68
  refine le_br1 (J := fun i l => J68 T i l h) (fun _ a0 => le_e (fun hn => e68_0 rfl hn) ((m68 hc hR) a0 h)) ?_
  exact le_fail _) n
-- 76
theorem m76 {cf cf' : CallF} {R R' : Rec} (hc : ∀ f l h, le (cf f l h) (cf' f l h)) (hR : ∀ i l h, le (R i l h) (R' i l h)) : (∀ (a0 a1 : IV) (h : H), le (t76_0 cf R a0 a1 h) (t76_0 cf' R' a0 a1 h)) := by
  intros
  unfold t76_0
  with_reducible repeat' first
    | refine le_obind fun _ => ?_
    | refine le_callP ?_ (fun _ _ => ?_) (fun _ _ => ?_)
    | refine le_condK ?_ ?_
    | exact hR _ _ _
    | refine le_obind2 fun _ _ => ?_
    | refine le_obindH fun _ => ?_
    | refine le_spanK (fun _ _ _ => ?_) (fun _ _ => ?_)
    | exact hc _ _ _
    | refine le_bif ?_ ?_
    | refine le_guardK ?_ ?_ ?_
    | refine le_mapK fun _ _ => ?_
    | refine le_panK fun _ _ => ?_
    | refine le_funK fun _ _ => ?_
    | exact le_refl _
    | apply_assumption
noncomputable def q76_0 (cf : CallF) (R : Rec) (a0 : IV) (a1 : IV) (h : H) : CRes :=
 Qo (Qnil a0) fun x1 =>
 Qo (ixA 256 1 x1 a1) fun x2 =>
 Qo (Ql0 h x2) fun x3 =>
 .ok x3 h
theorem qe76_0 : q76_0 = t76_0 := by
  unfold q76_0
  try simp only [QE]
  try rfl
noncomputable def bt76 (cf : CallF) (R : Rec) : Rec := fun i l h =>
 br2 i 0 l (fun a0 a1 => t76_0 cf R a0 a1 h) <|
 .fail
noncomputable def b76 (cf : CallF) (R : Rec) : Rec := fun i l h =>
 brQ2 i 0 l (fun a0 a1 => q76_0 cf R a0 a1 h) <|
 .fail
theorem be76 : b76 = bt76 := by
  unfold b76 bt76
  simp only [qe76_0, brQ2_eq]
theorem r76 {T : Tab} {cf : CallF} (hc : leC cf (CL T)) (n : Nat) : leR (recN (b76 cf) n) (J76 T) := be76 ▸ recN_le (fun R hR i l h => by
  unfold bt76
  refine le_br2 (J := fun i l => J76 T i l h) (fun _ a0 a1 => le_e (fun hn => e76_0 rfl hn) ((m76 hc hR) a0 a1 h)) ?_
  exact le_fail _) n
def tabB (f : FuncId) : Bool := [17, 46, 49, 70, 96, 69, 34].any fun x => Nat.beq f x
noncomputable def cfB (T : Tab) (cf : CallF) : CallF := fun f l h =>
 @Bool.rec (fun _ => CRes) (@Bool.rec (fun _ => CRes) (@Bool.rec (fun _ => CRes) (@Bool.rec (fun _ => CRes) (@Bool.rec (fun _ => CRes) (brQ1 f 7 l (fun a0 => QsP (recN (b7 cf) 1000000 0 [a0] ⟨h.next, h.objs, T.pol 7, h.tys⟩) h.pol) .fail) (@Bool.rec (fun _ => CRes) (brQ1 f 8 l (fun a0 => QsP (recN (b8 cf) 1000000 0 [a0] ⟨h.next, h.objs, T.pol 8, h.tys⟩) h.pol) .fail) (brQ3 f 9 l (fun a0 a1 a2 => QsP (recN (b9 cf) 1000000 0 [a0, a1, a2] ⟨h.next, h.objs, T.pol 9, h.tys⟩) h.pol) .fail) (Nat.ble 9 f)) (Nat.ble 8 f)) (@Bool.rec (fun _ => CRes) (brQ0 f 12 l (QsP (recN (b12 cf) 1000000 0 [] ⟨h.next, h.objs, T.pol 12, h.tys⟩) h.pol) .fail) (@Bool.rec (fun _ => CRes) (brQ1 f 13 l (fun a0 => QsP (recN (b13 cf) 1000000 0 [a0] ⟨h.next, h.objs, T.pol 13, h.tys⟩) h.pol) .fail) (brQ1 f 15 l (fun a0 => QsP (recN (b15 cf) 1000000 0 [a0] ⟨h.next, h.objs, T.pol 15, h.tys⟩) h.pol) .fail) (Nat.ble 15 f)) (Nat.ble 13 f)) (Nat.ble 12 f)) (@Bool.rec (fun _ => CRes) (@Bool.rec (fun _ => CRes) (brQ2 f 16 l (fun a0 a1 => QsP (recN (b16 cf) 1000000 0 [a0, a1] ⟨h.next, h.objs, T.pol 16, h.tys⟩) h.pol) .fail) (@Bool.rec (fun _ => CRes) (brQ1 f 17 l (fun a0 => ovK (T.ov 17) [a0] h (QsP (recN (b17 cf) 1000000 0 [a0] ⟨h.next, h.objs, T.pol 17, h.tys⟩) h.pol)) .fail) (brQ1 f 18 l (fun a0 => QsP (recN (b18 cf) 1000000 0 [a0] ⟨h.next, h.objs, T.pol 18, h.tys⟩) h.pol) .fail) (Nat.ble 18 f)) (Nat.ble 17 f)) (@Bool.rec (fun _ => CRes) (brQ2 f 19 l (fun a0 a1 => QsP (recN (b19 cf) 1000000 0 [a0, a1] ⟨h.next, h.objs, T.pol 19, h.tys⟩) h.pol) .fail) (@Bool.rec (fun _ => CRes) (brQ1 f 20 l (fun a0 => QsP (recN (b20 cf) 1000000 0 [a0] ⟨h.next, h.objs, T.pol 20, h.tys⟩) h.pol) .fail) (brQ1 f 21 l (fun a0 => QsP (recN (b21 cf) 1000000 0 [a0] ⟨h.next, h.objs, T.pol 21, h.tys⟩) h.pol) .fail) (Nat.ble 21 f)) (Nat.ble 20 f)) (Nat.ble 19 f)) (Nat.ble 16 f)) (@Bool.rec (fun _ => CRes) (@Bool.rec (fun _ => CRes) (@Bool.rec (fun _ => CRes) (brQ2 f 23 l (fun a0 a1 => QsP (recN (b23 cf) 1000000 0 [a0, a1] ⟨h.next, h.objs, T.pol 23, h.tys⟩) h.pol) .fail) (@Bool.rec (fun _ => CRes) (brQ1 f 24 l (fun a0 => QsP (recN (b24 cf) 1000000 0 [a0] ⟨h.next, h.objs, T.pol 24, h.tys⟩) h.pol) .fail) (brQ2 f 25 l (fun a0 a1 => QsP (recN (b25 cf) 1000000 0 [a0, a1] ⟨h.next, h.objs, T.pol 25, h.tys⟩) h.pol) .fail) (Nat.ble 25 f)) (Nat.ble 24 f)) (@Bool.rec (fun _ => CRes) (brQ1 f 26 l (fun a0 => QsP (recN (b26 cf) 1000000 0 [a0] ⟨h.next, h.objs, T.pol 26, h.tys⟩) h.pol) .fail) (@Bool.rec (fun _ => CRes) (brQ1 f 27 l (fun a0 => QsP (recN (b27 cf) 1000000 0 [a0] ⟨h.next, h.objs, T.pol 27, h.tys⟩) h.pol) .fail) (brQ1 f 28 l (fun a0 => QsP (recN (b28 cf) 1000000 0 [a0] ⟨h.next, h.objs, T.pol 28, h.tys⟩) h.pol) .fail) (Nat.ble 28 f)) (Nat.ble 27 f)) (Nat.ble 26 f)) (@Bool.rec (fun _ => CRes) (@Bool.rec (fun _ => CRes) (brQ1 f 32 l (fun a0 => QsP (recN (b32 cf) 1000000 0 [a0] ⟨h.next, h.objs, T.pol 32, h.tys⟩) h.pol) .fail) (@Bool.rec (fun _ => CRes) (brQ2 f 33 l (fun a0 a1 => QsP (recN (b33 cf) 1000000 0 [a0, a1] ⟨h.next, h.objs, T.pol 33, h.tys⟩) h.pol) .fail) (brQ1 f 34 l (fun a0 => ovK (T.ov 34) [a0] h (QsP (recN (b34 cf) 1000000 0 [a0] ⟨h.next, h.objs, T.pol 34, h.tys⟩) h.pol)) .fail) (Nat.ble 34 f)) (Nat.ble 33 f)) (@Bool.rec (fun _ => CRes) (brQ1 f 35 l (fun a0 => QsP (recN (b35 cf) 1000000 0 [a0] ⟨h.next, h.objs, T.pol 35, h.tys⟩) h.pol) .fail) (@Bool.rec (fun _ => CRes) (brQ2 f 36 l (fun a0 a1 => QsP (recN (b36 cf) 1000000 0 [a0, a1] ⟨h.next, h.objs, T.pol 36, h.tys⟩) h.pol) .fail) (brQ1 f 37 l (fun a0 => QsP (recN (b37 cf) 1000000 0 [a0] ⟨h.next, h.objs, T.pol 37, h.tys⟩) h.pol) .fail) (Nat.ble 37 f)) (Nat.ble 36 f)) (Nat.ble 35 f)) (Nat.ble 32 f)) (Nat.ble 23 f)) (@Bool.rec (fun _ => CRes) (@Bool.rec (fun _ => CRes) (@Bool.rec (fun _ => CRes) (@Bool.rec (fun _ => CRes) (brQ4 f 39 l (fun a0 a1 a2 a3 => QsP (recN (b39 cf) 1000000 0 [a0, a1, a2, a3] ⟨h.next, h.objs, T.pol 39, h.tys⟩) h.pol) .fail) (@Bool.rec (fun _ => CRes) (brQ2 f 40 l (fun a0 a1 => QsP (recN (b40 cf) 1000000 0 [a0, a1] ⟨h.next, h.objs, T.pol 40, h.tys⟩) h.pol) .fail) (brQ1 f 41 l (fun a0 => QsP (recN (b41 cf) 1000000 0 [a0] ⟨h.next, h.objs, T.pol 41, h.tys⟩) h.pol) .fail) (Nat.ble 41 f)) (Nat.ble 40 f)) (@Bool.rec (fun _ => CRes) (brQ2 f 42 l (fun a0 a1 => QsP (recN (b42 cf) 1000000 0 [a0, a1] ⟨h.next, h.objs, T.pol 42, h.tys⟩) h.pol) .fail) (@Bool.rec (fun _ => CRes) (brQ2 f 43 l (fun a0 a1 => QsP (recN (b43 cf) 1000000 0 [a0, a1] ⟨h.next, h.objs, T.pol 43, h.tys⟩) h.pol) .fail) (brQ1 f 44 l (fun a0 => QsP (recN (b44 cf) 1000000 0 [a0] ⟨h.next, h.objs, T.pol 44, h.tys⟩) h.pol) .fail) (Nat.ble 44 f)) (Nat.ble 43 f)) (Nat.ble 42 f)) (@Bool.rec (fun _ => CRes) (@Bool.rec (fun _ => CRes) (brQ2 f 45 l (fun a0 a1 => QsP (recN (b45 cf) 1000000 0 [a0, a1] ⟨h.next, h.objs, T.pol 45, h.tys⟩) h.pol) .fail) (@Bool.rec (fun _ => CRes) (brQ1 f 46 l (fun a0 => ovK (T.ov 46) [a0] h (CRes.fail)) .fail) (brQ2 f 49 l (fun a0 a1 => ovK (T.ov 49) [a0, a1] h (CRes.fail)) .fail) (Nat.ble 49 f)) (Nat.ble 46 f)) (@Bool.rec (fun _ => CRes) (brQ2 f 50 l (fun a0 a1 => QsP (recN (b50 cf) 1000000 0 [a0, a1] ⟨h.next, h.objs, T.pol 50, h.tys⟩) h.pol) .fail) (@Bool.rec (fun _ => CRes) (brQ2 f 51 l (fun a0 a1 => QsP (recN (b51 cf) 1000000 0 [a0, a1] ⟨h.next, h.objs, T.pol 51, h.tys⟩) h.pol) .fail) (brQ1 f 52 l (fun a0 => QsP (recN (b52 cf) 1000000 0 [a0] ⟨h.next, h.objs, T.pol 52, h.tys⟩) h.pol) .fail) (Nat.ble 52 f)) (Nat.ble 51 f)) (Nat.ble 50 f)) (Nat.ble 45 f)) (@Bool.rec (fun _ => CRes) (@Bool.rec (fun _ => CRes) (@Bool.rec (fun _ => CRes) (brQ3 f 54 l (fun a0 a1 a2 => QsP (recN (b54 cf) 1000000 0 [a0, a1, a2] ⟨h.next, h.objs, T.pol 54, h.tys⟩) h.pol) .fail) (@Bool.rec (fun _ => CRes) (brQ2 f 55 l (fun a0 a1 => QsP (recN (b55 cf) 1000000 0 [a0, a1] ⟨h.next, h.objs, T.pol 55, h.tys⟩) h.pol) .fail) (brQ2 f 56 l (fun a0 a1 => QsP (recN (b56 cf) 1000000 0 [a0, a1] ⟨h.next, h.objs, T.pol 56, h.tys⟩) h.pol) .fail) (Nat.ble 56 f)) (Nat.ble 55 f)) (@Bool.rec (fun _ => CRes) (brQ1 f 57 l (fun a0 => QsP (recN (b57 cf) 1000000 0 [a0] ⟨h.next, h.objs, T.pol 57, h.tys⟩) h.pol) .fail) (@Bool.rec (fun _ => CRes) (brQ2 f 58 l (fun a0 a1 => QsP (recN (b58 cf) 1000000 0 [a0, a1] ⟨h.next, h.objs, T.pol 58, h.tys⟩) h.pol) .fail) (brQ2 f 59 l (fun a0 a1 => QsP (recN (b59 cf) 1000000 0 [a0, a1] ⟨h.next, h.objs, T.pol 59, h.tys⟩) h.pol) .fail) (Nat.ble 59 f)) (Nat.ble 58 f)) (Nat.ble 57 f)) (@Bool.rec (fun _ => CRes) (@Bool.rec (fun _ => CRes) (brQ1 f 62 l (fun a0 => QsP (recN (b62 cf) 1000000 0 [a0] ⟨h.next, h.objs, T.pol 62, h.tys⟩) h.pol) .fail) (@Bool.rec (fun _ => CRes) (brQ1 f 67 l (fun a0 => QsP (recN (b67 cf) 1000000 0 [a0] ⟨h.next, h.objs, T.pol 67, h.tys⟩) h.pol) .fail) (brQ1 f 68 l (fun a0 => QsP (recN (b68 cf) 1000000 0 [a0] ⟨h.next, h.objs, T.pol 68, h.tys⟩) h.pol) .fail) (Nat.ble 68 f)) (Nat.ble 67 f)) (@Bool.rec (fun _ => CRes) (@Bool.rec (fun _ => CRes) (brQ2 f 69 l (fun a0 a1 => ovK (T.ov 69) [a0, a1] h (CRes.fail)) .fail) (brQ2 f 70 l (fun a0 a1 => ovK (T.ov 70) [a0, a1] h (CRes.fail)) .fail) (Nat.ble 70 f)) (@Bool.rec (fun _ => CRes) (brQ2 f 76 l (fun a0 a1 => QsP (recN (b76 cf) 1000000 0 [a0, a1] ⟨h.next, h.objs, T.pol 76, h.tys⟩) h.pol) .fail) (brQ2 f 96 l (fun a0 a1 => ovK (T.ov 96) [a0, a1] h (CRes.fail)) .fail) (Nat.ble 96 f)) (Nat.ble 76 f)) (Nat.ble 69 f)) (Nat.ble 62 f)) (Nat.ble 54 f)) (Nat.ble 39 f)
theorem cfB_le {T : Tab} (hN : ∀ f, tabB f = false → T.ov f = none) (cf : CallF) (hc : leC cf (CL T)) (f : FuncId) (l : List IV) (h : H) : le (cfB T cf f l h) (CL T f l h) := by
  unfold cfB
  simp only [QsP_eq, brQ0_eq, brQ1_eq, brQ2_eq, brQ3_eq, brQ4_eq]
  refine le_brec ?_ ?_
  · refine le_brec ?_ ?_
    · refine le_brec ?_ ?_
      · refine le_brec ?_ ?_
        · refine le_brec ?_ ?_
          · refine le_brec ?_ ?_
            · exact le_br2 (J := fun f l => CL T f l h) (fun e a0 a1 => le_ovK fun _ => le_fail _) (le_fail _)
            · exact le_br2 (J := fun f l => CL T f l h) (fun e a0 a1 => call_le (hN 76 rfl) Tryd.func76 rfl rfl rfl (r76 hc _ 0 _ _)) (le_fail _)
          · refine le_brec ?_ ?_
            · exact le_br2 (J := fun f l => CL T f l h) (fun e a0 a1 => le_ovK fun _ => le_fail _) (le_fail _)
            · exact le_br2 (J := fun f l => CL T f l h) (fun e a0 a1 => le_ovK fun _ => le_fail _) (le_fail _)
        · refine le_brec ?_ ?_
          · refine le_brec ?_ ?_
            · exact le_br1 (J := fun f l => CL T f l h) (fun e a0 => call_le (hN 68 rfl) Tryd.func68 rfl rfl rfl (r68 hc _ 0 _ _)) (le_fail _)
            · exact le_br1 (J := fun f l => CL T f l h) (fun e a0 => call_le (hN 67 rfl) Tryd.func67 rfl rfl rfl (r67 hc _ 0 _ _)) (le_fail _)
          · exact le_br1 (J := fun f l => CL T f l h) (fun e a0 => call_le (hN 62 rfl) Tryd.func62 rfl rfl rfl (r62 hc _ 0 _ _)) (le_fail _)
      · refine le_brec ?_ ?_
        · refine le_brec ?_ ?_
          · refine le_brec ?_ ?_
            · exact le_br2 (J := fun f l => CL T f l h) (fun e a0 a1 => call_le (hN 59 rfl) Tryd.func59 rfl rfl rfl (r59 hc _ 0 _ _)) (le_fail _)
            · exact le_br2 (J := fun f l => CL T f l h) (fun e a0 a1 => call_le (hN 58 rfl) Tryd.func58 rfl rfl rfl (r58 hc _ 0 _ _)) (le_fail _)
          · exact le_br1 (J := fun f l => CL T f l h) (fun e a0 => call_le (hN 57 rfl) Tryd.func57 rfl rfl rfl (r57 hc _ 0 _ _)) (le_fail _)
        · refine le_brec ?_ ?_
          · refine le_brec ?_ ?_
            · exact le_br2 (J := fun f l => CL T f l h) (fun e a0 a1 => call_le (hN 56 rfl) Tryd.func56 rfl rfl rfl (r56 hc _ 0 _ _)) (le_fail _)
            · exact le_br2 (J := fun f l => CL T f l h) (fun e a0 a1 => call_le (hN 55 rfl) Tryd.func55 rfl rfl rfl (r55 hc _ 0 _ _)) (le_fail _)
          · exact le_br3 (J := fun f l => CL T f l h) (fun e a0 a1 a2 => call_le (hN 54 rfl) Tryd.func54 rfl rfl rfl (r54 hc _ 0 _ _)) (le_fail _)
    · refine le_brec ?_ ?_
      · refine le_brec ?_ ?_
        · refine le_brec ?_ ?_
          · refine le_brec ?_ ?_
            · exact le_br1 (J := fun f l => CL T f l h) (fun e a0 => call_le (hN 52 rfl) Tryd.func52 rfl rfl rfl (r52 hc _ 0 _ _)) (le_fail _)
            · exact le_br2 (J := fun f l => CL T f l h) (fun e a0 a1 => call_le (hN 51 rfl) Tryd.func51 rfl rfl rfl (r51 hc _ 0 _ _)) (le_fail _)
          · exact le_br2 (J := fun f l => CL T f l h) (fun e a0 a1 => call_le (hN 50 rfl) Tryd.func50 rfl rfl rfl (r50 hc _ 0 _ _)) (le_fail _)
        · refine le_brec ?_ ?_
          · refine le_brec ?_ ?_
            · exact le_br2 (J := fun f l => CL T f l h) (fun e a0 a1 => le_ovK fun _ => le_fail _) (le_fail _)
            · exact le_br1 (J := fun f l => CL T f l h) (fun e a0 => le_ovK fun _ => le_fail _) (le_fail _)
          · exact le_br2 (J := fun f l => CL T f l h) (fun e a0 a1 => call_le (hN 45 rfl) Tryd.func45 rfl rfl rfl (r45 hc _ 0 _ _)) (le_fail _)
      · refine le_brec ?_ ?_
        · refine le_brec ?_ ?_
          · refine le_brec ?_ ?_
            · exact le_br1 (J := fun f l => CL T f l h) (fun e a0 => call_le (hN 44 rfl) Tryd.func44 rfl rfl rfl (r44 hc _ 0 _ _)) (le_fail _)
            · exact le_br2 (J := fun f l => CL T f l h) (fun e a0 a1 => call_le (hN 43 rfl) Tryd.func43 rfl rfl rfl (r43 hc _ 0 _ _)) (le_fail _)
          · exact le_br2 (J := fun f l => CL T f l h) (fun e a0 a1 => call_le (hN 42 rfl) Tryd.func42 rfl rfl rfl (r42 hc _ 0 _ _)) (le_fail _)
        · refine le_brec ?_ ?_
          · refine le_brec ?_ ?_
            · exact le_br1 (J := fun f l => CL T f l h) (fun e a0 => call_le (hN 41 rfl) Tryd.func41 rfl rfl rfl (r41 hc _ 0 _ _)) (le_fail _)
            · exact le_br2 (J := fun f l => CL T f l h) (fun e a0 a1 => call_le (hN 40 rfl) Tryd.func40 rfl rfl rfl (r40 hc _ 0 _ _)) (le_fail _)
          · exact le_br4 (J := fun f l => CL T f l h) (fun e a0 a1 a2 a3 => call_le (hN 39 rfl) Tryd.func39 rfl rfl rfl (r39 hc _ 0 _ _)) (le_fail _)
  · refine le_brec ?_ ?_
    · refine le_brec ?_ ?_
      · refine le_brec ?_ ?_
        · refine le_brec ?_ ?_
          · refine le_brec ?_ ?_
            · exact le_br1 (J := fun f l => CL T f l h) (fun e a0 => call_le (hN 37 rfl) Tryd.func37 rfl rfl rfl (r37 hc _ 0 _ _)) (le_fail _)
            · exact le_br2 (J := fun f l => CL T f l h) (fun e a0 a1 => call_le (hN 36 rfl) Tryd.func36 rfl rfl rfl (r36 hc _ 0 _ _)) (le_fail _)
          · exact le_br1 (J := fun f l => CL T f l h) (fun e a0 => call_le (hN 35 rfl) Tryd.func35 rfl rfl rfl (r35 hc _ 0 _ _)) (le_fail _)
        · refine le_brec ?_ ?_
          · refine le_brec ?_ ?_
            · exact le_br1 (J := fun f l => CL T f l h) (fun e a0 => le_ovK fun ho => call_le ho Tryd.func34 rfl rfl rfl (r34 hc _ 0 _ _)) (le_fail _)
            · exact le_br2 (J := fun f l => CL T f l h) (fun e a0 a1 => call_le (hN 33 rfl) Tryd.func33 rfl rfl rfl (r33 hc _ 0 _ _)) (le_fail _)
          · exact le_br1 (J := fun f l => CL T f l h) (fun e a0 => call_le (hN 32 rfl) Tryd.func32 rfl rfl rfl (r32 hc _ 0 _ _)) (le_fail _)
      · refine le_brec ?_ ?_
        · refine le_brec ?_ ?_
          · refine le_brec ?_ ?_
            · exact le_br1 (J := fun f l => CL T f l h) (fun e a0 => call_le (hN 28 rfl) Tryd.func28 rfl rfl rfl (r28 hc _ 0 _ _)) (le_fail _)
            · exact le_br1 (J := fun f l => CL T f l h) (fun e a0 => call_le (hN 27 rfl) Tryd.func27 rfl rfl rfl (r27 hc _ 0 _ _)) (le_fail _)
          · exact le_br1 (J := fun f l => CL T f l h) (fun e a0 => call_le (hN 26 rfl) Tryd.func26 rfl rfl rfl (r26 hc _ 0 _ _)) (le_fail _)
        · refine le_brec ?_ ?_
          · refine le_brec ?_ ?_
            · exact le_br2 (J := fun f l => CL T f l h) (fun e a0 a1 => call_le (hN 25 rfl) Tryd.func25 rfl rfl rfl (r25 hc _ 0 _ _)) (le_fail _)
            · exact le_br1 (J := fun f l => CL T f l h) (fun e a0 => call_le (hN 24 rfl) Tryd.func24 rfl rfl rfl (r24 hc _ 0 _ _)) (le_fail _)
          · exact le_br2 (J := fun f l => CL T f l h) (fun e a0 a1 => call_le (hN 23 rfl) Tryd.func23 rfl rfl rfl (r23 hc _ 0 _ _)) (le_fail _)
    · refine le_brec ?_ ?_
      · refine le_brec ?_ ?_
        · refine le_brec ?_ ?_
          · refine le_brec ?_ ?_
            · exact le_br1 (J := fun f l => CL T f l h) (fun e a0 => call_le (hN 21 rfl) Tryd.func21 rfl rfl rfl (r21 hc _ 0 _ _)) (le_fail _)
            · exact le_br1 (J := fun f l => CL T f l h) (fun e a0 => call_le (hN 20 rfl) Tryd.func20 rfl rfl rfl (r20 hc _ 0 _ _)) (le_fail _)
          · exact le_br2 (J := fun f l => CL T f l h) (fun e a0 a1 => call_le (hN 19 rfl) Tryd.func19 rfl rfl rfl (r19 hc _ 0 _ _)) (le_fail _)
        · refine le_brec ?_ ?_
          · refine le_brec ?_ ?_
            · exact le_br1 (J := fun f l => CL T f l h) (fun e a0 => call_le (hN 18 rfl) Tryd.func18 rfl rfl rfl (r18 hc _ 0 _ _)) (le_fail _)
            · exact le_br1 (J := fun f l => CL T f l h) (fun e a0 => le_ovK fun ho => call_le ho Tryd.func17 rfl rfl rfl (r17 hc _ 0 _ _)) (le_fail _)
          · exact le_br2 (J := fun f l => CL T f l h) (fun e a0 a1 => call_le (hN 16 rfl) Tryd.func16 rfl rfl rfl (r16 hc _ 0 _ _)) (le_fail _)
      · refine le_brec ?_ ?_
        · refine le_brec ?_ ?_
          · refine le_brec ?_ ?_
            · exact le_br1 (J := fun f l => CL T f l h) (fun e a0 => call_le (hN 15 rfl) Tryd.func15 rfl rfl rfl (r15 hc _ 0 _ _)) (le_fail _)
            · exact le_br1 (J := fun f l => CL T f l h) (fun e a0 => call_le (hN 13 rfl) Tryd.func13 rfl rfl rfl (r13 hc _ 0 _ _)) (le_fail _)
          · exact le_br0 (J := fun f l => CL T f l h) (fun e => call_le (hN 12 rfl) Tryd.func12 rfl rfl rfl (r12 hc _ 0 _ _)) (le_fail _)
        · refine le_brec ?_ ?_
          · refine le_brec ?_ ?_
            · exact le_br3 (J := fun f l => CL T f l h) (fun e a0 a1 a2 => call_le (hN 9 rfl) Tryd.func9 rfl rfl rfl (r9 hc _ 0 _ _)) (le_fail _)
            · exact le_br1 (J := fun f l => CL T f l h) (fun e a0 => call_le (hN 8 rfl) Tryd.func8 rfl rfl rfl (r8 hc _ 0 _ _)) (le_fail _)
          · exact le_br1 (J := fun f l => CL T f l h) (fun e a0 => call_le (hN 7 rfl) Tryd.func7 rfl rfl rfl (r7 hc _ 0 _ _)) (le_fail _)

/-- the run of a closed call -/
noncomputable def CN (T : Tab) (n : Nat) : CallF := @Nat.rec (fun _ => CallF) (fun _ _ _ => .fail) (fun _ cf => cfB T cf) n
theorem CN_le {T : Tab} (hN : ∀ f, tabB f = false → T.ov f = none) (n : Nat) : leC (CN T n) (CL T) := by
  induction n with
  | zero => exact fun _ _ _ => le_fail _
  | succ n ih => exact fun f l h => cfB_le hN _ ih f l h
theorem CN_val {T : Tab} (hN : ∀ f, tabB f = false → T.ov f = none) {n : Nat} {f : FuncId} {args : List IV} {h : H} {v : IV} (e : (CN T n f args h).val = some v) : ∃ h', CL T f args h = .ok v h' := run_val (CN_le hN n) e

end Go.Proofs.YtdccdfmbakbikaaDoor
