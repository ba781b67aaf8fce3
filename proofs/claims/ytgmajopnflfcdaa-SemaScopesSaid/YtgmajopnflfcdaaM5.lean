/- M5: Printed by run.py (own tool): the runs of closed calls, by each function's words. -/
import Derived.Test.YtgmajopnflfcdaaM3
import Derived.Test.YtgmajopnflfcdaaM4
namespace Go.Proofs.Ytgmajopnflfcdaa
open Go I
set_option linter.unusedVariables false
set_option maxRecDepth 100000

-- 16
theorem m16 {cf cf' : CallF} {R R' : Rec} (hc : ∀ f l h, le (cf f l h) (cf' f l h)) (hR : ∀ i l h, le (R i l h) (R' i l h)) : (∀ (a0 a4 : IV) (h : H), le (t16_0 cf R a0 a4 h) (t16_0 cf' R' a0 a4 h)) := by
  intros
  unfold t16_0
  with_reducible repeat' first
    | refine le_obind fun _ => ?_
    | refine le_callP ?_ (fun _ _ => ?_) (fun _ _ => ?_)
    | refine le_condK ?_ ?_
    | exact hR _ _ _
    | refine le_obind2 fun _ _ => ?_
    | refine le_obindH fun _ => ?_
    | refine le_spanK (fun _ _ _ => ?_) (fun _ _ => ?_)
    | exact hc _ _ _
    | refine le_bif ?_ ?_
    | refine le_guardK ?_ ?_ ?_
    | refine le_mapK fun _ _ => ?_
    | refine le_panK fun _ _ => ?_
    | refine le_funK fun _ _ => ?_
    | exact le_refl _
    | apply_assumption
noncomputable def q16_0 (cf : CallF) (R : Rec) (a0 : IV) (a4 : IV) (h : H) : CRes :=
 Qo (eqIf .eql true a4 .nilIface) fun x1 =>
 Qif x1
 (.ok (.tup []) h)
 (Qo (assertI 58 true (some (.agg [(.int .i64 0), (.int .i64 0)])) a4) fun x2 =>
 Qo (Qext x2 1) fun x3 =>
 Qo (Qext x2 0) fun x4 =>
 Qif x3
 (Qo2 (QnI h [(.int .i64 0), (.int .i64 0)]) fun x5 h6 =>
 QoH (QsA 2 h6 x5 x4) fun h7 =>
 Qo (Qfad 0 x5) fun x8 =>
 Qo (QlA 2 h7 x8) fun x9 =>
 Qo2 (Qbsl false 2 [(.int .i64 0), (.int .i64 0)] 1 [(0, x9)] h7) fun x10 h11 =>
 QoH (QsA 1 h11 a0 x10) fun h12 =>
 .ok (.tup []) h12)
 (panK a4 h nop))
theorem qe16_0 : q16_0 = t16_0 := by
  unfold q16_0
  try simp only [QE]
  try rfl
noncomputable def bt16 (cf : CallF) (R : Rec) : Rec := fun i l h =>
 br2 i 0 l (fun a0 a4 => t16_0 cf R a0 a4 h) <|
 .fail
noncomputable def b16 (cf : CallF) (R : Rec) : Rec := fun i l h =>
 brQ2 i 0 l (fun a0 a4 => q16_0 cf R a0 a4 h) <|
 .fail
theorem be16 : b16 = bt16 := by
  unfold b16 bt16
  simp only [qe16_0, brQ2_eq]
theorem r16 {T : Tab} {cf : CallF} (hc : leC cf (CL T)) (n : Nat) : leR (recN (b16 cf) n) (J16 T) := be16 ▸ recN_le (fun R hR i l h => by
  unfold bt16
  refine le_br2 (J := fun i l => J16 T i l h) (fun _ a0 a4 => le_e (fun hn => e16_0 rfl hn) ((m16 hc hR) a0 a4 h)) ?_
  exact le_fail _) n
noncomputable def L16 (cf : CallF) (l : List IV) (st : I.Mode) (h : H) : Option (I.Mode × H) :=
 match l with
 | [a0] => lvM st (lvK (t16_0 cf (recN (b16 cf) 1000000) a0 (recV st) h))
 | _ => none
theorem lle16 {T : Tab} {cf : CallF} (hc : leC cf (CL T)) (l : List IV) (st : I.Mode) (h : H) : leO (L16 cf l st h) (LV Try.prog (CL T) 16 l st h) := by
  unfold L16
  split
  · exact lvM_le fun hst => lvK_le ((m16 hc (r16 hc _)) _ _ h) fun v h' e => l16 hst e
  · intro z hz; cases hz
-- 5
theorem m5 {cf cf' : CallF} {R R' : Rec} (hc : ∀ f l h, le (cf f l h) (cf' f l h)) (hR : ∀ i l h, le (R i l h) (R' i l h)) :
  (∀ (a0 : IV) (h : H), le (t5_0 cf R a0 h) (t5_0 cf' R' a0 h)) ∧
  (∀ (a3 a4 a5 : IV) (h : H), le (t5_1 cf R a3 a4 a5 h) (t5_1 cf' R' a3 a4 a5 h)) ∧
  (∀ (a3 a4 a6 : IV) (h : H), le (t5_2 cf R a3 a4 a6 h) (t5_2 cf' R' a3 a4 a6 h)) := by
  refine ⟨?_, ?_, ?_⟩
  all_goals intros
  all_goals first | unfold t5_0 | unfold t5_1 | unfold t5_2
  all_goals
  with_reducible repeat' first
    | refine le_obind fun _ => ?_
    | refine le_callP ?_ (fun _ _ => ?_) (fun _ _ => ?_)
    | refine le_condK ?_ ?_
    | exact hR _ _ _
    | refine le_obind2 fun _ _ => ?_
    | refine le_obindH fun _ => ?_
    | refine le_spanK (fun _ _ _ => ?_) (fun _ _ => ?_)
    | exact hc _ _ _
    | refine le_bif ?_ ?_
    | refine le_guardK ?_ ?_ ?_
    | refine le_mapK fun _ _ => ?_
    | refine le_panK fun _ _ => ?_
    | refine le_funK fun _ _ => ?_
    | exact le_refl _
    | apply_assumption
noncomputable def q5_0 (cf : CallF) (R : Rec) (a0 : IV) (h : H) : CRes :=
 Qo (binN .and a0 (.int .i64 31)) fun x1 =>
 Qo (binN .rem x1 (.int .i64 20)) fun x2 =>
 R 1 [x2, (.str ⟨43, 4511958892279302592037838659287471757360031553175582169925867472317880056563007935988880239883784056685⟩), (.int .i64 0)] h
theorem qe5_0 : q5_0 = t5_0 := by
  unfold q5_0
  try simp only [QE]
  try rfl
noncomputable def q5_1 (cf : CallF) (R : Rec) (a3 : IV) (a4 : IV) (a5 : IV) (h : H) : CRes :=
 Qo (Qlss a5 a3) fun x3 =>
 Qif x3
 (Qo (binS .add a4 (.str ⟨62, 25758731674359092827155979911708847622083293093301537492298217921566470966266605282465132149632355478020549638273730659925261534405150842291206909798⟩)) fun x4 =>
 Qo (Qadd a5 (.int .i64 1)) fun x5 =>
 R 1 [a3, x4, x5] h)
 (R 2 [a3, a4, (.int .i64 0)] h)
theorem qe5_1 : q5_1 = t5_1 := by
  unfold q5_1
  try simp only [QE]
  try rfl
noncomputable def q5_2p2 (cf : CallF) (R : Rec) (x21 : IV) (h20 : H) (x19 : IV) (a4 : IV) : CRes :=
 Qo (Qeql x21 (.int .i64 1)) fun x22 =>
 Qsp x22 true h20 (fun k23 =>
 Qo (Qix 2 x19 (.int .i64 0)) fun x26 =>
 Qo (QlA 2 h20 x26) fun x27 =>
 Qo (Qls a4) fun x28 =>
 Qo (Qbld [(.int .i64 0), (.int .i64 0)] [(0, 1), (1, 1)] [(0, x28), (1, (.int .i64 73))]) fun x29 =>
 Qo (binK Try.prog h20 .eql 47 false false x27 x29) fun x30 =>
 k23 x30 h20) fun x24 h25 =>
 Qo (Qpk x22 (some x24) (some (.bool false))) fun x31 =>
 Qsp x31 true h25 (fun k32 =>
 Qc (cf 12 [] h25) .pan fun x35 h36 =>
 k32 x35 h36) fun x33 h34 =>
 Qo (Qpk x31 (some x33) (some (.bool false))) fun x37 =>
 .ok x37 h34
noncomputable def q5_2p1 (cf : CallF) (R : Rec) (x14 : IV) (h13 : H) (a4 : IV) : CRes :=
 Qo (Qneq x14 (.int .i64 0)) fun x15 =>
 Qif x15
 (.ok (.bool false) h13)
 (Qo (binS .add a4 (.str ⟨23, 9714457268060405151475251731703064217357865765513163617⟩)) fun x16 =>
 Qc (cf 7 [x16] h13) .pan fun x17 h18 =>
 Qc (cf 9 [x17] h18) .pan fun x19 h20 =>
 Qo (Qle x19) fun x21 =>
 q5_2p2 cf R x21 h20 x19 a4)
noncomputable def q5_2 (cf : CallF) (R : Rec) (a3 : IV) (a4 : IV) (a6 : IV) (h : H) : CRes :=
 Qo (Qlss a6 a3) fun x6 =>
 Qif x6
 (Qo (binS .add a4 (.str ⟨4, 543452773⟩)) fun x7 =>
 Qo (Qadd a6 (.int .i64 1)) fun x8 =>
 R 2 [a3, x7, x8] h)
 (Qo (binS .add a4 (.str ⟨9, 1870936414602775522917⟩)) fun x9 =>
 Qc (cf 7 [x9] h) .pan fun x10 h11 =>
 Qc (cf 9 [x10] h11) .pan fun x12 h13 =>
 Qo (Qle x12) fun x14 =>
 q5_2p1 cf R x14 h13 a4)
theorem qe5_2 : q5_2 = t5_2 := by
  unfold q5_2 q5_2p1 q5_2p2
  try simp only [QE]
  try rfl
noncomputable def bt5 (cf : CallF) (R : Rec) : Rec := fun i l h =>
 br1 i 0 l (fun a0 => t5_0 cf R a0 h) <|
 br3 i 1 l (fun a3 a4 a5 => t5_1 cf R a3 a4 a5 h) <|
 br3 i 2 l (fun a3 a4 a6 => t5_2 cf R a3 a4 a6 h) <|
 .fail
noncomputable def b5 (cf : CallF) (R : Rec) : Rec := fun i l h =>
 brQ1 i 0 l (fun a0 => q5_0 cf R a0 h) <|
 brQ3 i 1 l (fun a3 a4 a5 => q5_1 cf R a3 a4 a5 h) <|
 brQ3 i 2 l (fun a3 a4 a6 => q5_2 cf R a3 a4 a6 h) <|
 .fail
theorem be5 : b5 = bt5 := by
  unfold b5 bt5
  simp only [qe5_0, qe5_1, qe5_2, brQ1_eq, brQ3_eq]
theorem r5 {T : Tab} {cf : CallF} (hc : leC cf (CL T)) (n : Nat) : leR (recN (b5 cf) n) (J5 T) := be5 ▸ recN_le (fun R hR i l h => by
  unfold bt5
  refine le_br1 (J := fun i l => J5 T i l h) (fun _ a0 => le_e (fun hn => e5_0 rfl hn) ((m5 hc hR).1 a0 h)) ?_
  refine le_br3 (J := fun i l => J5 T i l h) (fun _ a3 a4 a5 => le_e (fun hn => e5_1 rfl hn) ((m5 hc hR).2.1 a3 a4 a5 h)) ?_
  refine le_br3 (J := fun i l => J5 T i l h) (fun _ a3 a4 a6 => le_e (fun hn => e5_2 rfl hn) ((m5 hc hR).2.2 a3 a4 a6 h)) ?_
  exact le_fail _) n
-- 6
theorem m6 {cf cf' : CallF} {R R' : Rec} (hc : ∀ f l h, le (cf f l h) (cf' f l h)) (hR : ∀ i l h, le (R i l h) (R' i l h)) :
  (∀ (a0 a1 : IV) (h : H), le (t6_0 cf R a0 a1 h) (t6_0 cf' R' a0 a1 h)) ∧
  (∀ (a5 a6 a7 a8 : IV) (h : H), le (t6_1 cf R a5 a6 a7 a8 h) (t6_1 cf' R' a5 a6 a7 a8 h)) ∧
  (∀ (a5 a6 a7 a9 : IV) (h : H), le (t6_2 cf R a5 a6 a7 a9 h) (t6_2 cf' R' a5 a6 a7 a9 h)) ∧
  (∀ (a5 a6 a7 a9 : IV) (h : H), le (t6_3 cf R a5 a6 a7 a9 h) (t6_3 cf' R' a5 a6 a7 a9 h)) := by
  refine ⟨?_, ?_, ?_, ?_⟩
  all_goals intros
  all_goals first | unfold t6_0 | unfold t6_1 | unfold t6_2 | unfold t6_3
  all_goals
  with_reducible repeat' first
    | refine le_obind fun _ => ?_
    | refine le_callP ?_ (fun _ _ => ?_) (fun _ _ => ?_)
    | refine le_condK ?_ ?_
    | exact hR _ _ _
    | refine le_obind2 fun _ _ => ?_
    | refine le_obindH fun _ => ?_
    | refine le_spanK (fun _ _ _ => ?_) (fun _ _ => ?_)
    | exact hc _ _ _
    | refine le_bif ?_ ?_
    | refine le_guardK ?_ ?_ ?_
    | refine le_mapK fun _ _ => ?_
    | refine le_panK fun _ _ => ?_
    | refine le_funK fun _ _ => ?_
    | exact le_refl _
    | apply_assumption
noncomputable def q6_0 (cf : CallF) (R : Rec) (a0 : IV) (a1 : IV) (h : H) : CRes :=
 Qo (binN .and a0 (.int .i64 31)) fun x1 =>
 Qo (binN .rem x1 (.int .i64 14)) fun x2 =>
 Qo (Qadd (.int .i64 1) x2) fun x3 =>
 Qo (binN .and a1 (.int .i64 255)) fun x4 =>
 Qo (Qadd x3 (.int .i64 1)) fun x5 =>
 Qo (binN .rem x4 x5) fun x6 =>
 R 1 [x3, x6, (.str ⟨45, 295042996737027189892664453235703659773535717092407273043438385707730273476733613257889332524423640923795309⟩), (.int .i64 0)] h
theorem qe6_0 : q6_0 = t6_0 := by
  unfold q6_0
  try simp only [QE]
  try rfl
noncomputable def q6_1 (cf : CallF) (R : Rec) (a5 : IV) (a6 : IV) (a7 : IV) (a8 : IV) (h : H) : CRes :=
 Qo (Qlss a8 a5) fun x7 =>
 Qif x7
 (Qo (binS .add a7 (.str ⟨13, 2569471977021805880546831656553⟩)) fun x8 =>
 Qo (Qadd a8 (.int .i64 1)) fun x9 =>
 R 1 [a5, a6, x8, x9] h)
 (Qo (binS .add a7 (.str ⟨7, 9072281435054201⟩)) fun x10 =>
 Qo (Qsub a5 (.int .i64 1)) fun x11 =>
 R 2 [a5, a6, x10, x11] h)
theorem qe6_1 : q6_1 = t6_1 := by
  unfold q6_1
  try simp only [QE]
  try rfl
noncomputable def q6_2p2 (cf : CallF) (R : Rec) (x31 : IV) (h26 : H) : CRes :=
 Qsp x31 true h26 (fun k32 =>
 Qc (cf 12 [] h26) .pan fun x35 h36 =>
 k32 x35 h36) fun x33 h34 =>
 Qo (Qpk x31 (some x33) (some (.bool false))) fun x37 =>
 .ok x37 h34
noncomputable def q6_2p1 (cf : CallF) (R : Rec) (x21 : IV) (x19 : IV) (h20 : H) : CRes :=
 Qif x21
 (Qo (Qle x19) fun x22 =>
 Qo (Qeql x22 (.int .i64 1)) fun x23 =>
 Qsp x23 true h20 (fun k24 =>
 Qo (Qix 2 x19 (.int .i64 0)) fun x27 =>
 Qo (QlA 2 h20 x27) fun x28 =>
 Qo (Qbld [(.int .i64 0), (.int .i64 0)] [(0, 1), (1, 1)] [(0, (.int .i64 33)), (1, (.int .i64 75))]) fun x29 =>
 Qo (binK Try.prog h20 .eql 47 false false x28 x29) fun x30 =>
 k24 x30 h20) fun x25 h26 =>
 Qo (Qpk x23 (some x25) (some (.bool false))) fun x31 =>
 q6_2p2 cf R x31 h26)
 (Qo (Qle x19) fun x38 =>
 Qo (Qeql x38 (.int .i64 0)) fun x39 =>
 Qsp x39 true h20 (fun k40 =>
 Qc (cf 12 [] h20) .pan fun x43 h44 =>
 k40 x43 h44) fun x41 h42 =>
 Qo (Qpk x39 (some x41) (some (.bool false))) fun x45 =>
 .ok x45 h42)
noncomputable def q6_2 (cf : CallF) (R : Rec) (a5 : IV) (a6 : IV) (a7 : IV) (a9 : IV) (h : H) : CRes :=
 Qo (Qgeq a9 (.int .i64 0)) fun x12 =>
 Qif x12
 (Qo (binS .add a7 (.str ⟨4, 543452773⟩)) fun x13 =>
 Qo (Qneq a9 a6) fun x14 =>
 Qif x14
 (Qo (binS .add x13 (.str ⟨12, 9975074205931947037792889957⟩)) fun x15 =>
 R 3 [a5, a6, x15, a9] h)
 (R 3 [a5, a6, x13, a9] h))
 (Qo (binS .add a7 (.str ⟨9, 1870936414602775522917⟩)) fun x16 =>
 Qc (cf 7 [x16] h) .pan fun x17 h18 =>
 Qc (cf 9 [x17] h18) .pan fun x19 h20 =>
 Qo (Qlss a6 a5) fun x21 =>
 q6_2p1 cf R x21 x19 h20)
theorem qe6_2 : q6_2 = t6_2 := by
  unfold q6_2 q6_2p1 q6_2p2
  try simp only [QE]
  try rfl
noncomputable def q6_3 (cf : CallF) (R : Rec) (a5 : IV) (a6 : IV) (a7 : IV) (a9 : IV) (h : H) : CRes :=
 Qo (Qsub a9 (.int .i64 1)) fun x46 =>
 R 2 [a5, a6, a7, x46] h
theorem qe6_3 : q6_3 = t6_3 := by
  unfold q6_3
  try simp only [QE]
  try rfl
noncomputable def bt6 (cf : CallF) (R : Rec) : Rec := fun i l h =>
 br2 i 0 l (fun a0 a1 => t6_0 cf R a0 a1 h) <|
 br4 i 1 l (fun a5 a6 a7 a8 => t6_1 cf R a5 a6 a7 a8 h) <|
 br4 i 2 l (fun a5 a6 a7 a9 => t6_2 cf R a5 a6 a7 a9 h) <|
 br4 i 3 l (fun a5 a6 a7 a9 => t6_3 cf R a5 a6 a7 a9 h) <|
 .fail
noncomputable def b6 (cf : CallF) (R : Rec) : Rec := fun i l h =>
 brQ2 i 0 l (fun a0 a1 => q6_0 cf R a0 a1 h) <|
 brQ4 i 1 l (fun a5 a6 a7 a8 => q6_1 cf R a5 a6 a7 a8 h) <|
 brQ4 i 2 l (fun a5 a6 a7 a9 => q6_2 cf R a5 a6 a7 a9 h) <|
 brQ4 i 3 l (fun a5 a6 a7 a9 => q6_3 cf R a5 a6 a7 a9 h) <|
 .fail
theorem be6 : b6 = bt6 := by
  unfold b6 bt6
  simp only [qe6_0, qe6_1, qe6_2, qe6_3, brQ2_eq, brQ4_eq]
theorem r6 {T : Tab} {cf : CallF} (hc : leC cf (CL T)) (n : Nat) : leR (recN (b6 cf) n) (J6 T) := be6 ▸ recN_le (fun R hR i l h => by
  unfold bt6
  refine le_br2 (J := fun i l => J6 T i l h) (fun _ a0 a1 => le_e (fun hn => e6_0 rfl hn) ((m6 hc hR).1 a0 a1 h)) ?_
  refine le_br4 (J := fun i l => J6 T i l h) (fun _ a5 a6 a7 a8 => le_e (fun hn => e6_1 rfl hn) ((m6 hc hR).2.1 a5 a6 a7 a8 h)) ?_
  refine le_br4 (J := fun i l => J6 T i l h) (fun _ a5 a6 a7 a9 => le_e (fun hn => e6_2 rfl hn) ((m6 hc hR).2.2.1 a5 a6 a7 a9 h)) ?_
  refine le_br4 (J := fun i l => J6 T i l h) (fun _ a5 a6 a7 a9 => le_e (fun hn => e6_3 rfl hn) ((m6 hc hR).2.2.2 a5 a6 a7 a9 h)) ?_
  exact le_fail _) n
-- 7
theorem m7 {cf cf' : CallF} {R R' : Rec} (hc : ∀ f l h, le (cf f l h) (cf' f l h)) (hR : ∀ i l h, le (R i l h) (R' i l h)) :
  (∀ (a0 : IV) (h : H), le (t7_0 cf R a0 h) (t7_0 cf' R' a0 h)) ∧
  (∀ (a3 a5 : IV) (h : H), le (t7_1 cf R a3 a5 h) (t7_1 cf' R' a3 a5 h)) := by
  refine ⟨?_, ?_⟩
  all_goals intros
  all_goals first | unfold t7_0 | unfold t7_1
  all_goals
  with_reducible repeat' first
    | refine le_obind fun _ => ?_
    | refine le_callP ?_ (fun _ _ => ?_) (fun _ _ => ?_)
    | refine le_condK ?_ ?_
    | exact hR _ _ _
    | refine le_obind2 fun _ _ => ?_
    | refine le_obindH fun _ => ?_
    | refine le_spanK (fun _ _ _ => ?_) (fun _ _ => ?_)
    | exact hc _ _ _
    | refine le_bif ?_ ?_
    | refine le_guardK ?_ ?_ ?_
    | refine le_mapK fun _ _ => ?_
    | refine le_panK fun _ _ => ?_
    | refine le_funK fun _ _ => ?_
    | exact le_refl _
    | apply_assumption
noncomputable def q7_0p1 (cf : CallF) (R : Rec) (x5 : IV) (h2 : H) (x3 : IV) : CRes :=
 Qo (Qgtr x5 (.int .i64 0)) fun x6 =>
 Qif x6
 (.ok .nilSlice h2)
 (R 1 [x3, (.int .i64 0)] h2)
noncomputable def q7_0 (cf : CallF) (R : Rec) (a0 : IV) (h : H) : CRes :=
 Qc (cf 14 [a0] h) .pan fun x1 h2 =>
 Qo (Qext x1 0) fun x3 =>
 Qo (Qext x1 1) fun x4 =>
 Qo (Qle x4) fun x5 =>
 q7_0p1 cf R x5 h2 x3
theorem qe7_0 : q7_0 = t7_0 := by
  unfold q7_0 q7_0p1
  try simp only [QE]
  try rfl
noncomputable def q7_1p1 (cf : CallF) (R : Rec) (x12 : IV) (h : H) (a3 : IV) (a5 : IV) : CRes :=
 Qsp x12 false h (fun k13 =>
 Qo (Qix 3 a3 a5) fun x16 =>
 Qo (Qfad 0 x16) fun x17 =>
 Qo (Ql0 h x17) fun x18 =>
 Qo (Qeql x18 (.int .i64 5)) fun x19 =>
 k13 x19 h) fun x14 h15 =>
 Qo (Qpk x12 (some (.bool true)) (some x14)) fun x20 =>
 Qif x20
 (.ok .nilSlice h15)
 (Qo (Qadd a5 (.int .i64 1)) fun x21 =>
 R 1 [a3, x21] h15)
noncomputable def q7_1 (cf : CallF) (R : Rec) (a3 : IV) (a5 : IV) (h : H) : CRes :=
 Qo (Qle a3) fun x7 =>
 Qo (Qlss a5 x7) fun x8 =>
 Qif x8
 (Qo (Qix 3 a3 a5) fun x9 =>
 Qo (Qfad 0 x9) fun x10 =>
 Qo (Ql0 h x10) fun x11 =>
 Qo (Qeql x11 (.int .i64 4)) fun x12 =>
 q7_1p1 cf R x12 h a3 a5)
 (Qc (cf 15 [a3] h) .pan fun x22 h23 =>
 Qo (Qext x22 0) fun x24 =>
 Qo (Qext x22 1) fun x25 =>
 .ok x24 h23)
theorem qe7_1 : q7_1 = t7_1 := by
  unfold q7_1 q7_1p1
  try simp only [QE]
  try rfl
noncomputable def bt7 (cf : CallF) (R : Rec) : Rec := fun i l h =>
 br1 i 0 l (fun a0 => t7_0 cf R a0 h) <|
 br2 i 1 l (fun a3 a5 => t7_1 cf R a3 a5 h) <|
 .fail
noncomputable def b7 (cf : CallF) (R : Rec) : Rec := fun i l h =>
 brQ1 i 0 l (fun a0 => q7_0 cf R a0 h) <|
 brQ2 i 1 l (fun a3 a5 => q7_1 cf R a3 a5 h) <|
 .fail
theorem be7 : b7 = bt7 := by
  unfold b7 bt7
  simp only [qe7_0, qe7_1, brQ1_eq, brQ2_eq]
theorem r7 {T : Tab} {cf : CallF} (hc : leC cf (CL T)) (n : Nat) : leR (recN (b7 cf) n) (J7 T) := be7 ▸ recN_le (fun R hR i l h => by
  unfold bt7
  refine le_br1 (J := fun i l => J7 T i l h) (fun _ a0 => le_e (fun hn => e7_0 rfl hn) ((m7 hc hR).1 a0 h)) ?_
  refine le_br2 (J := fun i l => J7 T i l h) (fun _ a3 a5 => le_e (fun hn => e7_1 rfl hn) ((m7 hc hR).2 a3 a5 h)) ?_
  exact le_fail _) n
-- 9
noncomputable def u9_0 (cf : CallF) (L : List IV → I.Mode → H → Option (I.Mode × H)) (D : List IV → Rec) (R : Rec) (a0 : IV) (h : H) : CRes :=
 obind2 (newI h [.nilSlice]) fun x1 h2 =>
 mapK h2 fun x4 h3 =>
 obind (lenS a0) fun x5 =>
 D [x1] 1 [a0, x1, x4, a0, x5, (.int .i64 0)] h3
noncomputable def u9_1d (cf : CallF) (L : List IV → I.Mode → H → Option (I.Mode × H)) (D : List IV → Rec) (R : Rec) (d0 a0 a2 a3 a12 a13 a14 : IV) (h : H) : CRes :=
 obind (binN .lss a14 a13) fun x6 =>
 condK x6
 (obind (ixS 5 a12 a14) fun x7 =>
 obind (ldA 5 h x7) fun x8 =>
 obind2 (newI h z0) fun x9 h10 =>
 obindH (stA 5 h10 x9 x8) fun h11 =>
 obind (fadK 0 x9) fun x12 =>
 obind (ld0 h11 x12) fun x13 =>
 obind (lkK true (.agg z0) h11 a3 x13 true) fun x14 =>
 obind (extractI x14 0) fun x15 =>
 obind (extractI x14 1) fun x16 =>
 obind2 (newI h11 z0) fun x17 h18 =>
 obindH (stA 5 h18 x17 x15) fun h19 =>
 condK x16
 (obind (fadK 4 x9) fun x20 =>
 obind (ld0 h19 x20) fun x21 =>
 callP (cf 17 [x21, (.int .i64 70)] h19) (dfP (L [d0]) fun h22 =>
 obind (ld0 h22 a2) fun x23 =>
 .ok x23 h22) fun x24 h25 =>
 R 2 [a0, a2, a3, x9, a12, a13, a14] h25)
 (R 2 [a0, a2, a3, x9, a12, a13, a14] h19))
 (obind (lenS a0) fun x26 =>
 R 3 [a2, a3, a0, x26, (.int .i64 0)] h)
noncomputable def u9_2d (cf : CallF) (L : List IV → I.Mode → H → Option (I.Mode × H)) (D : List IV → Rec) (R : Rec) (d0 a0 a2 a3 a5 a12 a13 a14 : IV) (h : H) : CRes :=
 obind (fadK 0 a5) fun x27 =>
 obind (ld0 h x27) fun x28 =>
 obind (ldA 5 h a5) fun x29 =>
 obindH (mupK true h a3 x28 x29) fun h30 =>
 obind (binN .add a14 (.int .i64 1)) fun x31 =>
 R 1 [a0, a2, a3, a12, a13, x31] h30
noncomputable def u9_3d (cf : CallF) (L : List IV → I.Mode → H → Option (I.Mode × H)) (D : List IV → Rec) (R : Rec) (d0 a2 a3 a34 a35 a36 : IV) (h : H) : CRes :=
 obind (binN .lss a36 a35) fun x32 =>
 condK x32
 (obind (ixS 5 a34 a36) fun x33 =>
 obind (ldA 5 h x33) fun x34 =>
 obind2 (newI h z0) fun x35 h36 =>
 obindH (stA 5 h36 x35 x34) fun h37 =>
 obind (ldA 5 h37 x35) fun x38 =>
 callP (cf 18 [x38, a3] h37) (dfP (L [d0]) fun h39 =>
 obind (ld0 h39 a2) fun x40 =>
 .ok x40 h39) fun x41 h42 =>
 obind (binN .add a36 (.int .i64 1)) fun x43 =>
 R 3 [a2, a3, a34, a35, x43] h42)
 (obindH (stA 1 h a2 .nilSlice) fun h44 =>
 dfK (L [d0] .ret h44) fun h45 =>
 obind (ld0 h45 a2) fun x46 =>
 .ok x46 h45)
theorem m9 {cf cf' : CallF} {L L' : List IV → I.Mode → H → Option (I.Mode × H)} {D D' : List IV → Rec} {R R' : Rec} (hc : ∀ f l h, le (cf f l h) (cf' f l h)) (hL : ∀ l st h, leO (L l st h) (L' l st h)) (hD : ∀ l i x h, le (D l i x h) (D' l i x h)) (hR : ∀ i l h, le (R i l h) (R' i l h)) :
  (∀ (a0 : IV) (h : H), le (u9_0 cf L D R a0 h) (u9_0 cf' L' D' R' a0 h)) ∧
  (∀ (d0 a0 a2 a3 a12 a13 a14 : IV) (h : H), le (u9_1d cf L D R d0 a0 a2 a3 a12 a13 a14 h) (u9_1d cf' L' D' R' d0 a0 a2 a3 a12 a13 a14 h)) ∧
  (∀ (d0 a0 a2 a3 a5 a12 a13 a14 : IV) (h : H), le (u9_2d cf L D R d0 a0 a2 a3 a5 a12 a13 a14 h) (u9_2d cf' L' D' R' d0 a0 a2 a3 a5 a12 a13 a14 h)) ∧
  (∀ (d0 a2 a3 a34 a35 a36 : IV) (h : H), le (u9_3d cf L D R d0 a2 a3 a34 a35 a36 h) (u9_3d cf' L' D' R' d0 a2 a3 a34 a35 a36 h)) := by
  refine ⟨?_, ?_, ?_, ?_⟩
  all_goals intros
  all_goals first | unfold u9_0 | unfold u9_1d | unfold u9_2d | unfold u9_3d
  all_goals
  with_reducible repeat' first
    | refine le_obind fun _ => ?_
    | refine le_callP ?_ (fun _ _ => ?_) (fun _ _ => ?_)
    | refine le_condK ?_ ?_
    | exact hR _ _ _
    | refine le_obind2 fun _ _ => ?_
    | refine le_obindH fun _ => ?_
    | refine le_spanK (fun _ _ _ => ?_) (fun _ _ => ?_)
    | exact hc _ _ _
    | refine le_bif ?_ ?_
    | refine le_guardK ?_ ?_ ?_
    | refine le_mapK fun _ _ => ?_
    | refine le_panK fun _ _ => ?_
    | refine le_funK fun _ _ => ?_
    | exact hD _ _ _ _
    | refine le_dfP (hL _) (fun _ => ?_)
    | refine le_dfK (hL _ _ _) (fun _ => ?_)
    | exact le_refl _
    | apply_assumption
noncomputable def bd9 (cf : CallF) (d0 : IV) (R : Rec) : Rec := fun i l h =>
 br6 i 1 l (fun a0 a2 a3 a12 a13 a14 => u9_1d cf (L16 cf) (fun _ _ _ _ => .fail) R d0 a0 a2 a3 a12 a13 a14 h) <|
 br7 i 2 l (fun a0 a2 a3 a5 a12 a13 a14 => u9_2d cf (L16 cf) (fun _ _ _ _ => .fail) R d0 a0 a2 a3 a5 a12 a13 a14 h) <|
 br5 i 3 l (fun a2 a3 a34 a35 a36 => u9_3d cf (L16 cf) (fun _ _ _ _ => .fail) R d0 a2 a3 a34 a35 a36 h) <|
 .fail
theorem rd9 {T : Tab} {cf : CallF} (hc : leC cf (CL T)) (d0 : IV) (n : Nat) : leR (recN (bd9 cf d0) n) (J9d T d0) := recN_le (fun R hR i l h => by
  unfold bd9
  refine le_br6 (J := fun i l => J9d T d0 i l h) (fun _ a0 a2 a3 a12 a13 a14 => le_e (fun hn => e9_1d (r := u9_1d (CL T) (fun l => LV Try.prog (CL T) 16 l) (fun l => fj1 Try.prog (CL T) Try.f9 js9 16 l) (J9d T d0) d0 a0 a2 a3 a12 a13 a14 h) rfl hn) ((m9 hc (lle16 hc) (fun _ _ _ _ => le_fail _) hR).2.1 d0 a0 a2 a3 a12 a13 a14 h)) ?_
  refine le_br7 (J := fun i l => J9d T d0 i l h) (fun _ a0 a2 a3 a5 a12 a13 a14 => le_e (fun hn => e9_2d (r := u9_2d (CL T) (fun l => LV Try.prog (CL T) 16 l) (fun l => fj1 Try.prog (CL T) Try.f9 js9 16 l) (J9d T d0) d0 a0 a2 a3 a5 a12 a13 a14 h) rfl hn) ((m9 hc (lle16 hc) (fun _ _ _ _ => le_fail _) hR).2.2.1 d0 a0 a2 a3 a5 a12 a13 a14 h)) ?_
  refine le_br5 (J := fun i l => J9d T d0 i l h) (fun _ a2 a3 a34 a35 a36 => le_e (fun hn => e9_3d (r := u9_3d (CL T) (fun l => LV Try.prog (CL T) 16 l) (fun l => fj1 Try.prog (CL T) Try.f9 js9 16 l) (J9d T d0) d0 a2 a3 a34 a35 a36 h) rfl hn) ((m9 hc (lle16 hc) (fun _ _ _ _ => le_fail _) hR).2.2.2 d0 a2 a3 a34 a35 a36 h)) ?_
  exact le_fail _) n
noncomputable def D9 (cf : CallF) (l : List IV) : Rec :=
 match l with
 | [d0] => recN (bd9 cf d0) 1000000
 | _ => fun _ _ _ => .fail
theorem dle9 {T : Tab} {cf : CallF} (hc : leC cf (CL T)) (l : List IV) (i : Nat) (x : List IV) (h : H) : le (D9 cf l i x h) (fj1 Try.prog (CL T) Try.f9 js9 16 l i x h) := by
  unfold D9
  split
  · exact rd9 hc _ _ i x h
  · exact le_fail _
noncomputable def b9 (cf : CallF) (R : Rec) : Rec := fun i l h =>
 br1 i 0 l (fun a0 => u9_0 cf (L16 cf) (D9 cf) R a0 h) <|
 .fail
theorem r9 {T : Tab} {cf : CallF} (hc : leC cf (CL T)) (n : Nat) : leR (recN (b9 cf) n) (J9 T) := recN_le (fun R hR i l h => by
  unfold b9
  refine le_br1 (J := fun i l => J9 T i l h) (fun _ a0 => le_e (fun hn => e9_0 (r := u9_0 (CL T) (fun l => LV Try.prog (CL T) 16 l) (fun l => fj1 Try.prog (CL T) Try.f9 js9 16 l) (J9 T) a0 h) rfl hn) ((m9 hc (lle16 hc) (dle9 hc) hR).1 a0 h)) ?_
  exact le_fail _) n
-- 12
theorem m12 {cf cf' : CallF} {R R' : Rec} (hc : ∀ f l h, le (cf f l h) (cf' f l h)) (hR : ∀ i l h, le (R i l h) (R' i l h)) : (∀ (h : H), le (t12_0 cf R h) (t12_0 cf' R' h)) := by
  intros
  unfold t12_0
  with_reducible repeat' first
    | refine le_obind fun _ => ?_
    | refine le_callP ?_ (fun _ _ => ?_) (fun _ _ => ?_)
    | refine le_condK ?_ ?_
    | exact hR _ _ _
    | refine le_obind2 fun _ _ => ?_
    | refine le_obindH fun _ => ?_
    | refine le_spanK (fun _ _ _ => ?_) (fun _ _ => ?_)
    | exact hc _ _ _
    | refine le_bif ?_ ?_
    | refine le_guardK ?_ ?_ ?_
    | refine le_mapK fun _ _ => ?_
    | refine le_panK fun _ _ => ?_
    | refine le_funK fun _ _ => ?_
    | exact le_refl _
    | apply_assumption
noncomputable def q12_0p3 (cf : CallF) (R : Rec) (x28 : IV) (h25 : H) (x7 : IV) (x11 : IV) : CRes :=
 Qsp x28 true h25 (fun k29 =>
 Qo (Qix 2 x7 (.int .i64 0)) fun x32 =>
 Qo (Qfad 1 x32) fun x33 =>
 Qo (Ql0 h25 x33) fun x34 =>
 Qo (Qeql x34 (.int .i64 75)) fun x35 =>
 k29 x35 h25) fun x30 h31 =>
 Qo (Qpk x28 (some x30) (some (.bool false))) fun x36 =>
 Qsp x36 true h31 (fun k37 =>
 Qo (Qle x11) fun x40 =>
 Qo (Qeql x40 (.int .i64 0)) fun x41 =>
 k37 x41 h31) fun x38 h39 =>
 Qo (Qpk x36 (some x38) (some (.bool false))) fun x42 =>
 .ok x42 h39
noncomputable def q12_0p2 (cf : CallF) (R : Rec) (x14 : IV) (h12 : H) (x3 : IV) (x7 : IV) (x11 : IV) : CRes :=
 Qsp x14 true h12 (fun k15 =>
 Qo (Qix 2 x3 (.int .i64 0)) fun x18 =>
 Qo (QlA 2 h12 x18) fun x19 =>
 Qo (Qbld [(.int .i64 0), (.int .i64 0)] [(0, 1), (1, 1)] [(0, (.int .i64 43)), (1, (.int .i64 73))]) fun x20 =>
 Qo (binK Try.prog h12 .eql 47 false false x19 x20) fun x21 =>
 k15 x21 h12) fun x16 h17 =>
 Qo (Qpk x14 (some x16) (some (.bool false))) fun x22 =>
 Qsp x22 true h17 (fun k23 =>
 Qo (Qle x7) fun x26 =>
 Qo (Qeql x26 (.int .i64 1)) fun x27 =>
 k23 x27 h17) fun x24 h25 =>
 Qo (Qpk x22 (some x24) (some (.bool false))) fun x28 =>
 q12_0p3 cf R x28 h25 x7 x11
noncomputable def q12_0p1 (cf : CallF) (R : Rec) (h8 : H) (x3 : IV) (x7 : IV) : CRes :=
 Qc (cf 7 [(.str ⟨52, 67046719960888941892184820436145297895144066837139371145987427210056574129556742228652015165087297618486413700392914958708589⟩)] h8) .pan fun x9 h10 =>
 Qc (cf 9 [x9] h10) .pan fun x11 h12 =>
 Qo (Qle x3) fun x13 =>
 Qo (Qeql x13 (.int .i64 1)) fun x14 =>
 q12_0p2 cf R x14 h12 x3 x7 x11
noncomputable def q12_0 (cf : CallF) (R : Rec) (h : H) : CRes :=
 Qc (cf 7 [(.str ⟨66, 348126473427987974111166342295017781270910240418035618176886398528082519758683304224540429236554337974868274653395689740213287564516098906623640280375541133165⟩)] h) .pan fun x1 h2 =>
 Qc (cf 9 [x1] h2) .pan fun x3 h4 =>
 Qc (cf 7 [(.str ⟨68, 22814816562576619871349397373758026547181064531331856910737447064769207388284794940137150167743972807899353348760762229273835232996098465244316604540642629268041581⟩)] h4) .pan fun x5 h6 =>
 Qc (cf 9 [x5] h6) .pan fun x7 h8 =>
 q12_0p1 cf R h8 x3 x7
theorem qe12_0 : q12_0 = t12_0 := by
  unfold q12_0 q12_0p1 q12_0p2 q12_0p3
  try simp only [QE]
  try rfl
noncomputable def bt12 (cf : CallF) (R : Rec) : Rec := fun i l h =>
 br0 i 0 l (t12_0 cf R h) <|
 .fail
noncomputable def b12 (cf : CallF) (R : Rec) : Rec := fun i l h =>
 brQ0 i 0 l (q12_0 cf R h) <|
 .fail
theorem be12 : b12 = bt12 := by
  unfold b12 bt12
  simp only [qe12_0, brQ0_eq]
theorem r12 {T : Tab} {cf : CallF} (hc : leC cf (CL T)) (n : Nat) : leR (recN (b12 cf) n) (J12 T) := be12 ▸ recN_le (fun R hR i l h => by
  unfold bt12
  refine le_br0 (J := fun i l => J12 T i l h) (fun _ => le_e (fun hn => e12_0 rfl hn) ((m12 hc hR) h)) ?_
  exact le_fail _) n
-- 14
theorem m14 {cf cf' : CallF} {R R' : Rec} (hc : ∀ f l h, le (cf f l h) (cf' f l h)) (hR : ∀ i l h, le (R i l h) (R' i l h)) :
  (∀ (a0 : IV) (h : H), le (t14_0 cf R a0 h) (t14_0 cf' R' a0 h)) ∧
  (∀ (a0 a4 a5 a6 : IV) (h : H), le (t14_1 cf R a0 a4 a5 a6 h) (t14_1 cf' R' a0 a4 a5 a6 h)) ∧
  (∀ (a0 a4 a5 a6 : IV) (h : H), le (t14_2 cf R a0 a4 a5 a6 h) (t14_2 cf' R' a0 a4 a5 a6 h)) := by
  refine ⟨?_, ?_, ?_⟩
  all_goals intros
  all_goals first | unfold t14_0 | unfold t14_1 | unfold t14_2
  all_goals
  with_reducible repeat' first
    | refine le_obind fun _ => ?_
    | refine le_callP ?_ (fun _ _ => ?_) (fun _ _ => ?_)
    | refine le_condK ?_ ?_
    | exact hR _ _ _
    | refine le_obind2 fun _ _ => ?_
    | refine le_obindH fun _ => ?_
    | refine le_spanK (fun _ _ _ => ?_) (fun _ _ => ?_)
    | exact hc _ _ _
    | refine le_bif ?_ ?_
    | refine le_guardK ?_ ?_ ?_
    | refine le_mapK fun _ _ => ?_
    | refine le_panK fun _ _ => ?_
    | refine le_funK fun _ _ => ?_
    | exact le_refl _
    | apply_assumption
noncomputable def q14_0 (cf : CallF) (R : Rec) (a0 : IV) (h : H) : CRes :=
 Qo (Qls a0) fun x1 =>
 Qo (Qgtr x1 (.int .i64 65536)) fun x2 =>
 Qif x2
 (Qc (cf 26 [(.int .i64 0), (.int .i64 4)] h) .pan fun x3 h4 =>
 .ok (.tup [.nilSlice, x3]) h4)
 (R 1 [a0, .nilSlice, (.bool false), (.int .i64 0)] h)
theorem qe14_0 : q14_0 = t14_0 := by
  unfold q14_0
  try simp only [QE]
  try rfl
noncomputable def q14_1p4 (cf : CallF) (R : Rec) (h74 : H) (x54 : IV) (a4 : IV) (a0 : IV) (x76 : IV) (x52 : IV) : CRes :=
 Qo (QlA 3 h74 x54) fun x77 =>
 Qo2 (Qbsl false 3 z1 1 [(0, x77)] h74) fun x78 h79 =>
 Qo2 (appK 3 32 h79 a4 x78) fun x80 h81 =>
 R 2 [a0, x80, x76, x52] h81
noncomputable def q14_1p3 (cf : CallF) (R : Rec) (h50 : H) (x51 : IV) (x53 : IV) (a6 : IV) (a5 : IV) (a4 : IV) (a0 : IV) (x52 : IV) : CRes :=
 Qo2 (QnI h50 z1) fun x54 h55 =>
 QoH (QsA 3 h55 x54 x51) fun h56 =>
 Qo (Qneq x53 (.int .i64 0)) fun x57 =>
 Qif x57
 (Qc (cf 26 [a6, x53] h56) .pan fun x58 h59 =>
 .ok (.tup [.nilSlice, x58]) h59)
 (Qsp a5 false h56 (fun k60 =>
 Qo (Qfad 0 x54) fun x63 =>
 Qo (Ql0 h56 x63) fun x64 =>
 Qo (Qeql x64 (.int .i64 4)) fun x65 =>
 k60 x65 h56) fun x61 h62 =>
 Qsp x61 true h62 (fun k66 =>
 Qo (Qfad 1 x54) fun x69 =>
 Qo (Ql0 h62 x69) fun x70 =>
 Qo (Qse x70 (.str ⟨6, 111524889126244⟩)) fun x71 =>
 k66 x71 h62) fun x67 h68 =>
 Qsp a5 false h68 (fun k72 =>
 Qo (Qpk x61 (some x67) (some (.bool false))) fun x75 =>
 k72 x75 h68) fun x73 h74 =>
 Qo (Qpk a5 (some (.bool true)) (some x73)) fun x76 =>
 q14_1p4 cf R h74 x54 a4 a0 x76 x52)
noncomputable def q14_1p2 (cf : CallF) (R : Rec) (x24 : IV) (x26 : IV) (h27 : H) (x7 : IV) (a6 : IV) (a0 : IV) (a4 : IV) (a5 : IV) : CRes :=
 Qo (Qpk x24 (some (.bool true)) (some x26)) fun x29 =>
 Qsp x29 false h27 (fun k30 =>
 Qo (Qeql x7 (.int .u8 13)) fun x33 =>
 k30 x33 h27) fun x31 h32 =>
 Qo (Qpk x29 (some (.bool true)) (some x31)) fun x34 =>
 Qif x34
 (Qo (Qadd a6 (.int .i64 1)) fun x35 =>
 R 1 [a0, a4, a5, x35] h32)
 (Qc (cf 27 [a0, a6, (.str ⟨2, 12079⟩)] h32) .pan fun x36 h37 =>
 Qsp x36 false h37 (fun k38 =>
 Qc (cf 27 [a0, a6, (.str ⟨2, 10799⟩)] h37) .pan fun x41 h42 =>
 k38 x41 h42) fun x39 h40 =>
 Qo (Qpk x36 (some (.bool true)) (some x39)) fun x43 =>
 Qif x43
 (Qc (cf 28 [a0, a6] h40) .pan fun x44 h45 =>
 Qo (Qlss x44 (.int .i64 0)) fun x46 =>
 Qif x46
 (Qc (cf 26 [a6, (.int .i64 20)] h45) .pan fun x47 h48 =>
 .ok (.tup [.nilSlice, x47]) h48)
 (R 1 [a0, a4, a5, x44] h45))
 (Qc (cf 29 [a0, a6] h40) .pan fun x49 h50 =>
 Qo (Qext x49 0) fun x51 =>
 Qo (Qext x49 1) fun x52 =>
 Qo (Qext x49 2) fun x53 =>
 q14_1p3 cf R h50 x51 x53 a6 a5 a4 a0 x52))
noncomputable def q14_1p1 (cf : CallF) (R : Rec) (x12 : IV) (a6 : IV) (h11 : H) (a4 : IV) (a0 : IV) (x7 : IV) (a5 : IV) : CRes :=
 Qif x12
 (Qo (Qbld z1 p2 [(0, (.int .i64 5)), (2, a6)]) fun x13 =>
 Qo2 (Qbsl false 3 z1 1 [(0, x13)] h11) fun x14 h15 =>
 Qo2 (appK 3 32 h15 a4 x14) fun x16 h17 =>
 Qo (Qadd a6 (.int .i64 1)) fun x18 =>
 R 2 [a0, x16, (.bool false), x18] h17)
 (Qo (Qeql x7 (.int .u8 32)) fun x19 =>
 Qsp x19 false h11 (fun k20 =>
 Qo (Qeql x7 (.int .u8 9)) fun x23 =>
 k20 x23 h11) fun x21 h22 =>
 Qo (Qpk x19 (some (.bool true)) (some x21)) fun x24 =>
 Qsp x24 false h22 (fun k25 =>
 Qo (Qeql x7 (.int .u8 10)) fun x28 =>
 k25 x28 h22) fun x26 h27 =>
 q14_1p2 cf R x24 x26 h27 x7 a6 a0 a4 a5)
noncomputable def q14_1 (cf : CallF) (R : Rec) (a0 : IV) (a4 : IV) (a5 : IV) (a6 : IV) (h : H) : CRes :=
 Qo (Qls a0) fun x5 =>
 Qo (Qlss a6 x5) fun x6 =>
 Qif x6
 (Qo (Qis a0 a6) fun x7 =>
 Qo (Qeql x7 (.int .u8 10)) fun x8 =>
 Qsp x8 true h (fun k9 =>
 k9 a5 h) fun x10 h11 =>
 Qo (Qpk x8 (some x10) (some (.bool false))) fun x12 =>
 q14_1p1 cf R x12 a6 h11 a4 a0 x7 a5)
 (Qo (Qls a0) fun x82 =>
 Qo (Qbld z1 p2 [(0, (.int .i64 6)), (2, x82)]) fun x83 =>
 Qo2 (Qbsl false 3 z1 1 [(0, x83)] h) fun x84 h85 =>
 Qo2 (appK 3 32 h85 a4 x84) fun x86 h87 =>
 .ok (.tup [x86, .nilSlice]) h87)
theorem qe14_1 : q14_1 = t14_1 := by
  unfold q14_1 q14_1p1 q14_1p2 q14_1p3 q14_1p4
  try simp only [QE]
  try rfl
noncomputable def q14_2 (cf : CallF) (R : Rec) (a0 : IV) (a4 : IV) (a5 : IV) (a6 : IV) (h : H) : CRes :=
 Qo (Qle a4) fun x88 =>
 Qo (Qgtr x88 (.int .i64 16384)) fun x89 =>
 Qif x89
 (Qo (Qle a4) fun x90 =>
 Qo (Qsub x90 (.int .i64 1)) fun x91 =>
 Qo (Qix 3 a4 x91) fun x92 =>
 Qo (Qfad 2 x92) fun x93 =>
 Qo (Ql0 h x93) fun x94 =>
 Qc (cf 26 [x94, (.int .i64 2)] h) .pan fun x95 h96 =>
 .ok (.tup [.nilSlice, x95]) h96)
 (R 1 [a0, a4, a5, a6] h)
theorem qe14_2 : q14_2 = t14_2 := by
  unfold q14_2
  try simp only [QE]
  try rfl
noncomputable def bt14 (cf : CallF) (R : Rec) : Rec := fun i l h =>
 br1 i 0 l (fun a0 => t14_0 cf R a0 h) <|
 br4 i 1 l (fun a0 a4 a5 a6 => t14_1 cf R a0 a4 a5 a6 h) <|
 br4 i 2 l (fun a0 a4 a5 a6 => t14_2 cf R a0 a4 a5 a6 h) <|
 .fail
noncomputable def b14 (cf : CallF) (R : Rec) : Rec := fun i l h =>
 brQ1 i 0 l (fun a0 => q14_0 cf R a0 h) <|
 brQ4 i 1 l (fun a0 a4 a5 a6 => q14_1 cf R a0 a4 a5 a6 h) <|
 brQ4 i 2 l (fun a0 a4 a5 a6 => q14_2 cf R a0 a4 a5 a6 h) <|
 .fail
theorem be14 : b14 = bt14 := by
  unfold b14 bt14
  simp only [qe14_0, qe14_1, qe14_2, brQ1_eq, brQ4_eq]
theorem r14 {T : Tab} {cf : CallF} (hc : leC cf (CL T)) (n : Nat) : leR (recN (b14 cf) n) (J14 T) := be14 ▸ recN_le (fun R hR i l h => by
  unfold bt14
  refine le_br1 (J := fun i l => J14 T i l h) (fun _ a0 => le_e (fun hn => e14_0 rfl hn) ((m14 hc hR).1 a0 h)) ?_
  refine le_br4 (J := fun i l => J14 T i l h) (fun _ a0 a4 a5 a6 => le_e (fun hn => e14_1 rfl hn) ((m14 hc hR).2.1 a0 a4 a5 a6 h)) ?_
  refine le_br4 (J := fun i l => J14 T i l h) (fun _ a0 a4 a5 a6 => le_e (fun hn => e14_2 rfl hn) ((m14 hc hR).2.2 a0 a4 a5 a6 h)) ?_
  exact le_fail _) n
-- 15
theorem m15 {cf cf' : CallF} {R R' : Rec} (hc : ∀ f l h, le (cf f l h) (cf' f l h)) (hR : ∀ i l h, le (R i l h) (R' i l h)) :
  (∀ (a0 : IV) (h : H), le (t15_0 cf R a0 h) (t15_0 cf' R' a0 h)) ∧
  (∀ (a4 a5 : IV) (h : H), le (t15_1 cf R a4 a5 h) (t15_1 cf' R' a4 a5 h)) ∧
  (∀ (a4 a5 a27 : IV) (h : H), le (t15_2 cf R a4 a5 a27 h) (t15_2 cf' R' a4 a5 a27 h)) := by
  refine ⟨?_, ?_, ?_⟩
  all_goals intros
  all_goals first | unfold t15_0 | unfold t15_1 | unfold t15_2
  all_goals
  with_reducible repeat' first
    | refine le_obind fun _ => ?_
    | refine le_callP ?_ (fun _ _ => ?_) (fun _ _ => ?_)
    | refine le_condK ?_ ?_
    | exact hR _ _ _
    | refine le_obind2 fun _ _ => ?_
    | refine le_obindH fun _ => ?_
    | refine le_spanK (fun _ _ _ => ?_) (fun _ _ => ?_)
    | exact hc _ _ _
    | refine le_bif ?_ ?_
    | refine le_guardK ?_ ?_ ?_
    | refine le_mapK fun _ _ => ?_
    | refine le_panK fun _ _ => ?_
    | refine le_funK fun _ _ => ?_
    | exact le_refl _
    | apply_assumption
noncomputable def q15_0 (cf : CallF) (R : Rec) (a0 : IV) (h : H) : CRes :=
 Qo (Qbld z3 p4 [(0, a0)]) fun x1 =>
 Qo2 (QnI h (Qcells x1)) fun x2 h3 =>
 Qc (cf 30 [x2] h3) .pan fun x4 h5 =>
 Qo2 (Qbsl false 5 z0 1 [(0, x4)] h5) fun x6 h7 =>
 R 1 [x2, x6] h7
theorem qe15_0 : q15_0 = t15_0 := by
  unfold q15_0
  try simp only [QE]
  try rfl
noncomputable def q15_1p2 (cf : CallF) (R : Rec) (h11 : H) (x19 : IV) (a4 : IV) (a5 : IV) : CRes :=
 Qo (Ql0 h11 x19) fun x20 =>
 Qo (Qneq x20 (.int .i64 6)) fun x21 =>
 Qo (Qpk (.bool true) (some x21) (some (.bool false))) fun x22 =>
 R 2 [a4, a5, x22] h11
noncomputable def q15_1p1 (cf : CallF) (R : Rec) (x15 : IV) (h11 : H) (x14 : IV) (a4 : IV) (a5 : IV) : CRes :=
 Qo (Qfad 1 x15) fun x16 =>
 Qo (Ql0 h11 x16) fun x17 =>
 Qo (Qix 3 x14 x17) fun x18 =>
 Qo (Qfad 0 x18) fun x19 =>
 q15_1p2 cf R h11 x19 a4 a5
noncomputable def q15_1 (cf : CallF) (R : Rec) (a4 : IV) (a5 : IV) (h : H) : CRes :=
 Qc (cf 31 [a4] h) (fun v8 h9 =>
 .pan v8 h9) fun x10 h11 =>
 guardK x10 (Qo (Qnil a4) fun x12 =>
 Qo (Qfad 0 x12) fun x13 =>
 Qo (Ql0 h11 x13) fun x14 =>
 Qo (Qnil a4) fun x15 =>
 q15_1p1 cf R x15 h11 x14 a4 a5)
 (Qo (Qpk (.bool false) (some (.tup [])) (some (.bool false))) fun x23 =>
 R 2 [a4, a5, x23] h11)
 (Qo (Qpk (.tup []) (some (.tup [])) (some (.bool false))) fun x24 =>
 R 2 [a4, a5, x24] h11)
theorem qe15_1 : q15_1 = t15_1 := by
  unfold q15_1 q15_1p1 q15_1p2
  try simp only [QE]
  try rfl
noncomputable def q15_2 (cf : CallF) (R : Rec) (a4 : IV) (a5 : IV) (a27 : IV) (h : H) : CRes :=
 Qif a27
 (Qc (cf 30 [a4] h) .pan fun x25 h26 =>
 Qo2 (Qbsl false 5 z0 1 [(0, x25)] h26) fun x27 h28 =>
 Qo2 (appK 5 96 h28 a5 x27) fun x29 h30 =>
 R 1 [a4, x29] h30)
 (Qc (cf 31 [a4] h) .pan fun x31 h32 =>
 Qo (Qnot x31) fun x33 =>
 Qif x33
 (Qo (Qnil a4) fun x34 =>
 Qo (Qfad 2 x34) fun x35 =>
 Qo (QlA 2 h32 x35) fun x36 =>
 Qo2 (Qbsl false 2 [(.int .i64 0), (.int .i64 0)] 1 [(0, x36)] h32) fun x37 h38 =>
 .ok (.tup [.nilSlice, x37]) h38)
 (.ok (.tup [a5, .nilSlice]) h32))
theorem qe15_2 : q15_2 = t15_2 := by
  unfold q15_2
  try simp only [QE]
  try rfl
noncomputable def bt15 (cf : CallF) (R : Rec) : Rec := fun i l h =>
 br1 i 0 l (fun a0 => t15_0 cf R a0 h) <|
 br2 i 1 l (fun a4 a5 => t15_1 cf R a4 a5 h) <|
 br3 i 2 l (fun a4 a5 a27 => t15_2 cf R a4 a5 a27 h) <|
 .fail
noncomputable def b15 (cf : CallF) (R : Rec) : Rec := fun i l h =>
 brQ1 i 0 l (fun a0 => q15_0 cf R a0 h) <|
 brQ2 i 1 l (fun a4 a5 => q15_1 cf R a4 a5 h) <|
 brQ3 i 2 l (fun a4 a5 a27 => q15_2 cf R a4 a5 a27 h) <|
 .fail
theorem be15 : b15 = bt15 := by
  unfold b15 bt15
  simp only [qe15_0, qe15_1, qe15_2, brQ1_eq, brQ2_eq, brQ3_eq]
theorem r15 {T : Tab} {cf : CallF} (hc : leC cf (CL T)) (n : Nat) : leR (recN (b15 cf) n) (J15 T) := be15 ▸ recN_le (fun R hR i l h => by
  unfold bt15
  refine le_br1 (J := fun i l => J15 T i l h) (fun _ a0 => le_e (fun hn => e15_0 rfl hn) ((m15 hc hR).1 a0 h)) ?_
  refine le_br2 (J := fun i l => J15 T i l h) (fun _ a4 a5 => le_e (fun hn => e15_1 rfl hn) ((m15 hc hR).2.1 a4 a5 h)) ?_
  refine le_br3 (J := fun i l => J15 T i l h) (fun _ a4 a5 a27 => le_e (fun hn => e15_2 rfl hn) ((m15 hc hR).2.2 a4 a5 a27 h)) ?_
  exact le_fail _) n
-- 17
theorem m17 {cf cf' : CallF} {R R' : Rec} (hc : ∀ f l h, le (cf f l h) (cf' f l h)) (hR : ∀ i l h, le (R i l h) (R' i l h)) : (∀ (a0 a1 : IV) (h : H), le (t17_0 cf R a0 a1 h) (t17_0 cf' R' a0 a1 h)) := by
  intros
  unfold t17_0
  with_reducible repeat' first
    | refine le_obind fun _ => ?_
    | refine le_callP ?_ (fun _ _ => ?_) (fun _ _ => ?_)
    | refine le_condK ?_ ?_
    | exact hR _ _ _
    | refine le_obind2 fun _ _ => ?_
    | refine le_obindH fun _ => ?_
    | refine le_spanK (fun _ _ _ => ?_) (fun _ _ => ?_)
    | exact hc _ _ _
    | refine le_bif ?_ ?_
    | refine le_guardK ?_ ?_ ?_
    | refine le_mapK fun _ _ => ?_
    | refine le_panK fun _ _ => ?_
    | refine le_funK fun _ _ => ?_
    | exact le_refl _
    | apply_assumption
noncomputable def q17_0 (cf : CallF) (R : Rec) (a0 : IV) (a1 : IV) (h : H) : CRes :=
 Qo (Qbld [(.int .i64 0), (.int .i64 0)] [(0, 1), (1, 1)] [(0, a0), (1, a1)]) fun x1 =>
 Qo (Qbld [(.int .i64 0), (.int .i64 0)] [(0, 2)] [(0, x1)]) fun x2 =>
 panK (.iface 58 x2) h .pan
theorem qe17_0 : q17_0 = t17_0 := by
  unfold q17_0
  try simp only [QE]
  try rfl
noncomputable def bt17 (cf : CallF) (R : Rec) : Rec := fun i l h =>
 br2 i 0 l (fun a0 a1 => t17_0 cf R a0 a1 h) <|
 .fail
noncomputable def b17 (cf : CallF) (R : Rec) : Rec := fun i l h =>
 brQ2 i 0 l (fun a0 a1 => q17_0 cf R a0 a1 h) <|
 .fail
theorem be17 : b17 = bt17 := by
  unfold b17 bt17
  simp only [qe17_0, brQ2_eq]
theorem r17 {T : Tab} {cf : CallF} (hc : leC cf (CL T)) (n : Nat) : leR (recN (b17 cf) n) (J17 T) := be17 ▸ recN_le (fun R hR i l h => by
  unfold bt17
  refine le_br2 (J := fun i l => J17 T i l h) (fun _ a0 a1 => le_e (fun hn => e17_0 rfl hn) ((m17 hc hR) a0 a1 h)) ?_
  exact le_fail _) n
-- 18
theorem m18 {cf cf' : CallF} {R R' : Rec} (hc : ∀ f l h, le (cf f l h) (cf' f l h)) (hR : ∀ i l h, le (R i l h) (R' i l h)) :
  (∀ (a0 a1 : IV) (h : H), le (t18_0 cf R a0 a1 h) (t18_0 cf' R' a0 a1 h)) ∧
  (∀ (a1 a2 a4 a13 a14 a15 : IV) (h : H), le (t18_1 cf R a1 a2 a4 a13 a14 a15 h) (t18_1 cf' R' a1 a2 a4 a13 a14 a15 h)) ∧
  (∀ (a1 a2 a4 a27 a28 a29 : IV) (h : H), le (t18_2 cf R a1 a2 a4 a27 a28 a29 h) (t18_2 cf' R' a1 a2 a4 a27 a28 a29 h)) ∧
  (∀ (a1 a2 a4 a27 a28 a29 : IV) (h : H), le (t18_3 cf R a1 a2 a4 a27 a28 a29 h) (t18_3 cf' R' a1 a2 a4 a27 a28 a29 h)) := by
  refine ⟨?_, ?_, ?_, ?_⟩
  all_goals intros
  all_goals first | unfold t18_0 | unfold t18_1 | unfold t18_2 | unfold t18_3
  all_goals
  with_reducible repeat' first
    | refine le_obind fun _ => ?_
    | refine le_callP ?_ (fun _ _ => ?_) (fun _ _ => ?_)
    | refine le_condK ?_ ?_
    | exact hR _ _ _
    | refine le_obind2 fun _ _ => ?_
    | refine le_obindH fun _ => ?_
    | refine le_spanK (fun _ _ _ => ?_) (fun _ _ => ?_)
    | exact hc _ _ _
    | refine le_bif ?_ ?_
    | refine le_guardK ?_ ?_ ?_
    | refine le_mapK fun _ _ => ?_
    | refine le_panK fun _ _ => ?_
    | refine le_funK fun _ _ => ?_
    | exact le_refl _
    | apply_assumption
noncomputable def q18_0p1 (cf : CallF) (R : Rec) (x1 : IV) (h7 : H) (a1 : IV) (x6 : IV) : CRes :=
 Qo (Qfad 1 x1) fun x8 =>
 Qo (Ql0 h7 x8) fun x9 =>
 Qo (Qle x9) fun x10 =>
 R 1 [a1, x1, x6, x9, x10, (.int .i64 0)] h7
noncomputable def q18_0 (cf : CallF) (R : Rec) (a0 : IV) (a1 : IV) (h : H) : CRes :=
 Qo2 (QnI h (Qcells a0)) fun x1 h2 =>
 mapK h2 fun x4 h3 =>
 Qo (Qbld [.nilPtr, .nilMap] [(0, 1), (1, 1)] [(1, x4)]) fun x5 =>
 Qo2 (QnI h3 (Qcells x5)) fun x6 h7 =>
 q18_0p1 cf R x1 h7 a1 x6
theorem qe18_0 : q18_0 = t18_0 := by
  unfold q18_0 q18_0p1
  try simp only [QE]
  try rfl
noncomputable def q18_1p1 (cf : CallF) (R : Rec) (x14 : IV) (h16 : H) (a4 : IV) (a15 : IV) (a1 : IV) (a2 : IV) (a13 : IV) (a14 : IV) : CRes :=
 Qo (Qfad 0 x14) fun x17 =>
 Qo (Ql0 h16 x17) fun x18 =>
 Qo (Qfad 7 x14) fun x19 =>
 Qo (Ql0 h16 x19) fun x20 =>
 Qc (cf 32 [a4, x18, (.int .i64 1), x20] h16) .pan fun x21 h22 =>
 Qo (Qadd a15 (.int .i64 1)) fun x23 =>
 R 1 [a1, a2, a4, a13, a14, x23] h22
noncomputable def q18_1 (cf : CallF) (R : Rec) (a1 : IV) (a2 : IV) (a4 : IV) (a13 : IV) (a14 : IV) (a15 : IV) (h : H) : CRes :=
 Qo (Qlss a15 a14) fun x11 =>
 Qif x11
 (Qo (Qix 8 a13 a15) fun x12 =>
 Qo (QlA 8 h x12) fun x13 =>
 Qo2 (QnI h z5) fun x14 h15 =>
 QoH (QsA 8 h15 x14 x13) fun h16 =>
 q18_1p1 cf R x14 h16 a4 a15 a1 a2 a13 a14)
 (Qo (Qfad 2 a2) fun x24 =>
 Qo (Ql0 h x24) fun x25 =>
 Qo (Qle x25) fun x26 =>
 R 2 [a1, a2, a4, x25, x26, (.int .i64 0)] h)
theorem qe18_1 : q18_1 = t18_1 := by
  unfold q18_1 q18_1p1
  try simp only [QE]
  try rfl
noncomputable def q18_2p1 (cf : CallF) (R : Rec) (x30 : IV) (h32 : H) (a4 : IV) (a1 : IV) (a2 : IV) (a27 : IV) (a28 : IV) (a29 : IV) : CRes :=
 Qo (Qfad 1 x30) fun x33 =>
 Qo (Ql0 h32 x33) fun x34 =>
 Qif x34
 (Qo (Qfad 15 x30) fun x35 =>
 Qo (Ql0 h32 x35) fun x36 =>
 Qo (Qfad 16 x30) fun x37 =>
 Qo (Ql0 h32 x37) fun x38 =>
 Qc (cf 32 [a4, x36, (.int .i64 4), x38] h32) .pan fun x39 h40 =>
 R 3 [a1, a2, a4, a27, a28, a29] h40)
 (Qo (Qfad 0 x30) fun x41 =>
 Qo (Ql0 h32 x41) fun x42 =>
 Qif x42
 (Qo (Qfad 15 x30) fun x43 =>
 Qo (Ql0 h32 x43) fun x44 =>
 Qo (Qfad 16 x30) fun x45 =>
 Qo (Ql0 h32 x45) fun x46 =>
 Qc (cf 32 [a4, x44, (.int .i64 3), x46] h32) .pan fun x47 h48 =>
 R 3 [a1, a2, a4, a27, a28, a29] h48)
 (Qo (Qfad 15 x30) fun x49 =>
 Qo (Ql0 h32 x49) fun x50 =>
 Qo (Qfad 16 x30) fun x51 =>
 Qo (Ql0 h32 x51) fun x52 =>
 Qc (cf 32 [a4, x50, (.int .i64 2), x52] h32) .pan fun x53 h54 =>
 R 3 [a1, a2, a4, a27, a28, a29] h54))
noncomputable def q18_2 (cf : CallF) (R : Rec) (a1 : IV) (a2 : IV) (a4 : IV) (a27 : IV) (a28 : IV) (a29 : IV) (h : H) : CRes :=
 Qo (Qlss a29 a28) fun x27 =>
 Qif x27
 (Qo (Qix 17 a27 a29) fun x28 =>
 Qo (QlA 17 h x28) fun x29 =>
 Qo2 (QnI h z6) fun x30 h31 =>
 QoH (QsA 17 h31 x30 x29) fun h32 =>
 q18_2p1 cf R x30 h32 a4 a1 a2 a27 a28 a29)
 (Qo (Qfad 3 a2) fun x55 =>
 Qo (Ql0 h x55) fun x56 =>
 Qc (cf 33 [a4, x56] h) .pan fun x57 h58 =>
 Qo (Qfad 3 a2) fun x59 =>
 Qo (Ql0 h58 x59) fun x60 =>
 Qc (cf 34 [a4, x60, a1] h58) .pan fun x61 h62 =>
 .ok (.tup []) h62)
theorem qe18_2 : q18_2 = t18_2 := by
  unfold q18_2 q18_2p1
  try simp only [QE]
  try rfl
noncomputable def q18_3 (cf : CallF) (R : Rec) (a1 : IV) (a2 : IV) (a4 : IV) (a27 : IV) (a28 : IV) (a29 : IV) (h : H) : CRes :=
 Qo (Qadd a29 (.int .i64 1)) fun x63 =>
 R 2 [a1, a2, a4, a27, a28, x63] h
theorem qe18_3 : q18_3 = t18_3 := by
  unfold q18_3
  try simp only [QE]
  try rfl
noncomputable def bt18 (cf : CallF) (R : Rec) : Rec := fun i l h =>
 br2 i 0 l (fun a0 a1 => t18_0 cf R a0 a1 h) <|
 br6 i 1 l (fun a1 a2 a4 a13 a14 a15 => t18_1 cf R a1 a2 a4 a13 a14 a15 h) <|
 br6 i 2 l (fun a1 a2 a4 a27 a28 a29 => t18_2 cf R a1 a2 a4 a27 a28 a29 h) <|
 br6 i 3 l (fun a1 a2 a4 a27 a28 a29 => t18_3 cf R a1 a2 a4 a27 a28 a29 h) <|
 .fail
noncomputable def b18 (cf : CallF) (R : Rec) : Rec := fun i l h =>
 brQ2 i 0 l (fun a0 a1 => q18_0 cf R a0 a1 h) <|
 brQ6 i 1 l (fun a1 a2 a4 a13 a14 a15 => q18_1 cf R a1 a2 a4 a13 a14 a15 h) <|
 brQ6 i 2 l (fun a1 a2 a4 a27 a28 a29 => q18_2 cf R a1 a2 a4 a27 a28 a29 h) <|
 brQ6 i 3 l (fun a1 a2 a4 a27 a28 a29 => q18_3 cf R a1 a2 a4 a27 a28 a29 h) <|
 .fail
theorem be18 : b18 = bt18 := by
  unfold b18 bt18
  simp only [qe18_0, qe18_1, qe18_2, qe18_3, brQ2_eq, brQ6_eq]
theorem r18 {T : Tab} {cf : CallF} (hc : leC cf (CL T)) (n : Nat) : leR (recN (b18 cf) n) (J18 T) := be18 ▸ recN_le (fun R hR i l h => by
  unfold bt18
  refine le_br2 (J := fun i l => J18 T i l h) (fun _ a0 a1 => le_e (fun hn => e18_0 rfl hn) ((m18 hc hR).1 a0 a1 h)) ?_
  refine le_br6 (J := fun i l => J18 T i l h) (fun _ a1 a2 a4 a13 a14 a15 => le_e (fun hn => e18_1 rfl hn) ((m18 hc hR).2.1 a1 a2 a4 a13 a14 a15 h)) ?_
  refine le_br6 (J := fun i l => J18 T i l h) (fun _ a1 a2 a4 a27 a28 a29 => le_e (fun hn => e18_2 rfl hn) ((m18 hc hR).2.2.1 a1 a2 a4 a27 a28 a29 h)) ?_
  refine le_br6 (J := fun i l => J18 T i l h) (fun _ a1 a2 a4 a27 a28 a29 => le_e (fun hn => e18_3 rfl hn) ((m18 hc hR).2.2.2 a1 a2 a4 a27 a28 a29 h)) ?_
  exact le_fail _) n
-- 26
theorem m26 {cf cf' : CallF} {R R' : Rec} (hc : ∀ f l h, le (cf f l h) (cf' f l h)) (hR : ∀ i l h, le (R i l h) (R' i l h)) : (∀ (a0 a1 : IV) (h : H), le (t26_0 cf R a0 a1 h) (t26_0 cf' R' a0 a1 h)) := by
  intros
  unfold t26_0
  with_reducible repeat' first
    | refine le_obind fun _ => ?_
    | refine le_callP ?_ (fun _ _ => ?_) (fun _ _ => ?_)
    | refine le_condK ?_ ?_
    | exact hR _ _ _
    | refine le_obind2 fun _ _ => ?_
    | refine le_obindH fun _ => ?_
    | refine le_spanK (fun _ _ _ => ?_) (fun _ _ => ?_)
    | exact hc _ _ _
    | refine le_bif ?_ ?_
    | refine le_guardK ?_ ?_ ?_
    | refine le_mapK fun _ _ => ?_
    | refine le_panK fun _ _ => ?_
    | refine le_funK fun _ _ => ?_
    | exact le_refl _
    | apply_assumption
noncomputable def q26_0 (cf : CallF) (R : Rec) (a0 : IV) (a1 : IV) (h : H) : CRes :=
 Qo (Qbld [(.int .i64 0), (.int .i64 0)] [(0, 1), (1, 1)] [(0, a0), (1, a1)]) fun x1 =>
 Qo2 (Qbsl false 2 [(.int .i64 0), (.int .i64 0)] 1 [(0, x1)] h) fun x2 h3 =>
 .ok x2 h3
theorem qe26_0 : q26_0 = t26_0 := by
  unfold q26_0
  try simp only [QE]
  try rfl
noncomputable def bt26 (cf : CallF) (R : Rec) : Rec := fun i l h =>
 br2 i 0 l (fun a0 a1 => t26_0 cf R a0 a1 h) <|
 .fail
noncomputable def b26 (cf : CallF) (R : Rec) : Rec := fun i l h =>
 brQ2 i 0 l (fun a0 a1 => q26_0 cf R a0 a1 h) <|
 .fail
theorem be26 : b26 = bt26 := by
  unfold b26 bt26
  simp only [qe26_0, brQ2_eq]
theorem r26 {T : Tab} {cf : CallF} (hc : leC cf (CL T)) (n : Nat) : leR (recN (b26 cf) n) (J26 T) := be26 ▸ recN_le (fun R hR i l h => by
  unfold bt26
  refine le_br2 (J := fun i l => J26 T i l h) (fun _ a0 a1 => le_e (fun hn => e26_0 rfl hn) ((m26 hc hR) a0 a1 h)) ?_
  exact le_fail _) n
-- 27
theorem m27 {cf cf' : CallF} {R R' : Rec} (hc : ∀ f l h, le (cf f l h) (cf' f l h)) (hR : ∀ i l h, le (R i l h) (R' i l h)) : (∀ (a0 a1 a2 : IV) (h : H), le (t27_0 cf R a0 a1 a2 h) (t27_0 cf' R' a0 a1 a2 h)) := by
  intros
  unfold t27_0
  with_reducible repeat' first
    | refine le_obind fun _ => ?_
    | refine le_callP ?_ (fun _ _ => ?_) (fun _ _ => ?_)
    | refine le_condK ?_ ?_
    | exact hR _ _ _
    | refine le_obind2 fun _ _ => ?_
    | refine le_obindH fun _ => ?_
    | refine le_spanK (fun _ _ _ => ?_) (fun _ _ => ?_)
    | exact hc _ _ _
    | refine le_bif ?_ ?_
    | refine le_guardK ?_ ?_ ?_
    | refine le_mapK fun _ _ => ?_
    | refine le_panK fun _ _ => ?_
    | refine le_funK fun _ _ => ?_
    | exact le_refl _
    | apply_assumption
noncomputable def q27_0p1 (cf : CallF) (R : Rec) (x4 : IV) (h : H) (a2 : IV) (a1 : IV) (a0 : IV) : CRes :=
 Qsp x4 true h (fun k5 =>
 Qo (Qls a2) fun x8 =>
 Qo (Qadd a1 x8) fun x9 =>
 Qo (slcStr a0 (some a1) (some x9)) fun x10 =>
 Qo (Qse x10 a2) fun x11 =>
 k5 x11 h) fun x6 h7 =>
 Qo (Qpk x4 (some x6) (some (.bool false))) fun x12 =>
 .ok x12 h7
noncomputable def q27_0 (cf : CallF) (R : Rec) (a0 : IV) (a1 : IV) (a2 : IV) (h : H) : CRes :=
 Qo (Qls a0) fun x1 =>
 Qo (Qsub x1 a1) fun x2 =>
 Qo (Qls a2) fun x3 =>
 Qo (Qgeq x2 x3) fun x4 =>
 q27_0p1 cf R x4 h a2 a1 a0
theorem qe27_0 : q27_0 = t27_0 := by
  unfold q27_0 q27_0p1
  try simp only [QE]
  try rfl
noncomputable def bt27 (cf : CallF) (R : Rec) : Rec := fun i l h =>
 br3 i 0 l (fun a0 a1 a2 => t27_0 cf R a0 a1 a2 h) <|
 .fail
noncomputable def b27 (cf : CallF) (R : Rec) : Rec := fun i l h =>
 brQ3 i 0 l (fun a0 a1 a2 => q27_0 cf R a0 a1 a2 h) <|
 .fail
theorem be27 : b27 = bt27 := by
  unfold b27 bt27
  simp only [qe27_0, brQ3_eq]
theorem r27 {T : Tab} {cf : CallF} (hc : leC cf (CL T)) (n : Nat) : leR (recN (b27 cf) n) (J27 T) := be27 ▸ recN_le (fun R hR i l h => by
  unfold bt27
  refine le_br3 (J := fun i l => J27 T i l h) (fun _ a0 a1 a2 => le_e (fun hn => e27_0 rfl hn) ((m27 hc hR) a0 a1 a2 h)) ?_
  exact le_fail _) n
-- 28
theorem m28 {cf cf' : CallF} {R R' : Rec} (hc : ∀ f l h, le (cf f l h) (cf' f l h)) (hR : ∀ i l h, le (R i l h) (R' i l h)) :
  (∀ (a0 a1 : IV) (h : H), le (t28_0 cf R a0 a1 h) (t28_0 cf' R' a0 a1 h)) ∧
  (∀ (a0 a1 : IV) (h : H), le (t28_1 cf R a0 a1 h) (t28_1 cf' R' a0 a1 h)) ∧
  (∀ (a0 a5 : IV) (h : H), le (t28_2 cf R a0 a5 h) (t28_2 cf' R' a0 a5 h)) := by
  refine ⟨?_, ?_, ?_⟩
  all_goals intros
  all_goals first | unfold t28_0 | unfold t28_1 | unfold t28_2
  all_goals
  with_reducible repeat' first
    | refine le_obind fun _ => ?_
    | refine le_callP ?_ (fun _ _ => ?_) (fun _ _ => ?_)
    | refine le_condK ?_ ?_
    | exact hR _ _ _
    | refine le_obind2 fun _ _ => ?_
    | refine le_obindH fun _ => ?_
    | refine le_spanK (fun _ _ _ => ?_) (fun _ _ => ?_)
    | exact hc _ _ _
    | refine le_bif ?_ ?_
    | refine le_guardK ?_ ?_ ?_
    | refine le_mapK fun _ _ => ?_
    | refine le_panK fun _ _ => ?_
    | refine le_funK fun _ _ => ?_
    | exact le_refl _
    | apply_assumption
noncomputable def q28_0 (cf : CallF) (R : Rec) (a0 : IV) (a1 : IV) (h : H) : CRes :=
 Qc (cf 27 [a0, a1, (.str ⟨2, 12079⟩)] h) .pan fun x1 h2 =>
 Qif x1
 (R 1 [a0, a1] h2)
 (Qc (cf 27 [a0, a1, (.str ⟨2, 10799⟩)] h2) .pan fun x3 h4 =>
 Qo (Qnot x3) fun x5 =>
 Qif x5
 (.ok (.int .i64 (-1)) h4)
 (Qo (Qadd a1 (.int .i64 2)) fun x6 =>
 R 2 [a0, x6] h4))
theorem qe28_0 : q28_0 = t28_0 := by
  unfold q28_0
  try simp only [QE]
  try rfl
noncomputable def q28_1p1 (cf : CallF) (R : Rec) (x14 : IV) (a1 : IV) (a0 : IV) (h11 : H) : CRes :=
 Qif x14
 (Qo (Qadd a1 (.int .i64 1)) fun x15 =>
 R 1 [a0, x15] h11)
 (.ok a1 h11)
noncomputable def q28_1 (cf : CallF) (R : Rec) (a0 : IV) (a1 : IV) (h : H) : CRes :=
 Qo (Qls a0) fun x7 =>
 Qo (Qlss a1 x7) fun x8 =>
 Qsp x8 true h (fun k9 =>
 Qo (Qis a0 a1) fun x12 =>
 Qo (Qneq x12 (.int .u8 10)) fun x13 =>
 k9 x13 h) fun x10 h11 =>
 Qo (Qpk x8 (some x10) (some (.bool false))) fun x14 =>
 q28_1p1 cf R x14 a1 a0 h11
theorem qe28_1 : q28_1 = t28_1 := by
  unfold q28_1 q28_1p1
  try simp only [QE]
  try rfl
noncomputable def q28_2 (cf : CallF) (R : Rec) (a0 : IV) (a5 : IV) (h : H) : CRes :=
 Qo (Qls a0) fun x16 =>
 Qo (Qlss a5 x16) fun x17 =>
 Qif x17
 (Qc (cf 27 [a0, a5, (.str ⟨2, 12074⟩)] h) .pan fun x18 h19 =>
 Qif x18
 (Qo (Qadd a5 (.int .i64 2)) fun x20 =>
 .ok x20 h19)
 (Qo (Qadd a5 (.int .i64 1)) fun x21 =>
 R 2 [a0, x21] h19))
 (.ok (.int .i64 (-1)) h)
theorem qe28_2 : q28_2 = t28_2 := by
  unfold q28_2
  try simp only [QE]
  try rfl
noncomputable def bt28 (cf : CallF) (R : Rec) : Rec := fun i l h =>
 br2 i 0 l (fun a0 a1 => t28_0 cf R a0 a1 h) <|
 br2 i 1 l (fun a0 a1 => t28_1 cf R a0 a1 h) <|
 br2 i 2 l (fun a0 a5 => t28_2 cf R a0 a5 h) <|
 .fail
noncomputable def b28 (cf : CallF) (R : Rec) : Rec := fun i l h =>
 brQ2 i 0 l (fun a0 a1 => q28_0 cf R a0 a1 h) <|
 brQ2 i 1 l (fun a0 a1 => q28_1 cf R a0 a1 h) <|
 brQ2 i 2 l (fun a0 a5 => q28_2 cf R a0 a5 h) <|
 .fail
theorem be28 : b28 = bt28 := by
  unfold b28 bt28
  simp only [qe28_0, qe28_1, qe28_2, brQ2_eq]
theorem r28 {T : Tab} {cf : CallF} (hc : leC cf (CL T)) (n : Nat) : leR (recN (b28 cf) n) (J28 T) := be28 ▸ recN_le (fun R hR i l h => by
  unfold bt28
  refine le_br2 (J := fun i l => J28 T i l h) (fun _ a0 a1 => le_e (fun hn => e28_0 rfl hn) ((m28 hc hR).1 a0 a1 h)) ?_
  refine le_br2 (J := fun i l => J28 T i l h) (fun _ a0 a1 => le_e (fun hn => e28_1 rfl hn) ((m28 hc hR).2.1 a0 a1 h)) ?_
  refine le_br2 (J := fun i l => J28 T i l h) (fun _ a0 a5 => le_e (fun hn => e28_2 rfl hn) ((m28 hc hR).2.2 a0 a5 h)) ?_
  exact le_fail _) n
-- 29
theorem m29 {cf cf' : CallF} {R R' : Rec} (hc : ∀ f l h, le (cf f l h) (cf' f l h)) (hR : ∀ i l h, le (R i l h) (R' i l h)) :
  (∀ (a0 a1 : IV) (h : H), le (t29_0 cf R a0 a1 h) (t29_0 cf' R' a0 a1 h)) ∧
  (∀ (a0 a1 a4 a7 : IV) (h : H), le (t29_1 cf R a0 a1 a4 a7 h) (t29_1 cf' R' a0 a1 a4 a7 h)) ∧
  (∀ (a0 a1 a4 a7 a8 : IV) (h : H), le (t29_2 cf R a0 a1 a4 a7 a8 h) (t29_2 cf' R' a0 a1 a4 a7 a8 h)) ∧
  (∀ (a0 a1 a4 a7 : IV) (h : H), le (t29_4 cf R a0 a1 a4 a7 h) (t29_4 cf' R' a0 a1 a4 a7 h)) ∧
  (∀ (a0 a1 a4 a7 a8 a9 : IV) (h : H), le (t29_3 cf R a0 a1 a4 a7 a8 a9 h) (t29_3 cf' R' a0 a1 a4 a7 a8 a9 h)) := by
  refine ⟨?_, ?_, ?_, ?_, ?_⟩
  all_goals intros
  all_goals first | unfold t29_0 | unfold t29_1 | unfold t29_2 | unfold t29_4 | unfold t29_3
  all_goals
  with_reducible repeat' first
    | refine le_obind fun _ => ?_
    | refine le_callP ?_ (fun _ _ => ?_) (fun _ _ => ?_)
    | refine le_condK ?_ ?_
    | exact hR _ _ _
    | refine le_obind2 fun _ _ => ?_
    | refine le_obindH fun _ => ?_
    | refine le_spanK (fun _ _ _ => ?_) (fun _ _ => ?_)
    | exact hc _ _ _
    | refine le_bif ?_ ?_
    | refine le_guardK ?_ ?_ ?_
    | refine le_mapK fun _ _ => ?_
    | refine le_panK fun _ _ => ?_
    | refine le_funK fun _ _ => ?_
    | exact le_refl _
    | apply_assumption
noncomputable def q29_0 (cf : CallF) (R : Rec) (a0 : IV) (a1 : IV) (h : H) : CRes :=
 Qo2 (QnI h z1) fun x1 h2 =>
 Qo (Qis a0 a1) fun x3 =>
 Qo (Qeql x3 (.int .u8 96)) fun x4 =>
 Qif x4
 (Qo (Qadd a1 (.int .i64 1)) fun x5 =>
 R 1 [a0, a1, x1, x5] h2)
 (R 1 [a0, a1, x1, a1] h2)
theorem qe29_0 : q29_0 = t29_0 := by
  unfold q29_0
  try simp only [QE]
  try rfl
noncomputable def q29_1p1 (cf : CallF) (R : Rec) (x14 : IV) (a0 : IV) (a1 : IV) (a4 : IV) (a7 : IV) (h10 : H) : CRes :=
 Qif x14
 (R 2 [a0, a1, a4, a7, a7] h10)
 (Qo (Qis a0 a1) fun x15 =>
 Qc (cf 41 [x15] h10) .pan fun x16 h17 =>
 Qif x16
 (R 4 [a0, a1, a4, a7] h17)
 (Qc (cf 43 [a0, a1] h17) .pan fun x18 h19 =>
 Qo (Qse x18 (.str ⟨0, 0⟩)) fun x20 =>
 Qif x20
 (Qo (Qbld z1 p2 []) fun x21 =>
 QoH (QsA 3 h19 a4 x21) fun h22 =>
 Qo (QlA 3 h22 a4) fun x23 =>
 .ok (.tup [x23, (.int .i64 0), (.int .i64 20)]) h22)
 (Qo (Qbld z1 p2 [(0, (.int .i64 3)), (1, x18), (2, a1)]) fun x24 =>
 Qo (Qls x18) fun x25 =>
 Qo (Qadd a1 x25) fun x26 =>
 QoH (QsA 3 h19 a4 x24) fun h27 =>
 Qo (QlA 3 h27 a4) fun x28 =>
 .ok (.tup [x28, x26, (.int .i64 0)]) h27)))
noncomputable def q29_1 (cf : CallF) (R : Rec) (a0 : IV) (a1 : IV) (a4 : IV) (a7 : IV) (h : H) : CRes :=
 Qo (Qls a0) fun x6 =>
 Qo (Qlss a7 x6) fun x7 =>
 Qsp x7 true h (fun k8 =>
 Qo (Qis a0 a7) fun x11 =>
 Qc (cf 39 [x11] h) .pan fun x12 h13 =>
 k8 x12 h13) fun x9 h10 =>
 Qo (Qpk x7 (some x9) (some (.bool false))) fun x14 =>
 q29_1p1 cf R x14 a0 a1 a4 a7 h10
theorem qe29_1 : q29_1 = t29_1 := by
  unfold q29_1 q29_1p1
  try simp only [QE]
  try rfl
noncomputable def q29_2p1 (cf : CallF) (R : Rec) (x37 : IV) (a7 : IV) (a0 : IV) (a1 : IV) (a4 : IV) (a8 : IV) (h33 : H) : CRes :=
 Qif x37
 (Qo (Qadd a7 (.int .i64 1)) fun x38 =>
 R 2 [a0, a1, a4, x38, a8] h33)
 (Qo (Qsub a7 a8) fun x39 =>
 Qo (Qgtr x39 (.int .i64 64)) fun x40 =>
 Qif x40
 (Qo (Qbld z1 p2 []) fun x41 =>
 QoH (QsA 3 h33 a4 x41) fun h42 =>
 Qo (QlA 3 h42 a4) fun x43 =>
 .ok (.tup [x43, (.int .i64 0), (.int .i64 4)]) h42)
 (Qo (Qis a0 a1) fun x44 =>
 Qo (Qeql x44 (.int .u8 96)) fun x45 =>
 Qif x45
 (R 3 [a0, a1, a4, a7, a8, (.int .i64 4)] h33)
 (R 3 [a0, a1, a4, a7, a8, (.int .i64 1)] h33)))
noncomputable def q29_2 (cf : CallF) (R : Rec) (a0 : IV) (a1 : IV) (a4 : IV) (a7 : IV) (a8 : IV) (h : H) : CRes :=
 Qo (Qls a0) fun x29 =>
 Qo (Qlss a7 x29) fun x30 =>
 Qsp x30 true h (fun k31 =>
 Qo (Qis a0 a7) fun x34 =>
 Qc (cf 40 [x34] h) .pan fun x35 h36 =>
 k31 x35 h36) fun x32 h33 =>
 Qo (Qpk x30 (some x32) (some (.bool false))) fun x37 =>
 q29_2p1 cf R x37 a7 a0 a1 a4 a8 h33
theorem qe29_2 : q29_2 = t29_2 := by
  unfold q29_2 q29_2p1
  try simp only [QE]
  try rfl
noncomputable def q29_4p2 (cf : CallF) (R : Rec) (x66 : IV) (h67 : H) (a4 : IV) (a0 : IV) (a1 : IV) (a7 : IV) : CRes :=
 Qo (Qext x66 2) fun x70 =>
 Qo (Qneq x70 (.int .i64 0)) fun x71 =>
 Qif x71
 (Qo (Qbld z1 p2 []) fun x72 =>
 QoH (QsA 3 h67 a4 x72) fun h73 =>
 Qo (QlA 3 h73 a4) fun x74 =>
 .ok (.tup [x74, (.int .i64 0), x70]) h73)
 (Qo (slcStr a0 (some a1) (some a7)) fun x75 =>
 Qo (Qbld z1 p2 [(0, (.int .i64 2)), (1, x75), (2, a1)]) fun x76 =>
 QoH (QsA 3 h67 a4 x76) fun h77 =>
 Qo (QlA 3 h77 a4) fun x78 =>
 .ok (.tup [x78, a7, (.int .i64 0)]) h77)
noncomputable def q29_4p1 (cf : CallF) (R : Rec) (x47 : IV) (h56 : H) (x49 : IV) (x55 : IV) (a7 : IV) (a0 : IV) (a1 : IV) (a4 : IV) : CRes :=
 Qsp x47 true h56 (fun k59 =>
 Qo (Qpk x49 (some (.bool true)) (some x55)) fun x62 =>
 k59 x62 h56) fun x60 h61 =>
 Qo (Qpk x47 (some x60) (some (.bool false))) fun x63 =>
 Qif x63
 (Qo (Qadd a7 (.int .i64 1)) fun x64 =>
 R 4 [a0, a1, a4, x64] h61)
 (Qo (slcStr a0 (some a1) (some a7)) fun x65 =>
 Qc (cf 42 [x65] h61) .pan fun x66 h67 =>
 Qo (Qext x66 0) fun x68 =>
 Qo (Qext x66 1) fun x69 =>
 q29_4p2 cf R x66 h67 a4 a0 a1 a7)
noncomputable def q29_4 (cf : CallF) (R : Rec) (a0 : IV) (a1 : IV) (a4 : IV) (a7 : IV) (h : H) : CRes :=
 Qo (Qls a0) fun x46 =>
 Qo (Qlss a7 x46) fun x47 =>
 Qsp x47 true h (fun k48 =>
 Qo (Qis a0 a7) fun x51 =>
 Qc (cf 40 [x51] h) .pan fun x52 h53 =>
 k48 x52 h53) fun x49 h50 =>
 Qsp x49 false h50 (fun k54 =>
 Qo (Qis a0 a7) fun x57 =>
 Qo (Qeql x57 (.int .u8 39)) fun x58 =>
 k54 x58 h50) fun x55 h56 =>
 q29_4p1 cf R x47 h56 x49 x55 a7 a0 a1 a4
theorem qe29_4 : q29_4 = t29_4 := by
  unfold q29_4 q29_4p1 q29_4p2
  try simp only [QE]
  try rfl
noncomputable def q29_3 (cf : CallF) (R : Rec) (a0 : IV) (a1 : IV) (a4 : IV) (a7 : IV) (a8 : IV) (a9 : IV) (h : H) : CRes :=
 Qo (slcStr a0 (some a8) (some a7)) fun x79 =>
 Qo (Qbld z1 p2 [(0, a9), (1, x79), (2, a1)]) fun x80 =>
 QoH (QsA 3 h a4 x80) fun h81 =>
 Qo (QlA 3 h81 a4) fun x82 =>
 .ok (.tup [x82, a7, (.int .i64 0)]) h81
theorem qe29_3 : q29_3 = t29_3 := by
  unfold q29_3
  try simp only [QE]
  try rfl
noncomputable def bt29 (cf : CallF) (R : Rec) : Rec := fun i l h =>
 br2 i 0 l (fun a0 a1 => t29_0 cf R a0 a1 h) <|
 br4 i 1 l (fun a0 a1 a4 a7 => t29_1 cf R a0 a1 a4 a7 h) <|
 br5 i 2 l (fun a0 a1 a4 a7 a8 => t29_2 cf R a0 a1 a4 a7 a8 h) <|
 br4 i 4 l (fun a0 a1 a4 a7 => t29_4 cf R a0 a1 a4 a7 h) <|
 br6 i 3 l (fun a0 a1 a4 a7 a8 a9 => t29_3 cf R a0 a1 a4 a7 a8 a9 h) <|
 .fail
noncomputable def b29 (cf : CallF) (R : Rec) : Rec := fun i l h =>
 brQ2 i 0 l (fun a0 a1 => q29_0 cf R a0 a1 h) <|
 brQ4 i 1 l (fun a0 a1 a4 a7 => q29_1 cf R a0 a1 a4 a7 h) <|
 brQ5 i 2 l (fun a0 a1 a4 a7 a8 => q29_2 cf R a0 a1 a4 a7 a8 h) <|
 brQ4 i 4 l (fun a0 a1 a4 a7 => q29_4 cf R a0 a1 a4 a7 h) <|
 brQ6 i 3 l (fun a0 a1 a4 a7 a8 a9 => q29_3 cf R a0 a1 a4 a7 a8 a9 h) <|
 .fail
theorem be29 : b29 = bt29 := by
  unfold b29 bt29
  simp only [qe29_0, qe29_1, qe29_2, qe29_4, qe29_3, brQ2_eq, brQ4_eq, brQ5_eq, brQ6_eq]
theorem r29 {T : Tab} {cf : CallF} (hc : leC cf (CL T)) (n : Nat) : leR (recN (b29 cf) n) (J29 T) := be29 ▸ recN_le (fun R hR i l h => by
  unfold bt29
  refine le_br2 (J := fun i l => J29 T i l h) (fun _ a0 a1 => le_e (fun hn => e29_0 rfl hn) ((m29 hc hR).1 a0 a1 h)) ?_
  refine le_br4 (J := fun i l => J29 T i l h) (fun _ a0 a1 a4 a7 => le_e (fun hn => e29_1 rfl hn) ((m29 hc hR).2.1 a0 a1 a4 a7 h)) ?_
  refine le_br5 (J := fun i l => J29 T i l h) (fun _ a0 a1 a4 a7 a8 => le_e (fun hn => e29_2 rfl hn) ((m29 hc hR).2.2.1 a0 a1 a4 a7 a8 h)) ?_
  refine le_br4 (J := fun i l => J29 T i l h) (fun _ a0 a1 a4 a7 => le_e (fun hn => e29_4 rfl hn) ((m29 hc hR).2.2.2.1 a0 a1 a4 a7 h)) ?_
  refine le_br6 (J := fun i l => J29 T i l h) (fun _ a0 a1 a4 a7 a8 a9 => le_e (fun hn => e29_3 rfl hn) ((m29 hc hR).2.2.2.2 a0 a1 a4 a7 a8 a9 h)) ?_
  exact le_fail _) n
-- 30
theorem m30 {cf cf' : CallF} {R R' : Rec} (hc : ∀ f l h, le (cf f l h) (cf' f l h)) (hR : ∀ i l h, le (R i l h) (R' i l h)) :
  (∀ (a0 : IV) (h : H), le (t30_0 cf R a0 h) (t30_0 cf' R' a0 h)) ∧
  (∀ (a0 a2 a3 : IV) (h : H), le (t30_1 cf R a0 a2 a3 h) (t30_1 cf' R' a0 a2 a3 h)) ∧
  (∀ (a0 a2 a3 : IV) (h : H), le (t30_2 cf R a0 a2 a3 h) (t30_2 cf' R' a0 a2 a3 h)) ∧
  (∀ (a0 a2 a3 : IV) (h : H), le (t30_4 cf R a0 a2 a3 h) (t30_4 cf' R' a0 a2 a3 h)) ∧
  (∀ (a0 a2 a3 : IV) (h : H), le (t30_3 cf R a0 a2 a3 h) (t30_3 cf' R' a0 a2 a3 h)) := by
  refine ⟨?_, ?_, ?_, ?_, ?_⟩
  all_goals intros
  all_goals first | unfold t30_0 | unfold t30_1 | unfold t30_2 | unfold t30_4 | unfold t30_3
  all_goals
  with_reducible repeat' first
    | refine le_obind fun _ => ?_
    | refine le_callP ?_ (fun _ _ => ?_) (fun _ _ => ?_)
    | refine le_condK ?_ ?_
    | exact hR _ _ _
    | refine le_obind2 fun _ _ => ?_
    | refine le_obindH fun _ => ?_
    | refine le_spanK (fun _ _ _ => ?_) (fun _ _ => ?_)
    | exact hc _ _ _
    | refine le_bif ?_ ?_
    | refine le_guardK ?_ ?_ ?_
    | refine le_mapK fun _ _ => ?_
    | refine le_panK fun _ _ => ?_
    | refine le_funK fun _ _ => ?_
    | exact le_refl _
    | apply_assumption
noncomputable def q30_0p2 (cf : CallF) (R : Rec) (h12 : H) (x13 : IV) (x11 : IV) (a0 : IV) (x6 : IV) (x1 : IV) : CRes :=
 QoH (QsA 1 h12 x13 x11) fun h14 =>
 Qc (cf 47 [a0, (.str ⟨1, 35⟩)] h14) .pan fun x15 h16 =>
 Qif x15
 (Qc (cf 48 [a0] h16) .pan fun x17 h18 =>
 Qo (Qfad 1 x6) fun x19 =>
 QoH (QsA 1 h18 x19 x17) fun h20 =>
 R 1 [a0, x1, x6] h20)
 (R 1 [a0, x1, x6] h16)
noncomputable def q30_0p1 (cf : CallF) (R : Rec) (h7 : H) (x6 : IV) (x5 : IV) (a0 : IV) (x1 : IV) : CRes :=
 QoH (QsA 5 h7 x6 x5) fun h8 =>
 Qc (cf 45 [a0, (.str ⟨6, 111516500389741⟩)] h8) .pan fun x9 h10 =>
 Qc (cf 46 [a0] h10) .pan fun x11 h12 =>
 Qo (Qfad 0 x6) fun x13 =>
 q30_0p2 cf R h12 x13 x11 a0 x6 x1
noncomputable def q30_0 (cf : CallF) (R : Rec) (a0 : IV) (h : H) : CRes :=
 Qo2 (QnI h z0) fun x1 h2 =>
 Qc (cf 44 [a0] h2) .pan fun x3 h4 =>
 Qo (Qbld z0 p7 [(4, x3)]) fun x5 =>
 Qo2 (QnI h4 z0) fun x6 h7 =>
 q30_0p1 cf R h7 x6 x5 a0 x1
theorem qe30_0 : q30_0 = t30_0 := by
  unfold q30_0 q30_0p1 q30_0p2
  try simp only [QE]
  try rfl
noncomputable def q30_1 (cf : CallF) (R : Rec) (a0 : IV) (a2 : IV) (a3 : IV) (h : H) : CRes :=
 Qc (cf 45 [a0, (.str ⟨1, 40⟩)] h) .pan fun x21 h22 =>
 Qc (cf 47 [a0, (.str ⟨1, 41⟩)] h22) .pan fun x23 h24 =>
 Qo (Qnot x23) fun x25 =>
 Qif x25
 (R 4 [a0, a2, a3] h24)
 (R 2 [a0, a2, a3] h24)
theorem qe30_1 : q30_1 = t30_1 := by
  unfold q30_1
  try simp only [QE]
  try rfl
noncomputable def q30_2p1 (cf : CallF) (R : Rec) (h31 : H) (a3 : IV) (a2 : IV) : CRes :=
 Qo (QlA 5 h31 a3) fun x32 =>
 QoH (QsA 5 h31 a2 x32) fun h33 =>
 Qo (QlA 5 h33 a2) fun x34 =>
 .ok x34 h33
noncomputable def q30_2 (cf : CallF) (R : Rec) (a0 : IV) (a2 : IV) (a3 : IV) (h : H) : CRes :=
 Qc (cf 45 [a0, (.str ⟨1, 59⟩)] h) .pan fun x26 h27 =>
 Qc (cf 50 [a0, (.str ⟨9, 1870936414602775522917⟩), (.int .i64 1)] h27) .pan fun x28 h29 =>
 Qo (Qfad 3 a3) fun x30 =>
 QoH (QsA 1 h29 x30 x28) fun h31 =>
 q30_2p1 cf R h31 a3 a2
theorem qe30_2 : q30_2 = t30_2 := by
  unfold q30_2 q30_2p1
  try simp only [QE]
  try rfl
noncomputable def q30_4p2 (cf : CallF) (R : Rec) (x51 : IV) (a0 : IV) (a2 : IV) (a3 : IV) (h52 : H) : CRes :=
 Qo (Qnot x51) fun x53 =>
 Qif x53
 (R 3 [a0, a2, a3] h52)
 (R 4 [a0, a2, a3] h52)
noncomputable def q30_4p1 (cf : CallF) (R : Rec) (x43 : IV) (x38 : IV) (x41 : IV) (h42 : H) (x37 : IV) (a3 : IV) (a0 : IV) (a2 : IV) : CRes :=
 bif IV.beq x43 x38 then
 Qo2 (Qbsl false 17 z6 1 [(0, x41)] h42) fun x44 h45 =>
 Qo (Ql0 h45 x37) fun x46 =>
 bif IV.beq x46 x38 then
 Qo2 (appK 17 192 h45 x38 x44) fun x47 h48 =>
 Qo (Qfad 2 a3) fun x49 =>
 QoH (QsA 1 h48 x49 x47) fun h50 =>
 Qc (cf 47 [a0, (.str ⟨1, 44⟩)] h50) .pan fun x51 h52 =>
 q30_4p2 cf R x51 a0 a2 a3 h52
 else .fail
 else .fail
noncomputable def q30_4 (cf : CallF) (R : Rec) (a0 : IV) (a2 : IV) (a3 : IV) (h : H) : CRes :=
 Qc (cf 31 [a0] h) .pan fun x35 h36 =>
 Qif x35
 (Qo (Qfad 2 a3) fun x37 =>
 Qo (Ql0 h36 x37) fun x38 =>
 Qc (cf 49 [a0] h36) (fun v39 h40 =>
 .pan v39 h40) fun x41 h42 =>
 Qo (Ql0 h42 x37) fun x43 =>
 q30_4p1 cf R x43 x38 x41 h42 x37 a3 a0 a2)
 (R 3 [a0, a2, a3] h36)
theorem qe30_4 : q30_4 = t30_4 := by
  unfold q30_4 q30_4p1 q30_4p2
  try simp only [QE]
  try rfl
noncomputable def q30_3 (cf : CallF) (R : Rec) (a0 : IV) (a2 : IV) (a3 : IV) (h : H) : CRes :=
 Qc (cf 45 [a0, (.str ⟨1, 41⟩)] h) .pan fun x54 h55 =>
 R 2 [a0, a2, a3] h55
theorem qe30_3 : q30_3 = t30_3 := by
  unfold q30_3
  try simp only [QE]
  try rfl
noncomputable def bt30 (cf : CallF) (R : Rec) : Rec := fun i l h =>
 br1 i 0 l (fun a0 => t30_0 cf R a0 h) <|
 br3 i 1 l (fun a0 a2 a3 => t30_1 cf R a0 a2 a3 h) <|
 br3 i 2 l (fun a0 a2 a3 => t30_2 cf R a0 a2 a3 h) <|
 br3 i 4 l (fun a0 a2 a3 => t30_4 cf R a0 a2 a3 h) <|
 br3 i 3 l (fun a0 a2 a3 => t30_3 cf R a0 a2 a3 h) <|
 .fail
noncomputable def b30 (cf : CallF) (R : Rec) : Rec := fun i l h =>
 brQ1 i 0 l (fun a0 => q30_0 cf R a0 h) <|
 brQ3 i 1 l (fun a0 a2 a3 => q30_1 cf R a0 a2 a3 h) <|
 brQ3 i 2 l (fun a0 a2 a3 => q30_2 cf R a0 a2 a3 h) <|
 brQ3 i 4 l (fun a0 a2 a3 => q30_4 cf R a0 a2 a3 h) <|
 brQ3 i 3 l (fun a0 a2 a3 => q30_3 cf R a0 a2 a3 h) <|
 .fail
theorem be30 : b30 = bt30 := by
  unfold b30 bt30
  simp only [qe30_0, qe30_1, qe30_2, qe30_4, qe30_3, brQ1_eq, brQ3_eq]
theorem r30 {T : Tab} {cf : CallF} (hc : leC cf (CL T)) (n : Nat) : leR (recN (b30 cf) n) (J30 T) := be30 ▸ recN_le (fun R hR i l h => by
  unfold bt30
  refine le_br1 (J := fun i l => J30 T i l h) (fun _ a0 => le_e (fun hn => e30_0 rfl hn) ((m30 hc hR).1 a0 h)) ?_
  refine le_br3 (J := fun i l => J30 T i l h) (fun _ a0 a2 a3 => le_e (fun hn => e30_1 rfl hn) ((m30 hc hR).2.1 a0 a2 a3 h)) ?_
  refine le_br3 (J := fun i l => J30 T i l h) (fun _ a0 a2 a3 => le_e (fun hn => e30_2 rfl hn) ((m30 hc hR).2.2.1 a0 a2 a3 h)) ?_
  refine le_br3 (J := fun i l => J30 T i l h) (fun _ a0 a2 a3 => le_e (fun hn => e30_4 rfl hn) ((m30 hc hR).2.2.2.1 a0 a2 a3 h)) ?_
  refine le_br3 (J := fun i l => J30 T i l h) (fun _ a0 a2 a3 => le_e (fun hn => e30_3 rfl hn) ((m30 hc hR).2.2.2.2 a0 a2 a3 h)) ?_
  exact le_fail _) n
-- 31
theorem m31 {cf cf' : CallF} {R R' : Rec} (hc : ∀ f l h, le (cf f l h) (cf' f l h)) (hR : ∀ i l h, le (R i l h) (R' i l h)) : (∀ (a0 : IV) (h : H), le (t31_0 cf R a0 h) (t31_0 cf' R' a0 h)) := by
  intros
  unfold t31_0
  with_reducible repeat' first
    | refine le_obind fun _ => ?_
    | refine le_callP ?_ (fun _ _ => ?_) (fun _ _ => ?_)
    | refine le_condK ?_ ?_
    | exact hR _ _ _
    | refine le_obind2 fun _ _ => ?_
    | refine le_obindH fun _ => ?_
    | refine le_spanK (fun _ _ _ => ?_) (fun _ _ => ?_)
    | exact hc _ _ _
    | refine le_bif ?_ ?_
    | refine le_guardK ?_ ?_ ?_
    | refine le_mapK fun _ _ => ?_
    | refine le_panK fun _ _ => ?_
    | refine le_funK fun _ _ => ?_
    | exact le_refl _
    | apply_assumption
noncomputable def q31_0 (cf : CallF) (R : Rec) (a0 : IV) (h : H) : CRes :=
 Qo (Qnil a0) fun x1 =>
 Qo (Qfad 2 x1) fun x2 =>
 Qo (Qfad 1 x2) fun x3 =>
 Qo (Ql0 h x3) fun x4 =>
 Qo (Qeql x4 (.int .i64 0)) fun x5 =>
 .ok x5 h
theorem qe31_0 : q31_0 = t31_0 := by
  unfold q31_0
  try simp only [QE]
  try rfl
noncomputable def bt31 (cf : CallF) (R : Rec) : Rec := fun i l h =>
 br1 i 0 l (fun a0 => t31_0 cf R a0 h) <|
 .fail
noncomputable def b31 (cf : CallF) (R : Rec) : Rec := fun i l h =>
 brQ1 i 0 l (fun a0 => q31_0 cf R a0 h) <|
 .fail
theorem be31 : b31 = bt31 := by
  unfold b31 bt31
  simp only [qe31_0, brQ1_eq]
theorem r31 {T : Tab} {cf : CallF} (hc : leC cf (CL T)) (n : Nat) : leR (recN (b31 cf) n) (J31 T) := be31 ▸ recN_le (fun R hR i l h => by
  unfold bt31
  refine le_br1 (J := fun i l => J31 T i l h) (fun _ a0 => le_e (fun hn => e31_0 rfl hn) ((m31 hc hR) a0 h)) ?_
  exact le_fail _) n
-- 32
theorem m32 {cf cf' : CallF} {R R' : Rec} (hc : ∀ f l h, le (cf f l h) (cf' f l h)) (hR : ∀ i l h, le (R i l h) (R' i l h)) :
  (∀ (a0 a1 a2 a3 : IV) (h : H), le (t32_0 cf R a0 a1 a2 a3 h) (t32_0 cf' R' a0 a1 a2 a3 h)) ∧
  (∀ (a0 a1 a2 : IV) (h : H), le (t32_1 cf R a0 a1 a2 h) (t32_1 cf' R' a0 a1 a2 h)) := by
  refine ⟨?_, ?_⟩
  all_goals intros
  all_goals first | unfold t32_0 | unfold t32_1
  all_goals
  with_reducible repeat' first
    | refine le_obind fun _ => ?_
    | refine le_callP ?_ (fun _ _ => ?_) (fun _ _ => ?_)
    | refine le_condK ?_ ?_
    | exact hR _ _ _
    | refine le_obind2 fun _ _ => ?_
    | refine le_obindH fun _ => ?_
    | refine le_spanK (fun _ _ _ => ?_) (fun _ _ => ?_)
    | exact hc _ _ _
    | refine le_bif ?_ ?_
    | refine le_guardK ?_ ?_ ?_
    | refine le_mapK fun _ _ => ?_
    | refine le_panK fun _ _ => ?_
    | refine le_funK fun _ _ => ?_
    | exact le_refl _
    | apply_assumption
noncomputable def q32_0p1 (cf : CallF) (R : Rec) (x4 : IV) (a3 : IV) (h : H) (a0 : IV) (a1 : IV) (a2 : IV) : CRes :=
 Qo (Qext x4 0) fun x5 =>
 Qo (Qext x4 1) fun x6 =>
 Qif x6
 (Qc (cf 17 [a3, (.int .i64 70)] h) .pan fun x7 h8 =>
 R 1 [a0, a1, a2] h8)
 (R 1 [a0, a1, a2] h)
noncomputable def q32_0 (cf : CallF) (R : Rec) (a0 : IV) (a1 : IV) (a2 : IV) (a3 : IV) (h : H) : CRes :=
 Qo (Qnil a0) fun x1 =>
 Qo (Qfad 1 x1) fun x2 =>
 Qo (Ql0 h x2) fun x3 =>
 Qo (lkK true .nilPtr h x3 a1 true) fun x4 =>
 q32_0p1 cf R x4 a3 h a0 a1 a2
theorem qe32_0 : q32_0 = t32_0 := by
  unfold q32_0 q32_0p1
  try simp only [QE]
  try rfl
noncomputable def q32_1 (cf : CallF) (R : Rec) (a0 : IV) (a1 : IV) (a2 : IV) (h : H) : CRes :=
 Qo (Qnil a0) fun x9 =>
 Qo (Qfad 1 x9) fun x10 =>
 Qo (Ql0 h x10) fun x11 =>
 Qo (Qbld [(.int .i64 0), (.bool false)] [(0, 1), (1, 1)] [(0, a2)]) fun x12 =>
 Qo2 (QnI h (Qcells x12)) fun x13 h14 =>
 QoH (mupK true h14 x11 a1 x13) fun h15 =>
 .ok (.tup []) h15
theorem qe32_1 : q32_1 = t32_1 := by
  unfold q32_1
  try simp only [QE]
  try rfl
noncomputable def bt32 (cf : CallF) (R : Rec) : Rec := fun i l h =>
 br4 i 0 l (fun a0 a1 a2 a3 => t32_0 cf R a0 a1 a2 a3 h) <|
 br3 i 1 l (fun a0 a1 a2 => t32_1 cf R a0 a1 a2 h) <|
 .fail
noncomputable def b32 (cf : CallF) (R : Rec) : Rec := fun i l h =>
 brQ4 i 0 l (fun a0 a1 a2 a3 => q32_0 cf R a0 a1 a2 a3 h) <|
 brQ3 i 1 l (fun a0 a1 a2 => q32_1 cf R a0 a1 a2 h) <|
 .fail
theorem be32 : b32 = bt32 := by
  unfold b32 bt32
  simp only [qe32_0, qe32_1, brQ3_eq, brQ4_eq]
theorem r32 {T : Tab} {cf : CallF} (hc : leC cf (CL T)) (n : Nat) : leR (recN (b32 cf) n) (J32 T) := be32 ▸ recN_le (fun R hR i l h => by
  unfold bt32
  refine le_br4 (J := fun i l => J32 T i l h) (fun _ a0 a1 a2 a3 => le_e (fun hn => e32_0 rfl hn) ((m32 hc hR).1 a0 a1 a2 a3 h)) ?_
  refine le_br3 (J := fun i l => J32 T i l h) (fun _ a0 a1 a2 => le_e (fun hn => e32_1 rfl hn) ((m32 hc hR).2 a0 a1 a2 h)) ?_
  exact le_fail _) n
-- 33
theorem m33 {cf cf' : CallF} {R R' : Rec} (hc : ∀ f l h, le (cf f l h) (cf' f l h)) (hR : ∀ i l h, le (R i l h) (R' i l h)) :
  (∀ (a0 a1 : IV) (h : H), le (t33_0 cf R a0 a1 h) (t33_0 cf' R' a0 a1 h)) ∧
  (∀ (a0 a10 a11 a12 : IV) (h : H), le (t33_1 cf R a0 a10 a11 a12 h) (t33_1 cf' R' a0 a10 a11 a12 h)) ∧
  (∀ (a0 a10 a11 a12 : IV) (h : H), le (t33_2 cf R a0 a10 a11 a12 h) (t33_2 cf' R' a0 a10 a11 a12 h)) ∧
  (∀ (a0 a5 a10 a11 a12 a21 a22 a23 : IV) (h : H), le (t33_3 cf R a0 a5 a10 a11 a12 a21 a22 a23 h) (t33_3 cf' R' a0 a5 a10 a11 a12 a21 a22 a23 h)) ∧
  (∀ (a0 a5 a10 a11 a12 a36 a37 a38 : IV) (h : H), le (t33_4 cf R a0 a5 a10 a11 a12 a36 a37 a38 h) (t33_4 cf' R' a0 a5 a10 a11 a12 a36 a37 a38 h)) ∧
  (∀ (a0 a5 a10 a11 a12 a56 : IV) (h : H), le (t33_5 cf R a0 a5 a10 a11 a12 a56 h) (t33_5 cf' R' a0 a5 a10 a11 a12 a56 h)) := by
  refine ⟨?_, ?_, ?_, ?_, ?_, ?_⟩
  all_goals intros
  all_goals first | unfold t33_0 | unfold t33_1 | unfold t33_2 | unfold t33_3 | unfold t33_4 | unfold t33_5
  all_goals
  with_reducible repeat' first
    | refine le_obind fun _ => ?_
    | refine le_callP ?_ (fun _ _ => ?_) (fun _ _ => ?_)
    | refine le_condK ?_ ?_
    | exact hR _ _ _
    | refine le_obind2 fun _ _ => ?_
    | refine le_obindH fun _ => ?_
    | refine le_spanK (fun _ _ _ => ?_) (fun _ _ => ?_)
    | exact hc _ _ _
    | refine le_bif ?_ ?_
    | refine le_guardK ?_ ?_ ?_
    | refine le_mapK fun _ _ => ?_
    | refine le_panK fun _ _ => ?_
    | refine le_funK fun _ _ => ?_
    | exact le_refl _
    | apply_assumption
noncomputable def q33_0 (cf : CallF) (R : Rec) (a0 : IV) (a1 : IV) (h : H) : CRes :=
 Qo (Qle a1) fun x1 =>
 R 1 [a0, a1, x1, (.int .i64 0)] h
theorem qe33_0 : q33_0 = t33_0 := by
  unfold q33_0
  try simp only [QE]
  try rfl
noncomputable def q33_1p1 (cf : CallF) (R : Rec) (x5 : IV) (h7 : H) (a0 : IV) (a10 : IV) (a11 : IV) (a12 : IV) : CRes :=
 Qo (Qfad 0 x5) fun x8 =>
 Qo (Ql0 h7 x8) fun x9 =>
 Qo (Qeql x9 (.int .i64 1)) fun x10 =>
 Qif x10
 (Qo (Qfad 2 x5) fun x11 =>
 Qo (Ql0 h7 x11) fun x12 =>
 Qo (Qle x12) fun x13 =>
 R 3 [a0, x5, a10, a11, a12, x12, x13, (.int .i64 0)] h7)
 (Qo (Qeql x9 (.int .i64 2)) fun x14 =>
 Qif x14
 (Qo (Qfad 2 x5) fun x15 =>
 Qo (Ql0 h7 x15) fun x16 =>
 Qo (Qle x16) fun x17 =>
 R 4 [a0, x5, a10, a11, a12, x16, x17, (.int .i64 0)] h7)
 (Qo (Qeql x9 (.int .i64 3)) fun x18 =>
 Qif x18
 (Qo (Qfad 1 x5) fun x19 =>
 Qo (Ql0 h7 x19) fun x20 =>
 Qo (Qfad 47 x5) fun x21 =>
 Qo (Ql0 h7 x21) fun x22 =>
 Qc (cf 32 [a0, x20, (.int .i64 1), x22] h7) .pan fun x23 h24 =>
 R 2 [a0, a10, a11, a12] h24)
 (Qo (Qeql x9 (.int .i64 7)) fun x25 =>
 Qif x25
 (R 5 [a0, x5, a10, a11, a12, x25] h7)
 (Qo (Qeql x9 (.int .i64 8)) fun x26 =>
 R 5 [a0, x5, a10, a11, a12, x26] h7))))
noncomputable def q33_1 (cf : CallF) (R : Rec) (a0 : IV) (a10 : IV) (a11 : IV) (a12 : IV) (h : H) : CRes :=
 Qo (Qlss a12 a11) fun x2 =>
 Qif x2
 (Qo (Qix 48 a10 a12) fun x3 =>
 Qo (QlA 48 h x3) fun x4 =>
 Qo2 (QnI h z8) fun x5 h6 =>
 QoH (QsA 48 h6 x5 x4) fun h7 =>
 q33_1p1 cf R x5 h7 a0 a10 a11 a12)
 (.ok (.tup []) h)
theorem qe33_1 : q33_1 = t33_1 := by
  unfold q33_1 q33_1p1
  try simp only [QE]
  try rfl
noncomputable def q33_2 (cf : CallF) (R : Rec) (a0 : IV) (a10 : IV) (a11 : IV) (a12 : IV) (h : H) : CRes :=
 Qo (Qadd a12 (.int .i64 1)) fun x27 =>
 R 1 [a0, a10, a11, x27] h
theorem qe33_2 : q33_2 = t33_2 := by
  unfold q33_2
  try simp only [QE]
  try rfl
noncomputable def q33_3 (cf : CallF) (R : Rec) (a0 : IV) (a5 : IV) (a10 : IV) (a11 : IV) (a12 : IV) (a21 : IV) (a22 : IV) (a23 : IV) (h : H) : CRes :=
 Qo (Qlss a23 a22) fun x28 =>
 Qif x28
 (Qo (Qix 1 a21 a23) fun x29 =>
 Qo (Ql0 h x29) fun x30 =>
 Qo (Qfad 47 a5) fun x31 =>
 Qo (Ql0 h x31) fun x32 =>
 Qc (cf 32 [a0, x30, (.int .i64 3), x32] h) .pan fun x33 h34 =>
 Qo (Qadd a23 (.int .i64 1)) fun x35 =>
 R 3 [a0, a5, a10, a11, a12, a21, a22, x35] h34)
 (R 2 [a0, a10, a11, a12] h)
theorem qe33_3 : q33_3 = t33_3 := by
  unfold q33_3
  try simp only [QE]
  try rfl
noncomputable def q33_4 (cf : CallF) (R : Rec) (a0 : IV) (a5 : IV) (a10 : IV) (a11 : IV) (a12 : IV) (a36 : IV) (a37 : IV) (a38 : IV) (h : H) : CRes :=
 Qo (Qlss a38 a37) fun x36 =>
 Qif x36
 (Qo (Qix 1 a36 a38) fun x37 =>
 Qo (Ql0 h x37) fun x38 =>
 Qo (Qfad 47 a5) fun x39 =>
 Qo (Ql0 h x39) fun x40 =>
 Qc (cf 32 [a0, x38, (.int .i64 4), x40] h) .pan fun x41 h42 =>
 Qo (Qadd a38 (.int .i64 1)) fun x43 =>
 R 4 [a0, a5, a10, a11, a12, a36, a37, x43] h42)
 (R 2 [a0, a10, a11, a12] h)
theorem qe33_4 : q33_4 = t33_4 := by
  unfold q33_4
  try simp only [QE]
  try rfl
noncomputable def q33_5 (cf : CallF) (R : Rec) (a0 : IV) (a5 : IV) (a10 : IV) (a11 : IV) (a12 : IV) (a56 : IV) (h : H) : CRes :=
 Qif a56
 (Qo (Qfad 1 a5) fun x44 =>
 Qo (Ql0 h x44) fun x45 =>
 Qo (Qfad 47 a5) fun x46 =>
 Qo (Ql0 h x46) fun x47 =>
 Qc (cf 32 [a0, x45, (.int .i64 5), x47] h) .pan fun x48 h49 =>
 R 2 [a0, a10, a11, a12] h49)
 (R 2 [a0, a10, a11, a12] h)
theorem qe33_5 : q33_5 = t33_5 := by
  unfold q33_5
  try simp only [QE]
  try rfl
noncomputable def bt33 (cf : CallF) (R : Rec) : Rec := fun i l h =>
 br2 i 0 l (fun a0 a1 => t33_0 cf R a0 a1 h) <|
 br4 i 1 l (fun a0 a10 a11 a12 => t33_1 cf R a0 a10 a11 a12 h) <|
 br4 i 2 l (fun a0 a10 a11 a12 => t33_2 cf R a0 a10 a11 a12 h) <|
 br8 i 3 l (fun a0 a5 a10 a11 a12 a21 a22 a23 => t33_3 cf R a0 a5 a10 a11 a12 a21 a22 a23 h) <|
 br8 i 4 l (fun a0 a5 a10 a11 a12 a36 a37 a38 => t33_4 cf R a0 a5 a10 a11 a12 a36 a37 a38 h) <|
 br6 i 5 l (fun a0 a5 a10 a11 a12 a56 => t33_5 cf R a0 a5 a10 a11 a12 a56 h) <|
 .fail
noncomputable def b33 (cf : CallF) (R : Rec) : Rec := fun i l h =>
 brQ2 i 0 l (fun a0 a1 => q33_0 cf R a0 a1 h) <|
 brQ4 i 1 l (fun a0 a10 a11 a12 => q33_1 cf R a0 a10 a11 a12 h) <|
 brQ4 i 2 l (fun a0 a10 a11 a12 => q33_2 cf R a0 a10 a11 a12 h) <|
 brQ8 i 3 l (fun a0 a5 a10 a11 a12 a21 a22 a23 => q33_3 cf R a0 a5 a10 a11 a12 a21 a22 a23 h) <|
 brQ8 i 4 l (fun a0 a5 a10 a11 a12 a36 a37 a38 => q33_4 cf R a0 a5 a10 a11 a12 a36 a37 a38 h) <|
 brQ6 i 5 l (fun a0 a5 a10 a11 a12 a56 => q33_5 cf R a0 a5 a10 a11 a12 a56 h) <|
 .fail
theorem be33 : b33 = bt33 := by
  unfold b33 bt33
  simp only [qe33_0, qe33_1, qe33_2, qe33_3, qe33_4, qe33_5, brQ2_eq, brQ4_eq, brQ6_eq, brQ8_eq]
theorem r33 {T : Tab} {cf : CallF} (hc : leC cf (CL T)) (n : Nat) : leR (recN (b33 cf) n) (J33 T) := be33 ▸ recN_le (fun R hR i l h => by
  unfold bt33
  refine le_br2 (J := fun i l => J33 T i l h) (fun _ a0 a1 => le_e (fun hn => e33_0 rfl hn) ((m33 hc hR).1 a0 a1 h)) ?_
  refine le_br4 (J := fun i l => J33 T i l h) (fun _ a0 a10 a11 a12 => le_e (fun hn => e33_1 rfl hn) ((m33 hc hR).2.1 a0 a10 a11 a12 h)) ?_
  refine le_br4 (J := fun i l => J33 T i l h) (fun _ a0 a10 a11 a12 => le_e (fun hn => e33_2 rfl hn) ((m33 hc hR).2.2.1 a0 a10 a11 a12 h)) ?_
  refine le_br8 (J := fun i l => J33 T i l h) (fun _ a0 a5 a10 a11 a12 a21 a22 a23 => le_e (fun hn => e33_3 rfl hn) ((m33 hc hR).2.2.2.1 a0 a5 a10 a11 a12 a21 a22 a23 h)) ?_
  refine le_br8 (J := fun i l => J33 T i l h) (fun _ a0 a5 a10 a11 a12 a36 a37 a38 => le_e (fun hn => e33_4 rfl hn) ((m33 hc hR).2.2.2.2.1 a0 a5 a10 a11 a12 a36 a37 a38 h)) ?_
  refine le_br6 (J := fun i l => J33 T i l h) (fun _ a0 a5 a10 a11 a12 a56 => le_e (fun hn => e33_5 rfl hn) ((m33 hc hR).2.2.2.2.2 a0 a5 a10 a11 a12 a56 h)) ?_
  exact le_fail _) n
-- 34
theorem m34 {cf cf' : CallF} {R R' : Rec} (hc : ∀ f l h, le (cf f l h) (cf' f l h)) (hR : ∀ i l h, le (R i l h) (R' i l h)) :
  (∀ (a0 a1 a2 : IV) (h : H), le (t34_0 cf R a0 a1 a2 h) (t34_0 cf' R' a0 a1 a2 h)) ∧
  (∀ (a0 a2 a9 a10 a11 : IV) (h : H), le (t34_1 cf R a0 a2 a9 a10 a11 h) (t34_1 cf' R' a0 a2 a9 a10 a11 h)) ∧
  (∀ (a0 a2 a9 a10 a11 : IV) (h : H), le (t34_2 cf R a0 a2 a9 a10 a11 h) (t34_2 cf' R' a0 a2 a9 a10 a11 h)) ∧
  (∀ (a0 a2 a7 a9 a10 a11 a16 a34 : IV) (h : H), le (t34_3 cf R a0 a2 a7 a9 a10 a11 a16 a34 h) (t34_3 cf' R' a0 a2 a7 a9 a10 a11 a16 a34 h)) := by
  refine ⟨?_, ?_, ?_, ?_⟩
  all_goals intros
  all_goals first | unfold t34_0 | unfold t34_1 | unfold t34_2 | unfold t34_3
  all_goals
  with_reducible repeat' first
    | refine le_obind fun _ => ?_
    | refine le_callP ?_ (fun _ _ => ?_) (fun _ _ => ?_)
    | refine le_condK ?_ ?_
    | exact hR _ _ _
    | refine le_obind2 fun _ _ => ?_
    | refine le_obindH fun _ => ?_
    | refine le_spanK (fun _ _ _ => ?_) (fun _ _ => ?_)
    | exact hc _ _ _
    | refine le_bif ?_ ?_
    | refine le_guardK ?_ ?_ ?_
    | refine le_mapK fun _ _ => ?_
    | refine le_panK fun _ _ => ?_
    | refine le_funK fun _ _ => ?_
    | exact le_refl _
    | apply_assumption
noncomputable def q34_0 (cf : CallF) (R : Rec) (a0 : IV) (a1 : IV) (a2 : IV) (h : H) : CRes :=
 Qo (Qle a1) fun x1 =>
 R 1 [a0, a2, a1, x1, (.int .i64 0)] h
theorem qe34_0 : q34_0 = t34_0 := by
  unfold q34_0
  try simp only [QE]
  try rfl
noncomputable def q34_1p3 (cf : CallF) (R : Rec) (h22 : H) (x23 : IV) (h7 : H) (x21 : IV) (x5 : IV) (a0 : IV) (a2 : IV) (a9 : IV) (a10 : IV) (a11 : IV) : CRes :=
 Qo (Ql0 h22 x23) fun x24 =>
 Qo (Ql0 h7 x23) fun x25 =>
 bif IV.beq x25 x24 then
 Qc (cf 52 [x21, x24] h22) (fun v26 h27 =>
 .pan v26 h27) fun x28 h29 =>
 Qo (Qfad 23 x5) fun x30 =>
 Qo (QlA 6 h29 x30) fun x31 =>
 Qc (cf 53 [a0, x31] h29) .pan fun x32 h33 =>
 R 2 [a0, a2, a9, a10, a11] h33
 else .fail
noncomputable def q34_1p2 (cf : CallF) (R : Rec) (x5 : IV) (h7 : H) (a0 : IV) (x12 : IV) (x14 : IV) (a2 : IV) (a9 : IV) (a10 : IV) (a11 : IV) : CRes :=
 Qo (Qfad 47 x5) fun x15 =>
 Qo (Ql0 h7 x15) fun x16 =>
 Qc (cf 51 [a0, x12, (.int .i64 3), x14, x16] h7) (fun v17 h18 =>
 Qo (Qfad 47 x5) fun x19 =>
 Qo (Ql0 h7 x19) fun x20 =>
 .pan v17 h18) fun x21 h22 =>
 Qo (Qfad 47 x5) fun x23 =>
 q34_1p3 cf R h22 x23 h7 x21 x5 a0 a2 a9 a10 a11
noncomputable def q34_1p1 (cf : CallF) (R : Rec) (x5 : IV) (h7 : H) (a0 : IV) (a2 : IV) (a9 : IV) (a10 : IV) (a11 : IV) : CRes :=
 Qo (Qfad 0 x5) fun x8 =>
 Qo (Ql0 h7 x8) fun x9 =>
 Qo (Qeql x9 (.int .i64 4)) fun x10 =>
 Qif x10
 (Qo (Qfad 1 x5) fun x11 =>
 Qo (Ql0 h7 x11) fun x12 =>
 Qo (Qfad 47 x5) fun x13 =>
 Qo (Ql0 h7 x13) fun x14 =>
 q34_1p2 cf R x5 h7 a0 x12 x14 a2 a9 a10 a11)
 (Qo (Qeql x9 (.int .i64 5)) fun x34 =>
 Qif x34
 (R 3 [a0, a2, x5, a9, a10, a11, x9, x34] h7)
 (Qo (Qeql x9 (.int .i64 6)) fun x35 =>
 R 3 [a0, a2, x5, a9, a10, a11, x9, x35] h7))
noncomputable def q34_1 (cf : CallF) (R : Rec) (a0 : IV) (a2 : IV) (a9 : IV) (a10 : IV) (a11 : IV) (h : H) : CRes :=
 Qo (Qlss a11 a10) fun x2 =>
 Qif x2
 (Qo (Qix 48 a9 a11) fun x3 =>
 Qo (QlA 48 h x3) fun x4 =>
 Qo2 (QnI h z8) fun x5 h6 =>
 QoH (QsA 48 h6 x5 x4) fun h7 =>
 q34_1p1 cf R x5 h7 a0 a2 a9 a10 a11)
 (.ok (.tup []) h)
theorem qe34_1 : q34_1 = t34_1 := by
  unfold q34_1 q34_1p1 q34_1p2 q34_1p3
  try simp only [QE]
  try rfl
noncomputable def q34_2 (cf : CallF) (R : Rec) (a0 : IV) (a2 : IV) (a9 : IV) (a10 : IV) (a11 : IV) (h : H) : CRes :=
 Qo (Qadd a11 (.int .i64 1)) fun x36 =>
 R 1 [a0, a2, a9, a10, x36] h
theorem qe34_2 : q34_2 = t34_2 := by
  unfold q34_2
  try simp only [QE]
  try rfl
noncomputable def q34_3p2 (cf : CallF) (R : Rec) (a7 : IV) (h55 : H) (x48 : IV) (a2 : IV) (a0 : IV) (a9 : IV) (a10 : IV) (a11 : IV) : CRes :=
 Qo (Qfad 46 a7) fun x56 =>
 Qo (Ql0 h55 x56) fun x57 =>
 Qc (cf 33 [x48, x57] h55) .pan fun x58 h59 =>
 Qo (Qfad 46 a7) fun x60 =>
 Qo (Ql0 h59 x60) fun x61 =>
 Qc (cf 34 [x48, x61, a2] h59) .pan fun x62 h63 =>
 R 2 [a0, a2, a9, a10, a11] h63
noncomputable def q34_3p1 (cf : CallF) (R : Rec) (h49 : H) (x50 : IV) (a7 : IV) (x48 : IV) (a2 : IV) (a0 : IV) (a9 : IV) (a10 : IV) (a11 : IV) : CRes :=
 Qo (Ql0 h49 x50) fun x51 =>
 Qo (Qfad 47 a7) fun x52 =>
 Qo (Ql0 h49 x52) fun x53 =>
 Qc (cf 32 [x48, x51, (.int .i64 1), x53] h49) .pan fun x54 h55 =>
 q34_3p2 cf R a7 h55 x48 a2 a0 a9 a10 a11
noncomputable def q34_3 (cf : CallF) (R : Rec) (a0 : IV) (a2 : IV) (a7 : IV) (a9 : IV) (a10 : IV) (a11 : IV) (a16 : IV) (a34 : IV) (h : H) : CRes :=
 Qif a34
 (Qo (QlA 48 h a7) fun x37 =>
 Qc (cf 54 [a0, x37] h) .pan fun x38 h39 =>
 R 2 [a0, a2, a9, a10, a11] h39)
 (Qo (Qeql a16 (.int .i64 7)) fun x40 =>
 Qif x40
 (Qo (QlA 48 h a7) fun x41 =>
 Qc (cf 55 [a0, x41, a2] h) .pan fun x42 h43 =>
 R 2 [a0, a2, a9, a10, a11] h43)
 (Qo (Qeql a16 (.int .i64 8)) fun x44 =>
 Qif x44
 (mapK h fun x46 h45 =>
 Qo (Qbld [.nilPtr, .nilMap] [(0, 1), (1, 1)] [(0, a0), (1, x46)]) fun x47 =>
 Qo2 (QnI h45 (Qcells x47)) fun x48 h49 =>
 Qo (Qfad 41 a7) fun x50 =>
 q34_3p1 cf R h49 x50 a7 x48 a2 a0 a9 a10 a11)
 (R 2 [a0, a2, a9, a10, a11] h)))
theorem qe34_3 : q34_3 = t34_3 := by
  unfold q34_3 q34_3p1 q34_3p2
  try simp only [QE]
  try rfl
noncomputable def bt34 (cf : CallF) (R : Rec) : Rec := fun i l h =>
 br3 i 0 l (fun a0 a1 a2 => t34_0 cf R a0 a1 a2 h) <|
 br5 i 1 l (fun a0 a2 a9 a10 a11 => t34_1 cf R a0 a2 a9 a10 a11 h) <|
 br5 i 2 l (fun a0 a2 a9 a10 a11 => t34_2 cf R a0 a2 a9 a10 a11 h) <|
 br8 i 3 l (fun a0 a2 a7 a9 a10 a11 a16 a34 => t34_3 cf R a0 a2 a7 a9 a10 a11 a16 a34 h) <|
 .fail
noncomputable def b34 (cf : CallF) (R : Rec) : Rec := fun i l h =>
 brQ3 i 0 l (fun a0 a1 a2 => q34_0 cf R a0 a1 a2 h) <|
 brQ5 i 1 l (fun a0 a2 a9 a10 a11 => q34_1 cf R a0 a2 a9 a10 a11 h) <|
 brQ5 i 2 l (fun a0 a2 a9 a10 a11 => q34_2 cf R a0 a2 a9 a10 a11 h) <|
 brQ8 i 3 l (fun a0 a2 a7 a9 a10 a11 a16 a34 => q34_3 cf R a0 a2 a7 a9 a10 a11 a16 a34 h) <|
 .fail
theorem be34 : b34 = bt34 := by
  unfold b34 bt34
  simp only [qe34_0, qe34_1, qe34_2, qe34_3, brQ3_eq, brQ5_eq, brQ8_eq]
theorem r34 {T : Tab} {cf : CallF} (hc : leC cf (CL T)) (n : Nat) : leR (recN (b34 cf) n) (J34 T) := be34 ▸ recN_le (fun R hR i l h => by
  unfold bt34
  refine le_br3 (J := fun i l => J34 T i l h) (fun _ a0 a1 a2 => le_e (fun hn => e34_0 rfl hn) ((m34 hc hR).1 a0 a1 a2 h)) ?_
  refine le_br5 (J := fun i l => J34 T i l h) (fun _ a0 a2 a9 a10 a11 => le_e (fun hn => e34_1 rfl hn) ((m34 hc hR).2.1 a0 a2 a9 a10 a11 h)) ?_
  refine le_br5 (J := fun i l => J34 T i l h) (fun _ a0 a2 a9 a10 a11 => le_e (fun hn => e34_2 rfl hn) ((m34 hc hR).2.2.1 a0 a2 a9 a10 a11 h)) ?_
  refine le_br8 (J := fun i l => J34 T i l h) (fun _ a0 a2 a7 a9 a10 a11 a16 a34 => le_e (fun hn => e34_3 rfl hn) ((m34 hc hR).2.2.2 a0 a2 a7 a9 a10 a11 a16 a34 h)) ?_
  exact le_fail _) n
-- 39
theorem m39 {cf cf' : CallF} {R R' : Rec} (hc : ∀ f l h, le (cf f l h) (cf' f l h)) (hR : ∀ i l h, le (R i l h) (R' i l h)) : (∀ (a0 : IV) (h : H), le (t39_0 cf R a0 h) (t39_0 cf' R' a0 h)) := by
  intros
  unfold t39_0
  with_reducible repeat' first
    | refine le_obind fun _ => ?_
    | refine le_callP ?_ (fun _ _ => ?_) (fun _ _ => ?_)
    | refine le_condK ?_ ?_
    | exact hR _ _ _
    | refine le_obind2 fun _ _ => ?_
    | refine le_obindH fun _ => ?_
    | refine le_spanK (fun _ _ _ => ?_) (fun _ _ => ?_)
    | exact hc _ _ _
    | refine le_bif ?_ ?_
    | refine le_guardK ?_ ?_ ?_
    | refine le_mapK fun _ _ => ?_
    | refine le_panK fun _ _ => ?_
    | refine le_funK fun _ _ => ?_
    | exact le_refl _
    | apply_assumption
noncomputable def q39_0p1 (cf : CallF) (R : Rec) (x8 : IV) (h9 : H) (a0 : IV) (x6 : IV) : CRes :=
 Qsp x8 true h9 (fun k11 =>
 Qo (Qleq a0 (.int .u8 90)) fun x14 =>
 k11 x14 h9) fun x12 h13 =>
 Qsp x6 false h13 (fun k15 =>
 Qo (Qpk x8 (some x12) (some (.bool false))) fun x18 =>
 k15 x18 h13) fun x16 h17 =>
 Qo (Qpk x6 (some (.bool true)) (some x16)) fun x19 =>
 Qsp x19 false h17 (fun k20 =>
 Qo (Qeql a0 (.int .u8 95)) fun x23 =>
 k20 x23 h17) fun x21 h22 =>
 Qo (Qpk x19 (some (.bool true)) (some x21)) fun x24 =>
 .ok x24 h22
noncomputable def q39_0 (cf : CallF) (R : Rec) (a0 : IV) (h : H) : CRes :=
 Qo (Qgeq a0 (.int .u8 97)) fun x1 =>
 Qsp x1 true h (fun k2 =>
 Qo (Qleq a0 (.int .u8 122)) fun x5 =>
 k2 x5 h) fun x3 h4 =>
 Qo (Qpk x1 (some x3) (some (.bool false))) fun x6 =>
 Qsp x6 false h4 (fun k7 =>
 Qo (Qgeq a0 (.int .u8 65)) fun x10 =>
 k7 x10 h4) fun x8 h9 =>
 q39_0p1 cf R x8 h9 a0 x6
theorem qe39_0 : q39_0 = t39_0 := by
  unfold q39_0 q39_0p1
  try simp only [QE]
  try rfl
noncomputable def bt39 (cf : CallF) (R : Rec) : Rec := fun i l h =>
 br1 i 0 l (fun a0 => t39_0 cf R a0 h) <|
 .fail
noncomputable def b39 (cf : CallF) (R : Rec) : Rec := fun i l h =>
 brQ1 i 0 l (fun a0 => q39_0 cf R a0 h) <|
 .fail
theorem be39 : b39 = bt39 := by
  unfold b39 bt39
  simp only [qe39_0, brQ1_eq]
theorem r39 {T : Tab} {cf : CallF} (hc : leC cf (CL T)) (n : Nat) : leR (recN (b39 cf) n) (J39 T) := be39 ▸ recN_le (fun R hR i l h => by
  unfold bt39
  refine le_br1 (J := fun i l => J39 T i l h) (fun _ a0 => le_e (fun hn => e39_0 rfl hn) ((m39 hc hR) a0 h)) ?_
  exact le_fail _) n
-- 40
theorem m40 {cf cf' : CallF} {R R' : Rec} (hc : ∀ f l h, le (cf f l h) (cf' f l h)) (hR : ∀ i l h, le (R i l h) (R' i l h)) : (∀ (a0 : IV) (h : H), le (t40_0 cf R a0 h) (t40_0 cf' R' a0 h)) := by
  intros
  unfold t40_0
  with_reducible repeat' first
    | refine le_obind fun _ => ?_
    | refine le_callP ?_ (fun _ _ => ?_) (fun _ _ => ?_)
    | refine le_condK ?_ ?_
    | exact hR _ _ _
    | refine le_obind2 fun _ _ => ?_
    | refine le_obindH fun _ => ?_
    | refine le_spanK (fun _ _ _ => ?_) (fun _ _ => ?_)
    | exact hc _ _ _
    | refine le_bif ?_ ?_
    | refine le_guardK ?_ ?_ ?_
    | refine le_mapK fun _ _ => ?_
    | refine le_panK fun _ _ => ?_
    | refine le_funK fun _ _ => ?_
    | exact le_refl _
    | apply_assumption
noncomputable def q40_0 (cf : CallF) (R : Rec) (a0 : IV) (h : H) : CRes :=
 Qc (cf 39 [a0] h) .pan fun x1 h2 =>
 Qsp x1 false h2 (fun k3 =>
 Qc (cf 41 [a0] h2) .pan fun x6 h7 =>
 k3 x6 h7) fun x4 h5 =>
 Qo (Qpk x1 (some (.bool true)) (some x4)) fun x8 =>
 .ok x8 h5
theorem qe40_0 : q40_0 = t40_0 := by
  unfold q40_0
  try simp only [QE]
  try rfl
noncomputable def bt40 (cf : CallF) (R : Rec) : Rec := fun i l h =>
 br1 i 0 l (fun a0 => t40_0 cf R a0 h) <|
 .fail
noncomputable def b40 (cf : CallF) (R : Rec) : Rec := fun i l h =>
 brQ1 i 0 l (fun a0 => q40_0 cf R a0 h) <|
 .fail
theorem be40 : b40 = bt40 := by
  unfold b40 bt40
  simp only [qe40_0, brQ1_eq]
theorem r40 {T : Tab} {cf : CallF} (hc : leC cf (CL T)) (n : Nat) : leR (recN (b40 cf) n) (J40 T) := be40 ▸ recN_le (fun R hR i l h => by
  unfold bt40
  refine le_br1 (J := fun i l => J40 T i l h) (fun _ a0 => le_e (fun hn => e40_0 rfl hn) ((m40 hc hR) a0 h)) ?_
  exact le_fail _) n
-- 41
theorem m41 {cf cf' : CallF} {R R' : Rec} (hc : ∀ f l h, le (cf f l h) (cf' f l h)) (hR : ∀ i l h, le (R i l h) (R' i l h)) : (∀ (a0 : IV) (h : H), le (t41_0 cf R a0 h) (t41_0 cf' R' a0 h)) := by
  intros
  unfold t41_0
  with_reducible repeat' first
    | refine le_obind fun _ => ?_
    | refine le_callP ?_ (fun _ _ => ?_) (fun _ _ => ?_)
    | refine le_condK ?_ ?_
    | exact hR _ _ _
    | refine le_obind2 fun _ _ => ?_
    | refine le_obindH fun _ => ?_
    | refine le_spanK (fun _ _ _ => ?_) (fun _ _ => ?_)
    | exact hc _ _ _
    | refine le_bif ?_ ?_
    | refine le_guardK ?_ ?_ ?_
    | refine le_mapK fun _ _ => ?_
    | refine le_panK fun _ _ => ?_
    | refine le_funK fun _ _ => ?_
    | exact le_refl _
    | apply_assumption
noncomputable def q41_0 (cf : CallF) (R : Rec) (a0 : IV) (h : H) : CRes :=
 Qo (Qgeq a0 (.int .u8 48)) fun x1 =>
 Qsp x1 true h (fun k2 =>
 Qo (Qleq a0 (.int .u8 57)) fun x5 =>
 k2 x5 h) fun x3 h4 =>
 Qo (Qpk x1 (some x3) (some (.bool false))) fun x6 =>
 .ok x6 h4
theorem qe41_0 : q41_0 = t41_0 := by
  unfold q41_0
  try simp only [QE]
  try rfl
noncomputable def bt41 (cf : CallF) (R : Rec) : Rec := fun i l h =>
 br1 i 0 l (fun a0 => t41_0 cf R a0 h) <|
 .fail
noncomputable def b41 (cf : CallF) (R : Rec) : Rec := fun i l h =>
 brQ1 i 0 l (fun a0 => q41_0 cf R a0 h) <|
 .fail
theorem be41 : b41 = bt41 := by
  unfold b41 bt41
  simp only [qe41_0, brQ1_eq]
theorem r41 {T : Tab} {cf : CallF} (hc : leC cf (CL T)) (n : Nat) : leR (recN (b41 cf) n) (J41 T) := be41 ▸ recN_le (fun R hR i l h => by
  unfold bt41
  refine le_br1 (J := fun i l => J41 T i l h) (fun _ a0 => le_e (fun hn => e41_0 rfl hn) ((m41 hc hR) a0 h)) ?_
  exact le_fail _) n
-- 42
theorem m42 {cf cf' : CallF} {R R' : Rec} (hc : ∀ f l h, le (cf f l h) (cf' f l h)) (hR : ∀ i l h, le (R i l h) (R' i l h)) :
  (∀ (a0 : IV) (h : H), le (t42_0 cf R a0 h) (t42_0 cf' R' a0 h)) ∧
  (∀ (a0 a5 a6 : IV) (h : H), le (t42_1 cf R a0 a5 a6 h) (t42_1 cf' R' a0 a5 a6 h)) ∧
  (∀ (a0 a5 a6 : IV) (h : H), le (t42_2 cf R a0 a5 a6 h) (t42_2 cf' R' a0 a5 a6 h)) := by
  refine ⟨?_, ?_, ?_⟩
  all_goals intros
  all_goals first | unfold t42_0 | unfold t42_1 | unfold t42_2
  all_goals
  with_reducible repeat' first
    | refine le_obind fun _ => ?_
    | refine le_callP ?_ (fun _ _ => ?_) (fun _ _ => ?_)
    | refine le_condK ?_ ?_
    | exact hR _ _ _
    | refine le_obind2 fun _ _ => ?_
    | refine le_obindH fun _ => ?_
    | refine le_spanK (fun _ _ _ => ?_) (fun _ _ => ?_)
    | exact hc _ _ _
    | refine le_bif ?_ ?_
    | refine le_guardK ?_ ?_ ?_
    | refine le_mapK fun _ _ => ?_
    | refine le_panK fun _ _ => ?_
    | refine le_funK fun _ _ => ?_
    | exact le_refl _
    | apply_assumption
noncomputable def q42_0 (cf : CallF) (R : Rec) (a0 : IV) (h : H) : CRes :=
 R 1 [a0, (.int .i64 (-1)), (.int .i64 0)] h
theorem qe42_0 : q42_0 = t42_0 := by
  unfold q42_0
  try simp only [QE]
  try rfl
noncomputable def q42_1p3 (cf : CallF) (R : Rec) (x37 : IV) (h45 : H) (x39 : IV) (x44 : IV) (x33 : IV) (x17 : IV) : CRes :=
 Qsp x37 true h45 (fun k48 =>
 Qo (Qpk x39 (some (.bool true)) (some x44)) fun x51 =>
 k48 x51 h45) fun x49 h50 =>
 Qo (Qpk x37 (some x49) (some (.bool false))) fun x52 =>
 Qif x52
 (Qo (Qis x33 (.int .i64 0)) fun x53 =>
 Qo (Qls x33) fun x54 =>
 Qo (Qsub x17 x54) fun x55 =>
 Qc (cf 65 [x53, x55] h50) .pan fun x56 h57 =>
 Qo (binS .add x56 x33) fun x58 =>
 .ok (.tup [x58, (.bool false), (.int .i64 0)]) h57)
 (Qc (cf 66 [x33, x17] h50) .pan fun x59 h60 =>
 .ok (.tup [x59, (.bool false), (.int .i64 0)]) h60)
noncomputable def q42_1p2 (cf : CallF) (R : Rec) (x28 : IV) (x30 : IV) (h22 : H) (x17 : IV) : CRes :=
 Qc (cf 64 [x28, x30] h22) (fun v31 h32 =>
 .pan v31 h32) fun x33 h34 =>
 Qo (Qse x33 (.str ⟨0, 0⟩)) fun x35 =>
 Qif x35
 (.ok (.tup [(.str ⟨0, 0⟩), (.bool false), (.int .i64 21)]) h34)
 (Qo (Qls x33) fun x36 =>
 Qo (Qlss x36 x17) fun x37 =>
 Qsp x37 true h34 (fun k38 =>
 Qo (Qis x33 (.int .i64 0)) fun x41 =>
 Qo (Qeql x41 (.int .u8 120)) fun x42 =>
 k38 x42 h34) fun x39 h40 =>
 Qsp x39 false h40 (fun k43 =>
 Qo (Qis x33 (.int .i64 0)) fun x46 =>
 Qo (Qeql x46 (.int .u8 122)) fun x47 =>
 k43 x47 h40) fun x44 h45 =>
 q42_1p3 cf R x37 h45 x39 x44 x33 x17)
noncomputable def q42_1p1 (cf : CallF) (R : Rec) (x19 : IV) (x21 : IV) (h22 : H) (a5 : IV) (a0 : IV) (x17 : IV) : CRes :=
 Qo (Qpk x19 (some (.bool true)) (some x21)) fun x26 =>
 Qif x26
 (.ok (.tup [(.str ⟨0, 0⟩), (.bool false), (.int .i64 21)]) h22)
 (Qo (Qadd a5 (.int .i64 1)) fun x27 =>
 Qo (Qis a0 x27) fun x28 =>
 Qo (Qadd a5 (.int .i64 2)) fun x29 =>
 Qo (slcStr a0 (some x29) none) fun x30 =>
 q42_1p2 cf R x28 x30 h22 x17)
noncomputable def q42_1 (cf : CallF) (R : Rec) (a0 : IV) (a5 : IV) (a6 : IV) (h : H) : CRes :=
 Qo (Qls a0) fun x1 =>
 Qo (Qlss a6 x1) fun x2 =>
 Qif x2
 (Qo (Qlss a5 (.int .i64 0)) fun x3 =>
 Qsp x3 true h (fun k4 =>
 Qo (Qis a0 a6) fun x7 =>
 Qo (Qeql x7 (.int .u8 39)) fun x8 =>
 k4 x8 h) fun x5 h6 =>
 Qo (Qpk x3 (some x5) (some (.bool false))) fun x9 =>
 Qif x9
 (R 2 [a0, a6, a6] h6)
 (R 2 [a0, a5, a6] h6))
 (Qo (Qlss a5 (.int .i64 0)) fun x10 =>
 Qif x10
 (Qc (cf 62 [a0, (.int .i64 4294967295), (.bool false)] h) .pan fun x11 h12 =>
 Qo (Qlss x11 (.int .i64 0)) fun x13 =>
 Qif x13
 (.ok (.tup [(.str ⟨0, 0⟩), (.bool false), (.int .i64 21)]) h12)
 (Qc (cf 63 [x11, (.int .i64 32)] h12) .pan fun x14 h15 =>
 .ok (.tup [x14, (.bool true), (.int .i64 0)]) h15))
 (Qo (slcStr a0 none (some a5)) fun x16 =>
 Qc (cf 62 [x16, (.int .i64 256), (.bool false)] h) .pan fun x17 h18 =>
 Qo (Qlss x17 (.int .i64 1)) fun x19 =>
 Qsp x19 false h18 (fun k20 =>
 Qo (Qadd a5 (.int .i64 1)) fun x23 =>
 Qo (Qls a0) fun x24 =>
 Qo (Qgeq x23 x24) fun x25 =>
 k20 x25 h18) fun x21 h22 =>
 q42_1p1 cf R x19 x21 h22 a5 a0 x17))
theorem qe42_1 : q42_1 = t42_1 := by
  unfold q42_1 q42_1p1 q42_1p2 q42_1p3
  try simp only [QE]
  try rfl
noncomputable def q42_2 (cf : CallF) (R : Rec) (a0 : IV) (a5 : IV) (a6 : IV) (h : H) : CRes :=
 Qo (Qadd a6 (.int .i64 1)) fun x61 =>
 R 1 [a0, a5, x61] h
theorem qe42_2 : q42_2 = t42_2 := by
  unfold q42_2
  try simp only [QE]
  try rfl
noncomputable def bt42 (cf : CallF) (R : Rec) : Rec := fun i l h =>
 br1 i 0 l (fun a0 => t42_0 cf R a0 h) <|
 br3 i 1 l (fun a0 a5 a6 => t42_1 cf R a0 a5 a6 h) <|
 br3 i 2 l (fun a0 a5 a6 => t42_2 cf R a0 a5 a6 h) <|
 .fail
noncomputable def b42 (cf : CallF) (R : Rec) : Rec := fun i l h =>
 brQ1 i 0 l (fun a0 => q42_0 cf R a0 h) <|
 brQ3 i 1 l (fun a0 a5 a6 => q42_1 cf R a0 a5 a6 h) <|
 brQ3 i 2 l (fun a0 a5 a6 => q42_2 cf R a0 a5 a6 h) <|
 .fail
theorem be42 : b42 = bt42 := by
  unfold b42 bt42
  simp only [qe42_0, qe42_1, qe42_2, brQ1_eq, brQ3_eq]
theorem r42 {T : Tab} {cf : CallF} (hc : leC cf (CL T)) (n : Nat) : leR (recN (b42 cf) n) (J42 T) := be42 ▸ recN_le (fun R hR i l h => by
  unfold bt42
  refine le_br1 (J := fun i l => J42 T i l h) (fun _ a0 => le_e (fun hn => e42_0 rfl hn) ((m42 hc hR).1 a0 h)) ?_
  refine le_br3 (J := fun i l => J42 T i l h) (fun _ a0 a5 a6 => le_e (fun hn => e42_1 rfl hn) ((m42 hc hR).2.1 a0 a5 a6 h)) ?_
  refine le_br3 (J := fun i l => J42 T i l h) (fun _ a0 a5 a6 => le_e (fun hn => e42_2 rfl hn) ((m42 hc hR).2.2 a0 a5 a6 h)) ?_
  exact le_fail _) n
-- 43
theorem m43 {cf cf' : CallF} {R R' : Rec} (hc : ∀ f l h, le (cf f l h) (cf' f l h)) (hR : ∀ i l h, le (R i l h) (R' i l h)) :
  (∀ (a0 a1 : IV) (h : H), le (t43_0 cf R a0 a1 h) (t43_0 cf' R' a0 a1 h)) ∧
  (∀ (a0 a1 a5 a6 : IV) (h : H), le (t43_1 cf R a0 a1 a5 a6 h) (t43_1 cf' R' a0 a1 a5 a6 h)) ∧
  (∀ (a0 a1 a7 a8 : IV) (h : H), le (t43_2 cf R a0 a1 a7 a8 h) (t43_2 cf' R' a0 a1 a7 a8 h)) := by
  refine ⟨?_, ?_, ?_⟩
  all_goals intros
  all_goals first | unfold t43_0 | unfold t43_1 | unfold t43_2
  all_goals
  with_reducible repeat' first
    | refine le_obind fun _ => ?_
    | refine le_callP ?_ (fun _ _ => ?_) (fun _ _ => ?_)
    | refine le_condK ?_ ?_
    | exact hR _ _ _
    | refine le_obind2 fun _ _ => ?_
    | refine le_obindH fun _ => ?_
    | refine le_spanK (fun _ _ _ => ?_) (fun _ _ => ?_)
    | exact hc _ _ _
    | refine le_bif ?_ ?_
    | refine le_guardK ?_ ?_ ?_
    | refine le_mapK fun _ _ => ?_
    | refine le_panK fun _ _ => ?_
    | refine le_funK fun _ _ => ?_
    | exact le_refl _
    | apply_assumption
noncomputable def q43_0 (cf : CallF) (R : Rec) (a0 : IV) (a1 : IV) (h : H) : CRes :=
 Qo2 (Qbsl false 1 [(.str ⟨0, 0⟩)] 8 [(0, (.str ⟨2, 9766⟩)), (1, (.str ⟨2, 31868⟩)), (2, (.str ⟨2, 15677⟩)), (3, (.str ⟨2, 15649⟩)), (4, (.str ⟨2, 15676⟩)), (5, (.str ⟨2, 15678⟩)), (6, (.str ⟨2, 15420⟩)), (7, (.str ⟨2, 15934⟩))] h) fun x1 h2 =>
 R 1 [a0, a1, x1, (.int .i64 0)] h2
theorem qe43_0 : q43_0 = t43_0 := by
  unfold q43_0
  try simp only [QE]
  try rfl
noncomputable def q43_1 (cf : CallF) (R : Rec) (a0 : IV) (a1 : IV) (a5 : IV) (a6 : IV) (h : H) : CRes :=
 Qo (Qle a5) fun x3 =>
 Qo (Qlss a6 x3) fun x4 =>
 Qif x4
 (Qo (Qix 1 a5 a6) fun x5 =>
 Qo (Ql0 h x5) fun x6 =>
 Qc (cf 27 [a0, a1, x6] h) .pan fun x7 h8 =>
 Qif x7
 (Qo (Qix 1 a5 a6) fun x9 =>
 Qo (Ql0 h8 x9) fun x10 =>
 .ok x10 h8)
 (Qo (Qadd a6 (.int .i64 1)) fun x11 =>
 R 1 [a0, a1, a5, x11] h8))
 (R 2 [a0, a1, (.str ⟨24, 1035797962038895658522808901809198590842054073607314417960⟩), (.int .i64 0)] h)
theorem qe43_1 : q43_1 = t43_1 := by
  unfold q43_1
  try simp only [QE]
  try rfl
noncomputable def q43_2 (cf : CallF) (R : Rec) (a0 : IV) (a1 : IV) (a7 : IV) (a8 : IV) (h : H) : CRes :=
 Qo (Qls a7) fun x12 =>
 Qo (Qlss a8 x12) fun x13 =>
 Qif x13
 (Qo (Qis a0 a1) fun x14 =>
 Qo (Qis a7 a8) fun x15 =>
 Qo (Qeql x14 x15) fun x16 =>
 Qif x16
 (Qo (Qadd a8 (.int .i64 1)) fun x17 =>
 Qo (slcStr a7 (some a8) (some x17)) fun x18 =>
 .ok x18 h)
 (Qo (Qadd a8 (.int .i64 1)) fun x19 =>
 R 2 [a0, a1, a7, x19] h))
 (.ok (.str ⟨0, 0⟩) h)
theorem qe43_2 : q43_2 = t43_2 := by
  unfold q43_2
  try simp only [QE]
  try rfl
noncomputable def bt43 (cf : CallF) (R : Rec) : Rec := fun i l h =>
 br2 i 0 l (fun a0 a1 => t43_0 cf R a0 a1 h) <|
 br4 i 1 l (fun a0 a1 a5 a6 => t43_1 cf R a0 a1 a5 a6 h) <|
 br4 i 2 l (fun a0 a1 a7 a8 => t43_2 cf R a0 a1 a7 a8 h) <|
 .fail
noncomputable def b43 (cf : CallF) (R : Rec) : Rec := fun i l h =>
 brQ2 i 0 l (fun a0 a1 => q43_0 cf R a0 a1 h) <|
 brQ4 i 1 l (fun a0 a1 a5 a6 => q43_1 cf R a0 a1 a5 a6 h) <|
 brQ4 i 2 l (fun a0 a1 a7 a8 => q43_2 cf R a0 a1 a7 a8 h) <|
 .fail
theorem be43 : b43 = bt43 := by
  unfold b43 bt43
  simp only [qe43_0, qe43_1, qe43_2, brQ2_eq, brQ4_eq]
theorem r43 {T : Tab} {cf : CallF} (hc : leC cf (CL T)) (n : Nat) : leR (recN (b43 cf) n) (J43 T) := be43 ▸ recN_le (fun R hR i l h => by
  unfold bt43
  refine le_br2 (J := fun i l => J43 T i l h) (fun _ a0 a1 => le_e (fun hn => e43_0 rfl hn) ((m43 hc hR).1 a0 a1 h)) ?_
  refine le_br4 (J := fun i l => J43 T i l h) (fun _ a0 a1 a5 a6 => le_e (fun hn => e43_1 rfl hn) ((m43 hc hR).2.1 a0 a1 a5 a6 h)) ?_
  refine le_br4 (J := fun i l => J43 T i l h) (fun _ a0 a1 a7 a8 => le_e (fun hn => e43_2 rfl hn) ((m43 hc hR).2.2 a0 a1 a7 a8 h)) ?_
  exact le_fail _) n
-- 44
theorem m44 {cf cf' : CallF} {R R' : Rec} (hc : ∀ f l h, le (cf f l h) (cf' f l h)) (hR : ∀ i l h, le (R i l h) (R' i l h)) : (∀ (a0 : IV) (h : H), le (t44_0 cf R a0 h) (t44_0 cf' R' a0 h)) := by
  intros
  unfold t44_0
  with_reducible repeat' first
    | refine le_obind fun _ => ?_
    | refine le_callP ?_ (fun _ _ => ?_) (fun _ _ => ?_)
    | refine le_condK ?_ ?_
    | exact hR _ _ _
    | refine le_obind2 fun _ _ => ?_
    | refine le_obindH fun _ => ?_
    | refine le_spanK (fun _ _ _ => ?_) (fun _ _ => ?_)
    | exact hc _ _ _
    | refine le_bif ?_ ?_
    | refine le_guardK ?_ ?_ ?_
    | refine le_mapK fun _ _ => ?_
    | refine le_panK fun _ _ => ?_
    | refine le_funK fun _ _ => ?_
    | exact le_refl _
    | apply_assumption
noncomputable def q44_0p1 (cf : CallF) (R : Rec) (x4 : IV) (h : H) (x3 : IV) : CRes :=
 Qo (Qfad 1 x4) fun x5 =>
 Qo (Ql0 h x5) fun x6 =>
 Qo (Qix 3 x3 x6) fun x7 =>
 Qo (Qfad 2 x7) fun x8 =>
 Qo (Ql0 h x8) fun x9 =>
 .ok x9 h
noncomputable def q44_0 (cf : CallF) (R : Rec) (a0 : IV) (h : H) : CRes :=
 Qo (Qnil a0) fun x1 =>
 Qo (Qfad 0 x1) fun x2 =>
 Qo (Ql0 h x2) fun x3 =>
 Qo (Qnil a0) fun x4 =>
 q44_0p1 cf R x4 h x3
theorem qe44_0 : q44_0 = t44_0 := by
  unfold q44_0 q44_0p1
  try simp only [QE]
  try rfl
noncomputable def bt44 (cf : CallF) (R : Rec) : Rec := fun i l h =>
 br1 i 0 l (fun a0 => t44_0 cf R a0 h) <|
 .fail
noncomputable def b44 (cf : CallF) (R : Rec) : Rec := fun i l h =>
 brQ1 i 0 l (fun a0 => q44_0 cf R a0 h) <|
 .fail
theorem be44 : b44 = bt44 := by
  unfold b44 bt44
  simp only [qe44_0, brQ1_eq]
theorem r44 {T : Tab} {cf : CallF} (hc : leC cf (CL T)) (n : Nat) : leR (recN (b44 cf) n) (J44 T) := be44 ▸ recN_le (fun R hR i l h => by
  unfold bt44
  refine le_br1 (J := fun i l => J44 T i l h) (fun _ a0 => le_e (fun hn => e44_0 rfl hn) ((m44 hc hR) a0 h)) ?_
  exact le_fail _) n
-- 45
theorem m45 {cf cf' : CallF} {R R' : Rec} (hc : ∀ f l h, le (cf f l h) (cf' f l h)) (hR : ∀ i l h, le (R i l h) (R' i l h)) : (∀ (a0 a1 : IV) (h : H), le (t45_0 cf R a0 a1 h) (t45_0 cf' R' a0 a1 h)) := by
  intros
  unfold t45_0
  with_reducible repeat' first
    | refine le_obind fun _ => ?_
    | refine le_callP ?_ (fun _ _ => ?_) (fun _ _ => ?_)
    | refine le_condK ?_ ?_
    | exact hR _ _ _
    | refine le_obind2 fun _ _ => ?_
    | refine le_obindH fun _ => ?_
    | refine le_spanK (fun _ _ _ => ?_) (fun _ _ => ?_)
    | exact hc _ _ _
    | refine le_bif ?_ ?_
    | refine le_guardK ?_ ?_ ?_
    | refine le_mapK fun _ _ => ?_
    | refine le_panK fun _ _ => ?_
    | refine le_funK fun _ _ => ?_
    | exact le_refl _
    | apply_assumption
noncomputable def q45_0 (cf : CallF) (R : Rec) (a0 : IV) (a1 : IV) (h : H) : CRes :=
 Qc (cf 47 [a0, a1] h) .pan fun x1 h2 =>
 Qo (Qnot x1) fun x3 =>
 Qif x3
 (Qc (cf 67 [a0, (.int .i64 40)] h2) .pan fun x4 h5 =>
 .ok (.tup []) h5)
 (.ok (.tup []) h2)
theorem qe45_0 : q45_0 = t45_0 := by
  unfold q45_0
  try simp only [QE]
  try rfl
noncomputable def bt45 (cf : CallF) (R : Rec) : Rec := fun i l h =>
 br2 i 0 l (fun a0 a1 => t45_0 cf R a0 a1 h) <|
 .fail
noncomputable def b45 (cf : CallF) (R : Rec) : Rec := fun i l h =>
 brQ2 i 0 l (fun a0 a1 => q45_0 cf R a0 a1 h) <|
 .fail
theorem be45 : b45 = bt45 := by
  unfold b45 bt45
  simp only [qe45_0, brQ2_eq]
theorem r45 {T : Tab} {cf : CallF} (hc : leC cf (CL T)) (n : Nat) : leR (recN (b45 cf) n) (J45 T) := be45 ▸ recN_le (fun R hR i l h => by
  unfold bt45
  refine le_br2 (J := fun i l => J45 T i l h) (fun _ a0 a1 => le_e (fun hn => e45_0 rfl hn) ((m45 hc hR) a0 a1 h)) ?_
  exact le_fail _) n
-- 46
theorem m46 {cf cf' : CallF} {R R' : Rec} (hc : ∀ f l h, le (cf f l h) (cf' f l h)) (hR : ∀ i l h, le (R i l h) (R' i l h)) : (∀ (a0 : IV) (h : H), le (t46_0 cf R a0 h) (t46_0 cf' R' a0 h)) := by
  intros
  unfold t46_0
  with_reducible repeat' first
    | refine le_obind fun _ => ?_
    | refine le_callP ?_ (fun _ _ => ?_) (fun _ _ => ?_)
    | refine le_condK ?_ ?_
    | exact hR _ _ _
    | refine le_obind2 fun _ _ => ?_
    | refine le_obindH fun _ => ?_
    | refine le_spanK (fun _ _ _ => ?_) (fun _ _ => ?_)
    | exact hc _ _ _
    | refine le_bif ?_ ?_
    | refine le_guardK ?_ ?_ ?_
    | refine le_mapK fun _ _ => ?_
    | refine le_panK fun _ _ => ?_
    | refine le_funK fun _ _ => ?_
    | exact le_refl _
    | apply_assumption
noncomputable def q46_0p3 (cf : CallF) (R : Rec) (h12 : H) (x17 : IV) (x15 : IV) : CRes :=
 Qo (Ql0 h12 x17) fun x18 =>
 Qo (Qsub x18 (.int .i64 1)) fun x19 =>
 Qo (Qix 3 x15 x19) fun x20 =>
 Qo (Qfad 1 x20) fun x21 =>
 Qo (Ql0 h12 x21) fun x22 =>
 .ok x22 h12
noncomputable def q46_0p2 (cf : CallF) (R : Rec) (x13 : IV) (h12 : H) (a0 : IV) : CRes :=
 Qo (Qfad 0 x13) fun x14 =>
 Qo (Ql0 h12 x14) fun x15 =>
 Qo (Qnil a0) fun x16 =>
 Qo (Qfad 1 x16) fun x17 =>
 q46_0p3 cf R h12 x17 x15
noncomputable def q46_0p1 (cf : CallF) (R : Rec) (a0 : IV) (h2 : H) (x9 : IV) : CRes :=
 Qo (Qnil a0) fun x10 =>
 Qo (Qfad 1 x10) fun x11 =>
 QoH (QsA 1 h2 x11 x9) fun h12 =>
 Qo (Qnil a0) fun x13 =>
 q46_0p2 cf R x13 h12 a0
noncomputable def q46_0 (cf : CallF) (R : Rec) (a0 : IV) (h : H) : CRes :=
 Qc (cf 68 [a0] h) .pan fun x1 h2 =>
 Qo (Qnot x1) fun x3 =>
 Qif x3
 (Qc (cf 67 [a0, (.int .i64 40)] h2) .pan fun x4 h5 =>
 .ok (.str ⟨0, 0⟩) h5)
 (Qo (Qnil a0) fun x6 =>
 Qo (Qfad 1 x6) fun x7 =>
 Qo (Ql0 h2 x7) fun x8 =>
 Qo (Qadd x8 (.int .i64 1)) fun x9 =>
 q46_0p1 cf R a0 h2 x9)
theorem qe46_0 : q46_0 = t46_0 := by
  unfold q46_0 q46_0p1 q46_0p2 q46_0p3
  try simp only [QE]
  try rfl
noncomputable def bt46 (cf : CallF) (R : Rec) : Rec := fun i l h =>
 br1 i 0 l (fun a0 => t46_0 cf R a0 h) <|
 .fail
noncomputable def b46 (cf : CallF) (R : Rec) : Rec := fun i l h =>
 brQ1 i 0 l (fun a0 => q46_0 cf R a0 h) <|
 .fail
theorem be46 : b46 = bt46 := by
  unfold b46 bt46
  simp only [qe46_0, brQ1_eq]
theorem r46 {T : Tab} {cf : CallF} (hc : leC cf (CL T)) (n : Nat) : leR (recN (b46 cf) n) (J46 T) := be46 ▸ recN_le (fun R hR i l h => by
  unfold bt46
  refine le_br1 (J := fun i l => J46 T i l h) (fun _ a0 => le_e (fun hn => e46_0 rfl hn) ((m46 hc hR) a0 h)) ?_
  exact le_fail _) n
-- 47
theorem m47 {cf cf' : CallF} {R R' : Rec} (hc : ∀ f l h, le (cf f l h) (cf' f l h)) (hR : ∀ i l h, le (R i l h) (R' i l h)) : (∀ (a0 a1 : IV) (h : H), le (t47_0 cf R a0 a1 h) (t47_0 cf' R' a0 a1 h)) := by
  intros
  unfold t47_0
  with_reducible repeat' first
    | refine le_obind fun _ => ?_
    | refine le_callP ?_ (fun _ _ => ?_) (fun _ _ => ?_)
    | refine le_condK ?_ ?_
    | exact hR _ _ _
    | refine le_obind2 fun _ _ => ?_
    | refine le_obindH fun _ => ?_
    | refine le_spanK (fun _ _ _ => ?_) (fun _ _ => ?_)
    | exact hc _ _ _
    | refine le_bif ?_ ?_
    | refine le_guardK ?_ ?_ ?_
    | refine le_mapK fun _ _ => ?_
    | refine le_panK fun _ _ => ?_
    | refine le_funK fun _ _ => ?_
    | exact le_refl _
    | apply_assumption
noncomputable def q47_0p1 (cf : CallF) (R : Rec) (a0 : IV) (h2 : H) (x7 : IV) : CRes :=
 Qo (Qnil a0) fun x8 =>
 Qo (Qfad 1 x8) fun x9 =>
 QoH (QsA 1 h2 x9 x7) fun h10 =>
 .ok (.bool true) h10
noncomputable def q47_0 (cf : CallF) (R : Rec) (a0 : IV) (a1 : IV) (h : H) : CRes :=
 Qc (cf 69 [a0, a1] h) .pan fun x1 h2 =>
 Qo (Qnot x1) fun x3 =>
 Qif x3
 (.ok (.bool false) h2)
 (Qo (Qnil a0) fun x4 =>
 Qo (Qfad 1 x4) fun x5 =>
 Qo (Ql0 h2 x5) fun x6 =>
 Qo (Qadd x6 (.int .i64 1)) fun x7 =>
 q47_0p1 cf R a0 h2 x7)
theorem qe47_0 : q47_0 = t47_0 := by
  unfold q47_0 q47_0p1
  try simp only [QE]
  try rfl
noncomputable def bt47 (cf : CallF) (R : Rec) : Rec := fun i l h =>
 br2 i 0 l (fun a0 a1 => t47_0 cf R a0 a1 h) <|
 .fail
noncomputable def b47 (cf : CallF) (R : Rec) : Rec := fun i l h =>
 brQ2 i 0 l (fun a0 a1 => q47_0 cf R a0 a1 h) <|
 .fail
theorem be47 : b47 = bt47 := by
  unfold b47 bt47
  simp only [qe47_0, brQ2_eq]
theorem r47 {T : Tab} {cf : CallF} (hc : leC cf (CL T)) (n : Nat) : leR (recN (b47 cf) n) (J47 T) := be47 ▸ recN_le (fun R hR i l h => by
  unfold bt47
  refine le_br2 (J := fun i l => J47 T i l h) (fun _ a0 a1 => le_e (fun hn => e47_0 rfl hn) ((m47 hc hR) a0 a1 h)) ?_
  exact le_fail _) n
-- 48
theorem m48 {cf cf' : CallF} {R R' : Rec} (hc : ∀ f l h, le (cf f l h) (cf' f l h)) (hR : ∀ i l h, le (R i l h) (R' i l h)) :
  (∀ (a0 : IV) (h : H), le (t48_0 cf R a0 h) (t48_0 cf' R' a0 h)) ∧
  (∀ (a0 a3 : IV) (h : H), le (t48_2 cf R a0 a3 h) (t48_2 cf' R' a0 a3 h)) ∧
  (∀ (a0 a3 : IV) (h : H), le (t48_1 cf R a0 a3 h) (t48_1 cf' R' a0 a3 h)) := by
  refine ⟨?_, ?_, ?_⟩
  all_goals intros
  all_goals first | unfold t48_0 | unfold t48_2 | unfold t48_1
  all_goals
  with_reducible repeat' first
    | refine le_obind fun _ => ?_
    | refine le_callP ?_ (fun _ _ => ?_) (fun _ _ => ?_)
    | refine le_condK ?_ ?_
    | exact hR _ _ _
    | refine le_obind2 fun _ _ => ?_
    | refine le_obindH fun _ => ?_
    | refine le_spanK (fun _ _ _ => ?_) (fun _ _ => ?_)
    | exact hc _ _ _
    | refine le_bif ?_ ?_
    | refine le_guardK ?_ ?_ ?_
    | refine le_mapK fun _ _ => ?_
    | refine le_panK fun _ _ => ?_
    | refine le_funK fun _ _ => ?_
    | exact le_refl _
    | apply_assumption
noncomputable def q48_0 (cf : CallF) (R : Rec) (a0 : IV) (h : H) : CRes :=
 Qc (cf 45 [a0, (.str ⟨1, 40⟩)] h) .pan fun x1 h2 =>
 R 2 [a0, .nilSlice] h2
theorem qe48_0 : q48_0 = t48_0 := by
  unfold q48_0
  try simp only [QE]
  try rfl
noncomputable def q48_2p4 (cf : CallF) (R : Rec) (x28 : IV) (a0 : IV) (x26 : IV) (h29 : H) : CRes :=
 Qo (Qnot x28) fun x30 =>
 Qif x30
 (R 1 [a0, x26] h29)
 (R 2 [a0, x26] h29)
noncomputable def q48_2p3 (cf : CallF) (R : Rec) (h22 : H) (x10 : IV) (a3 : IV) (a0 : IV) : CRes :=
 Qo (QlA 8 h22 x10) fun x23 =>
 Qo2 (Qbsl false 8 z5 1 [(0, x23)] h22) fun x24 h25 =>
 Qo2 (appK 8 104 h25 a3 x24) fun x26 h27 =>
 Qc (cf 47 [a0, (.str ⟨1, 44⟩)] h27) .pan fun x28 h29 =>
 q48_2p4 cf R x28 a0 x26 h29
noncomputable def q48_2p2 (cf : CallF) (R : Rec) (a0 : IV) (h16 : H) (x10 : IV) (a3 : IV) : CRes :=
 Qc (cf 45 [a0, (.str ⟨1, 61⟩)] h16) .pan fun x17 h18 =>
 Qc (cf 70 [a0, (.int .i64 1)] h18) .pan fun x19 h20 =>
 Qo (Qfad 1 x10) fun x21 =>
 QoH (QsA 6 h20 x21 x19) fun h22 =>
 q48_2p3 cf R h22 x10 a3 a0
noncomputable def q48_2p1 (cf : CallF) (R : Rec) (h11 : H) (x10 : IV) (x9 : IV) (a0 : IV) (a3 : IV) : CRes :=
 QoH (QsA 8 h11 x10 x9) fun h12 =>
 Qc (cf 46 [a0] h12) .pan fun x13 h14 =>
 Qo (Qfad 0 x10) fun x15 =>
 QoH (QsA 1 h14 x15 x13) fun h16 =>
 q48_2p2 cf R a0 h16 x10 a3
noncomputable def q48_2 (cf : CallF) (R : Rec) (a0 : IV) (a3 : IV) (h : H) : CRes :=
 Qc (cf 31 [a0] h) .pan fun x3 h4 =>
 Qif x3
 (Qc (cf 45 [a0, (.str ⟨9, 2110239404018478768496⟩)] h4) .pan fun x5 h6 =>
 Qc (cf 44 [a0] h6) .pan fun x7 h8 =>
 Qo (Qbld z5 p9 [(2, x7)]) fun x9 =>
 Qo2 (QnI h8 z5) fun x10 h11 =>
 q48_2p1 cf R h11 x10 x9 a0 a3)
 (R 1 [a0, a3] h4)
theorem qe48_2 : q48_2 = t48_2 := by
  unfold q48_2 q48_2p1 q48_2p2 q48_2p3 q48_2p4
  try simp only [QE]
  try rfl
noncomputable def q48_1 (cf : CallF) (R : Rec) (a0 : IV) (a3 : IV) (h : H) : CRes :=
 Qc (cf 45 [a0, (.str ⟨1, 41⟩)] h) .pan fun x31 h32 =>
 .ok a3 h32
theorem qe48_1 : q48_1 = t48_1 := by
  unfold q48_1
  try simp only [QE]
  try rfl
noncomputable def bt48 (cf : CallF) (R : Rec) : Rec := fun i l h =>
 br1 i 0 l (fun a0 => t48_0 cf R a0 h) <|
 br2 i 2 l (fun a0 a3 => t48_2 cf R a0 a3 h) <|
 br2 i 1 l (fun a0 a3 => t48_1 cf R a0 a3 h) <|
 .fail
noncomputable def b48 (cf : CallF) (R : Rec) : Rec := fun i l h =>
 brQ1 i 0 l (fun a0 => q48_0 cf R a0 h) <|
 brQ2 i 2 l (fun a0 a3 => q48_2 cf R a0 a3 h) <|
 brQ2 i 1 l (fun a0 a3 => q48_1 cf R a0 a3 h) <|
 .fail
theorem be48 : b48 = bt48 := by
  unfold b48 bt48
  simp only [qe48_0, qe48_2, qe48_1, brQ1_eq, brQ2_eq]
theorem r48 {T : Tab} {cf : CallF} (hc : leC cf (CL T)) (n : Nat) : leR (recN (b48 cf) n) (J48 T) := be48 ▸ recN_le (fun R hR i l h => by
  unfold bt48
  refine le_br1 (J := fun i l => J48 T i l h) (fun _ a0 => le_e (fun hn => e48_0 rfl hn) ((m48 hc hR).1 a0 h)) ?_
  refine le_br2 (J := fun i l => J48 T i l h) (fun _ a0 a3 => le_e (fun hn => e48_2 rfl hn) ((m48 hc hR).2.1 a0 a3 h)) ?_
  refine le_br2 (J := fun i l => J48 T i l h) (fun _ a0 a3 => le_e (fun hn => e48_1 rfl hn) ((m48 hc hR).2.2 a0 a3 h)) ?_
  exact le_fail _) n
-- 49
theorem m49 {cf cf' : CallF} {R R' : Rec} (hc : ∀ f l h, le (cf f l h) (cf' f l h)) (hR : ∀ i l h, le (R i l h) (R' i l h)) :
  (∀ (a0 : IV) (h : H), le (t49_0 cf R a0 h) (t49_0 cf' R' a0 h)) ∧
  (∀ (a0 a2 a3 : IV) (h : H), le (t49_1 cf R a0 a2 a3 h) (t49_1 cf' R' a0 a2 a3 h)) := by
  refine ⟨?_, ?_⟩
  all_goals intros
  all_goals first | unfold t49_0 | unfold t49_1
  all_goals
  with_reducible repeat' first
    | refine le_obind fun _ => ?_
    | refine le_callP ?_ (fun _ _ => ?_) (fun _ _ => ?_)
    | refine le_condK ?_ ?_
    | exact hR _ _ _
    | refine le_obind2 fun _ _ => ?_
    | refine le_obindH fun _ => ?_
    | refine le_spanK (fun _ _ _ => ?_) (fun _ _ => ?_)
    | exact hc _ _ _
    | refine le_bif ?_ ?_
    | refine le_guardK ?_ ?_ ?_
    | refine le_mapK fun _ _ => ?_
    | refine le_panK fun _ _ => ?_
    | refine le_funK fun _ _ => ?_
    | exact le_refl _
    | apply_assumption
noncomputable def q49_0p1 (cf : CallF) (R : Rec) (h7 : H) (x6 : IV) (x5 : IV) (a0 : IV) (x1 : IV) : CRes :=
 QoH (QsA 17 h7 x6 x5) fun h8 =>
 Qc (cf 47 [a0, (.str ⟨6, 128047746676079⟩)] h8) .pan fun x9 h10 =>
 Qif x9
 (Qo (Qfad 0 x6) fun x11 =>
 QoH (QsA 1 h10 x11 (.bool true)) fun h12 =>
 Qc (cf 47 [a0, (.str ⟨3, 6776178⟩)] h12) .pan fun x13 h14 =>
 Qo (Qfad 1 x6) fun x15 =>
 QoH (QsA 1 h14 x15 x13) fun h16 =>
 R 1 [a0, x1, x6] h16)
 (Qc (cf 45 [a0, (.str ⟨5, 500186508905⟩)] h10) .pan fun x17 h18 =>
 R 1 [a0, x1, x6] h18)
noncomputable def q49_0 (cf : CallF) (R : Rec) (a0 : IV) (h : H) : CRes :=
 Qo2 (QnI h z6) fun x1 h2 =>
 Qc (cf 44 [a0] h2) .pan fun x3 h4 =>
 Qo (Qbld z6 p10 [(6, x3)]) fun x5 =>
 Qo2 (QnI h4 z6) fun x6 h7 =>
 q49_0p1 cf R h7 x6 x5 a0 x1
theorem qe49_0 : q49_0 = t49_0 := by
  unfold q49_0 q49_0p1
  try simp only [QE]
  try rfl
noncomputable def q49_1p3 (cf : CallF) (R : Rec) (h31 : H) (x32 : IV) (x30 : IV) (a3 : IV) (a2 : IV) : CRes :=
 QoH (QsA 1 h31 x32 x30) fun h33 =>
 Qo (QlA 17 h33 a3) fun x34 =>
 QoH (QsA 17 h33 a2 x34) fun h35 =>
 Qo (QlA 17 h35 a2) fun x36 =>
 .ok x36 h35
noncomputable def q49_1p2 (cf : CallF) (R : Rec) (a3 : IV) (h27 : H) (x23 : IV) (a0 : IV) (a2 : IV) : CRes :=
 Qo (Qfad 9 a3) fun x28 =>
 QoH (QsA 6 h27 x28 x23) fun h29 =>
 Qc (cf 46 [a0] h29) .pan fun x30 h31 =>
 Qo (Qfad 15 a3) fun x32 =>
 q49_1p3 cf R h31 x32 x30 a3 a2
noncomputable def q49_1p1 (cf : CallF) (R : Rec) (a3 : IV) (h20 : H) (x21 : IV) (x22 : IV) (x23 : IV) (a0 : IV) (a2 : IV) : CRes :=
 Qo (Qfad 2 a3) fun x24 =>
 QoH (QsA 1 h20 x24 x21) fun h25 =>
 Qo (Qfad 3 a3) fun x26 =>
 QoH (QsA 6 h25 x26 x22) fun h27 =>
 q49_1p2 cf R a3 h27 x23 a0 a2
noncomputable def q49_1 (cf : CallF) (R : Rec) (a0 : IV) (a2 : IV) (a3 : IV) (h : H) : CRes :=
 Qc (cf 71 [a0] h) .pan fun x19 h20 =>
 Qo (Qext x19 0) fun x21 =>
 Qo (Qext x19 1) fun x22 =>
 Qo (Qext x19 2) fun x23 =>
 q49_1p1 cf R a3 h20 x21 x22 x23 a0 a2
theorem qe49_1 : q49_1 = t49_1 := by
  unfold q49_1 q49_1p1 q49_1p2 q49_1p3
  try simp only [QE]
  try rfl
noncomputable def bt49 (cf : CallF) (R : Rec) : Rec := fun i l h =>
 br1 i 0 l (fun a0 => t49_0 cf R a0 h) <|
 br3 i 1 l (fun a0 a2 a3 => t49_1 cf R a0 a2 a3 h) <|
 .fail
noncomputable def b49 (cf : CallF) (R : Rec) : Rec := fun i l h =>
 brQ1 i 0 l (fun a0 => q49_0 cf R a0 h) <|
 brQ3 i 1 l (fun a0 a2 a3 => q49_1 cf R a0 a2 a3 h) <|
 .fail
theorem be49 : b49 = bt49 := by
  unfold b49 bt49
  simp only [qe49_0, qe49_1, brQ1_eq, brQ3_eq]
theorem r49 {T : Tab} {cf : CallF} (hc : leC cf (CL T)) (n : Nat) : leR (recN (b49 cf) n) (J49 T) := be49 ▸ recN_le (fun R hR i l h => by
  unfold bt49
  refine le_br1 (J := fun i l => J49 T i l h) (fun _ a0 => le_e (fun hn => e49_0 rfl hn) ((m49 hc hR).1 a0 h)) ?_
  refine le_br3 (J := fun i l => J49 T i l h) (fun _ a0 a2 a3 => le_e (fun hn => e49_1 rfl hn) ((m49 hc hR).2 a0 a2 a3 h)) ?_
  exact le_fail _) n
-- 50
theorem m50 {cf cf' : CallF} {R R' : Rec} (hc : ∀ f l h, le (cf f l h) (cf' f l h)) (hR : ∀ i l h, le (R i l h) (R' i l h)) :
  (∀ (a0 a1 a2 : IV) (h : H), le (t50_0 cf R a0 a1 a2 h) (t50_0 cf' R' a0 a1 a2 h)) ∧
  (∀ (a0 a1 a2 a7 : IV) (h : H), le (t50_1 cf R a0 a1 a2 a7 h) (t50_1 cf' R' a0 a1 a2 a7 h)) := by
  refine ⟨?_, ?_⟩
  all_goals intros
  all_goals first | unfold t50_0 | unfold t50_1
  all_goals
  with_reducible repeat' first
    | refine le_obind fun _ => ?_
    | refine le_callP ?_ (fun _ _ => ?_) (fun _ _ => ?_)
    | refine le_condK ?_ ?_
    | exact hR _ _ _
    | refine le_obind2 fun _ _ => ?_
    | refine le_obindH fun _ => ?_
    | refine le_spanK (fun _ _ _ => ?_) (fun _ _ => ?_)
    | exact hc _ _ _
    | refine le_bif ?_ ?_
    | refine le_guardK ?_ ?_ ?_
    | refine le_mapK fun _ _ => ?_
    | refine le_panK fun _ _ => ?_
    | refine le_funK fun _ _ => ?_
    | exact le_refl _
    | apply_assumption
noncomputable def q50_0 (cf : CallF) (R : Rec) (a0 : IV) (a1 : IV) (a2 : IV) (h : H) : CRes :=
 R 1 [a0, a1, a2, .nilSlice] h
theorem qe50_0 : q50_0 = t50_0 := by
  unfold q50_0
  try simp only [QE]
  try rfl
noncomputable def q50_1 (cf : CallF) (R : Rec) (a0 : IV) (a1 : IV) (a2 : IV) (a7 : IV) (h : H) : CRes :=
 Qc (cf 31 [a0] h) .pan fun x1 h2 =>
 Qsp x1 true h2 (fun k3 =>
 Qc (cf 47 [a0, a1] h2) .pan fun x6 h7 =>
 Qo (Qnot x6) fun x8 =>
 k3 x8 h7) fun x4 h5 =>
 Qo (Qpk x1 (some x4) (some (.bool false))) fun x9 =>
 Qif x9
 (Qc (cf 72 [a0, a2] h5) .pan fun x10 h11 =>
 Qo2 (Qbsl false 48 z8 1 [(0, x10)] h11) fun x12 h13 =>
 Qo2 (appK 48 680 h13 a7 x12) fun x14 h15 =>
 R 1 [a0, a1, a2, x14] h15)
 (.ok a7 h5)
theorem qe50_1 : q50_1 = t50_1 := by
  unfold q50_1
  try simp only [QE]
  try rfl
noncomputable def bt50 (cf : CallF) (R : Rec) : Rec := fun i l h =>
 br3 i 0 l (fun a0 a1 a2 => t50_0 cf R a0 a1 a2 h) <|
 br4 i 1 l (fun a0 a1 a2 a7 => t50_1 cf R a0 a1 a2 a7 h) <|
 .fail
noncomputable def b50 (cf : CallF) (R : Rec) : Rec := fun i l h =>
 brQ3 i 0 l (fun a0 a1 a2 => q50_0 cf R a0 a1 a2 h) <|
 brQ4 i 1 l (fun a0 a1 a2 a7 => q50_1 cf R a0 a1 a2 a7 h) <|
 .fail
theorem be50 : b50 = bt50 := by
  unfold b50 bt50
  simp only [qe50_0, qe50_1, brQ3_eq, brQ4_eq]
theorem r50 {T : Tab} {cf : CallF} (hc : leC cf (CL T)) (n : Nat) : leR (recN (b50 cf) n) (J50 T) := be50 ▸ recN_le (fun R hR i l h => by
  unfold bt50
  refine le_br3 (J := fun i l => J50 T i l h) (fun _ a0 a1 a2 => le_e (fun hn => e50_0 rfl hn) ((m50 hc hR).1 a0 a1 a2 h)) ?_
  refine le_br4 (J := fun i l => J50 T i l h) (fun _ a0 a1 a2 a7 => le_e (fun hn => e50_1 rfl hn) ((m50 hc hR).2 a0 a1 a2 a7 h)) ?_
  exact le_fail _) n
-- 51
theorem m51 {cf cf' : CallF} {R R' : Rec} (hc : ∀ f l h, le (cf f l h) (cf' f l h)) (hR : ∀ i l h, le (R i l h) (R' i l h)) :
  (∀ (a0 a1 a2 a3 a4 : IV) (h : H), le (t51_0 cf R a0 a1 a2 a3 a4 h) (t51_0 cf' R' a0 a1 a2 a3 a4 h)) ∧
  (∀ (a0 a2 a4 a11 a12 : IV) (h : H), le (t51_1 cf R a0 a2 a4 a11 a12 h) (t51_1 cf' R' a0 a2 a4 a11 a12 h)) ∧
  (∀ (a11 : IV) (h : H), le (t51_2 cf R a11 h) (t51_2 cf' R' a11 h)) := by
  refine ⟨?_, ?_, ?_⟩
  all_goals intros
  all_goals first | unfold t51_0 | unfold t51_1 | unfold t51_2
  all_goals
  with_reducible repeat' first
    | refine le_obind fun _ => ?_
    | refine le_callP ?_ (fun _ _ => ?_) (fun _ _ => ?_)
    | refine le_condK ?_ ?_
    | exact hR _ _ _
    | refine le_obind2 fun _ _ => ?_
    | refine le_obindH fun _ => ?_
    | refine le_spanK (fun _ _ _ => ?_) (fun _ _ => ?_)
    | exact hc _ _ _
    | refine le_bif ?_ ?_
    | refine le_guardK ?_ ?_ ?_
    | refine le_mapK fun _ _ => ?_
    | refine le_panK fun _ _ => ?_
    | refine le_funK fun _ _ => ?_
    | exact le_refl _
    | apply_assumption
noncomputable def q51_0p1 (cf : CallF) (R : Rec) (x5 : IV) (a3 : IV) (h2 : H) (a0 : IV) (a2 : IV) (a4 : IV) (x3 : IV) (x4 : IV) : CRes :=
 Qif x5
 (Qc (cf 17 [a3, (.int .i64 71)] h2) .pan fun x6 h7 =>
 R 1 [a0, a2, a4, x3, x4] h7)
 (R 1 [a0, a2, a4, x3, x4] h2)
noncomputable def q51_0 (cf : CallF) (R : Rec) (a0 : IV) (a1 : IV) (a2 : IV) (a3 : IV) (a4 : IV) (h : H) : CRes :=
 Qc (cf 73 [a0, a1] h) .pan fun x1 h2 =>
 Qo (Qext x1 0) fun x3 =>
 Qo (Qext x1 1) fun x4 =>
 Qo (eqP .eql h2 x3 .nilPtr) fun x5 =>
 q51_0p1 cf R x5 a3 h2 a0 a2 a4 x3 x4
theorem qe51_0 : q51_0 = t51_0 := by
  unfold q51_0 q51_0p1
  try simp only [QE]
  try rfl
noncomputable def q51_1p1 (cf : CallF) (R : Rec) (x11 : IV) (h : H) (a12 : IV) (a0 : IV) (a4 : IV) (a11 : IV) : CRes :=
 Qsp x11 false h (fun k12 =>
 Qo (eqP .neq h a12 a0) fun x15 =>
 k12 x15 h) fun x13 h14 =>
 Qo (Qpk x11 (some (.bool true)) (some x13)) fun x16 =>
 Qif x16
 (Qc (cf 17 [a4, (.int .i64 72)] h14) .pan fun x17 h18 =>
 R 2 [a11] h18)
 (R 2 [a11] h14)
noncomputable def q51_1 (cf : CallF) (R : Rec) (a0 : IV) (a2 : IV) (a4 : IV) (a11 : IV) (a12 : IV) (h : H) : CRes :=
 Qo (Qnil a11) fun x8 =>
 Qo (Qfad 0 x8) fun x9 =>
 Qo (Ql0 h x9) fun x10 =>
 Qo (Qneq x10 a2) fun x11 =>
 q51_1p1 cf R x11 h a12 a0 a4 a11
theorem qe51_1 : q51_1 = t51_1 := by
  unfold q51_1 q51_1p1
  try simp only [QE]
  try rfl
noncomputable def q51_2 (cf : CallF) (R : Rec) (a11 : IV) (h : H) : CRes :=
 .ok a11 h
theorem qe51_2 : q51_2 = t51_2 := by
  unfold q51_2
  try simp only [QE]
  try rfl
noncomputable def bt51 (cf : CallF) (R : Rec) : Rec := fun i l h =>
 br5 i 0 l (fun a0 a1 a2 a3 a4 => t51_0 cf R a0 a1 a2 a3 a4 h) <|
 br5 i 1 l (fun a0 a2 a4 a11 a12 => t51_1 cf R a0 a2 a4 a11 a12 h) <|
 br1 i 2 l (fun a11 => t51_2 cf R a11 h) <|
 .fail
noncomputable def b51 (cf : CallF) (R : Rec) : Rec := fun i l h =>
 brQ5 i 0 l (fun a0 a1 a2 a3 a4 => q51_0 cf R a0 a1 a2 a3 a4 h) <|
 brQ5 i 1 l (fun a0 a2 a4 a11 a12 => q51_1 cf R a0 a2 a4 a11 a12 h) <|
 brQ1 i 2 l (fun a11 => q51_2 cf R a11 h) <|
 .fail
theorem be51 : b51 = bt51 := by
  unfold b51 bt51
  simp only [qe51_0, qe51_1, qe51_2, brQ1_eq, brQ5_eq]
theorem r51 {T : Tab} {cf : CallF} (hc : leC cf (CL T)) (n : Nat) : leR (recN (b51 cf) n) (J51 T) := be51 ▸ recN_le (fun R hR i l h => by
  unfold bt51
  refine le_br5 (J := fun i l => J51 T i l h) (fun _ a0 a1 a2 a3 a4 => le_e (fun hn => e51_0 rfl hn) ((m51 hc hR).1 a0 a1 a2 a3 a4 h)) ?_
  refine le_br5 (J := fun i l => J51 T i l h) (fun _ a0 a2 a4 a11 a12 => le_e (fun hn => e51_1 rfl hn) ((m51 hc hR).2.1 a0 a2 a4 a11 a12 h)) ?_
  refine le_br1 (J := fun i l => J51 T i l h) (fun _ a11 => le_e (fun hn => e51_2 rfl hn) ((m51 hc hR).2.2 a11 h)) ?_
  exact le_fail _) n
-- 52
theorem m52 {cf cf' : CallF} {R R' : Rec} (hc : ∀ f l h, le (cf f l h) (cf' f l h)) (hR : ∀ i l h, le (R i l h) (R' i l h)) :
  (∀ (a0 a1 : IV) (h : H), le (t52_0 cf R a0 a1 h) (t52_0 cf' R' a0 a1 h)) ∧
  (∀ (a0 : IV) (h : H), le (t52_1 cf R a0 h) (t52_1 cf' R' a0 h)) := by
  refine ⟨?_, ?_⟩
  all_goals intros
  all_goals first | unfold t52_0 | unfold t52_1
  all_goals
  with_reducible repeat' first
    | refine le_obind fun _ => ?_
    | refine le_callP ?_ (fun _ _ => ?_) (fun _ _ => ?_)
    | refine le_condK ?_ ?_
    | exact hR _ _ _
    | refine le_obind2 fun _ _ => ?_
    | refine le_obindH fun _ => ?_
    | refine le_spanK (fun _ _ _ => ?_) (fun _ _ => ?_)
    | exact hc _ _ _
    | refine le_bif ?_ ?_
    | refine le_guardK ?_ ?_ ?_
    | refine le_mapK fun _ _ => ?_
    | refine le_panK fun _ _ => ?_
    | refine le_funK fun _ _ => ?_
    | exact le_refl _
    | apply_assumption
noncomputable def q52_0 (cf : CallF) (R : Rec) (a0 : IV) (a1 : IV) (h : H) : CRes :=
 Qo (Qnil a0) fun x1 =>
 Qo (Qfad 1 x1) fun x2 =>
 Qo (Ql0 h x2) fun x3 =>
 Qif x3
 (Qc (cf 17 [a1, (.int .i64 73)] h) .pan fun x4 h5 =>
 R 1 [a0] h5)
 (R 1 [a0] h)
theorem qe52_0 : q52_0 = t52_0 := by
  unfold q52_0
  try simp only [QE]
  try rfl
noncomputable def q52_1 (cf : CallF) (R : Rec) (a0 : IV) (h : H) : CRes :=
 Qo (Qnil a0) fun x6 =>
 Qo (Qfad 1 x6) fun x7 =>
 QoH (QsA 1 h x7 (.bool true)) fun h8 =>
 .ok (.tup []) h8
theorem qe52_1 : q52_1 = t52_1 := by
  unfold q52_1
  try simp only [QE]
  try rfl
noncomputable def bt52 (cf : CallF) (R : Rec) : Rec := fun i l h =>
 br2 i 0 l (fun a0 a1 => t52_0 cf R a0 a1 h) <|
 br1 i 1 l (fun a0 => t52_1 cf R a0 h) <|
 .fail
noncomputable def b52 (cf : CallF) (R : Rec) : Rec := fun i l h =>
 brQ2 i 0 l (fun a0 a1 => q52_0 cf R a0 a1 h) <|
 brQ1 i 1 l (fun a0 => q52_1 cf R a0 h) <|
 .fail
theorem be52 : b52 = bt52 := by
  unfold b52 bt52
  simp only [qe52_0, qe52_1, brQ1_eq, brQ2_eq]
theorem r52 {T : Tab} {cf : CallF} (hc : leC cf (CL T)) (n : Nat) : leR (recN (b52 cf) n) (J52 T) := be52 ▸ recN_le (fun R hR i l h => by
  unfold bt52
  refine le_br2 (J := fun i l => J52 T i l h) (fun _ a0 a1 => le_e (fun hn => e52_0 rfl hn) ((m52 hc hR).1 a0 a1 h)) ?_
  refine le_br1 (J := fun i l => J52 T i l h) (fun _ a0 => le_e (fun hn => e52_1 rfl hn) ((m52 hc hR).2 a0 h)) ?_
  exact le_fail _) n
-- 53
theorem m53 {cf cf' : CallF} {R R' : Rec} (hc : ∀ f l h, le (cf f l h) (cf' f l h)) (hR : ∀ i l h, le (R i l h) (R' i l h)) :
  (∀ (a0 a1 : IV) (h : H), le (t53_0 cf R a0 a1 h) (t53_0 cf' R' a0 a1 h)) ∧
  (∀ (a0 a3 : IV) (h : H), le (t53_1 cf R a0 a3 h) (t53_1 cf' R' a0 a3 h)) ∧
  (∀ (a0 a33 a34 a35 : IV) (h : H), le (t53_2 cf R a0 a33 a34 a35 h) (t53_2 cf' R' a0 a33 a34 a35 h)) := by
  refine ⟨?_, ?_, ?_⟩
  all_goals intros
  all_goals first | unfold t53_0 | unfold t53_1 | unfold t53_2
  all_goals
  with_reducible repeat' first
    | refine le_obind fun _ => ?_
    | refine le_callP ?_ (fun _ _ => ?_) (fun _ _ => ?_)
    | refine le_condK ?_ ?_
    | exact hR _ _ _
    | refine le_obind2 fun _ _ => ?_
    | refine le_obindH fun _ => ?_
    | refine le_spanK (fun _ _ _ => ?_) (fun _ _ => ?_)
    | exact hc _ _ _
    | refine le_bif ?_ ?_
    | refine le_guardK ?_ ?_ ?_
    | refine le_mapK fun _ _ => ?_
    | refine le_panK fun _ _ => ?_
    | refine le_funK fun _ _ => ?_
    | exact le_refl _
    | apply_assumption
noncomputable def q53_0p2 (cf : CallF) (R : Rec) (x20 : IV) (x1 : IV) (h15 : H) (a0 : IV) : CRes :=
 Qif x20
 (Qo (Qfad 5 x1) fun x21 =>
 Qo (Ql0 h15 x21) fun x22 =>
 Qc (cf 17 [x22, (.int .i64 71)] h15) .pan fun x23 h24 =>
 R 1 [a0, x1] h24)
 (R 1 [a0, x1] h15)
noncomputable def q53_0p1 (cf : CallF) (R : Rec) (x8 : IV) (h9 : H) (x10 : IV) (x1 : IV) (a0 : IV) : CRes :=
 Qo (Qext x8 1) fun x11 =>
 Qo (eqP .eql h9 x10 .nilPtr) fun x12 =>
 Qsp x12 false h9 (fun k13 =>
 Qo (Qnil x10) fun x16 =>
 Qo (Qfad 0 x16) fun x17 =>
 Qo (Ql0 h9 x17) fun x18 =>
 Qo (Qeql x18 (.int .i64 5)) fun x19 =>
 k13 x19 h9) fun x14 h15 =>
 Qo (Qpk x12 (some (.bool true)) (some x14)) fun x20 =>
 q53_0p2 cf R x20 x1 h15 a0
noncomputable def q53_0 (cf : CallF) (R : Rec) (a0 : IV) (a1 : IV) (h : H) : CRes :=
 Qo2 (QnI h (Qcells a1)) fun x1 h2 =>
 Qo (QlA 6 h2 x1) fun x3 =>
 Qc (cf 74 [x3] h2) .pan fun x4 h5 =>
 Qif x4
 (Qo (Qfad 1 x1) fun x6 =>
 Qo (Ql0 h5 x6) fun x7 =>
 Qc (cf 73 [a0, x7] h5) .pan fun x8 h9 =>
 Qo (Qext x8 0) fun x10 =>
 q53_0p1 cf R x8 h9 x10 x1 a0)
 (R 1 [a0, x1] h5)
theorem qe53_0 : q53_0 = t53_0 := by
  unfold q53_0 q53_0p1 q53_0p2
  try simp only [QE]
  try rfl
noncomputable def q53_1 (cf : CallF) (R : Rec) (a0 : IV) (a3 : IV) (h : H) : CRes :=
 Qo (Qfad 0 a3) fun x25 =>
 Qo (Ql0 h x25) fun x26 =>
 Qo (Qneq x26 (.int .i64 4)) fun x27 =>
 Qif x27
 (Qo (Qfad 4 a3) fun x28 =>
 Qo (Ql0 h x28) fun x29 =>
 Qo (Qle x29) fun x30 =>
 R 2 [a0, x29, x30, (.int .i64 0)] h)
 (.ok (.tup []) h)
theorem qe53_1 : q53_1 = t53_1 := by
  unfold q53_1
  try simp only [QE]
  try rfl
noncomputable def q53_2p1 (cf : CallF) (R : Rec) (h36 : H) (x34 : IV) (a0 : IV) (a35 : IV) (a33 : IV) (a34 : IV) : CRes :=
 Qo (QlA 6 h36 x34) fun x37 =>
 Qc (cf 53 [a0, x37] h36) .pan fun x38 h39 =>
 Qo (Qadd a35 (.int .i64 1)) fun x40 =>
 R 2 [a0, a33, a34, x40] h39
noncomputable def q53_2 (cf : CallF) (R : Rec) (a0 : IV) (a33 : IV) (a34 : IV) (a35 : IV) (h : H) : CRes :=
 Qo (Qlss a35 a34) fun x31 =>
 Qif x31
 (Qo (Qix 6 a33 a35) fun x32 =>
 Qo (QlA 6 h x32) fun x33 =>
 Qo2 (QnI h z11) fun x34 h35 =>
 QoH (QsA 6 h35 x34 x33) fun h36 =>
 q53_2p1 cf R h36 x34 a0 a35 a33 a34)
 (.ok (.tup []) h)
theorem qe53_2 : q53_2 = t53_2 := by
  unfold q53_2 q53_2p1
  try simp only [QE]
  try rfl
noncomputable def bt53 (cf : CallF) (R : Rec) : Rec := fun i l h =>
 br2 i 0 l (fun a0 a1 => t53_0 cf R a0 a1 h) <|
 br2 i 1 l (fun a0 a3 => t53_1 cf R a0 a3 h) <|
 br4 i 2 l (fun a0 a33 a34 a35 => t53_2 cf R a0 a33 a34 a35 h) <|
 .fail
noncomputable def b53 (cf : CallF) (R : Rec) : Rec := fun i l h =>
 brQ2 i 0 l (fun a0 a1 => q53_0 cf R a0 a1 h) <|
 brQ2 i 1 l (fun a0 a3 => q53_1 cf R a0 a3 h) <|
 brQ4 i 2 l (fun a0 a33 a34 a35 => q53_2 cf R a0 a33 a34 a35 h) <|
 .fail
theorem be53 : b53 = bt53 := by
  unfold b53 bt53
  simp only [qe53_0, qe53_1, qe53_2, brQ2_eq, brQ4_eq]
theorem r53 {T : Tab} {cf : CallF} (hc : leC cf (CL T)) (n : Nat) : leR (recN (b53 cf) n) (J53 T) := be53 ▸ recN_le (fun R hR i l h => by
  unfold bt53
  refine le_br2 (J := fun i l => J53 T i l h) (fun _ a0 a1 => le_e (fun hn => e53_0 rfl hn) ((m53 hc hR).1 a0 a1 h)) ?_
  refine le_br2 (J := fun i l => J53 T i l h) (fun _ a0 a3 => le_e (fun hn => e53_1 rfl hn) ((m53 hc hR).2.1 a0 a3 h)) ?_
  refine le_br4 (J := fun i l => J53 T i l h) (fun _ a0 a33 a34 a35 => le_e (fun hn => e53_2 rfl hn) ((m53 hc hR).2.2 a0 a33 a34 a35 h)) ?_
  exact le_fail _) n
-- 54
theorem m54 {cf cf' : CallF} {R R' : Rec} (hc : ∀ f l h, le (cf f l h) (cf' f l h)) (hR : ∀ i l h, le (R i l h) (R' i l h)) :
  (∀ (a0 a1 : IV) (h : H), le (t54_0 cf R a0 a1 h) (t54_0 cf' R' a0 a1 h)) ∧
  (∀ (a0 a3 a4 : IV) (h : H), le (t54_1 cf R a0 a3 a4 h) (t54_1 cf' R' a0 a3 a4 h)) ∧
  (∀ (a3 a7 a59 a60 a61 : IV) (h : H), le (t54_2 cf R a3 a7 a59 a60 a61 h) (t54_2 cf' R' a3 a7 a59 a60 a61 h)) := by
  refine ⟨?_, ?_, ?_⟩
  all_goals intros
  all_goals first | unfold t54_0 | unfold t54_1 | unfold t54_2
  all_goals
  with_reducible repeat' first
    | refine le_obind fun _ => ?_
    | refine le_callP ?_ (fun _ _ => ?_) (fun _ _ => ?_)
    | refine le_condK ?_ ?_
    | exact hR _ _ _
    | refine le_obind2 fun _ _ => ?_
    | refine le_obindH fun _ => ?_
    | refine le_spanK (fun _ _ _ => ?_) (fun _ _ => ?_)
    | exact hc _ _ _
    | refine le_bif ?_ ?_
    | refine le_guardK ?_ ?_ ?_
    | refine le_mapK fun _ _ => ?_
    | refine le_panK fun _ _ => ?_
    | refine le_funK fun _ _ => ?_
    | exact le_refl _
    | apply_assumption
noncomputable def q54_0p4 (cf : CallF) (R : Rec) (x42 : IV) (x1 : IV) (h40 : H) (a0 : IV) : CRes :=
 Qif x42
 (Qo (Qfad 47 x1) fun x43 =>
 Qo (Ql0 h40 x43) fun x44 =>
 Qc (cf 17 [x44, (.int .i64 71)] h40) .pan fun x45 h46 =>
 R 1 [a0, x1, (.int .i64 2)] h46)
 (R 1 [a0, x1, (.int .i64 2)] h40)
noncomputable def q54_0p3 (cf : CallF) (R : Rec) (x12 : IV) (h22 : H) (x14 : IV) (x21 : IV) (x10 : IV) (x1 : IV) (a0 : IV) : CRes :=
 Qsp x12 false h22 (fun k27 =>
 Qo (Qpk x14 (some x21) (some (.bool false))) fun x30 =>
 k27 x30 h22) fun x28 h29 =>
 Qsp x28 true h29 (fun k31 =>
 Qo (Qnil x10) fun x34 =>
 Qo (Qfad 0 x34) fun x35 =>
 Qo (Ql0 h29 x35) fun x36 =>
 Qo (Qneq x36 (.int .i64 4)) fun x37 =>
 k31 x37 h29) fun x32 h33 =>
 Qsp x12 false h33 (fun k38 =>
 Qo (Qpk x28 (some x32) (some (.bool false))) fun x41 =>
 k38 x41 h33) fun x39 h40 =>
 Qo (Qpk x12 (some (.bool true)) (some x39)) fun x42 =>
 q54_0p4 cf R x42 x1 h40 a0
noncomputable def q54_0p2 (cf : CallF) (R : Rec) (x8 : IV) (h9 : H) (x10 : IV) (x1 : IV) (a0 : IV) : CRes :=
 Qo (Qext x8 1) fun x11 =>
 Qo (eqP .eql h9 x10 .nilPtr) fun x12 =>
 Qsp x12 false h9 (fun k13 =>
 Qo (Qnil x10) fun x16 =>
 Qo (Qfad 0 x16) fun x17 =>
 Qo (Ql0 h9 x17) fun x18 =>
 Qo (Qneq x18 (.int .i64 2)) fun x19 =>
 k13 x19 h9) fun x14 h15 =>
 Qsp x14 true h15 (fun k20 =>
 Qo (Qnil x10) fun x23 =>
 Qo (Qfad 0 x23) fun x24 =>
 Qo (Ql0 h15 x24) fun x25 =>
 Qo (Qneq x25 (.int .i64 3)) fun x26 =>
 k20 x26 h15) fun x21 h22 =>
 q54_0p3 cf R x12 h22 x14 x21 x10 x1 a0
noncomputable def q54_0p1 (cf : CallF) (R : Rec) (x5 : IV) (x1 : IV) (h2 : H) (a0 : IV) : CRes :=
 Qif x5
 (Qo (Qfad 1 x1) fun x6 =>
 Qo (Ql0 h2 x6) fun x7 =>
 Qc (cf 73 [a0, x7] h2) .pan fun x8 h9 =>
 Qo (Qext x8 0) fun x10 =>
 q54_0p2 cf R x8 h9 x10 x1 a0)
 (R 1 [a0, x1, (.int .i64 1)] h2)
noncomputable def q54_0 (cf : CallF) (R : Rec) (a0 : IV) (a1 : IV) (h : H) : CRes :=
 Qo2 (QnI h (Qcells a1)) fun x1 h2 =>
 Qo (Qfad 0 x1) fun x3 =>
 Qo (Ql0 h2 x3) fun x4 =>
 Qo (Qeql x4 (.int .i64 6)) fun x5 =>
 q54_0p1 cf R x5 x1 h2 a0
theorem qe54_0 : q54_0 = t54_0 := by
  unfold q54_0 q54_0p1 q54_0p2 q54_0p3 q54_0p4
  try simp only [QE]
  try rfl
noncomputable def q54_1p1 (cf : CallF) (R : Rec) (h51 : H) (x52 : IV) (a0 : IV) (a4 : IV) (x50 : IV) (a3 : IV) : CRes :=
 Qo (Ql0 h51 x52) fun x53 =>
 Qc (cf 75 [a0, x53, a4, x50] h51) .pan fun x54 h55 =>
 Qo (Qnil x50) fun x56 =>
 Qo (Qfad 1 x56) fun x57 =>
 Qo (Ql0 h55 x57) fun x58 =>
 Qo (Qle x58) fun x59 =>
 R 2 [a3, x50, x58, x59, (.int .i64 0)] h55
noncomputable def q54_1 (cf : CallF) (R : Rec) (a0 : IV) (a3 : IV) (a4 : IV) (h : H) : CRes :=
 mapK h fun x48 h47 =>
 Qo (Qbld [.nilMap, .nilSlice] [(0, 1), (1, 1)] [(0, x48)]) fun x49 =>
 Qo2 (QnI h47 (Qcells x49)) fun x50 h51 =>
 Qo (Qfad 45 a3) fun x52 =>
 q54_1p1 cf R h51 x52 a0 a4 x50 a3
theorem qe54_1 : q54_1 = t54_1 := by
  unfold q54_1 q54_1p1
  try simp only [QE]
  try rfl
noncomputable def q54_2p2 (cf : CallF) (R : Rec) (x66 : IV) (x68 : IV) (h : H) (a61 : IV) (a3 : IV) (a7 : IV) (a59 : IV) (a60 : IV) : CRes :=
 Qc (cf 52 [x66, x68] h) (fun v69 h70 =>
 .pan v69 h70) fun x71 h72 =>
 Qo (Qadd a61 (.int .i64 1)) fun x73 =>
 R 2 [a3, a7, a59, a60, x73] h72
noncomputable def q54_2p1 (cf : CallF) (R : Rec) (h : H) (x64 : IV) (x62 : IV) (a3 : IV) (a61 : IV) (a7 : IV) (a59 : IV) (a60 : IV) : CRes :=
 Qo (Ql0 h x64) fun x65 =>
 Qo (lkK true .nilPtr h x65 x62 false) fun x66 =>
 Qo (Qfad 47 a3) fun x67 =>
 Qo (Ql0 h x67) fun x68 =>
 q54_2p2 cf R x66 x68 h a61 a3 a7 a59 a60
noncomputable def q54_2p4 (cf : CallF) (R : Rec) (x86 : IV) (x83 : IV) (a3 : IV) (h82 : H) : CRes :=
 Qo (Qle x86) fun x87 =>
 Qo (Qlss x83 x87) fun x88 =>
 Qif x88
 (Qo (Qfad 47 a3) fun x89 =>
 Qo (Ql0 h82 x89) fun x90 =>
 Qc (cf 17 [x90, (.int .i64 75)] h82) .pan fun x91 h92 =>
 .ok (.tup []) h92)
 (.ok (.tup []) h82)
noncomputable def q54_2p3 (cf : CallF) (R : Rec) (h82 : H) (x81 : IV) (a7 : IV) (a3 : IV) : CRes :=
 Qo (lenM h82 x81) fun x83 =>
 Qo (Qnil a7) fun x84 =>
 Qo (Qfad 1 x84) fun x85 =>
 Qo (Ql0 h82 x85) fun x86 =>
 q54_2p4 cf R x86 x83 a3 h82
noncomputable def q54_2 (cf : CallF) (R : Rec) (a3 : IV) (a7 : IV) (a59 : IV) (a60 : IV) (a61 : IV) (h : H) : CRes :=
 Qo (Qlss a61 a60) fun x60 =>
 Qif x60
 (Qo (Qix 1 a59 a61) fun x61 =>
 Qo (Ql0 h x61) fun x62 =>
 Qo (Qnil a7) fun x63 =>
 Qo (Qfad 0 x63) fun x64 =>
 q54_2p1 cf R h x64 x62 a3 a61 a7 a59 a60)
 (Qo (Qfad 0 a3) fun x74 =>
 Qo (Ql0 h x74) fun x75 =>
 Qo (Qeql x75 (.int .i64 6)) fun x76 =>
 Qif x76
 (.ok (.tup []) h)
 (Qo (Qfad 45 a3) fun x77 =>
 Qo (Ql0 h x77) fun x78 =>
 mapK h fun x80 h79 =>
 Qc (cf 76 [a7, x78, x80] h79) .pan fun x81 h82 =>
 q54_2p3 cf R h82 x81 a7 a3))
theorem qe54_2 : q54_2 = t54_2 := by
  unfold q54_2 q54_2p3 q54_2p4 q54_2p1 q54_2p2
  try simp only [QE]
  try rfl
noncomputable def bt54 (cf : CallF) (R : Rec) : Rec := fun i l h =>
 br2 i 0 l (fun a0 a1 => t54_0 cf R a0 a1 h) <|
 br3 i 1 l (fun a0 a3 a4 => t54_1 cf R a0 a3 a4 h) <|
 br5 i 2 l (fun a3 a7 a59 a60 a61 => t54_2 cf R a3 a7 a59 a60 a61 h) <|
 .fail
noncomputable def b54 (cf : CallF) (R : Rec) : Rec := fun i l h =>
 brQ2 i 0 l (fun a0 a1 => q54_0 cf R a0 a1 h) <|
 brQ3 i 1 l (fun a0 a3 a4 => q54_1 cf R a0 a3 a4 h) <|
 brQ5 i 2 l (fun a3 a7 a59 a60 a61 => q54_2 cf R a3 a7 a59 a60 a61 h) <|
 .fail
theorem be54 : b54 = bt54 := by
  unfold b54 bt54
  simp only [qe54_0, qe54_1, qe54_2, brQ2_eq, brQ3_eq, brQ5_eq]
theorem r54 {T : Tab} {cf : CallF} (hc : leC cf (CL T)) (n : Nat) : leR (recN (b54 cf) n) (J54 T) := be54 ▸ recN_le (fun R hR i l h => by
  unfold bt54
  refine le_br2 (J := fun i l => J54 T i l h) (fun _ a0 a1 => le_e (fun hn => e54_0 rfl hn) ((m54 hc hR).1 a0 a1 h)) ?_
  refine le_br3 (J := fun i l => J54 T i l h) (fun _ a0 a3 a4 => le_e (fun hn => e54_1 rfl hn) ((m54 hc hR).2.1 a0 a3 a4 h)) ?_
  refine le_br5 (J := fun i l => J54 T i l h) (fun _ a3 a7 a59 a60 a61 => le_e (fun hn => e54_2 rfl hn) ((m54 hc hR).2.2 a3 a7 a59 a60 a61 h)) ?_
  exact le_fail _) n
-- 55
theorem m55 {cf cf' : CallF} {R R' : Rec} (hc : ∀ f l h, le (cf f l h) (cf' f l h)) (hR : ∀ i l h, le (R i l h) (R' i l h)) :
  (∀ (a0 a1 a2 : IV) (h : H), le (t55_0 cf R a0 a1 a2 h) (t55_0 cf' R' a0 a1 a2 h)) ∧
  (∀ (a0 a4 a6 : IV) (h : H), le (t55_1 cf R a0 a4 a6 h) (t55_1 cf' R' a0 a4 a6 h)) ∧
  (∀ (a0 a4 a6 a8 a9 a33 a34 a35 : IV) (h : H), le (t55_2 cf R a0 a4 a6 a8 a9 a33 a34 a35 h) (t55_2 cf' R' a0 a4 a6 a8 a9 a33 a34 a35 h)) ∧
  (∀ (a0 a4 a6 a8 a9 a44 a45 a46 : IV) (h : H), le (t55_3 cf R a0 a4 a6 a8 a9 a44 a45 a46 h) (t55_3 cf' R' a0 a4 a6 a8 a9 a44 a45 a46 h)) ∧
  (∀ (a0 a4 a6 a8 a9 a13 a44 a45 a46 : IV) (h : H), le (t55_4 cf R a0 a4 a6 a8 a9 a13 a44 a45 a46 h) (t55_4 cf' R' a0 a4 a6 a8 a9 a13 a44 a45 a46 h)) ∧
  (∀ (a0 a4 a6 a9 a64 a65 : IV) (h : H), le (t55_5 cf R a0 a4 a6 a9 a64 a65 h) (t55_5 cf' R' a0 a4 a6 a9 a64 a65 h)) ∧
  (∀ (a0 a9 a81 a82 a83 : IV) (h : H), le (t55_6 cf R a0 a9 a81 a82 a83 h) (t55_6 cf' R' a0 a9 a81 a82 a83 h)) ∧
  (∀ (a0 a9 a16 a17 a81 a82 a83 : IV) (h : H), le (t55_8 cf R a0 a9 a16 a17 a81 a82 a83 h) (t55_8 cf' R' a0 a9 a16 a17 a81 a82 a83 h)) ∧
  (∀ (a0 a9 a81 a82 a83 : IV) (h : H), le (t55_7 cf R a0 a9 a81 a82 a83 h) (t55_7 cf' R' a0 a9 a81 a82 a83 h)) ∧
  (∀ (a0 a9 a16 a81 a82 a83 : IV) (h : H), le (t55_9 cf R a0 a9 a16 a81 a82 a83 h) (t55_9 cf' R' a0 a9 a16 a81 a82 a83 h)) := by
  refine ⟨?_, ?_, ?_, ?_, ?_, ?_, ?_, ?_, ?_, ?_⟩
  all_goals intros
  all_goals first | unfold t55_0 | unfold t55_1 | unfold t55_2 | unfold t55_3 | unfold t55_4 | unfold t55_5 | unfold t55_6 | unfold t55_8 | unfold t55_7 | unfold t55_9
  all_goals
  with_reducible repeat' first
    | refine le_obind fun _ => ?_
    | refine le_callP ?_ (fun _ _ => ?_) (fun _ _ => ?_)
    | refine le_condK ?_ ?_
    | exact hR _ _ _
    | refine le_obind2 fun _ _ => ?_
    | refine le_obindH fun _ => ?_
    | refine le_spanK (fun _ _ _ => ?_) (fun _ _ => ?_)
    | exact hc _ _ _
    | refine le_bif ?_ ?_
    | refine le_guardK ?_ ?_ ?_
    | refine le_mapK fun _ _ => ?_
    | refine le_panK fun _ _ => ?_
    | refine le_funK fun _ _ => ?_
    | exact le_refl _
    | apply_assumption
noncomputable def q55_0p2 (cf : CallF) (R : Rec) (x7 : IV) (x1 : IV) (h10 : H) (a0 : IV) (x8 : IV) : CRes :=
 Qo (Qnot x7) fun x11 =>
 Qif x11
 (Qo (Qfad 47 x1) fun x12 =>
 Qo (Ql0 h10 x12) fun x13 =>
 Qc (cf 17 [x13, (.int .i64 80)] h10) .pan fun x14 h15 =>
 R 1 [a0, x1, x8] h15)
 (R 1 [a0, x1, x8] h10)
noncomputable def q55_0p1 (cf : CallF) (R : Rec) (x5 : IV) (h2 : H) (x1 : IV) (a0 : IV) : CRes :=
 Qo (Qext x5 0) fun x6 =>
 Qo (Qext x5 1) fun x7 =>
 Qo2 (QnI h2 z0) fun x8 h9 =>
 QoH (QsA 5 h9 x8 x6) fun h10 =>
 q55_0p2 cf R x7 x1 h10 a0 x8
noncomputable def q55_0 (cf : CallF) (R : Rec) (a0 : IV) (a1 : IV) (a2 : IV) (h : H) : CRes :=
 Qo2 (QnI h (Qcells a1)) fun x1 h2 =>
 Qo (Qfad 42 x1) fun x3 =>
 Qo (Ql0 h2 x3) fun x4 =>
 Qo (lkK true (.agg z0) h2 a2 x4 true) fun x5 =>
 q55_0p1 cf R x5 h2 x1 a0
theorem qe55_0 : q55_0 = t55_0 := by
  unfold q55_0 q55_0p1 q55_0p2
  try simp only [QE]
  try rfl
noncomputable def q55_1 (cf : CallF) (R : Rec) (a0 : IV) (a4 : IV) (a6 : IV) (h : H) : CRes :=
 mapK h fun x17 h16 =>
 mapK h16 fun x19 h18 =>
 Qo (Qfad 1 a6) fun x20 =>
 Qo (Ql0 h18 x20) fun x21 =>
 Qo (Qle x21) fun x22 =>
 R 2 [a0, a4, a6, x17, x19, x21, x22, (.int .i64 0)] h18
theorem qe55_1 : q55_1 = t55_1 := by
  unfold q55_1
  try simp only [QE]
  try rfl
noncomputable def q55_2p1 (cf : CallF) (R : Rec) (x26 : IV) (h28 : H) (a8 : IV) (a35 : IV) (a0 : IV) (a4 : IV) (a6 : IV) (a9 : IV) (a33 : IV) (a34 : IV) : CRes :=
 Qo (Qfad 0 x26) fun x29 =>
 Qo (Ql0 h28 x29) fun x30 =>
 QoH (mupK true h28 a8 x30 (.bool true)) fun h31 =>
 Qo (Qadd a35 (.int .i64 1)) fun x32 =>
 R 2 [a0, a4, a6, a8, a9, a33, a34, x32] h31
noncomputable def q55_2 (cf : CallF) (R : Rec) (a0 : IV) (a4 : IV) (a6 : IV) (a8 : IV) (a9 : IV) (a33 : IV) (a34 : IV) (a35 : IV) (h : H) : CRes :=
 Qo (Qlss a35 a34) fun x23 =>
 Qif x23
 (Qo (Qix 8 a33 a35) fun x24 =>
 Qo (QlA 8 h x24) fun x25 =>
 Qo2 (QnI h z5) fun x26 h27 =>
 QoH (QsA 8 h27 x26 x25) fun h28 =>
 q55_2p1 cf R x26 h28 a8 a35 a0 a4 a6 a9 a33 a34)
 (Qo (Qfad 43 a4) fun x33 =>
 Qo (Ql0 h x33) fun x34 =>
 Qo (Qle x34) fun x35 =>
 R 3 [a0, a4, a6, a8, a9, x34, x35, (.int .i64 0)] h)
theorem qe55_2 : q55_2 = t55_2 := by
  unfold q55_2 q55_2p1
  try simp only [QE]
  try rfl
noncomputable def q55_3p2 (cf : CallF) (R : Rec) (x45 : IV) (x39 : IV) (h41 : H) (a0 : IV) (a4 : IV) (a6 : IV) (a8 : IV) (a9 : IV) (a44 : IV) (a45 : IV) (a46 : IV) : CRes :=
 Qif x45
 (Qo (Qfad 7 x39) fun x46 =>
 Qo (Ql0 h41 x46) fun x47 =>
 Qc (cf 17 [x47, (.int .i64 71)] h41) .pan fun x48 h49 =>
 R 4 [a0, a4, a6, a8, a9, x39, a44, a45, a46] h49)
 (R 4 [a0, a4, a6, a8, a9, x39, a44, a45, a46] h41)
noncomputable def q55_3p1 (cf : CallF) (R : Rec) (x39 : IV) (h41 : H) (a8 : IV) (a0 : IV) (a4 : IV) (a6 : IV) (a9 : IV) (a44 : IV) (a45 : IV) (a46 : IV) : CRes :=
 Qo (Qfad 0 x39) fun x42 =>
 Qo (Ql0 h41 x42) fun x43 =>
 Qo (lkK true (.bool false) h41 a8 x43 false) fun x44 =>
 Qo (Qnot x44) fun x45 =>
 q55_3p2 cf R x45 x39 h41 a0 a4 a6 a8 a9 a44 a45 a46
noncomputable def q55_3 (cf : CallF) (R : Rec) (a0 : IV) (a4 : IV) (a6 : IV) (a8 : IV) (a9 : IV) (a44 : IV) (a45 : IV) (a46 : IV) (h : H) : CRes :=
 Qo (Qlss a46 a45) fun x36 =>
 Qif x36
 (Qo (Qix 8 a44 a46) fun x37 =>
 Qo (QlA 8 h x37) fun x38 =>
 Qo2 (QnI h z5) fun x39 h40 =>
 QoH (QsA 8 h40 x39 x38) fun h41 =>
 q55_3p1 cf R x39 h41 a8 a0 a4 a6 a9 a44 a45 a46)
 (Qo (Qfad 2 a6) fun x50 =>
 Qo (Ql0 h x50) fun x51 =>
 Qo (Qle x51) fun x52 =>
 R 5 [a0, a4, a6, a9, x52, (.int .i64 0)] h)
theorem qe55_3 : q55_3 = t55_3 := by
  unfold q55_3 q55_3p1 q55_3p2
  try simp only [QE]
  try rfl
noncomputable def q55_4 (cf : CallF) (R : Rec) (a0 : IV) (a4 : IV) (a6 : IV) (a8 : IV) (a9 : IV) (a13 : IV) (a44 : IV) (a45 : IV) (a46 : IV) (h : H) : CRes :=
 Qo (Qfad 0 a13) fun x53 =>
 Qo (Ql0 h x53) fun x54 =>
 QoH (delK true h a8 x54) fun h55 =>
 Qo (Qadd a46 (.int .i64 1)) fun x56 =>
 R 3 [a0, a4, a6, a8, a9, a44, a45, x56] h55
theorem qe55_4 : q55_4 = t55_4 := by
  unfold q55_4
  try simp only [QE]
  try rfl
noncomputable def q55_5p1 (cf : CallF) (R : Rec) (h : H) (x61 : IV) (a6 : IV) (a65 : IV) (a9 : IV) (a0 : IV) (a4 : IV) (a64 : IV) : CRes :=
 Qo (Ql0 h x61) fun x62 =>
 Qo (Qfad 2 a6) fun x63 =>
 Qo (Ql0 h x63) fun x64 =>
 Qo (Qix 17 x64 a65) fun x65 =>
 QoH (mupK true h a9 x62 x65) fun h66 =>
 Qo (Qadd a65 (.int .i64 1)) fun x67 =>
 R 5 [a0, a4, a6, a9, a64, x67] h66
noncomputable def q55_5 (cf : CallF) (R : Rec) (a0 : IV) (a4 : IV) (a6 : IV) (a9 : IV) (a64 : IV) (a65 : IV) (h : H) : CRes :=
 Qo (Qlss a65 a64) fun x57 =>
 Qif x57
 (Qo (Qfad 2 a6) fun x58 =>
 Qo (Ql0 h x58) fun x59 =>
 Qo (Qix 17 x59 a65) fun x60 =>
 Qo (Qfad 15 x60) fun x61 =>
 q55_5p1 cf R h x61 a6 a65 a9 a0 a4 a64)
 (Qo (Qfad 44 a4) fun x68 =>
 Qo (Ql0 h x68) fun x69 =>
 Qo (Qle x69) fun x70 =>
 R 6 [a0, a9, x69, x70, (.int .i64 0)] h)
theorem qe55_5 : q55_5 = t55_5 := by
  unfold q55_5 q55_5p1
  try simp only [QE]
  try rfl
noncomputable def q55_6p2 (cf : CallF) (R : Rec) (x80 : IV) (x74 : IV) (h76 : H) (a0 : IV) (a9 : IV) (x79 : IV) (a81 : IV) (a82 : IV) (a83 : IV) : CRes :=
 Qif x80
 (Qo (Qfad 7 x74) fun x81 =>
 Qo (Ql0 h76 x81) fun x82 =>
 Qc (cf 17 [x82, (.int .i64 81)] h76) .pan fun x83 h84 =>
 R 8 [a0, a9, x74, x79, a81, a82, a83] h84)
 (R 8 [a0, a9, x74, x79, a81, a82, a83] h76)
noncomputable def q55_6p1 (cf : CallF) (R : Rec) (x74 : IV) (h76 : H) (a9 : IV) (a0 : IV) (a81 : IV) (a82 : IV) (a83 : IV) : CRes :=
 Qo (Qfad 0 x74) fun x77 =>
 Qo (Ql0 h76 x77) fun x78 =>
 Qo (lkK true .nilPtr h76 a9 x78 false) fun x79 =>
 Qo (eqP .eql h76 x79 .nilPtr) fun x80 =>
 q55_6p2 cf R x80 x74 h76 a0 a9 x79 a81 a82 a83
noncomputable def q55_6 (cf : CallF) (R : Rec) (a0 : IV) (a9 : IV) (a81 : IV) (a82 : IV) (a83 : IV) (h : H) : CRes :=
 Qo (Qlss a83 a82) fun x71 =>
 Qif x71
 (Qo (Qix 8 a81 a83) fun x72 =>
 Qo (QlA 8 h x72) fun x73 =>
 Qo2 (QnI h z5) fun x74 h75 =>
 QoH (QsA 8 h75 x74 x73) fun h76 =>
 q55_6p1 cf R x74 h76 a9 a0 a81 a82 a83)
 (.ok (.tup []) h)
theorem qe55_6 : q55_6 = t55_6 := by
  unfold q55_6 q55_6p1 q55_6p2
  try simp only [QE]
  try rfl
noncomputable def q55_8p2 (cf : CallF) (R : Rec) (x99 : IV) (a16 : IV) (h87 : H) (a0 : IV) (a9 : IV) (a81 : IV) (a82 : IV) (a83 : IV) : CRes :=
 Qif x99
 (Qo (Qfad 7 a16) fun x100 =>
 Qo (Ql0 h87 x100) fun x101 =>
 Qc (cf 17 [x101, (.int .i64 72)] h87) .pan fun x102 h103 =>
 R 9 [a0, a9, a16, a81, a82, a83] h103)
 (R 9 [a0, a9, a16, a81, a82, a83] h87)
noncomputable def q55_8p1 (cf : CallF) (R : Rec) (x88 : IV) (h87 : H) (a16 : IV) (a0 : IV) (a9 : IV) (a81 : IV) (a82 : IV) (a83 : IV) : CRes :=
 Qo (Qfad 0 x88) fun x89 =>
 Qo (Ql0 h87 x89) fun x90 =>
 Qo (Qnot x90) fun x91 =>
 Qif x91
 (Qo (Qfad 1 a16) fun x92 =>
 Qo (QlA 6 h87 x92) fun x93 =>
 Qc (cf 53 [a0, x93] h87) .pan fun x94 h95 =>
 R 7 [a0, a9, a81, a82, a83] h95)
 (Qo (Qfad 1 a16) fun x96 =>
 Qo (Qfad 0 x96) fun x97 =>
 Qo (Ql0 h87 x97) fun x98 =>
 Qo (Qneq x98 (.int .i64 2)) fun x99 =>
 q55_8p2 cf R x99 a16 h87 a0 a9 a81 a82 a83)
noncomputable def q55_8 (cf : CallF) (R : Rec) (a0 : IV) (a9 : IV) (a16 : IV) (a17 : IV) (a81 : IV) (a82 : IV) (a83 : IV) (h : H) : CRes :=
 Qo (Qfad 0 a16) fun x85 =>
 Qo (Ql0 h x85) fun x86 =>
 QoH (delK true h a9 x86) fun h87 =>
 Qo (Qnil a17) fun x88 =>
 q55_8p1 cf R x88 h87 a16 a0 a9 a81 a82 a83
theorem qe55_8 : q55_8 = t55_8 := by
  unfold q55_8 q55_8p1 q55_8p2
  try simp only [QE]
  try rfl
noncomputable def q55_7 (cf : CallF) (R : Rec) (a0 : IV) (a9 : IV) (a81 : IV) (a82 : IV) (a83 : IV) (h : H) : CRes :=
 Qo (Qadd a83 (.int .i64 1)) fun x104 =>
 R 6 [a0, a9, a81, a82, x104] h
theorem qe55_7 : q55_7 = t55_7 := by
  unfold q55_7
  try simp only [QE]
  try rfl
noncomputable def q55_9p3 (cf : CallF) (R : Rec) (x121 : IV) (x120 : IV) (x117 : IV) (h118 : H) (a0 : IV) (a9 : IV) (a81 : IV) (a82 : IV) (a83 : IV) : CRes :=
 bif IV.beq x121 x120 then
 Qc (cf 52 [x117, x120] h118) (fun v122 h123 =>
 .pan v122 h123) fun x124 h125 =>
 R 7 [a0, a9, a81, a82, a83] h125
 else .fail
noncomputable def q55_9p2 (cf : CallF) (R : Rec) (a0 : IV) (x107 : IV) (x110 : IV) (x112 : IV) (h : H) (a16 : IV) (a9 : IV) (a81 : IV) (a82 : IV) (a83 : IV) : CRes :=
 Qc (cf 51 [a0, x107, (.int .i64 3), x110, x112] h) (fun v113 h114 =>
 Qo (Qfad 7 a16) fun x115 =>
 Qo (Ql0 h x115) fun x116 =>
 .pan v113 h114) fun x117 h118 =>
 Qo (Qfad 7 a16) fun x119 =>
 Qo (Ql0 h118 x119) fun x120 =>
 Qo (Ql0 h x119) fun x121 =>
 q55_9p3 cf R x121 x120 x117 h118 a0 a9 a81 a82 a83
noncomputable def q55_9p1 (cf : CallF) (R : Rec) (x108 : IV) (h : H) (a16 : IV) (a0 : IV) (x107 : IV) (a9 : IV) (a81 : IV) (a82 : IV) (a83 : IV) : CRes :=
 Qo (Qfad 5 x108) fun x109 =>
 Qo (Ql0 h x109) fun x110 =>
 Qo (Qfad 7 a16) fun x111 =>
 Qo (Ql0 h x111) fun x112 =>
 q55_9p2 cf R a0 x107 x110 x112 h a16 a9 a81 a82 a83
noncomputable def q55_9 (cf : CallF) (R : Rec) (a0 : IV) (a9 : IV) (a16 : IV) (a81 : IV) (a82 : IV) (a83 : IV) (h : H) : CRes :=
 Qo (Qfad 1 a16) fun x105 =>
 Qo (Qfad 1 x105) fun x106 =>
 Qo (Ql0 h x106) fun x107 =>
 Qo (Qfad 1 a16) fun x108 =>
 q55_9p1 cf R x108 h a16 a0 x107 a9 a81 a82 a83
theorem qe55_9 : q55_9 = t55_9 := by
  unfold q55_9 q55_9p1 q55_9p2 q55_9p3
  try simp only [QE]
  try rfl
noncomputable def bt55 (cf : CallF) (R : Rec) : Rec := fun i l h =>
 br3 i 0 l (fun a0 a1 a2 => t55_0 cf R a0 a1 a2 h) <|
 br3 i 1 l (fun a0 a4 a6 => t55_1 cf R a0 a4 a6 h) <|
 br8 i 2 l (fun a0 a4 a6 a8 a9 a33 a34 a35 => t55_2 cf R a0 a4 a6 a8 a9 a33 a34 a35 h) <|
 br8 i 3 l (fun a0 a4 a6 a8 a9 a44 a45 a46 => t55_3 cf R a0 a4 a6 a8 a9 a44 a45 a46 h) <|
 br9 i 4 l (fun a0 a4 a6 a8 a9 a13 a44 a45 a46 => t55_4 cf R a0 a4 a6 a8 a9 a13 a44 a45 a46 h) <|
 br6 i 5 l (fun a0 a4 a6 a9 a64 a65 => t55_5 cf R a0 a4 a6 a9 a64 a65 h) <|
 br5 i 6 l (fun a0 a9 a81 a82 a83 => t55_6 cf R a0 a9 a81 a82 a83 h) <|
 br7 i 8 l (fun a0 a9 a16 a17 a81 a82 a83 => t55_8 cf R a0 a9 a16 a17 a81 a82 a83 h) <|
 br5 i 7 l (fun a0 a9 a81 a82 a83 => t55_7 cf R a0 a9 a81 a82 a83 h) <|
 br6 i 9 l (fun a0 a9 a16 a81 a82 a83 => t55_9 cf R a0 a9 a16 a81 a82 a83 h) <|
 .fail
noncomputable def b55 (cf : CallF) (R : Rec) : Rec := fun i l h =>
 brQ3 i 0 l (fun a0 a1 a2 => q55_0 cf R a0 a1 a2 h) <|
 brQ3 i 1 l (fun a0 a4 a6 => q55_1 cf R a0 a4 a6 h) <|
 brQ8 i 2 l (fun a0 a4 a6 a8 a9 a33 a34 a35 => q55_2 cf R a0 a4 a6 a8 a9 a33 a34 a35 h) <|
 brQ8 i 3 l (fun a0 a4 a6 a8 a9 a44 a45 a46 => q55_3 cf R a0 a4 a6 a8 a9 a44 a45 a46 h) <|
 brQ9 i 4 l (fun a0 a4 a6 a8 a9 a13 a44 a45 a46 => q55_4 cf R a0 a4 a6 a8 a9 a13 a44 a45 a46 h) <|
 brQ6 i 5 l (fun a0 a4 a6 a9 a64 a65 => q55_5 cf R a0 a4 a6 a9 a64 a65 h) <|
 brQ5 i 6 l (fun a0 a9 a81 a82 a83 => q55_6 cf R a0 a9 a81 a82 a83 h) <|
 brQ7 i 8 l (fun a0 a9 a16 a17 a81 a82 a83 => q55_8 cf R a0 a9 a16 a17 a81 a82 a83 h) <|
 brQ5 i 7 l (fun a0 a9 a81 a82 a83 => q55_7 cf R a0 a9 a81 a82 a83 h) <|
 brQ6 i 9 l (fun a0 a9 a16 a81 a82 a83 => q55_9 cf R a0 a9 a16 a81 a82 a83 h) <|
 .fail
theorem be55 : b55 = bt55 := by
  unfold b55 bt55
  simp only [qe55_0, qe55_1, qe55_2, qe55_3, qe55_4, qe55_5, qe55_6, qe55_8, qe55_7, qe55_9, brQ3_eq, brQ5_eq, brQ6_eq, brQ7_eq, brQ8_eq, brQ9_eq]
theorem r55 {T : Tab} {cf : CallF} (hc : leC cf (CL T)) (n : Nat) : leR (recN (b55 cf) n) (J55 T) := be55 ▸ recN_le (fun R hR i l h => by
  unfold bt55
  refine le_br3 (J := fun i l => J55 T i l h) (fun _ a0 a1 a2 => le_e (fun hn => e55_0 rfl hn) ((m55 hc hR).1 a0 a1 a2 h)) ?_
  refine le_br3 (J := fun i l => J55 T i l h) (fun _ a0 a4 a6 => le_e (fun hn => e55_1 rfl hn) ((m55 hc hR).2.1 a0 a4 a6 h)) ?_
  refine le_br8 (J := fun i l => J55 T i l h) (fun _ a0 a4 a6 a8 a9 a33 a34 a35 => le_e (fun hn => e55_2 rfl hn) ((m55 hc hR).2.2.1 a0 a4 a6 a8 a9 a33 a34 a35 h)) ?_
  refine le_br8 (J := fun i l => J55 T i l h) (fun _ a0 a4 a6 a8 a9 a44 a45 a46 => le_e (fun hn => e55_3 rfl hn) ((m55 hc hR).2.2.2.1 a0 a4 a6 a8 a9 a44 a45 a46 h)) ?_
  refine le_br9 (J := fun i l => J55 T i l h) (fun _ a0 a4 a6 a8 a9 a13 a44 a45 a46 => le_e (fun hn => e55_4 rfl hn) ((m55 hc hR).2.2.2.2.1 a0 a4 a6 a8 a9 a13 a44 a45 a46 h)) ?_
  refine le_br6 (J := fun i l => J55 T i l h) (fun _ a0 a4 a6 a9 a64 a65 => le_e (fun hn => e55_5 rfl hn) ((m55 hc hR).2.2.2.2.2.1 a0 a4 a6 a9 a64 a65 h)) ?_
  refine le_br5 (J := fun i l => J55 T i l h) (fun _ a0 a9 a81 a82 a83 => le_e (fun hn => e55_6 rfl hn) ((m55 hc hR).2.2.2.2.2.2.1 a0 a9 a81 a82 a83 h)) ?_
  refine le_br7 (J := fun i l => J55 T i l h) (fun _ a0 a9 a16 a17 a81 a82 a83 => le_e (fun hn => e55_8 rfl hn) ((m55 hc hR).2.2.2.2.2.2.2.1 a0 a9 a16 a17 a81 a82 a83 h)) ?_
  refine le_br5 (J := fun i l => J55 T i l h) (fun _ a0 a9 a81 a82 a83 => le_e (fun hn => e55_7 rfl hn) ((m55 hc hR).2.2.2.2.2.2.2.2.1 a0 a9 a81 a82 a83 h)) ?_
  refine le_br6 (J := fun i l => J55 T i l h) (fun _ a0 a9 a16 a81 a82 a83 => le_e (fun hn => e55_9 rfl hn) ((m55 hc hR).2.2.2.2.2.2.2.2.2 a0 a9 a16 a81 a82 a83 h)) ?_
  exact le_fail _) n
-- 62
theorem m62 {cf cf' : CallF} {R R' : Rec} (hc : ∀ f l h, le (cf f l h) (cf' f l h)) (hR : ∀ i l h, le (R i l h) (R' i l h)) :
  (∀ (a0 a1 a2 : IV) (h : H), le (t62_0 cf R a0 a1 a2 h) (t62_0 cf' R' a0 a1 a2 h)) ∧
  (∀ (a0 a1 a7 a8 : IV) (h : H), le (t62_1 cf R a0 a1 a7 a8 h) (t62_1 cf' R' a0 a1 a7 a8 h)) := by
  refine ⟨?_, ?_⟩
  all_goals intros
  all_goals first | unfold t62_0 | unfold t62_1
  all_goals
  with_reducible repeat' first
    | refine le_obind fun _ => ?_
    | refine le_callP ?_ (fun _ _ => ?_) (fun _ _ => ?_)
    | refine le_condK ?_ ?_
    | exact hR _ _ _
    | refine le_obind2 fun _ _ => ?_
    | refine le_obindH fun _ => ?_
    | refine le_spanK (fun _ _ _ => ?_) (fun _ _ => ?_)
    | exact hc _ _ _
    | refine le_bif ?_ ?_
    | refine le_guardK ?_ ?_ ?_
    | refine le_mapK fun _ _ => ?_
    | refine le_panK fun _ _ => ?_
    | refine le_funK fun _ _ => ?_
    | exact le_refl _
    | apply_assumption
noncomputable def q62_0p2 (cf : CallF) (R : Rec) (x1 : IV) (x30 : IV) (h31 : H) (a0 : IV) (a1 : IV) : CRes :=
 Qo (Qpk x1 (some (.bool true)) (some x30)) fun x33 =>
 Qif x33
 (.ok (.int .i64 (-1)) h31)
 (R 1 [a0, a1, (.int .i64 0), (.int .i64 0)] h31)
noncomputable def q62_0p1 (cf : CallF) (R : Rec) (x12 : IV) (h13 : H) (a0 : IV) (x7 : IV) (x3 : IV) (x1 : IV) (a1 : IV) : CRes :=
 Qsp x12 true h13 (fun k16 =>
 Qo (Qis a0 (.int .i64 0)) fun x19 =>
 Qo (Qeql x19 (.int .u8 48)) fun x20 =>
 k16 x20 h13) fun x17 h18 =>
 Qsp x7 false h18 (fun k21 =>
 Qo (Qpk x12 (some x17) (some (.bool false))) fun x24 =>
 k21 x24 h18) fun x22 h23 =>
 Qsp x3 true h23 (fun k25 =>
 Qo (Qpk x7 (some (.bool true)) (some x22)) fun x28 =>
 k25 x28 h23) fun x26 h27 =>
 Qsp x1 false h27 (fun k29 =>
 Qo (Qpk x3 (some x26) (some (.bool false))) fun x32 =>
 k29 x32 h27) fun x30 h31 =>
 q62_0p2 cf R x1 x30 h31 a0 a1
noncomputable def q62_0 (cf : CallF) (R : Rec) (a0 : IV) (a1 : IV) (a2 : IV) (h : H) : CRes :=
 Qo (Qse a0 (.str ⟨0, 0⟩)) fun x1 =>
 Qsp x1 false h (fun k2 =>
 Qo (Qnot a2) fun x5 =>
 k2 x5 h) fun x3 h4 =>
 Qsp x3 true h4 (fun k6 =>
 Qo (Qls a0) fun x9 =>
 Qo (Qgtr x9 (.int .i64 10)) fun x10 =>
 k6 x10 h4) fun x7 h8 =>
 Qsp x7 false h8 (fun k11 =>
 Qo (Qls a0) fun x14 =>
 Qo (Qgtr x14 (.int .i64 1)) fun x15 =>
 k11 x15 h8) fun x12 h13 =>
 q62_0p1 cf R x12 h13 a0 x7 x3 x1 a1
theorem qe62_0 : q62_0 = t62_0 := by
  unfold q62_0 q62_0p1 q62_0p2
  try simp only [QE]
  try rfl
noncomputable def q62_1p1 (cf : CallF) (R : Rec) (x40 : IV) (x43 : IV) (a1 : IV) (h38 : H) (a8 : IV) (a0 : IV) : CRes :=
 Qo (Qadd x40 x43) fun x44 =>
 Qo (Qgtr x44 a1) fun x45 =>
 Qif x45
 (.ok (.int .i64 (-1)) h38)
 (Qo (Qadd a8 (.int .i64 1)) fun x46 =>
 R 1 [a0, a1, x44, x46] h38)
noncomputable def q62_1 (cf : CallF) (R : Rec) (a0 : IV) (a1 : IV) (a7 : IV) (a8 : IV) (h : H) : CRes :=
 Qo (Qls a0) fun x34 =>
 Qo (Qlss a8 x34) fun x35 =>
 Qif x35
 (Qo (Qis a0 a8) fun x36 =>
 Qc (cf 41 [x36] h) .pan fun x37 h38 =>
 Qo (Qnot x37) fun x39 =>
 Qif x39
 (.ok (.int .i64 (-1)) h38)
 (Qo (binN .mul (.int .i64 10) a7) fun x40 =>
 Qo (Qis a0 a8) fun x41 =>
 Qo (Qsub x41 (.int .u8 48)) fun x42 =>
 Qo (cvN .i64 x42) fun x43 =>
 q62_1p1 cf R x40 x43 a1 h38 a8 a0))
 (.ok a7 h)
theorem qe62_1 : q62_1 = t62_1 := by
  unfold q62_1 q62_1p1
  try simp only [QE]
  try rfl
noncomputable def bt62 (cf : CallF) (R : Rec) : Rec := fun i l h =>
 br3 i 0 l (fun a0 a1 a2 => t62_0 cf R a0 a1 a2 h) <|
 br4 i 1 l (fun a0 a1 a7 a8 => t62_1 cf R a0 a1 a7 a8 h) <|
 .fail
noncomputable def b62 (cf : CallF) (R : Rec) : Rec := fun i l h =>
 brQ3 i 0 l (fun a0 a1 a2 => q62_0 cf R a0 a1 a2 h) <|
 brQ4 i 1 l (fun a0 a1 a7 a8 => q62_1 cf R a0 a1 a7 a8 h) <|
 .fail
theorem be62 : b62 = bt62 := by
  unfold b62 bt62
  simp only [qe62_0, qe62_1, brQ3_eq, brQ4_eq]
theorem r62 {T : Tab} {cf : CallF} (hc : leC cf (CL T)) (n : Nat) : leR (recN (b62 cf) n) (J62 T) := be62 ▸ recN_le (fun R hR i l h => by
  unfold bt62
  refine le_br3 (J := fun i l => J62 T i l h) (fun _ a0 a1 a2 => le_e (fun hn => e62_0 rfl hn) ((m62 hc hR).1 a0 a1 a2 h)) ?_
  refine le_br4 (J := fun i l => J62 T i l h) (fun _ a0 a1 a7 a8 => le_e (fun hn => e62_1 rfl hn) ((m62 hc hR).2 a0 a1 a7 a8 h)) ?_
  exact le_fail _) n
-- 63
theorem m63 {cf cf' : CallF} {R R' : Rec} (hc : ∀ f l h, le (cf f l h) (cf' f l h)) (hR : ∀ i l h, le (R i l h) (R' i l h)) :
  (∀ (a0 a1 : IV) (h : H), le (t63_0 cf R a0 a1 h) (t63_0 cf' R' a0 a1 h)) ∧
  (∀ (a0 a5 a6 : IV) (h : H), le (t63_1 cf R a0 a5 a6 h) (t63_1 cf' R' a0 a5 a6 h)) := by
  refine ⟨?_, ?_⟩
  all_goals intros
  all_goals first | unfold t63_0 | unfold t63_1
  all_goals
  with_reducible repeat' first
    | refine le_obind fun _ => ?_
    | refine le_callP ?_ (fun _ _ => ?_) (fun _ _ => ?_)
    | refine le_condK ?_ ?_
    | exact hR _ _ _
    | refine le_obind2 fun _ _ => ?_
    | refine le_obindH fun _ => ?_
    | refine le_spanK (fun _ _ _ => ?_) (fun _ _ => ?_)
    | exact hc _ _ _
    | refine le_bif ?_ ?_
    | refine le_guardK ?_ ?_ ?_
    | refine le_mapK fun _ _ => ?_
    | refine le_panK fun _ _ => ?_
    | refine le_funK fun _ _ => ?_
    | exact le_refl _
    | apply_assumption
noncomputable def q63_0 (cf : CallF) (R : Rec) (a0 : IV) (a1 : IV) (h : H) : CRes :=
 Qo2 (mksK 1 1 [(.int .u8 0)] h a1 a1) fun x1 h2 =>
 Qo (Qsub a1 (.int .i64 1)) fun x3 =>
 R 1 [a0, x1, x3] h2
theorem qe63_0 : q63_0 = t63_0 := by
  unfold q63_0
  try simp only [QE]
  try rfl
noncomputable def q63_1p1 (cf : CallF) (R : Rec) (h : H) (x8 : IV) (x7 : IV) (a0 : IV) (a6 : IV) (a5 : IV) : CRes :=
 QoH (QsA 1 h x8 x7) fun h9 =>
 Qo (binN .quo a0 (.int .i64 2)) fun x10 =>
 Qo (Qsub a6 (.int .i64 1)) fun x11 =>
 R 1 [x10, a5, x11] h9
noncomputable def q63_1 (cf : CallF) (R : Rec) (a0 : IV) (a5 : IV) (a6 : IV) (h : H) : CRes :=
 Qo (Qgeq a6 (.int .i64 0)) fun x4 =>
 Qif x4
 (Qo (binN .rem a0 (.int .i64 2)) fun x5 =>
 Qo (Qadd (.int .i64 48) x5) fun x6 =>
 Qo (cvN .u8 x6) fun x7 =>
 Qo (Qix 1 a5 a6) fun x8 =>
 q63_1p1 cf R h x8 x7 a0 a6 a5)
 (Qo (cvS h a5) fun x12 =>
 .ok x12 h)
theorem qe63_1 : q63_1 = t63_1 := by
  unfold q63_1 q63_1p1
  try simp only [QE]
  try rfl
noncomputable def bt63 (cf : CallF) (R : Rec) : Rec := fun i l h =>
 br2 i 0 l (fun a0 a1 => t63_0 cf R a0 a1 h) <|
 br3 i 1 l (fun a0 a5 a6 => t63_1 cf R a0 a5 a6 h) <|
 .fail
noncomputable def b63 (cf : CallF) (R : Rec) : Rec := fun i l h =>
 brQ2 i 0 l (fun a0 a1 => q63_0 cf R a0 a1 h) <|
 brQ3 i 1 l (fun a0 a5 a6 => q63_1 cf R a0 a5 a6 h) <|
 .fail
theorem be63 : b63 = bt63 := by
  unfold b63 bt63
  simp only [qe63_0, qe63_1, brQ2_eq, brQ3_eq]
theorem r63 {T : Tab} {cf : CallF} (hc : leC cf (CL T)) (n : Nat) : leR (recN (b63 cf) n) (J63 T) := be63 ▸ recN_le (fun R hR i l h => by
  unfold bt63
  refine le_br2 (J := fun i l => J63 T i l h) (fun _ a0 a1 => le_e (fun hn => e63_0 rfl hn) ((m63 hc hR).1 a0 a1 h)) ?_
  refine le_br3 (J := fun i l => J63 T i l h) (fun _ a0 a5 a6 => le_e (fun hn => e63_1 rfl hn) ((m63 hc hR).2 a0 a5 a6 h)) ?_
  exact le_fail _) n
-- 64
theorem m64 {cf cf' : CallF} {R R' : Rec} (hc : ∀ f l h, le (cf f l h) (cf' f l h)) (hR : ∀ i l h, le (R i l h) (R' i l h)) :
  (∀ (a0 a1 : IV) (h : H), le (t64_0 cf R a0 a1 h) (t64_0 cf' R' a0 a1 h)) ∧
  (∀ (a0 a1 a6 a7 : IV) (h : H), le (t64_1 cf R a0 a1 a6 a7 h) (t64_1 cf' R' a0 a1 a6 a7 h)) ∧
  (∀ (a0 a1 a6 a7 a8 : IV) (h : H), le (t64_2 cf R a0 a1 a6 a7 a8 h) (t64_2 cf' R' a0 a1 a6 a7 a8 h)) := by
  refine ⟨?_, ?_, ?_⟩
  all_goals intros
  all_goals first | unfold t64_0 | unfold t64_1 | unfold t64_2
  all_goals
  with_reducible repeat' first
    | refine le_obind fun _ => ?_
    | refine le_callP ?_ (fun _ _ => ?_) (fun _ _ => ?_)
    | refine le_condK ?_ ?_
    | exact hR _ _ _
    | refine le_obind2 fun _ _ => ?_
    | refine le_obindH fun _ => ?_
    | refine le_spanK (fun _ _ _ => ?_) (fun _ _ => ?_)
    | exact hc _ _ _
    | refine le_bif ?_ ?_
    | refine le_guardK ?_ ?_ ?_
    | refine le_mapK fun _ _ => ?_
    | refine le_panK fun _ _ => ?_
    | refine le_funK fun _ _ => ?_
    | exact le_refl _
    | apply_assumption
noncomputable def q64_0 (cf : CallF) (R : Rec) (a0 : IV) (a1 : IV) (h : H) : CRes :=
 Qo (Qse a1 (.str ⟨0, 0⟩)) fun x1 =>
 Qif x1
 (.ok (.str ⟨0, 0⟩) h)
 (Qo (Qeql a0 (.int .u8 100)) fun x2 =>
 Qif x2
 (Qc (cf 62 [a1, (.int .i64 2147483647), (.bool true)] h) .pan fun x3 h4 =>
 Qo (Qlss x3 (.int .i64 0)) fun x5 =>
 Qif x5
 (.ok (.str ⟨0, 0⟩) h4)
 (Qc (cf 63 [x3, (.int .i64 31)] h4) .pan fun x6 h7 =>
 .ok x6 h7))
 (R 1 [a0, a1, .nilSlice, (.int .i64 0)] h))
theorem qe64_0 : q64_0 = t64_0 := by
  unfold q64_0
  try simp only [QE]
  try rfl
noncomputable def q64_1p2 (cf : CallF) (R : Rec) (x33 : IV) (h30 : H) (a7 : IV) (a1 : IV) (a0 : IV) (a6 : IV) : CRes :=
 Qif x33
 (.ok (.str ⟨0, 0⟩) h30)
 (Qo (Qadd a7 (.int .i64 1)) fun x34 =>
 Qo (slcStr a1 (some a7) (some x34)) fun x35 =>
 R 2 [a0, a1, a6, a7, x35] h30)
noncomputable def q64_1p1 (cf : CallF) (R : Rec) (x21 : IV) (h18 : H) (a1 : IV) (a7 : IV) (a0 : IV) (a6 : IV) : CRes :=
 Qsp x21 true h18 (fun k22 =>
 Qo (Qis a1 a7) fun x25 =>
 Qo (Qneq x25 (.int .u8 120)) fun x26 =>
 k22 x26 h18) fun x23 h24 =>
 Qo (Qpk x21 (some x23) (some (.bool false))) fun x27 =>
 Qsp x27 true h24 (fun k28 =>
 Qo (Qis a1 a7) fun x31 =>
 Qo (Qneq x31 (.int .u8 122)) fun x32 =>
 k28 x32 h24) fun x29 h30 =>
 Qo (Qpk x27 (some x29) (some (.bool false))) fun x33 =>
 q64_1p2 cf R x33 h30 a7 a1 a0 a6
noncomputable def q64_1 (cf : CallF) (R : Rec) (a0 : IV) (a1 : IV) (a6 : IV) (a7 : IV) (h : H) : CRes :=
 Qo (Qls a1) fun x8 =>
 Qo (Qlss a7 x8) fun x9 =>
 Qif x9
 (Qo (Qis a1 a7) fun x10 =>
 Qc (cf 84 [x10] h) .pan fun x11 h12 =>
 Qo (Qeql a0 (.int .u8 98)) fun x13 =>
 Qif x13
 (Qo (Qis a1 a7) fun x14 =>
 Qo (Qneq x14 (.int .u8 48)) fun x15 =>
 Qsp x15 true h12 (fun k16 =>
 Qo (Qis a1 a7) fun x19 =>
 Qo (Qneq x19 (.int .u8 49)) fun x20 =>
 k16 x20 h12) fun x17 h18 =>
 Qo (Qpk x15 (some x17) (some (.bool false))) fun x21 =>
 q64_1p1 cf R x21 h18 a1 a7 a0 a6)
 (R 2 [a0, a1, a6, a7, x11] h12))
 (Qo (cvS h a6) fun x36 =>
 .ok x36 h)
theorem qe64_1 : q64_1 = t64_1 := by
  unfold q64_1 q64_1p1 q64_1p2
  try simp only [QE]
  try rfl
noncomputable def q64_2p1 (cf : CallF) (R : Rec) (x37 : IV) (x47 : IV) (h48 : H) (a6 : IV) (a8 : IV) (a7 : IV) (a0 : IV) (a1 : IV) : CRes :=
 Qo (Qpk x37 (some (.bool true)) (some x47)) fun x50 =>
 Qif x50
 (.ok (.str ⟨0, 0⟩) h48)
 (Qo2 (appK 1 1 h48 a6 a8) fun x51 h52 =>
 Qo (Qadd a7 (.int .i64 1)) fun x53 =>
 R 1 [a0, a1, x51, x53] h52)
noncomputable def q64_2 (cf : CallF) (R : Rec) (a0 : IV) (a1 : IV) (a6 : IV) (a7 : IV) (a8 : IV) (h : H) : CRes :=
 Qo (Qse a8 (.str ⟨0, 0⟩)) fun x37 =>
 Qsp x37 false h (fun k38 =>
 Qo (Qneq a0 (.int .u8 98)) fun x41 =>
 k38 x41 h) fun x39 h40 =>
 Qsp x39 true h40 (fun k42 =>
 Qo (Qneq a0 (.int .u8 104)) fun x45 =>
 k42 x45 h40) fun x43 h44 =>
 Qsp x37 false h44 (fun k46 =>
 Qo (Qpk x39 (some x43) (some (.bool false))) fun x49 =>
 k46 x49 h44) fun x47 h48 =>
 q64_2p1 cf R x37 x47 h48 a6 a8 a7 a0 a1
theorem qe64_2 : q64_2 = t64_2 := by
  unfold q64_2 q64_2p1
  try simp only [QE]
  try rfl
noncomputable def bt64 (cf : CallF) (R : Rec) : Rec := fun i l h =>
 br2 i 0 l (fun a0 a1 => t64_0 cf R a0 a1 h) <|
 br4 i 1 l (fun a0 a1 a6 a7 => t64_1 cf R a0 a1 a6 a7 h) <|
 br5 i 2 l (fun a0 a1 a6 a7 a8 => t64_2 cf R a0 a1 a6 a7 a8 h) <|
 .fail
noncomputable def b64 (cf : CallF) (R : Rec) : Rec := fun i l h =>
 brQ2 i 0 l (fun a0 a1 => q64_0 cf R a0 a1 h) <|
 brQ4 i 1 l (fun a0 a1 a6 a7 => q64_1 cf R a0 a1 a6 a7 h) <|
 brQ5 i 2 l (fun a0 a1 a6 a7 a8 => q64_2 cf R a0 a1 a6 a7 a8 h) <|
 .fail
theorem be64 : b64 = bt64 := by
  unfold b64 bt64
  simp only [qe64_0, qe64_1, qe64_2, brQ2_eq, brQ4_eq, brQ5_eq]
theorem r64 {T : Tab} {cf : CallF} (hc : leC cf (CL T)) (n : Nat) : leR (recN (b64 cf) n) (J64 T) := be64 ▸ recN_le (fun R hR i l h => by
  unfold bt64
  refine le_br2 (J := fun i l => J64 T i l h) (fun _ a0 a1 => le_e (fun hn => e64_0 rfl hn) ((m64 hc hR).1 a0 a1 h)) ?_
  refine le_br4 (J := fun i l => J64 T i l h) (fun _ a0 a1 a6 a7 => le_e (fun hn => e64_1 rfl hn) ((m64 hc hR).2.1 a0 a1 a6 a7 h)) ?_
  refine le_br5 (J := fun i l => J64 T i l h) (fun _ a0 a1 a6 a7 a8 => le_e (fun hn => e64_2 rfl hn) ((m64 hc hR).2.2 a0 a1 a6 a7 a8 h)) ?_
  exact le_fail _) n
-- 65
theorem m65 {cf cf' : CallF} {R R' : Rec} (hc : ∀ f l h, le (cf f l h) (cf' f l h)) (hR : ∀ i l h, le (R i l h) (R' i l h)) :
  (∀ (a0 a1 : IV) (h : H), le (t65_0 cf R a0 a1 h) (t65_0 cf' R' a0 a1 h)) ∧
  (∀ (a0 a1 a5 a6 : IV) (h : H), le (t65_1 cf R a0 a1 a5 a6 h) (t65_1 cf' R' a0 a1 a5 a6 h)) := by
  refine ⟨?_, ?_⟩
  all_goals intros
  all_goals first | unfold t65_0 | unfold t65_1
  all_goals
  with_reducible repeat' first
    | refine le_obind fun _ => ?_
    | refine le_callP ?_ (fun _ _ => ?_) (fun _ _ => ?_)
    | refine le_condK ?_ ?_
    | exact hR _ _ _
    | refine le_obind2 fun _ _ => ?_
    | refine le_obindH fun _ => ?_
    | refine le_spanK (fun _ _ _ => ?_) (fun _ _ => ?_)
    | exact hc _ _ _
    | refine le_bif ?_ ?_
    | refine le_guardK ?_ ?_ ?_
    | refine le_mapK fun _ _ => ?_
    | refine le_panK fun _ _ => ?_
    | refine le_funK fun _ _ => ?_
    | exact le_refl _
    | apply_assumption
noncomputable def q65_0 (cf : CallF) (R : Rec) (a0 : IV) (a1 : IV) (h : H) : CRes :=
 Qo2 (mksK 1 1 [(.int .u8 0)] h a1 a1) fun x1 h2 =>
 R 1 [a0, a1, x1, (.int .i64 0)] h2
theorem qe65_0 : q65_0 = t65_0 := by
  unfold q65_0
  try simp only [QE]
  try rfl
noncomputable def q65_1 (cf : CallF) (R : Rec) (a0 : IV) (a1 : IV) (a5 : IV) (a6 : IV) (h : H) : CRes :=
 Qo (Qlss a6 a1) fun x3 =>
 Qif x3
 (Qo (Qix 1 a5 a6) fun x4 =>
 QoH (QsA 1 h x4 a0) fun h5 =>
 Qo (Qadd a6 (.int .i64 1)) fun x6 =>
 R 1 [a0, a1, a5, x6] h5)
 (Qo (cvS h a5) fun x7 =>
 .ok x7 h)
theorem qe65_1 : q65_1 = t65_1 := by
  unfold q65_1
  try simp only [QE]
  try rfl
noncomputable def bt65 (cf : CallF) (R : Rec) : Rec := fun i l h =>
 br2 i 0 l (fun a0 a1 => t65_0 cf R a0 a1 h) <|
 br4 i 1 l (fun a0 a1 a5 a6 => t65_1 cf R a0 a1 a5 a6 h) <|
 .fail
noncomputable def b65 (cf : CallF) (R : Rec) : Rec := fun i l h =>
 brQ2 i 0 l (fun a0 a1 => q65_0 cf R a0 a1 h) <|
 brQ4 i 1 l (fun a0 a1 a5 a6 => q65_1 cf R a0 a1 a5 a6 h) <|
 .fail
theorem be65 : b65 = bt65 := by
  unfold b65 bt65
  simp only [qe65_0, qe65_1, brQ2_eq, brQ4_eq]
theorem r65 {T : Tab} {cf : CallF} (hc : leC cf (CL T)) (n : Nat) : leR (recN (b65 cf) n) (J65 T) := be65 ▸ recN_le (fun R hR i l h => by
  unfold bt65
  refine le_br2 (J := fun i l => J65 T i l h) (fun _ a0 a1 => le_e (fun hn => e65_0 rfl hn) ((m65 hc hR).1 a0 a1 h)) ?_
  refine le_br4 (J := fun i l => J65 T i l h) (fun _ a0 a1 a5 a6 => le_e (fun hn => e65_1 rfl hn) ((m65 hc hR).2 a0 a1 a5 a6 h)) ?_
  exact le_fail _) n
-- 66
theorem m66 {cf cf' : CallF} {R R' : Rec} (hc : ∀ f l h, le (cf f l h) (cf' f l h)) (hR : ∀ i l h, le (R i l h) (R' i l h)) : (∀ (a0 a1 : IV) (h : H), le (t66_0 cf R a0 a1 h) (t66_0 cf' R' a0 a1 h)) := by
  intros
  unfold t66_0
  with_reducible repeat' first
    | refine le_obind fun _ => ?_
    | refine le_callP ?_ (fun _ _ => ?_) (fun _ _ => ?_)
    | refine le_condK ?_ ?_
    | exact hR _ _ _
    | refine le_obind2 fun _ _ => ?_
    | refine le_obindH fun _ => ?_
    | refine le_spanK (fun _ _ _ => ?_) (fun _ _ => ?_)
    | exact hc _ _ _
    | refine le_bif ?_ ?_
    | refine le_guardK ?_ ?_ ?_
    | refine le_mapK fun _ _ => ?_
    | refine le_panK fun _ _ => ?_
    | refine le_funK fun _ _ => ?_
    | exact le_refl _
    | apply_assumption
noncomputable def q66_0 (cf : CallF) (R : Rec) (a0 : IV) (a1 : IV) (h : H) : CRes :=
 Qo (Qls a0) fun x1 =>
 Qo (Qgeq x1 a1) fun x2 =>
 Qif x2
 (Qo (Qls a0) fun x3 =>
 Qo (Qsub x3 a1) fun x4 =>
 Qo (slcStr a0 (some x4) none) fun x5 =>
 .ok x5 h)
 (Qo (Qls a0) fun x6 =>
 Qo (Qsub a1 x6) fun x7 =>
 Qc (cf 65 [(.int .u8 48), x7] h) .pan fun x8 h9 =>
 Qo (binS .add x8 a0) fun x10 =>
 .ok x10 h9)
theorem qe66_0 : q66_0 = t66_0 := by
  unfold q66_0
  try simp only [QE]
  try rfl
noncomputable def bt66 (cf : CallF) (R : Rec) : Rec := fun i l h =>
 br2 i 0 l (fun a0 a1 => t66_0 cf R a0 a1 h) <|
 .fail
noncomputable def b66 (cf : CallF) (R : Rec) : Rec := fun i l h =>
 brQ2 i 0 l (fun a0 a1 => q66_0 cf R a0 a1 h) <|
 .fail
theorem be66 : b66 = bt66 := by
  unfold b66 bt66
  simp only [qe66_0, brQ2_eq]
theorem r66 {T : Tab} {cf : CallF} (hc : leC cf (CL T)) (n : Nat) : leR (recN (b66 cf) n) (J66 T) := be66 ▸ recN_le (fun R hR i l h => by
  unfold bt66
  refine le_br2 (J := fun i l => J66 T i l h) (fun _ a0 a1 => le_e (fun hn => e66_0 rfl hn) ((m66 hc hR) a0 a1 h)) ?_
  exact le_fail _) n
-- 67
theorem m67 {cf cf' : CallF} {R R' : Rec} (hc : ∀ f l h, le (cf f l h) (cf' f l h)) (hR : ∀ i l h, le (R i l h) (R' i l h)) : (∀ (a0 a1 : IV) (h : H), le (t67_0 cf R a0 a1 h) (t67_0 cf' R' a0 a1 h)) := by
  intros
  unfold t67_0
  with_reducible repeat' first
    | refine le_obind fun _ => ?_
    | refine le_callP ?_ (fun _ _ => ?_) (fun _ _ => ?_)
    | refine le_condK ?_ ?_
    | exact hR _ _ _
    | refine le_obind2 fun _ _ => ?_
    | refine le_obindH fun _ => ?_
    | refine le_spanK (fun _ _ _ => ?_) (fun _ _ => ?_)
    | exact hc _ _ _
    | refine le_bif ?_ ?_
    | refine le_guardK ?_ ?_ ?_
    | refine le_mapK fun _ _ => ?_
    | refine le_panK fun _ _ => ?_
    | refine le_funK fun _ _ => ?_
    | exact le_refl _
    | apply_assumption
noncomputable def q67_0p2 (cf : CallF) (R : Rec) (h2 : H) (x10 : IV) (a1 : IV) (a0 : IV) : CRes :=
 Qo (Ql0 h2 x10) fun x11 =>
 Qo (Qbld [(.int .i64 0), (.int .i64 0)] [(0, 1), (1, 1)] [(0, x11), (1, a1)]) fun x12 =>
 Qo (Qnil a0) fun x13 =>
 Qo (Qfad 2 x13) fun x14 =>
 QoH (QsA 2 h2 x14 x12) fun h15 =>
 .ok (.tup []) h15
noncomputable def q67_0p1 (cf : CallF) (R : Rec) (x6 : IV) (h2 : H) (x5 : IV) (a1 : IV) (a0 : IV) : CRes :=
 Qo (Qfad 1 x6) fun x7 =>
 Qo (Ql0 h2 x7) fun x8 =>
 Qo (Qix 3 x5 x8) fun x9 =>
 Qo (Qfad 2 x9) fun x10 =>
 q67_0p2 cf R h2 x10 a1 a0
noncomputable def q67_0 (cf : CallF) (R : Rec) (a0 : IV) (a1 : IV) (h : H) : CRes :=
 Qc (cf 31 [a0] h) .pan fun x1 h2 =>
 Qif x1
 (Qo (Qnil a0) fun x3 =>
 Qo (Qfad 0 x3) fun x4 =>
 Qo (Ql0 h2 x4) fun x5 =>
 Qo (Qnil a0) fun x6 =>
 q67_0p1 cf R x6 h2 x5 a1 a0)
 (.ok (.tup []) h2)
theorem qe67_0 : q67_0 = t67_0 := by
  unfold q67_0 q67_0p1 q67_0p2
  try simp only [QE]
  try rfl
noncomputable def bt67 (cf : CallF) (R : Rec) : Rec := fun i l h =>
 br2 i 0 l (fun a0 a1 => t67_0 cf R a0 a1 h) <|
 .fail
noncomputable def b67 (cf : CallF) (R : Rec) : Rec := fun i l h =>
 brQ2 i 0 l (fun a0 a1 => q67_0 cf R a0 a1 h) <|
 .fail
theorem be67 : b67 = bt67 := by
  unfold b67 bt67
  simp only [qe67_0, brQ2_eq]
theorem r67 {T : Tab} {cf : CallF} (hc : leC cf (CL T)) (n : Nat) : leR (recN (b67 cf) n) (J67 T) := be67 ▸ recN_le (fun R hR i l h => by
  unfold bt67
  refine le_br2 (J := fun i l => J67 T i l h) (fun _ a0 a1 => le_e (fun hn => e67_0 rfl hn) ((m67 hc hR) a0 a1 h)) ?_
  exact le_fail _) n

end Go.Proofs.Ytgmajopnflfcdaa
