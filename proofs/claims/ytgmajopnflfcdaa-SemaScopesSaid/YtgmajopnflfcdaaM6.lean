/- M6: Printed by run.py (own tool): the runs of closed calls, by each function's words. Law07: the table; awake by a closed run. Law07: the sign at a place, told quickly. Law: tables of functions of one text, held by closed runs; the table of what is told by hand. Law07: SemaWays and SemaScopes: what the numbers come to, ahead of the runs. -/
import Derived.Test.YtgmajopnflfcdaaM5
import Derived.Test.YtgmajopnflfcdaaM3
namespace Go.Proofs.Ytgmajopnflfcdaa
open Go I
set_option linter.unusedVariables false
set_option maxRecDepth 100000

-- 68
theorem m68 {cf cf' : CallF} {R R' : Rec} (hc : ∀ f l h, le (cf f l h) (cf' f l h)) (hR : ∀ i l h, le (R i l h) (R' i l h)) : (∀ (a0 : IV) (h : H), le (t68_0 cf R a0 h) (t68_0 cf' R' a0 h)) := by
  intros
  unfold t68_0
  with_reducible repeat' first
    | refine le_obind fun _ => ?_
    | refine le_callP ?_ (fun _ _ => ?_) (fun _ _ => ?_)
    | refine le_condK ?_ ?_
    | exact hR _ _ _
    | refine le_obind2 fun _ _ => ?_
    | refine le_obindH fun _ => ?_
    | refine le_spanK (fun _ _ _ => ?_) (fun _ _ => ?_)
    | exact hc _ _ _
    | refine le_bif ?_ ?_
    | refine le_guardK ?_ ?_ ?_
    | refine le_mapK fun _ _ => ?_
    | refine le_panK fun _ _ => ?_
    | refine le_funK fun _ _ => ?_
    | exact le_refl _
    | apply_assumption
noncomputable def q68_0p3 (cf : CallF) (R : Rec) (x23 : IV) (h19 : H) (x9 : IV) : CRes :=
 Qsp x23 true h19 (fun k24 =>
 Qo (Qfad 1 x9) fun x27 =>
 Qo (Ql0 h19 x27) fun x28 =>
 Qc (cf 85 [x28] h19) .pan fun x29 h30 =>
 Qo (Qnot x29) fun x31 =>
 k24 x31 h30) fun x25 h26 =>
 Qo (Qpk x23 (some x25) (some (.bool false))) fun x32 =>
 .ok x32 h26
noncomputable def q68_0p2 (cf : CallF) (R : Rec) (h : H) (x7 : IV) (x8 : IV) (x5 : IV) (x6 : IV) (x2 : IV) (x3 : IV) (a0 : IV) : CRes :=
 Qo2 (QnI h z1) fun x9 h10 =>
 Qo (QlA 3 h10 x7) fun x11 =>
 bif IV.beq x11 x8 then
 Qo (Ql0 h10 x5) fun x12 =>
 bif IV.beq x12 x6 then
 Qo (Ql0 h10 x2) fun x13 =>
 bif IV.beq x13 x3 then
 QoH (QsA 3 h10 x9 x8) fun h14 =>
 Qc (cf 31 [a0] h14) .pan fun x15 h16 =>
 Qsp x15 true h16 (fun k17 =>
 Qo (Qfad 0 x9) fun x20 =>
 Qo (Ql0 h16 x20) fun x21 =>
 Qo (Qeql x21 (.int .i64 1)) fun x22 =>
 k17 x22 h16) fun x18 h19 =>
 Qo (Qpk x15 (some x18) (some (.bool false))) fun x23 =>
 q68_0p3 cf R x23 h19 x9
 else .fail
 else .fail
 else .fail
noncomputable def q68_0p1 (cf : CallF) (R : Rec) (x4 : IV) (h : H) (x3 : IV) (x2 : IV) (a0 : IV) : CRes :=
 Qo (Qfad 1 x4) fun x5 =>
 Qo (Ql0 h x5) fun x6 =>
 Qo (Qix 3 x3 x6) fun x7 =>
 Qo (QlA 3 h x7) fun x8 =>
 q68_0p2 cf R h x7 x8 x5 x6 x2 x3 a0
noncomputable def q68_0 (cf : CallF) (R : Rec) (a0 : IV) (h : H) : CRes :=
 Qo (Qnil a0) fun x1 =>
 Qo (Qfad 0 x1) fun x2 =>
 Qo (Ql0 h x2) fun x3 =>
 Qo (Qnil a0) fun x4 =>
 q68_0p1 cf R x4 h x3 x2 a0
theorem qe68_0 : q68_0 = t68_0 := by
  unfold q68_0 q68_0p1 q68_0p2 q68_0p3
  try simp only [QE]
  try rfl
noncomputable def bt68 (cf : CallF) (R : Rec) : Rec := fun i l h =>
 br1 i 0 l (fun a0 => t68_0 cf R a0 h) <|
 .fail
noncomputable def b68 (cf : CallF) (R : Rec) : Rec := fun i l h =>
 brQ1 i 0 l (fun a0 => q68_0 cf R a0 h) <|
 .fail
theorem be68 : b68 = bt68 := by
  unfold b68 bt68
  simp only [qe68_0, brQ1_eq]
theorem r68 {T : Tab} {cf : CallF} (hc : leC cf (CL T)) (n : Nat) : leR (recN (b68 cf) n) (J68 T) := be68 ▸ recN_le (fun R hR i l h => by
  unfold bt68
  refine le_br1 (J := fun i l => J68 T i l h) (fun _ a0 => le_e (fun hn => e68_0 rfl hn) ((m68 hc hR) a0 h)) ?_
  exact le_fail _) n
-- 69
theorem m69 {cf cf' : CallF} {R R' : Rec} (hc : ∀ f l h, le (cf f l h) (cf' f l h)) (hR : ∀ i l h, le (R i l h) (R' i l h)) : (∀ (a0 a1 : IV) (h : H), le (t69_0 cf R a0 a1 h) (t69_0 cf' R' a0 a1 h)) := by
  intros
  unfold t69_0
  with_reducible repeat' first
    | refine le_obind fun _ => ?_
    | refine le_callP ?_ (fun _ _ => ?_) (fun _ _ => ?_)
    | refine le_condK ?_ ?_
    | exact hR _ _ _
    | refine le_obind2 fun _ _ => ?_
    | refine le_obindH fun _ => ?_
    | refine le_spanK (fun _ _ _ => ?_) (fun _ _ => ?_)
    | exact hc _ _ _
    | refine le_bif ?_ ?_
    | refine le_guardK ?_ ?_ ?_
    | refine le_mapK fun _ _ => ?_
    | refine le_panK fun _ _ => ?_
    | refine le_funK fun _ _ => ?_
    | exact le_refl _
    | apply_assumption
noncomputable def q69_0p4 (cf : CallF) (R : Rec) (x23 : IV) (h43 : H) (x25 : IV) (x42 : IV) : CRes :=
 Qsp x23 true h43 (fun k45 =>
 Qo (Qpk x25 (some (.bool true)) (some x42)) fun x48 =>
 k45 x48 h43) fun x46 h47 =>
 Qo (Qpk x23 (some x46) (some (.bool false))) fun x49 =>
 .ok x49 h47
noncomputable def q69_0p3 (cf : CallF) (R : Rec) (x23 : IV) (h19 : H) (x9 : IV) (a1 : IV) : CRes :=
 Qsp x23 true h19 (fun k24 =>
 Qo (Qfad 0 x9) fun x27 =>
 Qo (Ql0 h19 x27) fun x28 =>
 Qo (Qeql x28 (.int .i64 3)) fun x29 =>
 k24 x29 h19) fun x25 h26 =>
 Qsp x25 false h26 (fun k30 =>
 Qo (Qfad 0 x9) fun x33 =>
 Qo (Ql0 h26 x33) fun x34 =>
 Qo (Qeql x34 (.int .i64 1)) fun x35 =>
 k30 x35 h26) fun x31 h32 =>
 Qsp x31 true h32 (fun k36 =>
 Qc (cf 85 [a1] h32) .pan fun x39 h40 =>
 k36 x39 h40) fun x37 h38 =>
 Qsp x25 false h38 (fun k41 =>
 Qo (Qpk x31 (some x37) (some (.bool false))) fun x44 =>
 k41 x44 h38) fun x42 h43 =>
 q69_0p4 cf R x23 h43 x25 x42
noncomputable def q69_0p2 (cf : CallF) (R : Rec) (h : H) (x7 : IV) (x8 : IV) (x5 : IV) (x6 : IV) (x2 : IV) (x3 : IV) (a0 : IV) (a1 : IV) : CRes :=
 Qo2 (QnI h z1) fun x9 h10 =>
 Qo (QlA 3 h10 x7) fun x11 =>
 bif IV.beq x11 x8 then
 Qo (Ql0 h10 x5) fun x12 =>
 bif IV.beq x12 x6 then
 Qo (Ql0 h10 x2) fun x13 =>
 bif IV.beq x13 x3 then
 QoH (QsA 3 h10 x9 x8) fun h14 =>
 Qc (cf 31 [a0] h14) .pan fun x15 h16 =>
 Qsp x15 true h16 (fun k17 =>
 Qo (Qfad 1 x9) fun x20 =>
 Qo (Ql0 h16 x20) fun x21 =>
 Qo (Qse x21 a1) fun x22 =>
 k17 x22 h16) fun x18 h19 =>
 Qo (Qpk x15 (some x18) (some (.bool false))) fun x23 =>
 q69_0p3 cf R x23 h19 x9 a1
 else .fail
 else .fail
 else .fail
noncomputable def q69_0p1 (cf : CallF) (R : Rec) (x4 : IV) (h : H) (x3 : IV) (x2 : IV) (a0 : IV) (a1 : IV) : CRes :=
 Qo (Qfad 1 x4) fun x5 =>
 Qo (Ql0 h x5) fun x6 =>
 Qo (Qix 3 x3 x6) fun x7 =>
 Qo (QlA 3 h x7) fun x8 =>
 q69_0p2 cf R h x7 x8 x5 x6 x2 x3 a0 a1
noncomputable def q69_0 (cf : CallF) (R : Rec) (a0 : IV) (a1 : IV) (h : H) : CRes :=
 Qo (Qnil a0) fun x1 =>
 Qo (Qfad 0 x1) fun x2 =>
 Qo (Ql0 h x2) fun x3 =>
 Qo (Qnil a0) fun x4 =>
 q69_0p1 cf R x4 h x3 x2 a0 a1
theorem qe69_0 : q69_0 = t69_0 := by
  unfold q69_0 q69_0p1 q69_0p2 q69_0p3 q69_0p4
  try simp only [QE]
  try rfl
noncomputable def bt69 (cf : CallF) (R : Rec) : Rec := fun i l h =>
 br2 i 0 l (fun a0 a1 => t69_0 cf R a0 a1 h) <|
 .fail
noncomputable def b69 (cf : CallF) (R : Rec) : Rec := fun i l h =>
 brQ2 i 0 l (fun a0 a1 => q69_0 cf R a0 a1 h) <|
 .fail
theorem be69 : b69 = bt69 := by
  unfold b69 bt69
  simp only [qe69_0, brQ2_eq]
theorem r69 {T : Tab} {cf : CallF} (hc : leC cf (CL T)) (n : Nat) : leR (recN (b69 cf) n) (J69 T) := be69 ▸ recN_le (fun R hR i l h => by
  unfold bt69
  refine le_br2 (J := fun i l => J69 T i l h) (fun _ a0 a1 => le_e (fun hn => e69_0 rfl hn) ((m69 hc hR) a0 a1 h)) ?_
  exact le_fail _) n
-- 70
theorem m70 {cf cf' : CallF} {R R' : Rec} (hc : ∀ f l h, le (cf f l h) (cf' f l h)) (hR : ∀ i l h, le (R i l h) (R' i l h)) :
  (∀ (a0 a1 : IV) (h : H), le (t70_0 cf R a0 a1 h) (t70_0 cf' R' a0 a1 h)) ∧
  (∀ (a0 a1 a4 : IV) (h : H), le (t70_1 cf R a0 a1 a4 h) (t70_1 cf' R' a0 a1 a4 h)) ∧
  (∀ (a0 a1 a4 : IV) (h : H), le (t70_2 cf R a0 a1 a4 h) (t70_2 cf' R' a0 a1 a4 h)) := by
  refine ⟨?_, ?_, ?_⟩
  all_goals intros
  all_goals first | unfold t70_0 | unfold t70_1 | unfold t70_2
  all_goals
  with_reducible repeat' first
    | refine le_obind fun _ => ?_
    | refine le_callP ?_ (fun _ _ => ?_) (fun _ _ => ?_)
    | refine le_condK ?_ ?_
    | exact hR _ _ _
    | refine le_obind2 fun _ _ => ?_
    | refine le_obindH fun _ => ?_
    | refine le_spanK (fun _ _ _ => ?_) (fun _ _ => ?_)
    | exact hc _ _ _
    | refine le_bif ?_ ?_
    | refine le_guardK ?_ ?_ ?_
    | refine le_mapK fun _ _ => ?_
    | refine le_panK fun _ _ => ?_
    | refine le_funK fun _ _ => ?_
    | exact le_refl _
    | apply_assumption
noncomputable def q70_0p1 (cf : CallF) (R : Rec) (x11 : IV) (a0 : IV) (h7 : H) (a1 : IV) (x1 : IV) : CRes :=
 Qif x11
 (Qc (cf 67 [a0, (.int .i64 40)] h7) .pan fun x12 h13 =>
 R 1 [a0, a1, x1] h13)
 (R 1 [a0, a1, x1] h7)
noncomputable def q70_0 (cf : CallF) (R : Rec) (a0 : IV) (a1 : IV) (h : H) : CRes :=
 Qo2 (QnI h z11) fun x1 h2 =>
 Qc (cf 31 [a0] h2) .pan fun x3 h4 =>
 Qsp x3 true h4 (fun k5 =>
 Qc (cf 86 [a0] h4) .pan fun x8 h9 =>
 Qo (Qnot x8) fun x10 =>
 k5 x10 h9) fun x6 h7 =>
 Qo (Qpk x3 (some x6) (some (.bool false))) fun x11 =>
 q70_0p1 cf R x11 a0 h7 a1 x1
theorem qe70_0 : q70_0 = t70_0 := by
  unfold q70_0 q70_0p1
  try simp only [QE]
  try rfl
noncomputable def q70_1 (cf : CallF) (R : Rec) (a0 : IV) (a1 : IV) (a4 : IV) (h : H) : CRes :=
 Qc (cf 31 [a0] h) .pan fun x14 h15 =>
 Qsp x14 true h15 (fun k16 =>
 Qo (Qgtr a1 (.int .i64 32)) fun x19 =>
 k16 x19 h15) fun x17 h18 =>
 Qo (Qpk x14 (some x17) (some (.bool false))) fun x20 =>
 Qif x20
 (Qc (cf 67 [a0, (.int .i64 41)] h18) .pan fun x21 h22 =>
 R 2 [a0, a1, a4] h22)
 (R 2 [a0, a1, a4] h18)
theorem qe70_1 : q70_1 = t70_1 := by
  unfold q70_1
  try simp only [QE]
  try rfl
noncomputable def q70_2p4 (cf : CallF) (R : Rec) (x56 : IV) (x57 : IV) (x58 : IV) (h55 : H) (x34 : IV) (a4 : IV) : CRes :=
 Qo2 (Qbsl false 6 z11 3 [(0, x56), (1, x57), (2, x58)] h55) fun x59 h60 =>
 Qo (Qbld z11 p12 [(0, (.int .i64 6)), (4, x59), (5, x34)]) fun x61 =>
 QoH (QsA 6 h60 a4 x61) fun h62 =>
 Qo (QlA 6 h62 a4) fun x63 =>
 .ok x63 h62
noncomputable def q70_2p3 (cf : CallF) (R : Rec) (h54 : H) (x53 : IV) (x51 : IV) (x31 : IV) (x45 : IV) (x34 : IV) (a4 : IV) : CRes :=
 QoH (QsA 6 h54 x53 x51) fun h55 =>
 Qo (QlA 6 h55 x31) fun x56 =>
 Qo (QlA 6 h55 x45) fun x57 =>
 Qo (QlA 6 h55 x53) fun x58 =>
 q70_2p4 cf R x56 x57 x58 h55 x34 a4
noncomputable def q70_2p2 (cf : CallF) (R : Rec) (a0 : IV) (h47 : H) (a1 : IV) (x31 : IV) (x45 : IV) (x34 : IV) (a4 : IV) : CRes :=
 Qc (cf 45 [a0, (.str ⟨1, 58⟩)] h47) .pan fun x48 h49 =>
 Qo (Qadd a1 (.int .i64 1)) fun x50 =>
 Qc (cf 70 [a0, x50] h49) .pan fun x51 h52 =>
 Qo2 (QnI h52 z11) fun x53 h54 =>
 q70_2p3 cf R h54 x53 x51 x31 x45 x34 a4
noncomputable def q70_2p1 (cf : CallF) (R : Rec) (a0 : IV) (h35 : H) (x31 : IV) (a4 : IV) (a1 : IV) (x34 : IV) : CRes :=
 Qc (cf 47 [a0, (.str ⟨1, 63⟩)] h35) .pan fun x36 h37 =>
 Qo (Qnot x36) fun x38 =>
 Qif x38
 (Qo (QlA 6 h37 x31) fun x39 =>
 QoH (QsA 6 h37 a4 x39) fun h40 =>
 Qo (QlA 6 h40 a4) fun x41 =>
 .ok x41 h40)
 (Qo (Qadd a1 (.int .i64 1)) fun x42 =>
 Qc (cf 70 [a0, x42] h37) .pan fun x43 h44 =>
 Qo2 (QnI h44 z11) fun x45 h46 =>
 QoH (QsA 6 h46 x45 x43) fun h47 =>
 q70_2p2 cf R a0 h47 a1 x31 x45 x34 a4)
noncomputable def q70_2 (cf : CallF) (R : Rec) (a0 : IV) (a1 : IV) (a4 : IV) (h : H) : CRes :=
 Qc (cf 31 [a0] h) .pan fun x23 h24 =>
 Qo (Qnot x23) fun x25 =>
 Qif x25
 (Qo (Qbld z11 p12 []) fun x26 =>
 QoH (QsA 6 h24 a4 x26) fun h27 =>
 Qo (QlA 6 h27 a4) fun x28 =>
 .ok x28 h27)
 (Qc (cf 87 [a0, (.int .i64 1), a1] h24) .pan fun x29 h30 =>
 Qo2 (QnI h30 z11) fun x31 h32 =>
 QoH (QsA 6 h32 x31 x29) fun h33 =>
 Qc (cf 44 [a0] h33) .pan fun x34 h35 =>
 q70_2p1 cf R a0 h35 x31 a4 a1 x34)
theorem qe70_2 : q70_2 = t70_2 := by
  unfold q70_2 q70_2p1 q70_2p2 q70_2p3 q70_2p4
  try simp only [QE]
  try rfl
noncomputable def bt70 (cf : CallF) (R : Rec) : Rec := fun i l h =>
 br2 i 0 l (fun a0 a1 => t70_0 cf R a0 a1 h) <|
 br3 i 1 l (fun a0 a1 a4 => t70_1 cf R a0 a1 a4 h) <|
 br3 i 2 l (fun a0 a1 a4 => t70_2 cf R a0 a1 a4 h) <|
 .fail
noncomputable def b70 (cf : CallF) (R : Rec) : Rec := fun i l h =>
 brQ2 i 0 l (fun a0 a1 => q70_0 cf R a0 a1 h) <|
 brQ3 i 1 l (fun a0 a1 a4 => q70_1 cf R a0 a1 a4 h) <|
 brQ3 i 2 l (fun a0 a1 a4 => q70_2 cf R a0 a1 a4 h) <|
 .fail
theorem be70 : b70 = bt70 := by
  unfold b70 bt70
  simp only [qe70_0, qe70_1, qe70_2, brQ2_eq, brQ3_eq]
theorem r70 {T : Tab} {cf : CallF} (hc : leC cf (CL T)) (n : Nat) : leR (recN (b70 cf) n) (J70 T) := be70 ▸ recN_le (fun R hR i l h => by
  unfold bt70
  refine le_br2 (J := fun i l => J70 T i l h) (fun _ a0 a1 => le_e (fun hn => e70_0 rfl hn) ((m70 hc hR).1 a0 a1 h)) ?_
  refine le_br3 (J := fun i l => J70 T i l h) (fun _ a0 a1 a4 => le_e (fun hn => e70_1 rfl hn) ((m70 hc hR).2.1 a0 a1 a4 h)) ?_
  refine le_br3 (J := fun i l => J70 T i l h) (fun _ a0 a1 a4 => le_e (fun hn => e70_2 rfl hn) ((m70 hc hR).2.2 a0 a1 a4 h)) ?_
  exact le_fail _) n
-- 71
theorem m71 {cf cf' : CallF} {R R' : Rec} (hc : ∀ f l h, le (cf f l h) (cf' f l h)) (hR : ∀ i l h, le (R i l h) (R' i l h)) : (∀ (a0 : IV) (h : H), le (t71_0 cf R a0 h) (t71_0 cf' R' a0 h)) := by
  intros
  unfold t71_0
  with_reducible repeat' first
    | refine le_obind fun _ => ?_
    | refine le_callP ?_ (fun _ _ => ?_) (fun _ _ => ?_)
    | refine le_condK ?_ ?_
    | exact hR _ _ _
    | refine le_obind2 fun _ _ => ?_
    | refine le_obindH fun _ => ?_
    | refine le_spanK (fun _ _ _ => ?_) (fun _ _ => ?_)
    | exact hc _ _ _
    | refine le_bif ?_ ?_
    | refine le_guardK ?_ ?_ ?_
    | refine le_mapK fun _ _ => ?_
    | refine le_panK fun _ _ => ?_
    | refine le_funK fun _ _ => ?_
    | exact le_refl _
    | apply_assumption
noncomputable def q71_0p4 (cf : CallF) (R : Rec) (x31 : IV) (x29 : IV) (h30 : H) (x3 : IV) (x1 : IV) : CRes :=
 bif IV.beq x31 x29 then
 QoH (QsA 6 h30 x3 x29) fun h32 =>
 Qo (QlA 6 h32 x1) fun x33 =>
 Qo (QlA 6 h32 x3) fun x34 =>
 .ok (.tup [(.bool true), x33, x34]) h32
 else .fail
noncomputable def q71_0p3 (cf : CallF) (R : Rec) (h27 : H) (x16 : IV) (x23 : IV) (x1 : IV) (x3 : IV) : CRes :=
 Qo (QlA 6 h27 x16) fun x28 =>
 Qo (QlA 6 h27 x23) fun x29 =>
 QoH (QsA 6 h27 x1 x28) fun h30 =>
 Qo (QlA 6 h30 x23) fun x31 =>
 q71_0p4 cf R x31 x29 h30 x3 x1
noncomputable def q71_0p2 (cf : CallF) (R : Rec) (a0 : IV) (h20 : H) (x16 : IV) (x1 : IV) (x3 : IV) : CRes :=
 Qc (cf 70 [a0, (.int .i64 1)] h20) .pan fun x21 h22 =>
 Qo2 (QnI h22 z11) fun x23 h24 =>
 QoH (QsA 6 h24 x23 x21) fun h25 =>
 Qc (cf 45 [a0, (.str ⟨1, 93⟩)] h25) .pan fun x26 h27 =>
 q71_0p3 cf R h27 x16 x23 x1 x3
noncomputable def q71_0p1 (cf : CallF) (R : Rec) (x7 : IV) (h6 : H) (x1 : IV) (x3 : IV) (a0 : IV) : CRes :=
 Qif x7
 (Qo (Qbld z11 p12 []) fun x8 =>
 Qo (Qbld z11 p12 []) fun x9 =>
 QoH (QsA 6 h6 x1 x8) fun h10 =>
 QoH (QsA 6 h10 x3 x9) fun h11 =>
 Qo (QlA 6 h11 x1) fun x12 =>
 Qo (QlA 6 h11 x3) fun x13 =>
 .ok (.tup [(.bool false), x12, x13]) h11)
 (Qc (cf 70 [a0, (.int .i64 1)] h6) .pan fun x14 h15 =>
 Qo2 (QnI h15 z11) fun x16 h17 =>
 QoH (QsA 6 h17 x16 x14) fun h18 =>
 Qc (cf 45 [a0, (.str ⟨1, 58⟩)] h18) .pan fun x19 h20 =>
 q71_0p2 cf R a0 h20 x16 x1 x3)
noncomputable def q71_0 (cf : CallF) (R : Rec) (a0 : IV) (h : H) : CRes :=
 Qo2 (QnI h z11) fun x1 h2 =>
 Qo2 (QnI h2 z11) fun x3 h4 =>
 Qc (cf 47 [a0, (.str ⟨1, 91⟩)] h4) .pan fun x5 h6 =>
 Qo (Qnot x5) fun x7 =>
 q71_0p1 cf R x7 h6 x1 x3 a0
theorem qe71_0 : q71_0 = t71_0 := by
  unfold q71_0 q71_0p1 q71_0p2 q71_0p3 q71_0p4
  try simp only [QE]
  try rfl
noncomputable def bt71 (cf : CallF) (R : Rec) : Rec := fun i l h =>
 br1 i 0 l (fun a0 => t71_0 cf R a0 h) <|
 .fail
noncomputable def b71 (cf : CallF) (R : Rec) : Rec := fun i l h =>
 brQ1 i 0 l (fun a0 => q71_0 cf R a0 h) <|
 .fail
theorem be71 : b71 = bt71 := by
  unfold b71 bt71
  simp only [qe71_0, brQ1_eq]
theorem r71 {T : Tab} {cf : CallF} (hc : leC cf (CL T)) (n : Nat) : leR (recN (b71 cf) n) (J71 T) := be71 ▸ recN_le (fun R hR i l h => by
  unfold bt71
  refine le_br1 (J := fun i l => J71 T i l h) (fun _ a0 => le_e (fun hn => e71_0 rfl hn) ((m71 hc hR) a0 h)) ?_
  exact le_fail _) n
-- 72
theorem m72 {cf cf' : CallF} {R R' : Rec} (hc : ∀ f l h, le (cf f l h) (cf' f l h)) (hR : ∀ i l h, le (R i l h) (R' i l h)) :
  (∀ (a0 a1 : IV) (h : H), le (t72_0 cf R a0 a1 h) (t72_0 cf' R' a0 a1 h)) ∧
  (∀ (a0 a1 a4 : IV) (h : H), le (t72_1 cf R a0 a1 a4 h) (t72_1 cf' R' a0 a1 a4 h)) ∧
  (∀ (a0 a1 a4 : IV) (h : H), le (t72_2 cf R a0 a1 a4 h) (t72_2 cf' R' a0 a1 a4 h)) ∧
  (∀ (a4 a5 : IV) (h : H), le (t72_3 cf R a4 a5 h) (t72_3 cf' R' a4 a5 h)) ∧
  (∀ (a0 a4 a5 : IV) (h : H), le (t72_4 cf R a0 a4 a5 h) (t72_4 cf' R' a0 a4 a5 h)) := by
  refine ⟨?_, ?_, ?_, ?_, ?_⟩
  all_goals intros
  all_goals first | unfold t72_0 | unfold t72_1 | unfold t72_2 | unfold t72_3 | unfold t72_4
  all_goals
  with_reducible repeat' first
    | refine le_obind fun _ => ?_
    | refine le_callP ?_ (fun _ _ => ?_) (fun _ _ => ?_)
    | refine le_condK ?_ ?_
    | exact hR _ _ _
    | refine le_obind2 fun _ _ => ?_
    | refine le_obindH fun _ => ?_
    | refine le_spanK (fun _ _ _ => ?_) (fun _ _ => ?_)
    | exact hc _ _ _
    | refine le_bif ?_ ?_
    | refine le_guardK ?_ ?_ ?_
    | refine le_mapK fun _ _ => ?_
    | refine le_panK fun _ _ => ?_
    | refine le_funK fun _ _ => ?_
    | exact le_refl _
    | apply_assumption
noncomputable def q72_0p1 (cf : CallF) (R : Rec) (x11 : IV) (a0 : IV) (h7 : H) (a1 : IV) (x1 : IV) : CRes :=
 Qif x11
 (Qc (cf 67 [a0, (.int .i64 40)] h7) .pan fun x12 h13 =>
 R 1 [a0, a1, x1] h13)
 (R 1 [a0, a1, x1] h7)
noncomputable def q72_0 (cf : CallF) (R : Rec) (a0 : IV) (a1 : IV) (h : H) : CRes :=
 Qo2 (QnI h z8) fun x1 h2 =>
 Qc (cf 31 [a0] h2) .pan fun x3 h4 =>
 Qsp x3 true h4 (fun k5 =>
 Qc (cf 88 [a0] h4) .pan fun x8 h9 =>
 Qo (Qnot x8) fun x10 =>
 k5 x10 h9) fun x6 h7 =>
 Qo (Qpk x3 (some x6) (some (.bool false))) fun x11 =>
 q72_0p1 cf R x11 a0 h7 a1 x1
theorem qe72_0 : q72_0 = t72_0 := by
  unfold q72_0 q72_0p1
  try simp only [QE]
  try rfl
noncomputable def q72_1 (cf : CallF) (R : Rec) (a0 : IV) (a1 : IV) (a4 : IV) (h : H) : CRes :=
 Qc (cf 31 [a0] h) .pan fun x14 h15 =>
 Qsp x14 true h15 (fun k16 =>
 Qo (Qgtr a1 (.int .i64 32)) fun x19 =>
 k16 x19 h15) fun x17 h18 =>
 Qo (Qpk x14 (some x17) (some (.bool false))) fun x20 =>
 Qif x20
 (Qc (cf 67 [a0, (.int .i64 41)] h18) .pan fun x21 h22 =>
 R 2 [a0, a1, a4] h22)
 (R 2 [a0, a1, a4] h18)
theorem qe72_1 : q72_1 = t72_1 := by
  unfold q72_1
  try simp only [QE]
  try rfl
noncomputable def q72_2p2 (cf : CallF) (R : Rec) (h54 : H) (x55 : IV) (x53 : IV) (a0 : IV) (x32 : IV) (a4 : IV) : CRes :=
 QoH (QsA 1 h54 x55 x53) fun h56 =>
 Qc (cf 45 [a0, (.str ⟨1, 61⟩)] h56) .pan fun x57 h58 =>
 Qc (cf 70 [a0, (.int .i64 1)] h58) .pan fun x59 h60 =>
 Qo (Qfad 23 x32) fun x61 =>
 QoH (QsA 6 h60 x61 x59) fun h62 =>
 Qc (cf 45 [a0, (.str ⟨1, 59⟩)] h62) .pan fun x63 h64 =>
 R 3 [a4, x32] h64
noncomputable def q72_2p3 (cf : CallF) (R : Rec) (h89 : H) (x90 : IV) (x88 : IV) (a0 : IV) (x32 : IV) (a4 : IV) : CRes :=
 QoH (QsA 1 h89 x90 x88) fun h91 =>
 Qc (cf 47 [a0, (.str ⟨1, 35⟩)] h91) .pan fun x92 h93 =>
 Qif x92
 (Qc (cf 45 [a0, (.str ⟨1, 40⟩)] h93) .pan fun x94 h95 =>
 Qc (cf 93 [a0, (.bool true)] h95) .pan fun x96 h97 =>
 Qo (Qfad 43 x32) fun x98 =>
 QoH (QsA 1 h97 x98 x96) fun h99 =>
 R 4 [a0, a4, x32] h99)
 (R 4 [a0, a4, x32] h93)
noncomputable def q72_2p1 (cf : CallF) (R : Rec) (a0 : IV) (h34 : H) (x32 : IV) (a4 : IV) (a1 : IV) : CRes :=
 Qc (cf 47 [a0, (.str ⟨4, 1701996919⟩)] h34) .pan fun x35 h36 =>
 Qif x35
 (Qo (QlA 48 h36 x32) fun x37 =>
 Qc (cf 89 [a0, x37, (.int .i64 1)] h36) .pan fun x38 h39 =>
 QoH (QsA 48 h39 a4 x38) fun h40 =>
 Qo (QlA 48 h40 a4) fun x41 =>
 .ok x41 h40)
 (Qc (cf 47 [a0, (.str ⟨3, 6776178⟩)] h36) .pan fun x42 h43 =>
 Qif x42
 (Qo (QlA 48 h43 x32) fun x44 =>
 Qc (cf 89 [a0, x44, (.int .i64 2)] h43) .pan fun x45 h46 =>
 QoH (QsA 48 h46 a4 x45) fun h47 =>
 Qo (QlA 48 h47 a4) fun x48 =>
 .ok x48 h47)
 (Qc (cf 47 [a0, (.str ⟨10, 516535522800345012203372⟩)] h43) .pan fun x49 h50 =>
 Qif x49
 (Qo (Qfad 0 x32) fun x51 =>
 QoH (QsA 1 h50 x51 (.int .i64 3)) fun h52 =>
 Qc (cf 46 [a0] h52) .pan fun x53 h54 =>
 Qo (Qfad 1 x32) fun x55 =>
 q72_2p2 cf R h54 x55 x53 a0 x32 a4)
 (Qc (cf 47 [a0, (.str ⟨6, 121390429860705⟩)] h50) .pan fun x65 h66 =>
 Qif x65
 (Qo (QlA 48 h66 x32) fun x67 =>
 Qc (cf 90 [a0, x67] h66) .pan fun x68 h69 =>
 QoH (QsA 48 h69 a4 x68) fun h70 =>
 Qo (QlA 48 h70 a4) fun x71 =>
 .ok x71 h70)
 (Qc (cf 47 [a0, (.str ⟨6, 126965163453537⟩)] h66) .pan fun x72 h73 =>
 Qif x72
 (Qo (QlA 48 h73 x32) fun x74 =>
 Qc (cf 91 [a0, x74] h73) .pan fun x75 h76 =>
 QoH (QsA 48 h76 a4 x75) fun h77 =>
 Qo (QlA 48 h77 a4) fun x78 =>
 .ok x78 h77)
 (Qc (cf 47 [a0, (.str ⟨3, 7499622⟩)] h73) .pan fun x79 h80 =>
 Qif x79
 (Qo (QlA 48 h80 x32) fun x81 =>
 Qc (cf 92 [a0, x81, a1] h80) .pan fun x82 h83 =>
 QoH (QsA 48 h83 a4 x82) fun h84 =>
 Qo (QlA 48 h84 a4) fun x85 =>
 .ok x85 h84)
 (Qo (Qfad 0 x32) fun x86 =>
 QoH (QsA 1 h80 x86 (.int .i64 7)) fun h87 =>
 Qc (cf 46 [a0] h87) .pan fun x88 h89 =>
 Qo (Qfad 42 x32) fun x90 =>
 q72_2p3 cf R h89 x90 x88 a0 x32 a4))))))
noncomputable def q72_2 (cf : CallF) (R : Rec) (a0 : IV) (a1 : IV) (a4 : IV) (h : H) : CRes :=
 Qc (cf 31 [a0] h) .pan fun x23 h24 =>
 Qo (Qnot x23) fun x25 =>
 Qif x25
 (Qo (Qbld z8 p13 []) fun x26 =>
 QoH (QsA 48 h24 a4 x26) fun h27 =>
 Qo (QlA 48 h27 a4) fun x28 =>
 .ok x28 h27)
 (Qc (cf 44 [a0] h24) .pan fun x29 h30 =>
 Qo (Qbld z8 p13 [(17, x29)]) fun x31 =>
 Qo2 (QnI h30 z8) fun x32 h33 =>
 QoH (QsA 48 h33 x32 x31) fun h34 =>
 q72_2p1 cf R a0 h34 x32 a4 a1)
theorem qe72_2 : q72_2 = t72_2 := by
  unfold q72_2 q72_2p1 q72_2p3 q72_2p2
  try simp only [QE]
  try rfl
noncomputable def q72_3 (cf : CallF) (R : Rec) (a4 : IV) (a5 : IV) (h : H) : CRes :=
 Qo (QlA 48 h a5) fun x100 =>
 QoH (QsA 48 h a4 x100) fun h101 =>
 Qo (QlA 48 h101 a4) fun x102 =>
 .ok x102 h101
theorem qe72_3 : q72_3 = t72_3 := by
  unfold q72_3
  try simp only [QE]
  try rfl
noncomputable def q72_4p1 (cf : CallF) (R : Rec) (a0 : IV) (h108 : H) (a5 : IV) (a4 : IV) : CRes :=
 Qc (cf 93 [a0, (.bool false)] h108) .pan fun x109 h110 =>
 Qo (Qfad 44 a5) fun x111 =>
 QoH (QsA 1 h110 x111 x109) fun h112 =>
 Qc (cf 45 [a0, (.str ⟨1, 59⟩)] h112) .pan fun x113 h114 =>
 R 3 [a4, a5] h114
noncomputable def q72_4 (cf : CallF) (R : Rec) (a0 : IV) (a4 : IV) (a5 : IV) (h : H) : CRes :=
 Qc (cf 46 [a0] h) .pan fun x103 h104 =>
 Qo (Qfad 1 a5) fun x105 =>
 QoH (QsA 1 h104 x105 x103) fun h106 =>
 Qc (cf 45 [a0, (.str ⟨1, 40⟩)] h106) .pan fun x107 h108 =>
 q72_4p1 cf R a0 h108 a5 a4
theorem qe72_4 : q72_4 = t72_4 := by
  unfold q72_4 q72_4p1
  try simp only [QE]
  try rfl
noncomputable def bt72 (cf : CallF) (R : Rec) : Rec := fun i l h =>
 br2 i 0 l (fun a0 a1 => t72_0 cf R a0 a1 h) <|
 br3 i 1 l (fun a0 a1 a4 => t72_1 cf R a0 a1 a4 h) <|
 br3 i 2 l (fun a0 a1 a4 => t72_2 cf R a0 a1 a4 h) <|
 br2 i 3 l (fun a4 a5 => t72_3 cf R a4 a5 h) <|
 br3 i 4 l (fun a0 a4 a5 => t72_4 cf R a0 a4 a5 h) <|
 .fail
noncomputable def b72 (cf : CallF) (R : Rec) : Rec := fun i l h =>
 brQ2 i 0 l (fun a0 a1 => q72_0 cf R a0 a1 h) <|
 brQ3 i 1 l (fun a0 a1 a4 => q72_1 cf R a0 a1 a4 h) <|
 brQ3 i 2 l (fun a0 a1 a4 => q72_2 cf R a0 a1 a4 h) <|
 brQ2 i 3 l (fun a4 a5 => q72_3 cf R a4 a5 h) <|
 brQ3 i 4 l (fun a0 a4 a5 => q72_4 cf R a0 a4 a5 h) <|
 .fail
theorem be72 : b72 = bt72 := by
  unfold b72 bt72
  simp only [qe72_0, qe72_1, qe72_2, qe72_3, qe72_4, brQ2_eq, brQ3_eq]
theorem r72 {T : Tab} {cf : CallF} (hc : leC cf (CL T)) (n : Nat) : leR (recN (b72 cf) n) (J72 T) := be72 ▸ recN_le (fun R hR i l h => by
  unfold bt72
  refine le_br2 (J := fun i l => J72 T i l h) (fun _ a0 a1 => le_e (fun hn => e72_0 rfl hn) ((m72 hc hR).1 a0 a1 h)) ?_
  refine le_br3 (J := fun i l => J72 T i l h) (fun _ a0 a1 a4 => le_e (fun hn => e72_1 rfl hn) ((m72 hc hR).2.1 a0 a1 a4 h)) ?_
  refine le_br3 (J := fun i l => J72 T i l h) (fun _ a0 a1 a4 => le_e (fun hn => e72_2 rfl hn) ((m72 hc hR).2.2.1 a0 a1 a4 h)) ?_
  refine le_br2 (J := fun i l => J72 T i l h) (fun _ a4 a5 => le_e (fun hn => e72_3 rfl hn) ((m72 hc hR).2.2.2.1 a4 a5 h)) ?_
  refine le_br3 (J := fun i l => J72 T i l h) (fun _ a0 a4 a5 => le_e (fun hn => e72_4 rfl hn) ((m72 hc hR).2.2.2.2 a0 a4 a5 h)) ?_
  exact le_fail _) n
-- 73
theorem m73 {cf cf' : CallF} {R R' : Rec} (hc : ∀ f l h, le (cf f l h) (cf' f l h)) (hR : ∀ i l h, le (R i l h) (R' i l h)) :
  (∀ (a0 a1 : IV) (h : H), le (t73_0 cf R a0 a1 h) (t73_0 cf' R' a0 a1 h)) ∧
  (∀ (a0 a1 : IV) (h : H), le (t73_1 cf R a0 a1 h) (t73_1 cf' R' a0 a1 h)) := by
  refine ⟨?_, ?_⟩
  all_goals intros
  all_goals first | unfold t73_0 | unfold t73_1
  all_goals
  with_reducible repeat' first
    | refine le_obind fun _ => ?_
    | refine le_callP ?_ (fun _ _ => ?_) (fun _ _ => ?_)
    | refine le_condK ?_ ?_
    | exact hR _ _ _
    | refine le_obind2 fun _ _ => ?_
    | refine le_obindH fun _ => ?_
    | refine le_spanK (fun _ _ _ => ?_) (fun _ _ => ?_)
    | exact hc _ _ _
    | refine le_bif ?_ ?_
    | refine le_guardK ?_ ?_ ?_
    | refine le_mapK fun _ _ => ?_
    | refine le_panK fun _ _ => ?_
    | refine le_funK fun _ _ => ?_
    | exact le_refl _
    | apply_assumption
noncomputable def q73_0 (cf : CallF) (R : Rec) (a0 : IV) (a1 : IV) (h : H) : CRes :=
 R 1 [a0, a1] h
theorem qe73_0 : q73_0 = t73_0 := by
  unfold q73_0
  try simp only [QE]
  try rfl
noncomputable def q73_1p1 (cf : CallF) (R : Rec) (x5 : IV) (a0 : IV) (h : H) (a1 : IV) : CRes :=
 Qo (Qext x5 0) fun x6 =>
 Qo (Qext x5 1) fun x7 =>
 Qif x7
 (.ok (.tup [x6, a0]) h)
 (Qo (Qnil a0) fun x8 =>
 Qo (Qfad 0 x8) fun x9 =>
 Qo (Ql0 h x9) fun x10 =>
 R 1 [x10, a1] h)
noncomputable def q73_1 (cf : CallF) (R : Rec) (a0 : IV) (a1 : IV) (h : H) : CRes :=
 Qo (eqP .neq h a0 .nilPtr) fun x1 =>
 Qif x1
 (Qo (Qnil a0) fun x2 =>
 Qo (Qfad 1 x2) fun x3 =>
 Qo (Ql0 h x3) fun x4 =>
 Qo (lkK true .nilPtr h x4 a1 true) fun x5 =>
 q73_1p1 cf R x5 a0 h a1)
 (.ok (.tup [.nilPtr, .nilPtr]) h)
theorem qe73_1 : q73_1 = t73_1 := by
  unfold q73_1 q73_1p1
  try simp only [QE]
  try rfl
noncomputable def bt73 (cf : CallF) (R : Rec) : Rec := fun i l h =>
 br2 i 0 l (fun a0 a1 => t73_0 cf R a0 a1 h) <|
 br2 i 1 l (fun a0 a1 => t73_1 cf R a0 a1 h) <|
 .fail
noncomputable def b73 (cf : CallF) (R : Rec) : Rec := fun i l h =>
 brQ2 i 0 l (fun a0 a1 => q73_0 cf R a0 a1 h) <|
 brQ2 i 1 l (fun a0 a1 => q73_1 cf R a0 a1 h) <|
 .fail
theorem be73 : b73 = bt73 := by
  unfold b73 bt73
  simp only [qe73_0, qe73_1, brQ2_eq]
theorem r73 {T : Tab} {cf : CallF} (hc : leC cf (CL T)) (n : Nat) : leR (recN (b73 cf) n) (J73 T) := be73 ▸ recN_le (fun R hR i l h => by
  unfold bt73
  refine le_br2 (J := fun i l => J73 T i l h) (fun _ a0 a1 => le_e (fun hn => e73_0 rfl hn) ((m73 hc hR).1 a0 a1 h)) ?_
  refine le_br2 (J := fun i l => J73 T i l h) (fun _ a0 a1 => le_e (fun hn => e73_1 rfl hn) ((m73 hc hR).2 a0 a1 h)) ?_
  exact le_fail _) n
-- 74
theorem m74 {cf cf' : CallF} {R R' : Rec} (hc : ∀ f l h, le (cf f l h) (cf' f l h)) (hR : ∀ i l h, le (R i l h) (R' i l h)) : (∀ (a0 : IV) (h : H), le (t74_0 cf R a0 h) (t74_0 cf' R' a0 h)) := by
  intros
  unfold t74_0
  with_reducible repeat' first
    | refine le_obind fun _ => ?_
    | refine le_callP ?_ (fun _ _ => ?_) (fun _ _ => ?_)
    | refine le_condK ?_ ?_
    | exact hR _ _ _
    | refine le_obind2 fun _ _ => ?_
    | refine le_obindH fun _ => ?_
    | refine le_spanK (fun _ _ _ => ?_) (fun _ _ => ?_)
    | exact hc _ _ _
    | refine le_bif ?_ ?_
    | refine le_guardK ?_ ?_ ?_
    | refine le_mapK fun _ _ => ?_
    | refine le_panK fun _ _ => ?_
    | refine le_funK fun _ _ => ?_
    | exact le_refl _
    | apply_assumption
noncomputable def q74_0p1 (cf : CallF) (R : Rec) (x5 : IV) (h2 : H) (x1 : IV) : CRes :=
 Qsp x5 false h2 (fun k6 =>
 Qo (Qfad 0 x1) fun x9 =>
 Qo (Ql0 h2 x9) fun x10 =>
 Qo (Qeql x10 (.int .i64 3)) fun x11 =>
 k6 x11 h2) fun x7 h8 =>
 Qo (Qpk x5 (some (.bool true)) (some x7)) fun x12 =>
 Qsp x12 false h8 (fun k13 =>
 Qo (Qfad 0 x1) fun x16 =>
 Qo (Ql0 h8 x16) fun x17 =>
 Qo (Qeql x17 (.int .i64 4)) fun x18 =>
 k13 x18 h8) fun x14 h15 =>
 Qo (Qpk x12 (some (.bool true)) (some x14)) fun x19 =>
 .ok x19 h15
noncomputable def q74_0 (cf : CallF) (R : Rec) (a0 : IV) (h : H) : CRes :=
 Qo2 (QnI h (Qcells a0)) fun x1 h2 =>
 Qo (Qfad 0 x1) fun x3 =>
 Qo (Ql0 h2 x3) fun x4 =>
 Qo (Qeql x4 (.int .i64 2)) fun x5 =>
 q74_0p1 cf R x5 h2 x1
theorem qe74_0 : q74_0 = t74_0 := by
  unfold q74_0 q74_0p1
  try simp only [QE]
  try rfl
noncomputable def bt74 (cf : CallF) (R : Rec) : Rec := fun i l h =>
 br1 i 0 l (fun a0 => t74_0 cf R a0 h) <|
 .fail
noncomputable def b74 (cf : CallF) (R : Rec) : Rec := fun i l h =>
 brQ1 i 0 l (fun a0 => q74_0 cf R a0 h) <|
 .fail
theorem be74 : b74 = bt74 := by
  unfold b74 bt74
  simp only [qe74_0, brQ1_eq]
theorem r74 {T : Tab} {cf : CallF} (hc : leC cf (CL T)) (n : Nat) : leR (recN (b74 cf) n) (J74 T) := be74 ▸ recN_le (fun R hR i l h => by
  unfold bt74
  refine le_br1 (J := fun i l => J74 T i l h) (fun _ a0 => le_e (fun hn => e74_0 rfl hn) ((m74 hc hR) a0 h)) ?_
  exact le_fail _) n
-- 75
theorem m75 {cf cf' : CallF} {R R' : Rec} (hc : ∀ f l h, le (cf f l h) (cf' f l h)) (hR : ∀ i l h, le (R i l h) (R' i l h)) :
  (∀ (a0 a1 a2 a3 : IV) (h : H), le (t75_0 cf R a0 a1 a2 a3 h) (t75_0 cf' R' a0 a1 a2 a3 h)) ∧
  (∀ (a0 a2 a3 a15 a16 a17 : IV) (h : H), le (t75_1 cf R a0 a2 a3 a15 a16 a17 h) (t75_1 cf' R' a0 a2 a3 a15 a16 a17 h)) ∧
  (∀ (a0 a2 a3 a9 a15 a16 a17 : IV) (h : H), le (t75_3 cf R a0 a2 a3 a9 a15 a16 a17 h) (t75_3 cf' R' a0 a2 a3 a9 a15 a16 a17 h)) ∧
  (∀ (a0 a2 a3 a15 a16 a17 a95 a96 a97 : IV) (h : H), le (t75_5 cf R a0 a2 a3 a15 a16 a17 a95 a96 a97 h) (t75_5 cf' R' a0 a2 a3 a15 a16 a17 a95 a96 a97 h)) ∧
  (∀ (a0 a2 a3 a15 a16 a17 : IV) (h : H), le (t75_4 cf R a0 a2 a3 a15 a16 a17 h) (t75_4 cf' R' a0 a2 a3 a15 a16 a17 h)) ∧
  (∀ (a0 a2 a3 a15 a16 a17 : IV) (h : H), le (t75_2 cf R a0 a2 a3 a15 a16 a17 h) (t75_2 cf' R' a0 a2 a3 a15 a16 a17 h)) ∧
  (∀ (a0 a2 a3 a14 a15 a16 a17 a95 a96 a97 : IV) (h : H), le (t75_6 cf R a0 a2 a3 a14 a15 a16 a17 a95 a96 a97 h) (t75_6 cf' R' a0 a2 a3 a14 a15 a16 a17 a95 a96 a97 h)) := by
  refine ⟨?_, ?_, ?_, ?_, ?_, ?_, ?_⟩
  all_goals intros
  all_goals first | unfold t75_0 | unfold t75_1 | unfold t75_3 | unfold t75_5 | unfold t75_4 | unfold t75_2 | unfold t75_6
  all_goals
  with_reducible repeat' first
    | refine le_obind fun _ => ?_
    | refine le_callP ?_ (fun _ _ => ?_) (fun _ _ => ?_)
    | refine le_condK ?_ ?_
    | exact hR _ _ _
    | refine le_obind2 fun _ _ => ?_
    | refine le_obindH fun _ => ?_
    | refine le_spanK (fun _ _ _ => ?_) (fun _ _ => ?_)
    | exact hc _ _ _
    | refine le_bif ?_ ?_
    | refine le_guardK ?_ ?_ ?_
    | refine le_mapK fun _ _ => ?_
    | refine le_panK fun _ _ => ?_
    | refine le_funK fun _ _ => ?_
    | exact le_refl _
    | apply_assumption
noncomputable def q75_0 (cf : CallF) (R : Rec) (a0 : IV) (a1 : IV) (a2 : IV) (a3 : IV) (h : H) : CRes :=
 Qo (Qle a1) fun x1 =>
 R 1 [a0, a2, a3, a1, x1, (.int .i64 0)] h
theorem qe75_0 : q75_0 = t75_0 := by
  unfold q75_0
  try simp only [QE]
  try rfl
noncomputable def q75_1p4 (cf : CallF) (R : Rec) (a0 : IV) (x34 : IV) (a2 : IV) (a3 : IV) (h32 : H) (x5 : IV) (a15 : IV) (a16 : IV) (a17 : IV) : CRes :=
 Qc (cf 75 [a0, x34, a2, a3] h32) .pan fun x35 h36 =>
 Qo (Qfad 10 x5) fun x37 =>
 Qo (Ql0 h36 x37) fun x38 =>
 Qo (Qle x38) fun x39 =>
 R 5 [a0, a2, a3, a15, a16, a17, x38, x39, (.int .i64 0)] h36
noncomputable def q75_1p3 (cf : CallF) (R : Rec) (h28 : H) (x29 : IV) (a0 : IV) (a2 : IV) (a3 : IV) (x5 : IV) (a15 : IV) (a16 : IV) (a17 : IV) : CRes :=
 Qo (Ql0 h28 x29) fun x30 =>
 Qc (cf 75 [a0, x30, a2, a3] h28) .pan fun x31 h32 =>
 Qo (Qfad 9 x5) fun x33 =>
 Qo (Ql0 h32 x33) fun x34 =>
 q75_1p4 cf R a0 x34 a2 a3 h32 x5 a15 a16 a17
noncomputable def q75_1p2 (cf : CallF) (R : Rec) (x10 : IV) (x12 : IV) (x5 : IV) (h13 : H) (a2 : IV) (a0 : IV) (a3 : IV) (a15 : IV) (a16 : IV) (a17 : IV) : CRes :=
 Qo (Qpk x10 (some (.bool true)) (some x12)) fun x17 =>
 Qif x17
 (Qo (Qfad 0 x5) fun x18 =>
 Qo (Ql0 h13 x18) fun x19 =>
 Qo (Qneq x19 a2) fun x20 =>
 Qif x20
 (Qo (Qfad 11 x5) fun x21 =>
 Qo (Ql0 h13 x21) fun x22 =>
 Qc (cf 17 [x22, (.int .i64 74)] h13) .pan fun x23 h24 =>
 R 3 [a0, a2, a3, x5, a15, a16, a17] h24)
 (R 3 [a0, a2, a3, x5, a15, a16, a17] h13))
 (Qo (Qfad 2 x5) fun x25 =>
 Qo (QlA 6 h13 x25) fun x26 =>
 Qc (cf 53 [a0, x26] h13) .pan fun x27 h28 =>
 Qo (Qfad 8 x5) fun x29 =>
 q75_1p3 cf R h28 x29 a0 a2 a3 x5 a15 a16 a17)
noncomputable def q75_1p1 (cf : CallF) (R : Rec) (x5 : IV) (h7 : H) (a2 : IV) (a0 : IV) (a3 : IV) (a15 : IV) (a16 : IV) (a17 : IV) : CRes :=
 Qo (Qfad 0 x5) fun x8 =>
 Qo (Ql0 h7 x8) fun x9 =>
 Qo (Qeql x9 (.int .i64 1)) fun x10 =>
 Qsp x10 false h7 (fun k11 =>
 Qo (Qfad 0 x5) fun x14 =>
 Qo (Ql0 h7 x14) fun x15 =>
 Qo (Qeql x15 (.int .i64 2)) fun x16 =>
 k11 x16 h7) fun x12 h13 =>
 q75_1p2 cf R x10 x12 x5 h13 a2 a0 a3 a15 a16 a17
noncomputable def q75_1 (cf : CallF) (R : Rec) (a0 : IV) (a2 : IV) (a3 : IV) (a15 : IV) (a16 : IV) (a17 : IV) (h : H) : CRes :=
 Qo (Qlss a17 a16) fun x2 =>
 Qif x2
 (Qo (Qix 12 a15 a17) fun x3 =>
 Qo (QlA 12 h x3) fun x4 =>
 Qo2 (QnI h z14) fun x5 h6 =>
 QoH (QsA 12 h6 x5 x4) fun h7 =>
 q75_1p1 cf R x5 h7 a2 a0 a3 a15 a16 a17)
 (.ok (.tup []) h)
theorem qe75_1 : q75_1 = t75_1 := by
  unfold q75_1 q75_1p1 q75_1p2 q75_1p3 q75_1p4
  try simp only [QE]
  try rfl
noncomputable def q75_3p7 (cf : CallF) (R : Rec) (h73 : H) (x68 : IV) (x69 : IV) (x72 : IV) (a3 : IV) (a0 : IV) (a2 : IV) (a15 : IV) (a16 : IV) (a17 : IV) : CRes :=
 Qo (Ql0 h73 x68) fun x74 =>
 bif IV.beq x74 x69 then
 Qo2 (appK 1 16 h73 x69 x72) fun x75 h76 =>
 Qo (Qnil a3) fun x77 =>
 Qo (Qfad 1 x77) fun x78 =>
 QoH (QsA 1 h76 x78 x75) fun h79 =>
 R 4 [a0, a2, a3, a15, a16, a17] h79
 else .fail
noncomputable def q75_3p6 (cf : CallF) (R : Rec) (h66 : H) (x68 : IV) (a9 : IV) (a3 : IV) (a0 : IV) (a2 : IV) (a15 : IV) (a16 : IV) (a17 : IV) : CRes :=
 Qo (Ql0 h66 x68) fun x69 =>
 Qo (Qfad 1 a9) fun x70 =>
 Qo (Ql0 h66 x70) fun x71 =>
 Qo2 (Qbsl false 1 [(.str ⟨0, 0⟩)] 1 [(0, x71)] h66) fun x72 h73 =>
 q75_3p7 cf R h73 x68 x69 x72 a3 a0 a2 a15 a16 a17
noncomputable def q75_3p5 (cf : CallF) (R : Rec) (h51 : H) (x64 : IV) (x63 : IV) (x46 : IV) (a3 : IV) (a9 : IV) (a0 : IV) (a2 : IV) (a15 : IV) (a16 : IV) (a17 : IV) : CRes :=
 Qo (Ql0 h51 x64) fun x65 =>
 QoH (mupK true h51 x63 x65 x46) fun h66 =>
 Qo (Qnil a3) fun x67 =>
 Qo (Qfad 1 x67) fun x68 =>
 q75_3p6 cf R h66 x68 a9 a3 a0 a2 a15 a16 a17
noncomputable def q75_3p4 (cf : CallF) (R : Rec) (x57 : IV) (a3 : IV) (h51 : H) (a9 : IV) (x46 : IV) (a0 : IV) (a2 : IV) (a15 : IV) (a16 : IV) (a17 : IV) : CRes :=
 Qo (Qext x57 0) fun x58 =>
 Qo (Qext x57 1) fun x59 =>
 Qo (Qnot x59) fun x60 =>
 Qif x60
 (Qo (Qnil a3) fun x61 =>
 Qo (Qfad 0 x61) fun x62 =>
 Qo (Ql0 h51 x62) fun x63 =>
 Qo (Qfad 1 a9) fun x64 =>
 q75_3p5 cf R h51 x64 x63 x46 a3 a9 a0 a2 a15 a16 a17)
 (R 4 [a0, a2, a3, a15, a16, a17] h51)
noncomputable def q75_3p3 (cf : CallF) (R : Rec) (h51 : H) (x53 : IV) (a9 : IV) (a3 : IV) (x46 : IV) (a0 : IV) (a2 : IV) (a15 : IV) (a16 : IV) (a17 : IV) : CRes :=
 Qo (Ql0 h51 x53) fun x54 =>
 Qo (Qfad 1 a9) fun x55 =>
 Qo (Ql0 h51 x55) fun x56 =>
 Qo (lkK true .nilPtr h51 x54 x56 true) fun x57 =>
 q75_3p4 cf R x57 a3 h51 a9 x46 a0 a2 a15 a16 a17
noncomputable def q75_3p2 (cf : CallF) (R : Rec) (h47 : H) (x48 : IV) (a0 : IV) (a3 : IV) (a9 : IV) (x46 : IV) (a2 : IV) (a15 : IV) (a16 : IV) (a17 : IV) : CRes :=
 Qo (QlA 6 h47 x48) fun x49 =>
 Qc (cf 53 [a0, x49] h47) .pan fun x50 h51 =>
 Qo (Qnil a3) fun x52 =>
 Qo (Qfad 0 x52) fun x53 =>
 q75_3p3 cf R h51 x53 a9 a3 x46 a0 a2 a15 a16 a17
noncomputable def q75_3p1 (cf : CallF) (R : Rec) (a9 : IV) (h : H) (a0 : IV) (x41 : IV) (x43 : IV) (a3 : IV) (a2 : IV) (a15 : IV) (a16 : IV) (a17 : IV) : CRes :=
 Qo (Qfad 11 a9) fun x44 =>
 Qo (Ql0 h x44) fun x45 =>
 Qc (cf 51 [a0, x41, (.int .i64 4), x43, x45] h) .pan fun x46 h47 =>
 Qo (Qfad 2 a9) fun x48 =>
 q75_3p2 cf R h47 x48 a0 a3 a9 x46 a2 a15 a16 a17
noncomputable def q75_3 (cf : CallF) (R : Rec) (a0 : IV) (a2 : IV) (a3 : IV) (a9 : IV) (a15 : IV) (a16 : IV) (a17 : IV) (h : H) : CRes :=
 Qo (Qfad 1 a9) fun x40 =>
 Qo (Ql0 h x40) fun x41 =>
 Qo (Qfad 11 a9) fun x42 =>
 Qo (Ql0 h x42) fun x43 =>
 q75_3p1 cf R a9 h a0 x41 x43 a3 a2 a15 a16 a17
theorem qe75_3 : q75_3 = t75_3 := by
  unfold q75_3 q75_3p1 q75_3p2 q75_3p3 q75_3p4 q75_3p5 q75_3p6 q75_3p7
  try simp only [QE]
  try rfl
noncomputable def q75_5p1 (cf : CallF) (R : Rec) (x83 : IV) (h85 : H) (a0 : IV) (a2 : IV) (a3 : IV) (a15 : IV) (a16 : IV) (a17 : IV) (a95 : IV) (a96 : IV) (a97 : IV) : CRes :=
 Qo (Qfad 0 x83) fun x86 =>
 Qo (Ql0 h85 x86) fun x87 =>
 Qo (Qnot x87) fun x88 =>
 Qif x88
 (Qo (Qfad 1 x83) fun x89 =>
 Qo (QlA 6 h85 x89) fun x90 =>
 Qc (cf 53 [a0, x90] h85) .pan fun x91 h92 =>
 R 6 [a0, a2, a3, x83, a15, a16, a17, a95, a96, a97] h92)
 (R 6 [a0, a2, a3, x83, a15, a16, a17, a95, a96, a97] h85)
noncomputable def q75_5 (cf : CallF) (R : Rec) (a0 : IV) (a2 : IV) (a3 : IV) (a15 : IV) (a16 : IV) (a17 : IV) (a95 : IV) (a96 : IV) (a97 : IV) (h : H) : CRes :=
 Qo (Qlss a97 a96) fun x80 =>
 Qif x80
 (Qo (Qix 8 a95 a97) fun x81 =>
 Qo (QlA 8 h x81) fun x82 =>
 Qo2 (QnI h z15) fun x83 h84 =>
 QoH (QsA 8 h84 x83 x82) fun h85 =>
 q75_5p1 cf R x83 h85 a0 a2 a3 a15 a16 a17 a95 a96 a97)
 (R 2 [a0, a2, a3, a15, a16, a17] h)
theorem qe75_5 : q75_5 = t75_5 := by
  unfold q75_5 q75_5p1
  try simp only [QE]
  try rfl
noncomputable def q75_4 (cf : CallF) (R : Rec) (a0 : IV) (a2 : IV) (a3 : IV) (a15 : IV) (a16 : IV) (a17 : IV) (h : H) : CRes :=
 R 2 [a0, a2, a3, a15, a16, a17] h
theorem qe75_4 : q75_4 = t75_4 := by
  unfold q75_4
  try simp only [QE]
  try rfl
noncomputable def q75_2 (cf : CallF) (R : Rec) (a0 : IV) (a2 : IV) (a3 : IV) (a15 : IV) (a16 : IV) (a17 : IV) (h : H) : CRes :=
 Qo (Qadd a17 (.int .i64 1)) fun x93 =>
 R 1 [a0, a2, a3, a15, a16, x93] h
theorem qe75_2 : q75_2 = t75_2 := by
  unfold q75_2
  try simp only [QE]
  try rfl
noncomputable def q75_6 (cf : CallF) (R : Rec) (a0 : IV) (a2 : IV) (a3 : IV) (a14 : IV) (a15 : IV) (a16 : IV) (a17 : IV) (a95 : IV) (a96 : IV) (a97 : IV) (h : H) : CRes :=
 Qo (Qfad 7 a14) fun x94 =>
 Qo (Ql0 h x94) fun x95 =>
 Qc (cf 75 [a0, x95, a2, a3] h) .pan fun x96 h97 =>
 Qo (Qadd a97 (.int .i64 1)) fun x98 =>
 R 5 [a0, a2, a3, a15, a16, a17, a95, a96, x98] h97
theorem qe75_6 : q75_6 = t75_6 := by
  unfold q75_6
  try simp only [QE]
  try rfl
noncomputable def bt75 (cf : CallF) (R : Rec) : Rec := fun i l h =>
 br4 i 0 l (fun a0 a1 a2 a3 => t75_0 cf R a0 a1 a2 a3 h) <|
 br6 i 1 l (fun a0 a2 a3 a15 a16 a17 => t75_1 cf R a0 a2 a3 a15 a16 a17 h) <|
 br7 i 3 l (fun a0 a2 a3 a9 a15 a16 a17 => t75_3 cf R a0 a2 a3 a9 a15 a16 a17 h) <|
 br9 i 5 l (fun a0 a2 a3 a15 a16 a17 a95 a96 a97 => t75_5 cf R a0 a2 a3 a15 a16 a17 a95 a96 a97 h) <|
 br6 i 4 l (fun a0 a2 a3 a15 a16 a17 => t75_4 cf R a0 a2 a3 a15 a16 a17 h) <|
 br6 i 2 l (fun a0 a2 a3 a15 a16 a17 => t75_2 cf R a0 a2 a3 a15 a16 a17 h) <|
 br10 i 6 l (fun a0 a2 a3 a14 a15 a16 a17 a95 a96 a97 => t75_6 cf R a0 a2 a3 a14 a15 a16 a17 a95 a96 a97 h) <|
 .fail
noncomputable def b75 (cf : CallF) (R : Rec) : Rec := fun i l h =>
 brQ4 i 0 l (fun a0 a1 a2 a3 => q75_0 cf R a0 a1 a2 a3 h) <|
 brQ6 i 1 l (fun a0 a2 a3 a15 a16 a17 => q75_1 cf R a0 a2 a3 a15 a16 a17 h) <|
 brQ7 i 3 l (fun a0 a2 a3 a9 a15 a16 a17 => q75_3 cf R a0 a2 a3 a9 a15 a16 a17 h) <|
 brQ9 i 5 l (fun a0 a2 a3 a15 a16 a17 a95 a96 a97 => q75_5 cf R a0 a2 a3 a15 a16 a17 a95 a96 a97 h) <|
 brQ6 i 4 l (fun a0 a2 a3 a15 a16 a17 => q75_4 cf R a0 a2 a3 a15 a16 a17 h) <|
 brQ6 i 2 l (fun a0 a2 a3 a15 a16 a17 => q75_2 cf R a0 a2 a3 a15 a16 a17 h) <|
 brQ10 i 6 l (fun a0 a2 a3 a14 a15 a16 a17 a95 a96 a97 => q75_6 cf R a0 a2 a3 a14 a15 a16 a17 a95 a96 a97 h) <|
 .fail
theorem be75 : b75 = bt75 := by
  unfold b75 bt75
  simp only [qe75_0, qe75_1, qe75_3, qe75_5, qe75_4, qe75_2, qe75_6, brQ10_eq, brQ4_eq, brQ6_eq, brQ7_eq, brQ9_eq]
theorem r75 {T : Tab} {cf : CallF} (hc : leC cf (CL T)) (n : Nat) : leR (recN (b75 cf) n) (J75 T) := be75 ▸ recN_le (fun R hR i l h => by
  unfold bt75
  refine le_br4 (J := fun i l => J75 T i l h) (fun _ a0 a1 a2 a3 => le_e (fun hn => e75_0 rfl hn) ((m75 hc hR).1 a0 a1 a2 a3 h)) ?_
  refine le_br6 (J := fun i l => J75 T i l h) (fun _ a0 a2 a3 a15 a16 a17 => le_e (fun hn => e75_1 rfl hn) ((m75 hc hR).2.1 a0 a2 a3 a15 a16 a17 h)) ?_
  refine le_br7 (J := fun i l => J75 T i l h) (fun _ a0 a2 a3 a9 a15 a16 a17 => le_e (fun hn => e75_3 rfl hn) ((m75 hc hR).2.2.1 a0 a2 a3 a9 a15 a16 a17 h)) ?_
  refine le_br9 (J := fun i l => J75 T i l h) (fun _ a0 a2 a3 a15 a16 a17 a95 a96 a97 => le_e (fun hn => e75_5 rfl hn) ((m75 hc hR).2.2.2.1 a0 a2 a3 a15 a16 a17 a95 a96 a97 h)) ?_
  refine le_br6 (J := fun i l => J75 T i l h) (fun _ a0 a2 a3 a15 a16 a17 => le_e (fun hn => e75_4 rfl hn) ((m75 hc hR).2.2.2.2.1 a0 a2 a3 a15 a16 a17 h)) ?_
  refine le_br6 (J := fun i l => J75 T i l h) (fun _ a0 a2 a3 a15 a16 a17 => le_e (fun hn => e75_2 rfl hn) ((m75 hc hR).2.2.2.2.2.1 a0 a2 a3 a15 a16 a17 h)) ?_
  refine le_br10 (J := fun i l => J75 T i l h) (fun _ a0 a2 a3 a14 a15 a16 a17 a95 a96 a97 => le_e (fun hn => e75_6 rfl hn) ((m75 hc hR).2.2.2.2.2.2 a0 a2 a3 a14 a15 a16 a17 a95 a96 a97 h)) ?_
  exact le_fail _) n
-- 76
theorem m76 {cf cf' : CallF} {R R' : Rec} (hc : ∀ f l h, le (cf f l h) (cf' f l h)) (hR : ∀ i l h, le (R i l h) (R' i l h)) :
  (∀ (a0 a1 a2 : IV) (h : H), le (t76_0 cf R a0 a1 a2 h) (t76_0 cf' R' a0 a1 a2 h)) ∧
  (∀ (a0 a2 a15 a16 a17 : IV) (h : H), le (t76_1 cf R a0 a2 a15 a16 a17 h) (t76_1 cf' R' a0 a2 a15 a16 a17 h)) ∧
  (∀ (a0 a2 a15 a16 a17 : IV) (h : H), le (t76_2 cf R a0 a2 a15 a16 a17 h) (t76_2 cf' R' a0 a2 a15 a16 a17 h)) ∧
  (∀ (a0 a2 a10 a11 a15 a16 a17 a51 a52 a53 : IV) (h : H), le (t76_3 cf R a0 a2 a10 a11 a15 a16 a17 a51 a52 a53 h) (t76_3 cf' R' a0 a2 a10 a11 a15 a16 a17 a51 a52 a53 h)) ∧
  (∀ (a0 a2 a10 a11 a13 a15 a16 a17 a51 a52 a53 : IV) (h : H), le (t76_5 cf R a0 a2 a10 a11 a13 a15 a16 a17 a51 a52 a53 h) (t76_5 cf' R' a0 a2 a10 a11 a13 a15 a16 a17 a51 a52 a53 h)) ∧
  (∀ (a0 a10 a15 a16 a17 : IV) (h : H), le (t76_6 cf R a0 a10 a15 a16 a17 h) (t76_6 cf' R' a0 a10 a15 a16 a17 h)) ∧
  (∀ (a0 a2 a10 a15 a16 a17 : IV) (h : H), le (t76_7 cf R a0 a2 a10 a15 a16 a17 h) (t76_7 cf' R' a0 a2 a10 a15 a16 a17 h)) ∧
  (∀ (a0 a2 a10 a11 a15 a16 a17 a51 a52 a53 : IV) (h : H), le (t76_4 cf R a0 a2 a10 a11 a15 a16 a17 a51 a52 a53 h) (t76_4 cf' R' a0 a2 a10 a11 a15 a16 a17 a51 a52 a53 h)) := by
  refine ⟨?_, ?_, ?_, ?_, ?_, ?_, ?_, ?_⟩
  all_goals intros
  all_goals first | unfold t76_0 | unfold t76_1 | unfold t76_2 | unfold t76_3 | unfold t76_5 | unfold t76_6 | unfold t76_7 | unfold t76_4
  all_goals
  with_reducible repeat' first
    | refine le_obind fun _ => ?_
    | refine le_callP ?_ (fun _ _ => ?_) (fun _ _ => ?_)
    | refine le_condK ?_ ?_
    | exact hR _ _ _
    | refine le_obind2 fun _ _ => ?_
    | refine le_obindH fun _ => ?_
    | refine le_spanK (fun _ _ _ => ?_) (fun _ _ => ?_)
    | exact hc _ _ _
    | refine le_bif ?_ ?_
    | refine le_guardK ?_ ?_ ?_
    | refine le_mapK fun _ _ => ?_
    | refine le_panK fun _ _ => ?_
    | refine le_funK fun _ _ => ?_
    | exact le_refl _
    | apply_assumption
noncomputable def q76_0 (cf : CallF) (R : Rec) (a0 : IV) (a1 : IV) (a2 : IV) (h : H) : CRes :=
 Qo (Qle a1) fun x1 =>
 R 1 [a0, a2, a1, x1, (.int .i64 0)] h
theorem qe76_0 : q76_0 = t76_0 := by
  unfold q76_0
  try simp only [QE]
  try rfl
noncomputable def q76_1p3 (cf : CallF) (R : Rec) (h18 : H) (x19 : IV) (a0 : IV) (a2 : IV) (x17 : IV) (a15 : IV) (a16 : IV) (a17 : IV) : CRes :=
 Qo (Ql0 h18 x19) fun x20 =>
 Qc (cf 76 [a0, x20, a2] h18) .pan fun x21 h22 =>
 Qc (cf 95 [x17, x21] h22) .pan fun x23 h24 =>
 R 2 [a0, x23, a15, a16, a17] h24
noncomputable def q76_1p2 (cf : CallF) (R : Rec) (h11 : H) (x12 : IV) (x5 : IV) (a0 : IV) (a2 : IV) (a15 : IV) (a16 : IV) (a17 : IV) : CRes :=
 Qo (Ql0 h11 x12) fun x13 =>
 Qo (Qeql x13 (.int .i64 3)) fun x14 =>
 Qif x14
 (Qo (Qfad 8 x5) fun x15 =>
 Qo (Ql0 h11 x15) fun x16 =>
 Qc (cf 76 [a0, x16, a2] h11) .pan fun x17 h18 =>
 Qo (Qfad 9 x5) fun x19 =>
 q76_1p3 cf R h18 x19 a0 a2 x17 a15 a16 a17)
 (Qo (Qeql x13 (.int .i64 4)) fun x25 =>
 Qif x25
 (Qo (Qfad 10 x5) fun x26 =>
 Qo (Ql0 h11 x26) fun x27 =>
 Qo (Qle x27) fun x28 =>
 R 3 [a0, a2, .nilMap, (.bool false), a15, a16, a17, x27, x28, (.int .i64 0)] h11)
 (Qc (cf 95 [a2, a2] h11) .pan fun x29 h30 =>
 Qo (Qfad 1 x5) fun x31 =>
 Qo (Ql0 h30 x31) fun x32 =>
 QoH (mupK true h30 x29 x32 (.bool true)) fun h33 =>
 R 2 [a0, x29, a15, a16, a17] h33))
noncomputable def q76_1p1 (cf : CallF) (R : Rec) (x5 : IV) (h7 : H) (a0 : IV) (a2 : IV) (a15 : IV) (a16 : IV) (a17 : IV) : CRes :=
 Qo (Qfad 2 x5) fun x8 =>
 Qo (QlA 6 h7 x8) fun x9 =>
 Qc (cf 94 [a0, x9, a2] h7) .pan fun x10 h11 =>
 Qo (Qfad 0 x5) fun x12 =>
 q76_1p2 cf R h11 x12 x5 a0 a2 a15 a16 a17
noncomputable def q76_1 (cf : CallF) (R : Rec) (a0 : IV) (a2 : IV) (a15 : IV) (a16 : IV) (a17 : IV) (h : H) : CRes :=
 Qo (Qlss a17 a16) fun x2 =>
 Qif x2
 (Qo (Qix 12 a15 a17) fun x3 =>
 Qo (QlA 12 h x3) fun x4 =>
 Qo2 (QnI h z14) fun x5 h6 =>
 QoH (QsA 12 h6 x5 x4) fun h7 =>
 q76_1p1 cf R x5 h7 a0 a2 a15 a16 a17)
 (.ok a2 h)
theorem qe76_1 : q76_1 = t76_1 := by
  unfold q76_1 q76_1p1 q76_1p2 q76_1p3
  try simp only [QE]
  try rfl
noncomputable def q76_2 (cf : CallF) (R : Rec) (a0 : IV) (a2 : IV) (a15 : IV) (a16 : IV) (a17 : IV) (h : H) : CRes :=
 Qo (Qadd a17 (.int .i64 1)) fun x34 =>
 R 1 [a0, a2, a15, a16, x34] h
theorem qe76_2 : q76_2 = t76_2 := by
  unfold q76_2
  try simp only [QE]
  try rfl
noncomputable def q76_3p1 (cf : CallF) (R : Rec) (x38 : IV) (h40 : H) (a0 : IV) (a2 : IV) (a10 : IV) (a11 : IV) (a15 : IV) (a16 : IV) (a17 : IV) (a51 : IV) (a52 : IV) (a53 : IV) : CRes :=
 Qo (Qfad 0 x38) fun x41 =>
 Qo (Ql0 h40 x41) fun x42 =>
 Qo (Qnot x42) fun x43 =>
 Qif x43
 (Qo (Qfad 1 x38) fun x44 =>
 Qo (QlA 6 h40 x44) fun x45 =>
 Qc (cf 94 [a0, x45, a2] h40) .pan fun x46 h47 =>
 R 5 [a0, a2, a10, a11, x38, a15, a16, a17, a51, a52, a53] h47)
 (R 5 [a0, a2, a10, a11, x38, a15, a16, a17, a51, a52, a53] h40)
noncomputable def q76_3 (cf : CallF) (R : Rec) (a0 : IV) (a2 : IV) (a10 : IV) (a11 : IV) (a15 : IV) (a16 : IV) (a17 : IV) (a51 : IV) (a52 : IV) (a53 : IV) (h : H) : CRes :=
 Qo (Qlss a53 a52) fun x35 =>
 Qif x35
 (Qo (Qix 8 a51 a53) fun x36 =>
 Qo (QlA 8 h x36) fun x37 =>
 Qo2 (QnI h z15) fun x38 h39 =>
 QoH (QsA 8 h39 x38 x37) fun h40 =>
 q76_3p1 cf R x38 h40 a0 a2 a10 a11 a15 a16 a17 a51 a52 a53)
 (Qo (Qnot a11) fun x48 =>
 Qif x48
 (Qo (eqMp .eql a10 .nilMap) fun x49 =>
 Qif x49
 (R 7 [a0, a2, a2, a15, a16, a17] h)
 (R 7 [a0, a2, a10, a15, a16, a17] h))
 (R 6 [a0, a10, a15, a16, a17] h))
theorem qe76_3 : q76_3 = t76_3 := by
  unfold q76_3 q76_3p1
  try simp only [QE]
  try rfl
noncomputable def q76_5p1 (cf : CallF) (R : Rec) (a0 : IV) (x57 : IV) (a2 : IV) (h52 : H) (a10 : IV) (x55 : IV) (a15 : IV) (a16 : IV) (a17 : IV) (a51 : IV) (a52 : IV) (a53 : IV) : CRes :=
 Qc (cf 76 [a0, x57, a2] h52) .pan fun x58 h59 =>
 Qo (eqMp .eql a10 .nilMap) fun x60 =>
 Qif x60
 (R 4 [a0, a2, x58, x55, a15, a16, a17, a51, a52, a53] h59)
 (Qc (cf 95 [a10, x58] h59) .pan fun x61 h62 =>
 R 4 [a0, a2, x61, x55, a15, a16, a17, a51, a52, a53] h62)
noncomputable def q76_5 (cf : CallF) (R : Rec) (a0 : IV) (a2 : IV) (a10 : IV) (a11 : IV) (a13 : IV) (a15 : IV) (a16 : IV) (a17 : IV) (a51 : IV) (a52 : IV) (a53 : IV) (h : H) : CRes :=
 Qsp a11 false h (fun k50 =>
 Qo (Qfad 0 a13) fun x53 =>
 Qo (Ql0 h x53) fun x54 =>
 k50 x54 h) fun x51 h52 =>
 Qo (Qpk a11 (some (.bool true)) (some x51)) fun x55 =>
 Qo (Qfad 7 a13) fun x56 =>
 Qo (Ql0 h52 x56) fun x57 =>
 q76_5p1 cf R a0 x57 a2 h52 a10 x55 a15 a16 a17 a51 a52 a53
theorem qe76_5 : q76_5 = t76_5 := by
  unfold q76_5 q76_5p1
  try simp only [QE]
  try rfl
noncomputable def q76_6 (cf : CallF) (R : Rec) (a0 : IV) (a10 : IV) (a15 : IV) (a16 : IV) (a17 : IV) (h : H) : CRes :=
 R 2 [a0, a10, a15, a16, a17] h
theorem qe76_6 : q76_6 = t76_6 := by
  unfold q76_6
  try simp only [QE]
  try rfl
noncomputable def q76_7 (cf : CallF) (R : Rec) (a0 : IV) (a2 : IV) (a10 : IV) (a15 : IV) (a16 : IV) (a17 : IV) (h : H) : CRes :=
 Qc (cf 95 [a10, a2] h) .pan fun x63 h64 =>
 R 6 [a0, x63, a15, a16, a17] h64
theorem qe76_7 : q76_7 = t76_7 := by
  unfold q76_7
  try simp only [QE]
  try rfl
noncomputable def q76_4 (cf : CallF) (R : Rec) (a0 : IV) (a2 : IV) (a10 : IV) (a11 : IV) (a15 : IV) (a16 : IV) (a17 : IV) (a51 : IV) (a52 : IV) (a53 : IV) (h : H) : CRes :=
 Qo (Qadd a53 (.int .i64 1)) fun x65 =>
 R 3 [a0, a2, a10, a11, a15, a16, a17, a51, a52, x65] h
theorem qe76_4 : q76_4 = t76_4 := by
  unfold q76_4
  try simp only [QE]
  try rfl
noncomputable def bt76 (cf : CallF) (R : Rec) : Rec := fun i l h =>
 br3 i 0 l (fun a0 a1 a2 => t76_0 cf R a0 a1 a2 h) <|
 br5 i 1 l (fun a0 a2 a15 a16 a17 => t76_1 cf R a0 a2 a15 a16 a17 h) <|
 br5 i 2 l (fun a0 a2 a15 a16 a17 => t76_2 cf R a0 a2 a15 a16 a17 h) <|
 br10 i 3 l (fun a0 a2 a10 a11 a15 a16 a17 a51 a52 a53 => t76_3 cf R a0 a2 a10 a11 a15 a16 a17 a51 a52 a53 h) <|
 br11 i 5 l (fun a0 a2 a10 a11 a13 a15 a16 a17 a51 a52 a53 => t76_5 cf R a0 a2 a10 a11 a13 a15 a16 a17 a51 a52 a53 h) <|
 br5 i 6 l (fun a0 a10 a15 a16 a17 => t76_6 cf R a0 a10 a15 a16 a17 h) <|
 br6 i 7 l (fun a0 a2 a10 a15 a16 a17 => t76_7 cf R a0 a2 a10 a15 a16 a17 h) <|
 br10 i 4 l (fun a0 a2 a10 a11 a15 a16 a17 a51 a52 a53 => t76_4 cf R a0 a2 a10 a11 a15 a16 a17 a51 a52 a53 h) <|
 .fail
noncomputable def b76 (cf : CallF) (R : Rec) : Rec := fun i l h =>
 brQ3 i 0 l (fun a0 a1 a2 => q76_0 cf R a0 a1 a2 h) <|
 brQ5 i 1 l (fun a0 a2 a15 a16 a17 => q76_1 cf R a0 a2 a15 a16 a17 h) <|
 brQ5 i 2 l (fun a0 a2 a15 a16 a17 => q76_2 cf R a0 a2 a15 a16 a17 h) <|
 brQ10 i 3 l (fun a0 a2 a10 a11 a15 a16 a17 a51 a52 a53 => q76_3 cf R a0 a2 a10 a11 a15 a16 a17 a51 a52 a53 h) <|
 brQ11 i 5 l (fun a0 a2 a10 a11 a13 a15 a16 a17 a51 a52 a53 => q76_5 cf R a0 a2 a10 a11 a13 a15 a16 a17 a51 a52 a53 h) <|
 brQ5 i 6 l (fun a0 a10 a15 a16 a17 => q76_6 cf R a0 a10 a15 a16 a17 h) <|
 brQ6 i 7 l (fun a0 a2 a10 a15 a16 a17 => q76_7 cf R a0 a2 a10 a15 a16 a17 h) <|
 brQ10 i 4 l (fun a0 a2 a10 a11 a15 a16 a17 a51 a52 a53 => q76_4 cf R a0 a2 a10 a11 a15 a16 a17 a51 a52 a53 h) <|
 .fail
theorem be76 : b76 = bt76 := by
  unfold b76 bt76
  simp only [qe76_0, qe76_1, qe76_2, qe76_3, qe76_5, qe76_6, qe76_7, qe76_4, brQ10_eq, brQ11_eq, brQ3_eq, brQ5_eq, brQ6_eq]
theorem r76 {T : Tab} {cf : CallF} (hc : leC cf (CL T)) (n : Nat) : leR (recN (b76 cf) n) (J76 T) := be76 ▸ recN_le (fun R hR i l h => by
  unfold bt76
  refine le_br3 (J := fun i l => J76 T i l h) (fun _ a0 a1 a2 => le_e (fun hn => e76_0 rfl hn) ((m76 hc hR).1 a0 a1 a2 h)) ?_
  refine le_br5 (J := fun i l => J76 T i l h) (fun _ a0 a2 a15 a16 a17 => le_e (fun hn => e76_1 rfl hn) ((m76 hc hR).2.1 a0 a2 a15 a16 a17 h)) ?_
  refine le_br5 (J := fun i l => J76 T i l h) (fun _ a0 a2 a15 a16 a17 => le_e (fun hn => e76_2 rfl hn) ((m76 hc hR).2.2.1 a0 a2 a15 a16 a17 h)) ?_
  refine le_br10 (J := fun i l => J76 T i l h) (fun _ a0 a2 a10 a11 a15 a16 a17 a51 a52 a53 => le_e (fun hn => e76_3 rfl hn) ((m76 hc hR).2.2.2.1 a0 a2 a10 a11 a15 a16 a17 a51 a52 a53 h)) ?_
  refine le_br11 (J := fun i l => J76 T i l h) (fun _ a0 a2 a10 a11 a13 a15 a16 a17 a51 a52 a53 => le_e (fun hn => e76_5 rfl hn) ((m76 hc hR).2.2.2.2.1 a0 a2 a10 a11 a13 a15 a16 a17 a51 a52 a53 h)) ?_
  refine le_br5 (J := fun i l => J76 T i l h) (fun _ a0 a10 a15 a16 a17 => le_e (fun hn => e76_6 rfl hn) ((m76 hc hR).2.2.2.2.2.1 a0 a10 a15 a16 a17 h)) ?_
  refine le_br6 (J := fun i l => J76 T i l h) (fun _ a0 a2 a10 a15 a16 a17 => le_e (fun hn => e76_7 rfl hn) ((m76 hc hR).2.2.2.2.2.2.1 a0 a2 a10 a15 a16 a17 h)) ?_
  refine le_br10 (J := fun i l => J76 T i l h) (fun _ a0 a2 a10 a11 a15 a16 a17 a51 a52 a53 => le_e (fun hn => e76_4 rfl hn) ((m76 hc hR).2.2.2.2.2.2.2 a0 a2 a10 a11 a15 a16 a17 a51 a52 a53 h)) ?_
  exact le_fail _) n
-- 84
theorem m84 {cf cf' : CallF} {R R' : Rec} (hc : ∀ f l h, le (cf f l h) (cf' f l h)) (hR : ∀ i l h, le (R i l h) (R' i l h)) :
  (∀ (a0 : IV) (h : H), le (t84_0 cf R a0 h) (t84_0 cf' R' a0 h)) ∧
  (∀ (a3 : IV) (h : H), le (t84_1 cf R a3 h) (t84_1 cf' R' a3 h)) := by
  refine ⟨?_, ?_⟩
  all_goals intros
  all_goals first | unfold t84_0 | unfold t84_1
  all_goals
  with_reducible repeat' first
    | refine le_obind fun _ => ?_
    | refine le_callP ?_ (fun _ _ => ?_) (fun _ _ => ?_)
    | refine le_condK ?_ ?_
    | exact hR _ _ _
    | refine le_obind2 fun _ _ => ?_
    | refine le_obindH fun _ => ?_
    | refine le_spanK (fun _ _ _ => ?_) (fun _ _ => ?_)
    | exact hc _ _ _
    | refine le_bif ?_ ?_
    | refine le_guardK ?_ ?_ ?_
    | refine le_mapK fun _ _ => ?_
    | refine le_panK fun _ _ => ?_
    | refine le_funK fun _ _ => ?_
    | exact le_refl _
    | apply_assumption
noncomputable def q84_0 (cf : CallF) (R : Rec) (a0 : IV) (h : H) : CRes :=
 Qc (cf 41 [a0] h) .pan fun x1 h2 =>
 Qif x1
 (Qo (Qsub a0 (.int .u8 48)) fun x3 =>
 Qo (cvN .i64 x3) fun x4 =>
 R 1 [x4] h2)
 (Qo (Qgeq a0 (.int .u8 97)) fun x5 =>
 Qsp x5 true h2 (fun k6 =>
 Qo (Qleq a0 (.int .u8 102)) fun x9 =>
 k6 x9 h2) fun x7 h8 =>
 Qo (Qpk x5 (some x7) (some (.bool false))) fun x10 =>
 Qif x10
 (Qo (Qsub a0 (.int .u8 97)) fun x11 =>
 Qo (cvN .i64 x11) fun x12 =>
 Qo (Qadd x12 (.int .i64 10)) fun x13 =>
 R 1 [x13] h8)
 (Qo (Qgeq a0 (.int .u8 65)) fun x14 =>
 Qsp x14 true h8 (fun k15 =>
 Qo (Qleq a0 (.int .u8 70)) fun x18 =>
 k15 x18 h8) fun x16 h17 =>
 Qo (Qpk x14 (some x16) (some (.bool false))) fun x19 =>
 Qif x19
 (Qo (Qsub a0 (.int .u8 65)) fun x20 =>
 Qo (cvN .i64 x20) fun x21 =>
 Qo (Qadd x21 (.int .i64 10)) fun x22 =>
 R 1 [x22] h17)
 (Qo (Qeql a0 (.int .u8 120)) fun x23 =>
 Qsp x23 false h17 (fun k24 =>
 Qo (Qeql a0 (.int .u8 122)) fun x27 =>
 k24 x27 h17) fun x25 h26 =>
 Qo (Qpk x23 (some (.bool true)) (some x25)) fun x28 =>
 Qif x28
 (Qo2 (Qbsl true 1 [(.int .u8 0)] 4 [(0, a0), (1, a0), (2, a0), (3, a0)] h26) fun x29 h30 =>
 Qo (cvS h30 x29) fun x31 =>
 .ok x31 h30)
 (R 1 [(.int .i64 (-1))] h26))))
theorem qe84_0 : q84_0 = t84_0 := by
  unfold q84_0
  try simp only [QE]
  try rfl
noncomputable def q84_1 (cf : CallF) (R : Rec) (a3 : IV) (h : H) : CRes :=
 Qo (Qlss a3 (.int .i64 0)) fun x32 =>
 Qif x32
 (.ok (.str ⟨0, 0⟩) h)
 (Qc (cf 63 [a3, (.int .i64 4)] h) .pan fun x33 h34 =>
 .ok x33 h34)
theorem qe84_1 : q84_1 = t84_1 := by
  unfold q84_1
  try simp only [QE]
  try rfl
noncomputable def bt84 (cf : CallF) (R : Rec) : Rec := fun i l h =>
 br1 i 0 l (fun a0 => t84_0 cf R a0 h) <|
 br1 i 1 l (fun a3 => t84_1 cf R a3 h) <|
 .fail
noncomputable def b84 (cf : CallF) (R : Rec) : Rec := fun i l h =>
 brQ1 i 0 l (fun a0 => q84_0 cf R a0 h) <|
 brQ1 i 1 l (fun a3 => q84_1 cf R a3 h) <|
 .fail
theorem be84 : b84 = bt84 := by
  unfold b84 bt84
  simp only [qe84_0, qe84_1, brQ1_eq]
theorem r84 {T : Tab} {cf : CallF} (hc : leC cf (CL T)) (n : Nat) : leR (recN (b84 cf) n) (J84 T) := be84 ▸ recN_le (fun R hR i l h => by
  unfold bt84
  refine le_br1 (J := fun i l => J84 T i l h) (fun _ a0 => le_e (fun hn => e84_0 rfl hn) ((m84 hc hR).1 a0 h)) ?_
  refine le_br1 (J := fun i l => J84 T i l h) (fun _ a3 => le_e (fun hn => e84_1 rfl hn) ((m84 hc hR).2 a3 h)) ?_
  exact le_fail _) n
-- 85
theorem m85 {cf cf' : CallF} {R R' : Rec} (hc : ∀ f l h, le (cf f l h) (cf' f l h)) (hR : ∀ i l h, le (R i l h) (R' i l h)) :
  (∀ (a0 : IV) (h : H), le (t85_0 cf R a0 h) (t85_0 cf' R' a0 h)) ∧
  (∀ (a0 a3 a4 : IV) (h : H), le (t85_1 cf R a0 a3 a4 h) (t85_1 cf' R' a0 a3 a4 h)) := by
  refine ⟨?_, ?_⟩
  all_goals intros
  all_goals first | unfold t85_0 | unfold t85_1
  all_goals
  with_reducible repeat' first
    | refine le_obind fun _ => ?_
    | refine le_callP ?_ (fun _ _ => ?_) (fun _ _ => ?_)
    | refine le_condK ?_ ?_
    | exact hR _ _ _
    | refine le_obind2 fun _ _ => ?_
    | refine le_obindH fun _ => ?_
    | refine le_spanK (fun _ _ _ => ?_) (fun _ _ => ?_)
    | exact hc _ _ _
    | refine le_bif ?_ ?_
    | refine le_guardK ?_ ?_ ?_
    | refine le_mapK fun _ _ => ?_
    | refine le_panK fun _ _ => ?_
    | refine le_funK fun _ _ => ?_
    | exact le_refl _
    | apply_assumption
noncomputable def q85_0 (cf : CallF) (R : Rec) (a0 : IV) (h : H) : CRes :=
 Qc (cf 98 [] h) .pan fun x1 h2 =>
 R 1 [a0, x1, (.int .i64 0)] h2
theorem qe85_0 : q85_0 = t85_0 := by
  unfold q85_0
  try simp only [QE]
  try rfl
noncomputable def q85_1 (cf : CallF) (R : Rec) (a0 : IV) (a3 : IV) (a4 : IV) (h : H) : CRes :=
 Qo (Qle a3) fun x3 =>
 Qo (Qlss a4 x3) fun x4 =>
 Qif x4
 (Qo (Qix 1 a3 a4) fun x5 =>
 Qo (Ql0 h x5) fun x6 =>
 Qo (Qse x6 a0) fun x7 =>
 Qif x7
 (.ok (.bool true) h)
 (Qo (Qadd a4 (.int .i64 1)) fun x8 =>
 R 1 [a0, a3, x8] h))
 (.ok (.bool false) h)
theorem qe85_1 : q85_1 = t85_1 := by
  unfold q85_1
  try simp only [QE]
  try rfl
noncomputable def bt85 (cf : CallF) (R : Rec) : Rec := fun i l h =>
 br1 i 0 l (fun a0 => t85_0 cf R a0 h) <|
 br3 i 1 l (fun a0 a3 a4 => t85_1 cf R a0 a3 a4 h) <|
 .fail
noncomputable def b85 (cf : CallF) (R : Rec) : Rec := fun i l h =>
 brQ1 i 0 l (fun a0 => q85_0 cf R a0 h) <|
 brQ3 i 1 l (fun a0 a3 a4 => q85_1 cf R a0 a3 a4 h) <|
 .fail
theorem be85 : b85 = bt85 := by
  unfold b85 bt85
  simp only [qe85_0, qe85_1, brQ1_eq, brQ3_eq]
theorem r85 {T : Tab} {cf : CallF} (hc : leC cf (CL T)) (n : Nat) : leR (recN (b85 cf) n) (J85 T) := be85 ▸ recN_le (fun R hR i l h => by
  unfold bt85
  refine le_br1 (J := fun i l => J85 T i l h) (fun _ a0 => le_e (fun hn => e85_0 rfl hn) ((m85 hc hR).1 a0 h)) ?_
  refine le_br3 (J := fun i l => J85 T i l h) (fun _ a0 a3 a4 => le_e (fun hn => e85_1 rfl hn) ((m85 hc hR).2 a0 a3 a4 h)) ?_
  exact le_fail _) n
-- 86
theorem m86 {cf cf' : CallF} {R R' : Rec} (hc : ∀ f l h, le (cf f l h) (cf' f l h)) (hR : ∀ i l h, le (R i l h) (R' i l h)) : (∀ (a0 : IV) (h : H), le (t86_0 cf R a0 h) (t86_0 cf' R' a0 h)) := by
  intros
  unfold t86_0
  with_reducible repeat' first
    | refine le_obind fun _ => ?_
    | refine le_callP ?_ (fun _ _ => ?_) (fun _ _ => ?_)
    | refine le_condK ?_ ?_
    | exact hR _ _ _
    | refine le_obind2 fun _ _ => ?_
    | refine le_obindH fun _ => ?_
    | refine le_spanK (fun _ _ _ => ?_) (fun _ _ => ?_)
    | exact hc _ _ _
    | refine le_bif ?_ ?_
    | refine le_guardK ?_ ?_ ?_
    | refine le_mapK fun _ _ => ?_
    | refine le_panK fun _ _ => ?_
    | refine le_funK fun _ _ => ?_
    | exact le_refl _
    | apply_assumption
noncomputable def q86_0p4 (cf : CallF) (R : Rec) (x22 : IV) (h21 : H) (x9 : IV) : CRes :=
 Qsp x22 false h21 (fun k23 =>
 Qo (Qfad 1 x9) fun x26 =>
 Qo (Ql0 h21 x26) fun x27 =>
 Qo (Qse x27 (.str ⟨1, 40⟩)) fun x28 =>
 k23 x28 h21) fun x24 h25 =>
 Qo (Qpk x22 (some (.bool true)) (some x24)) fun x29 =>
 Qsp x29 false h25 (fun k30 =>
 Qo (Qfad 1 x9) fun x33 =>
 Qo (Ql0 h25 x33) fun x34 =>
 Qo (Qse x34 (.str ⟨1, 123⟩)) fun x35 =>
 k30 x35 h25) fun x31 h32 =>
 Qo (Qpk x29 (some (.bool true)) (some x31)) fun x36 =>
 .ok x36 h32
noncomputable def q86_0p3 (cf : CallF) (R : Rec) (x17 : IV) (x9 : IV) (h14 : H) (a0 : IV) : CRes :=
 Qif x17
 (Qo (Qfad 1 x9) fun x18 =>
 Qo (Ql0 h14 x18) fun x19 =>
 Qc (cf 99 [x19] h14) .pan fun x20 h21 =>
 Qo (Qgtr x20 (.int .i64 0)) fun x22 =>
 q86_0p4 cf R x22 h21 x9)
 (Qo (Qfad 0 x9) fun x37 =>
 Qo (Ql0 h14 x37) fun x38 =>
 Qo (Qeql x38 (.int .i64 2)) fun x39 =>
 Qsp x39 false h14 (fun k40 =>
 Qc (cf 68 [a0] h14) .pan fun x43 h44 =>
 k40 x43 h44) fun x41 h42 =>
 Qo (Qpk x39 (some (.bool true)) (some x41)) fun x45 =>
 .ok x45 h42)
noncomputable def q86_0p2 (cf : CallF) (R : Rec) (h : H) (x7 : IV) (x8 : IV) (x5 : IV) (x6 : IV) (x2 : IV) (x3 : IV) (a0 : IV) : CRes :=
 Qo2 (QnI h z1) fun x9 h10 =>
 Qo (QlA 3 h10 x7) fun x11 =>
 bif IV.beq x11 x8 then
 Qo (Ql0 h10 x5) fun x12 =>
 bif IV.beq x12 x6 then
 Qo (Ql0 h10 x2) fun x13 =>
 bif IV.beq x13 x3 then
 QoH (QsA 3 h10 x9 x8) fun h14 =>
 Qo (Qfad 0 x9) fun x15 =>
 Qo (Ql0 h14 x15) fun x16 =>
 Qo (Qeql x16 (.int .i64 3)) fun x17 =>
 q86_0p3 cf R x17 x9 h14 a0
 else .fail
 else .fail
 else .fail
noncomputable def q86_0p1 (cf : CallF) (R : Rec) (x4 : IV) (h : H) (x3 : IV) (x2 : IV) (a0 : IV) : CRes :=
 Qo (Qfad 1 x4) fun x5 =>
 Qo (Ql0 h x5) fun x6 =>
 Qo (Qix 3 x3 x6) fun x7 =>
 Qo (QlA 3 h x7) fun x8 =>
 q86_0p2 cf R h x7 x8 x5 x6 x2 x3 a0
noncomputable def q86_0 (cf : CallF) (R : Rec) (a0 : IV) (h : H) : CRes :=
 Qo (Qnil a0) fun x1 =>
 Qo (Qfad 0 x1) fun x2 =>
 Qo (Ql0 h x2) fun x3 =>
 Qo (Qnil a0) fun x4 =>
 q86_0p1 cf R x4 h x3 x2 a0
theorem qe86_0 : q86_0 = t86_0 := by
  unfold q86_0 q86_0p1 q86_0p2 q86_0p3 q86_0p4
  try simp only [QE]
  try rfl
noncomputable def bt86 (cf : CallF) (R : Rec) : Rec := fun i l h =>
 br1 i 0 l (fun a0 => t86_0 cf R a0 h) <|
 .fail
noncomputable def b86 (cf : CallF) (R : Rec) : Rec := fun i l h =>
 brQ1 i 0 l (fun a0 => q86_0 cf R a0 h) <|
 .fail
theorem be86 : b86 = bt86 := by
  unfold b86 bt86
  simp only [qe86_0, brQ1_eq]
theorem r86 {T : Tab} {cf : CallF} (hc : leC cf (CL T)) (n : Nat) : leR (recN (b86 cf) n) (J86 T) := be86 ▸ recN_le (fun R hR i l h => by
  unfold bt86
  refine le_br1 (J := fun i l => J86 T i l h) (fun _ a0 => le_e (fun hn => e86_0 rfl hn) ((m86 hc hR) a0 h)) ?_
  exact le_fail _) n
-- 87
theorem m87 {cf cf' : CallF} {R R' : Rec} (hc : ∀ f l h, le (cf f l h) (cf' f l h)) (hR : ∀ i l h, le (R i l h) (R' i l h)) :
  (∀ (a0 a1 a2 : IV) (h : H), le (t87_0 cf R a0 a1 a2 h) (t87_0 cf' R' a0 a1 a2 h)) ∧
  (∀ (a0 a1 a2 a6 a7 : IV) (h : H), le (t87_2 cf R a0 a1 a2 a6 a7 h) (t87_2 cf' R' a0 a1 a2 a6 a7 h)) ∧
  (∀ (a0 a1 a2 a6 a7 a37 : IV) (h : H), le (t87_3 cf R a0 a1 a2 a6 a7 a37 h) (t87_3 cf' R' a0 a1 a2 a6 a7 a37 h)) ∧
  (∀ (a6 a7 : IV) (h : H), le (t87_1 cf R a6 a7 h) (t87_1 cf' R' a6 a7 h)) := by
  refine ⟨?_, ?_, ?_, ?_⟩
  all_goals intros
  all_goals first | unfold t87_0 | unfold t87_2 | unfold t87_3 | unfold t87_1
  all_goals
  with_reducible repeat' first
    | refine le_obind fun _ => ?_
    | refine le_callP ?_ (fun _ _ => ?_) (fun _ _ => ?_)
    | refine le_condK ?_ ?_
    | exact hR _ _ _
    | refine le_obind2 fun _ _ => ?_
    | refine le_obindH fun _ => ?_
    | refine le_spanK (fun _ _ _ => ?_) (fun _ _ => ?_)
    | exact hc _ _ _
    | refine le_bif ?_ ?_
    | refine le_guardK ?_ ?_ ?_
    | refine le_mapK fun _ _ => ?_
    | refine le_panK fun _ _ => ?_
    | refine le_funK fun _ _ => ?_
    | exact le_refl _
    | apply_assumption
noncomputable def q87_0 (cf : CallF) (R : Rec) (a0 : IV) (a1 : IV) (a2 : IV) (h : H) : CRes :=
 Qo2 (QnI h z11) fun x1 h2 =>
 Qo (Qgtr a1 (.int .i64 9)) fun x3 =>
 Qif x3
 (Qc (cf 100 [a0, a2] h2) .pan fun x4 h5 =>
 QoH (QsA 6 h5 x1 x4) fun h6 =>
 Qo (QlA 6 h6 x1) fun x7 =>
 .ok x7 h6)
 (Qo (Qadd a1 (.int .i64 1)) fun x8 =>
 Qc (cf 87 [a0, x8, a2] h2) .pan fun x9 h10 =>
 Qo2 (QnI h10 z11) fun x11 h12 =>
 QoH (QsA 6 h12 x11 x9) fun h13 =>
 R 2 [a0, a1, a2, x1, x11] h13)
theorem qe87_0 : q87_0 = t87_0 := by
  unfold q87_0
  try simp only [QE]
  try rfl
noncomputable def q87_2p2 (cf : CallF) (R : Rec) (h17 : H) (x25 : IV) (a0 : IV) (a1 : IV) (a2 : IV) (a6 : IV) (a7 : IV) : CRes :=
 Qo (Ql0 h17 x25) fun x26 =>
 Qo (Qeql x26 (.int .i64 3)) fun x27 =>
 Qo (Qpk (.bool true) (some x27) (some (.bool false))) fun x28 =>
 R 3 [a0, a1, a2, a6, a7, x28] h17
noncomputable def q87_2p1 (cf : CallF) (R : Rec) (x21 : IV) (h17 : H) (x20 : IV) (a0 : IV) (a1 : IV) (a2 : IV) (a6 : IV) (a7 : IV) : CRes :=
 Qo (Qfad 1 x21) fun x22 =>
 Qo (Ql0 h17 x22) fun x23 =>
 Qo (Qix 3 x20 x23) fun x24 =>
 Qo (Qfad 0 x24) fun x25 =>
 q87_2p2 cf R h17 x25 a0 a1 a2 a6 a7
noncomputable def q87_2 (cf : CallF) (R : Rec) (a0 : IV) (a1 : IV) (a2 : IV) (a6 : IV) (a7 : IV) (h : H) : CRes :=
 Qc (cf 31 [a0] h) (fun v14 h15 =>
 .pan v14 h15) fun x16 h17 =>
 guardK x16 (Qo (Qnil a0) fun x18 =>
 Qo (Qfad 0 x18) fun x19 =>
 Qo (Ql0 h17 x19) fun x20 =>
 Qo (Qnil a0) fun x21 =>
 q87_2p1 cf R x21 h17 x20 a0 a1 a2 a6 a7)
 (Qo (Qpk (.bool false) (some (.tup [])) (some (.bool false))) fun x29 =>
 R 3 [a0, a1, a2, a6, a7, x29] h17)
 (Qo (Qpk (.tup []) (some (.tup [])) (some (.bool false))) fun x30 =>
 R 3 [a0, a1, a2, a6, a7, x30] h17)
theorem qe87_2 : q87_2 = t87_2 := by
  unfold q87_2 q87_2p1 q87_2p2
  try simp only [QE]
  try rfl
noncomputable def q87_3p6 (cf : CallF) (R : Rec) (h61 : H) (a7 : IV) (x59 : IV) (x45 : IV) (x47 : IV) (a0 : IV) (a1 : IV) (a2 : IV) (a6 : IV) : CRes :=
 Qo (QlA 6 h61 a7) fun x62 =>
 Qo (QlA 6 h61 x59) fun x63 =>
 Qo2 (Qbsl false 6 z11 2 [(0, x62), (1, x63)] h61) fun x64 h65 =>
 Qo (Qbld z11 p12 [(0, x45), (4, x64), (5, x47)]) fun x66 =>
 QoH (QsA 6 h65 a7 x66) fun h67 =>
 R 2 [a0, a1, a2, a6, a7] h67
noncomputable def q87_3p5 (cf : CallF) (R : Rec) (a1 : IV) (a0 : IV) (a2 : IV) (h55 : H) (a7 : IV) (x45 : IV) (x47 : IV) (a6 : IV) : CRes :=
 Qo (Qadd a1 (.int .i64 1)) fun x56 =>
 Qc (cf 87 [a0, x56, a2] h55) .pan fun x57 h58 =>
 Qo2 (QnI h58 z11) fun x59 h60 =>
 QoH (QsA 6 h60 x59 x57) fun h61 =>
 q87_3p6 cf R h61 a7 x59 x45 x47 a0 a1 a2 a6
noncomputable def q87_3p4 (cf : CallF) (R : Rec) (x51 : IV) (a0 : IV) (h48 : H) (a1 : IV) (a2 : IV) (a7 : IV) (x45 : IV) (x47 : IV) (a6 : IV) : CRes :=
 Qo (Qadd x51 (.int .i64 1)) fun x52 =>
 Qo (Qnil a0) fun x53 =>
 Qo (Qfad 1 x53) fun x54 =>
 QoH (QsA 1 h48 x54 x52) fun h55 =>
 q87_3p5 cf R a1 a0 a2 h55 a7 x45 x47 a6
noncomputable def q87_3p3 (cf : CallF) (R : Rec) (x44 : IV) (a1 : IV) (a6 : IV) (a7 : IV) (h43 : H) (a0 : IV) (a2 : IV) (x45 : IV) : CRes :=
 Qo (Qneq x44 a1) fun x46 =>
 Qif x46
 (R 1 [a6, a7] h43)
 (Qc (cf 44 [a0] h43) .pan fun x47 h48 =>
 Qo (Qnil a0) fun x49 =>
 Qo (Qfad 1 x49) fun x50 =>
 Qo (Ql0 h48 x50) fun x51 =>
 q87_3p4 cf R x51 a0 h48 a1 a2 a7 x45 x47 a6)
noncomputable def q87_3p2 (cf : CallF) (R : Rec) (h : H) (x38 : IV) (a1 : IV) (a6 : IV) (a7 : IV) (a0 : IV) (a2 : IV) : CRes :=
 Qo (Ql0 h x38) fun x39 =>
 Qc (cf 101 [x39] h) (fun v40 h41 =>
 .pan v40 h41) fun x42 h43 =>
 Qo (Qext x42 0) fun x44 =>
 Qo (Qext x42 1) fun x45 =>
 q87_3p3 cf R x44 a1 a6 a7 h43 a0 a2 x45
noncomputable def q87_3p1 (cf : CallF) (R : Rec) (x34 : IV) (h : H) (x33 : IV) (a1 : IV) (a6 : IV) (a7 : IV) (a0 : IV) (a2 : IV) : CRes :=
 Qo (Qfad 1 x34) fun x35 =>
 Qo (Ql0 h x35) fun x36 =>
 Qo (Qix 3 x33 x36) fun x37 =>
 Qo (Qfad 1 x37) fun x38 =>
 q87_3p2 cf R h x38 a1 a6 a7 a0 a2
noncomputable def q87_3 (cf : CallF) (R : Rec) (a0 : IV) (a1 : IV) (a2 : IV) (a6 : IV) (a7 : IV) (a37 : IV) (h : H) : CRes :=
 Qif a37
 (Qo (Qnil a0) fun x31 =>
 Qo (Qfad 0 x31) fun x32 =>
 Qo (Ql0 h x32) fun x33 =>
 Qo (Qnil a0) fun x34 =>
 q87_3p1 cf R x34 h x33 a1 a6 a7 a0 a2)
 (R 1 [a6, a7] h)
theorem qe87_3 : q87_3 = t87_3 := by
  unfold q87_3 q87_3p1 q87_3p2 q87_3p3 q87_3p4 q87_3p5 q87_3p6
  try simp only [QE]
  try rfl
noncomputable def q87_1 (cf : CallF) (R : Rec) (a6 : IV) (a7 : IV) (h : H) : CRes :=
 Qo (QlA 6 h a7) fun x68 =>
 QoH (QsA 6 h a6 x68) fun h69 =>
 Qo (QlA 6 h69 a6) fun x70 =>
 .ok x70 h69
theorem qe87_1 : q87_1 = t87_1 := by
  unfold q87_1
  try simp only [QE]
  try rfl
noncomputable def bt87 (cf : CallF) (R : Rec) : Rec := fun i l h =>
 br3 i 0 l (fun a0 a1 a2 => t87_0 cf R a0 a1 a2 h) <|
 br5 i 2 l (fun a0 a1 a2 a6 a7 => t87_2 cf R a0 a1 a2 a6 a7 h) <|
 br6 i 3 l (fun a0 a1 a2 a6 a7 a37 => t87_3 cf R a0 a1 a2 a6 a7 a37 h) <|
 br2 i 1 l (fun a6 a7 => t87_1 cf R a6 a7 h) <|
 .fail
noncomputable def b87 (cf : CallF) (R : Rec) : Rec := fun i l h =>
 brQ3 i 0 l (fun a0 a1 a2 => q87_0 cf R a0 a1 a2 h) <|
 brQ5 i 2 l (fun a0 a1 a2 a6 a7 => q87_2 cf R a0 a1 a2 a6 a7 h) <|
 brQ6 i 3 l (fun a0 a1 a2 a6 a7 a37 => q87_3 cf R a0 a1 a2 a6 a7 a37 h) <|
 brQ2 i 1 l (fun a6 a7 => q87_1 cf R a6 a7 h) <|
 .fail
theorem be87 : b87 = bt87 := by
  unfold b87 bt87
  simp only [qe87_0, qe87_2, qe87_3, qe87_1, brQ2_eq, brQ3_eq, brQ5_eq, brQ6_eq]
theorem r87 {T : Tab} {cf : CallF} (hc : leC cf (CL T)) (n : Nat) : leR (recN (b87 cf) n) (J87 T) := be87 ▸ recN_le (fun R hR i l h => by
  unfold bt87
  refine le_br3 (J := fun i l => J87 T i l h) (fun _ a0 a1 a2 => le_e (fun hn => e87_0 rfl hn) ((m87 hc hR).1 a0 a1 a2 h)) ?_
  refine le_br5 (J := fun i l => J87 T i l h) (fun _ a0 a1 a2 a6 a7 => le_e (fun hn => e87_2 rfl hn) ((m87 hc hR).2.1 a0 a1 a2 a6 a7 h)) ?_
  refine le_br6 (J := fun i l => J87 T i l h) (fun _ a0 a1 a2 a6 a7 a37 => le_e (fun hn => e87_3 rfl hn) ((m87 hc hR).2.2.1 a0 a1 a2 a6 a7 a37 h)) ?_
  refine le_br2 (J := fun i l => J87 T i l h) (fun _ a6 a7 => le_e (fun hn => e87_1 rfl hn) ((m87 hc hR).2.2.2 a6 a7 h)) ?_
  exact le_fail _) n
-- 88
theorem m88 {cf cf' : CallF} {R R' : Rec} (hc : ∀ f l h, le (cf f l h) (cf' f l h)) (hR : ∀ i l h, le (R i l h) (R' i l h)) : (∀ (a0 : IV) (h : H), le (t88_0 cf R a0 h) (t88_0 cf' R' a0 h)) := by
  intros
  unfold t88_0
  with_reducible repeat' first
    | refine le_obind fun _ => ?_
    | refine le_callP ?_ (fun _ _ => ?_) (fun _ _ => ?_)
    | refine le_condK ?_ ?_
    | exact hR _ _ _
    | refine le_obind2 fun _ _ => ?_
    | refine le_obindH fun _ => ?_
    | refine le_spanK (fun _ _ _ => ?_) (fun _ _ => ?_)
    | exact hc _ _ _
    | refine le_bif ?_ ?_
    | refine le_guardK ?_ ?_ ?_
    | refine le_mapK fun _ _ => ?_
    | refine le_panK fun _ _ => ?_
    | refine le_funK fun _ _ => ?_
    | exact le_refl _
    | apply_assumption
noncomputable def q88_0p2 (cf : CallF) (R : Rec) (x20 : IV) (x22 : IV) (h23 : H) (a0 : IV) : CRes :=
 Qo (Qpk x20 (some (.bool true)) (some x22)) fun x26 =>
 Qsp x26 false h23 (fun k27 =>
 Qc (cf 69 [a0, (.str ⟨6, 126965163453537⟩)] h23) .pan fun x30 h31 =>
 k27 x30 h31) fun x28 h29 =>
 Qo (Qpk x26 (some (.bool true)) (some x28)) fun x32 =>
 Qsp x32 false h29 (fun k33 =>
 Qc (cf 69 [a0, (.str ⟨3, 7499622⟩)] h29) .pan fun x36 h37 =>
 k33 x36 h37) fun x34 h35 =>
 Qo (Qpk x32 (some (.bool true)) (some x34)) fun x38 =>
 .ok x38 h35
noncomputable def q88_0p1 (cf : CallF) (R : Rec) (x8 : IV) (x10 : IV) (h11 : H) (a0 : IV) : CRes :=
 Qo (Qpk x8 (some (.bool true)) (some x10)) fun x14 =>
 Qsp x14 false h11 (fun k15 =>
 Qc (cf 69 [a0, (.str ⟨10, 516535522800345012203372⟩)] h11) .pan fun x18 h19 =>
 k15 x18 h19) fun x16 h17 =>
 Qo (Qpk x14 (some (.bool true)) (some x16)) fun x20 =>
 Qsp x20 false h17 (fun k21 =>
 Qc (cf 69 [a0, (.str ⟨6, 121390429860705⟩)] h17) .pan fun x24 h25 =>
 k21 x24 h25) fun x22 h23 =>
 q88_0p2 cf R x20 x22 h23 a0
noncomputable def q88_0 (cf : CallF) (R : Rec) (a0 : IV) (h : H) : CRes :=
 Qc (cf 68 [a0] h) .pan fun x1 h2 =>
 Qsp x1 false h2 (fun k3 =>
 Qc (cf 69 [a0, (.str ⟨4, 1701996919⟩)] h2) .pan fun x6 h7 =>
 k3 x6 h7) fun x4 h5 =>
 Qo (Qpk x1 (some (.bool true)) (some x4)) fun x8 =>
 Qsp x8 false h5 (fun k9 =>
 Qc (cf 69 [a0, (.str ⟨3, 6776178⟩)] h5) .pan fun x12 h13 =>
 k9 x12 h13) fun x10 h11 =>
 q88_0p1 cf R x8 x10 h11 a0
theorem qe88_0 : q88_0 = t88_0 := by
  unfold q88_0 q88_0p1 q88_0p2
  try simp only [QE]
  try rfl
noncomputable def bt88 (cf : CallF) (R : Rec) : Rec := fun i l h =>
 br1 i 0 l (fun a0 => t88_0 cf R a0 h) <|
 .fail
noncomputable def b88 (cf : CallF) (R : Rec) : Rec := fun i l h =>
 brQ1 i 0 l (fun a0 => q88_0 cf R a0 h) <|
 .fail
theorem be88 : b88 = bt88 := by
  unfold b88 bt88
  simp only [qe88_0, brQ1_eq]
theorem r88 {T : Tab} {cf : CallF} (hc : leC cf (CL T)) (n : Nat) : leR (recN (b88 cf) n) (J88 T) := be88 ▸ recN_le (fun R hR i l h => by
  unfold bt88
  refine le_br1 (J := fun i l => J88 T i l h) (fun _ a0 => le_e (fun hn => e88_0 rfl hn) ((m88 hc hR) a0 h)) ?_
  exact le_fail _) n
-- 89
theorem m89 {cf cf' : CallF} {R R' : Rec} (hc : ∀ f l h, le (cf f l h) (cf' f l h)) (hR : ∀ i l h, le (R i l h) (R' i l h)) :
  (∀ (a0 a1 a2 : IV) (h : H), le (t89_0 cf R a0 a1 a2 h) (t89_0 cf' R' a0 a1 a2 h)) ∧
  (∀ (a0 a4 a6 : IV) (h : H), le (t89_1 cf R a0 a4 a6 h) (t89_1 cf' R' a0 a4 a6 h)) := by
  refine ⟨?_, ?_⟩
  all_goals intros
  all_goals first | unfold t89_0 | unfold t89_1
  all_goals
  with_reducible repeat' first
    | refine le_obind fun _ => ?_
    | refine le_callP ?_ (fun _ _ => ?_) (fun _ _ => ?_)
    | refine le_condK ?_ ?_
    | exact hR _ _ _
    | refine le_obind2 fun _ _ => ?_
    | refine le_obindH fun _ => ?_
    | refine le_spanK (fun _ _ _ => ?_) (fun _ _ => ?_)
    | exact hc _ _ _
    | refine le_bif ?_ ?_
    | refine le_guardK ?_ ?_ ?_
    | refine le_mapK fun _ _ => ?_
    | refine le_panK fun _ _ => ?_
    | refine le_funK fun _ _ => ?_
    | exact le_refl _
    | apply_assumption
noncomputable def q89_0p3 (cf : CallF) (R : Rec) (x1 : IV) (h15 : H) (x11 : IV) (a0 : IV) (x3 : IV) : CRes :=
 Qo (Qfad 10 x1) fun x16 =>
 QoH (QsA 6 h15 x16 x11) fun h17 =>
 Qc (cf 46 [a0] h17) .pan fun x18 h19 =>
 Qo2 (Qbsl false 1 [(.str ⟨0, 0⟩)] 1 [(0, x18)] h19) fun x20 h21 =>
 Qo (Qfad 2 x1) fun x22 =>
 QoH (QsA 1 h21 x22 x20) fun h23 =>
 R 1 [a0, x1, x3] h23
noncomputable def q89_0p2 (cf : CallF) (R : Rec) (x1 : IV) (h8 : H) (x9 : IV) (x10 : IV) (x11 : IV) (a0 : IV) (x3 : IV) : CRes :=
 Qo (Qfad 3 x1) fun x12 =>
 QoH (QsA 1 h8 x12 x9) fun h13 =>
 Qo (Qfad 4 x1) fun x14 =>
 QoH (QsA 6 h13 x14 x10) fun h15 =>
 q89_0p3 cf R x1 h15 x11 a0 x3
noncomputable def q89_0p1 (cf : CallF) (R : Rec) (a0 : IV) (h6 : H) (x1 : IV) (x3 : IV) : CRes :=
 Qc (cf 71 [a0] h6) .pan fun x7 h8 =>
 Qo (Qext x7 0) fun x9 =>
 Qo (Qext x7 1) fun x10 =>
 Qo (Qext x7 2) fun x11 =>
 q89_0p2 cf R x1 h8 x9 x10 x11 a0 x3
noncomputable def q89_0 (cf : CallF) (R : Rec) (a0 : IV) (a1 : IV) (a2 : IV) (h : H) : CRes :=
 Qo2 (QnI h (Qcells a1)) fun x1 h2 =>
 Qo2 (QnI h2 z8) fun x3 h4 =>
 Qo (Qfad 0 x1) fun x5 =>
 QoH (QsA 1 h4 x5 a2) fun h6 =>
 q89_0p1 cf R a0 h6 x1 x3
theorem qe89_0 : q89_0 = t89_0 := by
  unfold q89_0 q89_0p1 q89_0p2 q89_0p3
  try simp only [QE]
  try rfl
noncomputable def q89_1p1 (cf : CallF) (R : Rec) (x32 : IV) (x27 : IV) (x30 : IV) (h31 : H) (x26 : IV) (a4 : IV) (a0 : IV) (a6 : IV) : CRes :=
 bif IV.beq x32 x27 then
 Qo2 (Qbsl false 1 [(.str ⟨0, 0⟩)] 1 [(0, x30)] h31) fun x33 h34 =>
 Qo (Ql0 h34 x26) fun x35 =>
 bif IV.beq x35 x27 then
 Qo2 (appK 1 16 h34 x27 x33) fun x36 h37 =>
 Qo (Qfad 2 a4) fun x38 =>
 QoH (QsA 1 h37 x38 x36) fun h39 =>
 R 1 [a0, a4, a6] h39
 else .fail
 else .fail
noncomputable def q89_1 (cf : CallF) (R : Rec) (a0 : IV) (a4 : IV) (a6 : IV) (h : H) : CRes :=
 Qc (cf 47 [a0, (.str ⟨1, 44⟩)] h) .pan fun x24 h25 =>
 Qif x24
 (Qo (Qfad 2 a4) fun x26 =>
 Qo (Ql0 h25 x26) fun x27 =>
 Qc (cf 46 [a0] h25) (fun v28 h29 =>
 .pan v28 h29) fun x30 h31 =>
 Qo (Ql0 h31 x26) fun x32 =>
 q89_1p1 cf R x32 x27 x30 h31 x26 a4 a0 a6)
 (Qc (cf 45 [a0, (.str ⟨1, 59⟩)] h25) .pan fun x40 h41 =>
 Qo (QlA 48 h41 a4) fun x42 =>
 QoH (QsA 48 h41 a6 x42) fun h43 =>
 Qo (QlA 48 h43 a6) fun x44 =>
 .ok x44 h43)
theorem qe89_1 : q89_1 = t89_1 := by
  unfold q89_1 q89_1p1
  try simp only [QE]
  try rfl
noncomputable def bt89 (cf : CallF) (R : Rec) : Rec := fun i l h =>
 br3 i 0 l (fun a0 a1 a2 => t89_0 cf R a0 a1 a2 h) <|
 br3 i 1 l (fun a0 a4 a6 => t89_1 cf R a0 a4 a6 h) <|
 .fail
noncomputable def b89 (cf : CallF) (R : Rec) : Rec := fun i l h =>
 brQ3 i 0 l (fun a0 a1 a2 => q89_0 cf R a0 a1 a2 h) <|
 brQ3 i 1 l (fun a0 a4 a6 => q89_1 cf R a0 a4 a6 h) <|
 .fail
theorem be89 : b89 = bt89 := by
  unfold b89 bt89
  simp only [qe89_0, qe89_1, brQ3_eq]
theorem r89 {T : Tab} {cf : CallF} (hc : leC cf (CL T)) (n : Nat) : leR (recN (b89 cf) n) (J89 T) := be89 ▸ recN_le (fun R hR i l h => by
  unfold bt89
  refine le_br3 (J := fun i l => J89 T i l h) (fun _ a0 a1 a2 => le_e (fun hn => e89_0 rfl hn) ((m89 hc hR).1 a0 a1 a2 h)) ?_
  refine le_br3 (J := fun i l => J89 T i l h) (fun _ a0 a4 a6 => le_e (fun hn => e89_1 rfl hn) ((m89 hc hR).2 a0 a4 a6 h)) ?_
  exact le_fail _) n
-- 90
theorem m90 {cf cf' : CallF} {R R' : Rec} (hc : ∀ f l h, le (cf f l h) (cf' f l h)) (hR : ∀ i l h, le (R i l h) (R' i l h)) :
  (∀ (a0 a1 : IV) (h : H), le (t90_0 cf R a0 a1 h) (t90_0 cf' R' a0 a1 h)) ∧
  (∀ (a0 a3 a4 : IV) (h : H), le (t90_1 cf R a0 a3 a4 h) (t90_1 cf' R' a0 a3 a4 h)) ∧
  (∀ (a0 a3 a4 a29 : IV) (h : H), le (t90_2 cf R a0 a3 a4 a29 h) (t90_2 cf' R' a0 a3 a4 a29 h)) := by
  refine ⟨?_, ?_, ?_⟩
  all_goals intros
  all_goals first | unfold t90_0 | unfold t90_1 | unfold t90_2
  all_goals
  with_reducible repeat' first
    | refine le_obind fun _ => ?_
    | refine le_callP ?_ (fun _ _ => ?_) (fun _ _ => ?_)
    | refine le_condK ?_ ?_
    | exact hR _ _ _
    | refine le_obind2 fun _ _ => ?_
    | refine le_obindH fun _ => ?_
    | refine le_spanK (fun _ _ _ => ?_) (fun _ _ => ?_)
    | exact hc _ _ _
    | refine le_bif ?_ ?_
    | refine le_guardK ?_ ?_ ?_
    | refine le_mapK fun _ _ => ?_
    | refine le_panK fun _ _ => ?_
    | refine le_funK fun _ _ => ?_
    | exact le_refl _
    | apply_assumption
noncomputable def q90_0p3 (cf : CallF) (R : Rec) (h18 : H) (x27 : IV) (a0 : IV) (x1 : IV) (x3 : IV) : CRes :=
 Qo (Ql0 h18 x27) fun x28 =>
 Qc (cf 99 [x28] h18) (fun v29 h30 =>
 .pan v29 h30) fun x31 h32 =>
 Qo (Qeql x31 (.int .i64 0)) fun x33 =>
 Qo (Qpk (.bool true) (some x33) (some (.bool false))) fun x34 =>
 R 2 [a0, x1, x3, x34] h32
noncomputable def q90_0p2 (cf : CallF) (R : Rec) (x23 : IV) (h18 : H) (x22 : IV) (a0 : IV) (x1 : IV) (x3 : IV) : CRes :=
 Qo (Qfad 1 x23) fun x24 =>
 Qo (Ql0 h18 x24) fun x25 =>
 Qo (Qix 3 x22 x25) fun x26 =>
 Qo (Qfad 1 x26) fun x27 =>
 q90_0p3 cf R h18 x27 a0 x1 x3
noncomputable def q90_0p5 (cf : CallF) (R : Rec) (h14 : H) (x45 : IV) (a0 : IV) (x1 : IV) (x3 : IV) : CRes :=
 Qo (Ql0 h14 x45) fun x46 =>
 Qc (cf 99 [x46] h14) (fun v47 h48 =>
 .pan v47 h48) fun x49 h50 =>
 Qo (Qeql x49 (.int .i64 0)) fun x51 =>
 Qo (Qpk (.bool true) (some x51) (some (.bool false))) fun x52 =>
 R 2 [a0, x1, x3, x52] h50
noncomputable def q90_0p4 (cf : CallF) (R : Rec) (x41 : IV) (h14 : H) (x40 : IV) (a0 : IV) (x1 : IV) (x3 : IV) : CRes :=
 Qo (Qfad 1 x41) fun x42 =>
 Qo (Ql0 h14 x42) fun x43 =>
 Qo (Qix 3 x40 x43) fun x44 =>
 Qo (Qfad 1 x44) fun x45 =>
 q90_0p5 cf R h14 x45 a0 x1 x3
noncomputable def q90_0p7 (cf : CallF) (R : Rec) (h14 : H) (x63 : IV) (a0 : IV) (x1 : IV) (x3 : IV) : CRes :=
 Qo (Ql0 h14 x63) fun x64 =>
 Qc (cf 99 [x64] h14) (fun v65 h66 =>
 .pan v65 h66) fun x67 h68 =>
 Qo (Qeql x67 (.int .i64 0)) fun x69 =>
 Qo (Qpk (.bool true) (some x69) (some (.bool false))) fun x70 =>
 R 2 [a0, x1, x3, x70] h68
noncomputable def q90_0p6 (cf : CallF) (R : Rec) (x59 : IV) (h14 : H) (x58 : IV) (a0 : IV) (x1 : IV) (x3 : IV) : CRes :=
 Qo (Qfad 1 x59) fun x60 =>
 Qo (Ql0 h14 x60) fun x61 =>
 Qo (Qix 3 x58 x61) fun x62 =>
 Qo (Qfad 1 x62) fun x63 =>
 q90_0p7 cf R h14 x63 a0 x1 x3
noncomputable def q90_0p1 (cf : CallF) (R : Rec) (a0 : IV) (h6 : H) (x1 : IV) (x3 : IV) : CRes :=
 Qc (cf 47 [a0, (.str ⟨1, 35⟩)] h6) .pan fun x7 h8 =>
 Qif x7
 (Qo (Qfad 16 x1) fun x9 =>
 QoH (QsA 1 h8 x9 (.bool true)) fun h10 =>
 Qc (cf 31 [a0] h10) (fun v11 h12 =>
 .pan v11 h12) fun x13 h14 =>
 guardK x13 (Qc (cf 86 [a0] h14) (fun v15 h16 =>
 .pan v15 h16) fun x17 h18 =>
 Qo (Qpk (.bool true) (some x17) (some (.bool false))) fun x19 =>
 guardK x19 (Qo (Qnil a0) fun x20 =>
 Qo (Qfad 0 x20) fun x21 =>
 Qo (Ql0 h18 x21) fun x22 =>
 Qo (Qnil a0) fun x23 =>
 q90_0p2 cf R x23 h18 x22 a0 x1 x3)
 (Qo (Qpk (.bool false) (some (.tup [])) (some (.bool false))) fun x35 =>
 R 2 [a0, x1, x3, x35] h18)
 (Qo (Qpk (.tup []) (some (.tup [])) (some (.bool false))) fun x36 =>
 R 2 [a0, x1, x3, x36] h18))
 (Qo (Qpk (.bool false) (some (.tup [])) (some (.bool false))) fun x37 =>
 guardK x37 (Qo (Qnil a0) fun x38 =>
 Qo (Qfad 0 x38) fun x39 =>
 Qo (Ql0 h14 x39) fun x40 =>
 Qo (Qnil a0) fun x41 =>
 q90_0p4 cf R x41 h14 x40 a0 x1 x3)
 (Qo (Qpk (.bool false) (some (.tup [])) (some (.bool false))) fun x53 =>
 R 2 [a0, x1, x3, x53] h14)
 (Qo (Qpk (.tup []) (some (.tup [])) (some (.bool false))) fun x54 =>
 R 2 [a0, x1, x3, x54] h14))
 (Qo (Qpk (.tup []) (some (.tup [])) (some (.bool false))) fun x55 =>
 guardK x55 (Qo (Qnil a0) fun x56 =>
 Qo (Qfad 0 x56) fun x57 =>
 Qo (Ql0 h14 x57) fun x58 =>
 Qo (Qnil a0) fun x59 =>
 q90_0p6 cf R x59 h14 x58 a0 x1 x3)
 (Qo (Qpk (.bool false) (some (.tup [])) (some (.bool false))) fun x71 =>
 R 2 [a0, x1, x3, x71] h14)
 (Qo (Qpk (.tup []) (some (.tup [])) (some (.bool false))) fun x72 =>
 R 2 [a0, x1, x3, x72] h14)))
 (R 1 [a0, x1, x3] h8)
noncomputable def q90_0 (cf : CallF) (R : Rec) (a0 : IV) (a1 : IV) (h : H) : CRes :=
 Qo2 (QnI h (Qcells a1)) fun x1 h2 =>
 Qo2 (QnI h2 z8) fun x3 h4 =>
 Qo (Qfad 0 x1) fun x5 =>
 QoH (QsA 1 h4 x5 (.int .i64 4)) fun h6 =>
 q90_0p1 cf R a0 h6 x1 x3
theorem qe90_0 : q90_0 = t90_0 := by
  unfold q90_0 q90_0p1 q90_0p6 q90_0p7 q90_0p4 q90_0p5 q90_0p2 q90_0p3
  try simp only [QE]
  try rfl
noncomputable def q90_1p2 (cf : CallF) (R : Rec) (h84 : H) (a3 : IV) (a4 : IV) : CRes :=
 Qo (QlA 48 h84 a3) fun x85 =>
 QoH (QsA 48 h84 a4 x85) fun h86 =>
 Qo (QlA 48 h86 a4) fun x87 =>
 .ok x87 h86
noncomputable def q90_1p1 (cf : CallF) (R : Rec) (a0 : IV) (h78 : H) (a3 : IV) (a4 : IV) : CRes :=
 Qc (cf 70 [a0, (.int .i64 1)] h78) .pan fun x79 h80 =>
 Qo (Qfad 23 a3) fun x81 =>
 QoH (QsA 6 h80 x81 x79) fun h82 =>
 Qc (cf 45 [a0, (.str ⟨1, 59⟩)] h82) .pan fun x83 h84 =>
 q90_1p2 cf R h84 a3 a4
noncomputable def q90_1 (cf : CallF) (R : Rec) (a0 : IV) (a3 : IV) (a4 : IV) (h : H) : CRes :=
 Qc (cf 46 [a0] h) .pan fun x73 h74 =>
 Qo (Qfad 1 a3) fun x75 =>
 QoH (QsA 1 h74 x75 x73) fun h76 =>
 Qc (cf 45 [a0, (.str ⟨1, 61⟩)] h76) .pan fun x77 h78 =>
 q90_1p1 cf R a0 h78 a3 a4
theorem qe90_1 : q90_1 = t90_1 := by
  unfold q90_1 q90_1p1 q90_1p2
  try simp only [QE]
  try rfl
noncomputable def q90_2 (cf : CallF) (R : Rec) (a0 : IV) (a3 : IV) (a4 : IV) (a29 : IV) (h : H) : CRes :=
 Qif a29
 (Qc (cf 102 [a0, (.int .i64 1)] h) .pan fun x88 h89 =>
 Qo (Qfad 17 a3) fun x90 =>
 QoH (QsA 6 h89 x90 x88) fun h91 =>
 R 1 [a0, a3, a4] h91)
 (Qc (cf 67 [a0, (.int .i64 40)] h) .pan fun x92 h93 =>
 R 1 [a0, a3, a4] h93)
theorem qe90_2 : q90_2 = t90_2 := by
  unfold q90_2
  try simp only [QE]
  try rfl
noncomputable def bt90 (cf : CallF) (R : Rec) : Rec := fun i l h =>
 br2 i 0 l (fun a0 a1 => t90_0 cf R a0 a1 h) <|
 br3 i 1 l (fun a0 a3 a4 => t90_1 cf R a0 a3 a4 h) <|
 br4 i 2 l (fun a0 a3 a4 a29 => t90_2 cf R a0 a3 a4 a29 h) <|
 .fail
noncomputable def b90 (cf : CallF) (R : Rec) : Rec := fun i l h =>
 brQ2 i 0 l (fun a0 a1 => q90_0 cf R a0 a1 h) <|
 brQ3 i 1 l (fun a0 a3 a4 => q90_1 cf R a0 a3 a4 h) <|
 brQ4 i 2 l (fun a0 a3 a4 a29 => q90_2 cf R a0 a3 a4 a29 h) <|
 .fail
theorem be90 : b90 = bt90 := by
  unfold b90 bt90
  simp only [qe90_0, qe90_1, qe90_2, brQ2_eq, brQ3_eq, brQ4_eq]
theorem r90 {T : Tab} {cf : CallF} (hc : leC cf (CL T)) (n : Nat) : leR (recN (b90 cf) n) (J90 T) := be90 ▸ recN_le (fun R hR i l h => by
  unfold bt90
  refine le_br2 (J := fun i l => J90 T i l h) (fun _ a0 a1 => le_e (fun hn => e90_0 rfl hn) ((m90 hc hR).1 a0 a1 h)) ?_
  refine le_br3 (J := fun i l => J90 T i l h) (fun _ a0 a3 a4 => le_e (fun hn => e90_1 rfl hn) ((m90 hc hR).2.1 a0 a3 a4 h)) ?_
  refine le_br4 (J := fun i l => J90 T i l h) (fun _ a0 a3 a4 a29 => le_e (fun hn => e90_2 rfl hn) ((m90 hc hR).2.2 a0 a3 a4 a29 h)) ?_
  exact le_fail _) n
-- 91
theorem m91 {cf cf' : CallF} {R R' : Rec} (hc : ∀ f l h, le (cf f l h) (cf' f l h)) (hR : ∀ i l h, le (R i l h) (R' i l h)) :
  (∀ (a0 a1 : IV) (h : H), le (t91_0 cf R a0 a1 h) (t91_0 cf' R' a0 a1 h)) ∧
  (∀ (a0 a3 a4 : IV) (h : H), le (t91_1 cf R a0 a3 a4 h) (t91_1 cf' R' a0 a3 a4 h)) := by
  refine ⟨?_, ?_⟩
  all_goals intros
  all_goals first | unfold t91_0 | unfold t91_1
  all_goals
  with_reducible repeat' first
    | refine le_obind fun _ => ?_
    | refine le_callP ?_ (fun _ _ => ?_) (fun _ _ => ?_)
    | refine le_condK ?_ ?_
    | exact hR _ _ _
    | refine le_obind2 fun _ _ => ?_
    | refine le_obindH fun _ => ?_
    | refine le_spanK (fun _ _ _ => ?_) (fun _ _ => ?_)
    | exact hc _ _ _
    | refine le_bif ?_ ?_
    | refine le_guardK ?_ ?_ ?_
    | refine le_mapK fun _ _ => ?_
    | refine le_panK fun _ _ => ?_
    | refine le_funK fun _ _ => ?_
    | exact le_refl _
    | apply_assumption
noncomputable def q91_0p2 (cf : CallF) (R : Rec) (x13 : IV) (a0 : IV) (h12 : H) (x1 : IV) (x3 : IV) : CRes :=
 Qif x13
 (Qc (cf 45 [a0, (.str ⟨7, 28542653544230768⟩)] h12) .pan fun x14 h15 =>
 Qo (Qfad 0 x1) fun x16 =>
 QoH (QsA 1 h15 x16 (.int .i64 6)) fun h17 =>
 Qc (cf 46 [a0] h17) .pan fun x18 h19 =>
 Qo (Qfad 1 x1) fun x20 =>
 QoH (QsA 1 h19 x20 x18) fun h21 =>
 R 1 [a0, x1, x3] h21)
 (R 1 [a0, x1, x3] h12)
noncomputable def q91_0p1 (cf : CallF) (R : Rec) (x1 : IV) (h8 : H) (a0 : IV) (x3 : IV) : CRes :=
 Qo (Qfad 0 x1) fun x9 =>
 QoH (QsA 1 h8 x9 (.int .i64 5)) fun h10 =>
 Qc (cf 47 [a0, (.str ⟨1, 42⟩)] h10) .pan fun x11 h12 =>
 Qo (Qnot x11) fun x13 =>
 q91_0p2 cf R x13 a0 h12 x1 x3
noncomputable def q91_0 (cf : CallF) (R : Rec) (a0 : IV) (a1 : IV) (h : H) : CRes :=
 Qo2 (QnI h (Qcells a1)) fun x1 h2 =>
 Qo2 (QnI h2 z8) fun x3 h4 =>
 Qc (cf 45 [a0, (.str ⟨1, 64⟩)] h4) .pan fun x5 h6 =>
 Qc (cf 45 [a0, (.str ⟨1, 40⟩)] h6) .pan fun x7 h8 =>
 q91_0p1 cf R x1 h8 a0 x3
theorem qe91_0 : q91_0 = t91_0 := by
  unfold q91_0 q91_0p1 q91_0p2
  try simp only [QE]
  try rfl
noncomputable def q91_1p1 (cf : CallF) (R : Rec) (h27 : H) (a3 : IV) (a4 : IV) : CRes :=
 Qo (QlA 48 h27 a3) fun x28 =>
 QoH (QsA 48 h27 a4 x28) fun h29 =>
 Qo (QlA 48 h29 a4) fun x30 =>
 .ok x30 h29
noncomputable def q91_1 (cf : CallF) (R : Rec) (a0 : IV) (a3 : IV) (a4 : IV) (h : H) : CRes :=
 Qc (cf 45 [a0, (.str ⟨1, 41⟩)] h) .pan fun x22 h23 =>
 Qc (cf 103 [a0, (.int .i64 1)] h23) .pan fun x24 h25 =>
 Qo (Qfad 45 a3) fun x26 =>
 QoH (QsA 1 h25 x26 x24) fun h27 =>
 q91_1p1 cf R h27 a3 a4
theorem qe91_1 : q91_1 = t91_1 := by
  unfold q91_1 q91_1p1
  try simp only [QE]
  try rfl
noncomputable def bt91 (cf : CallF) (R : Rec) : Rec := fun i l h =>
 br2 i 0 l (fun a0 a1 => t91_0 cf R a0 a1 h) <|
 br3 i 1 l (fun a0 a3 a4 => t91_1 cf R a0 a3 a4 h) <|
 .fail
noncomputable def b91 (cf : CallF) (R : Rec) : Rec := fun i l h =>
 brQ2 i 0 l (fun a0 a1 => q91_0 cf R a0 a1 h) <|
 brQ3 i 1 l (fun a0 a3 a4 => q91_1 cf R a0 a3 a4 h) <|
 .fail
theorem be91 : b91 = bt91 := by
  unfold b91 bt91
  simp only [qe91_0, qe91_1, brQ2_eq, brQ3_eq]
theorem r91 {T : Tab} {cf : CallF} (hc : leC cf (CL T)) (n : Nat) : leR (recN (b91 cf) n) (J91 T) := be91 ▸ recN_le (fun R hR i l h => by
  unfold bt91
  refine le_br2 (J := fun i l => J91 T i l h) (fun _ a0 a1 => le_e (fun hn => e91_0 rfl hn) ((m91 hc hR).1 a0 a1 h)) ?_
  refine le_br3 (J := fun i l => J91 T i l h) (fun _ a0 a3 a4 => le_e (fun hn => e91_1 rfl hn) ((m91 hc hR).2 a0 a3 a4 h)) ?_
  exact le_fail _) n
-- 92
theorem m92 {cf cf' : CallF} {R R' : Rec} (hc : ∀ f l h, le (cf f l h) (cf' f l h)) (hR : ∀ i l h, le (R i l h) (R' i l h)) :
  (∀ (a0 a1 a2 : IV) (h : H), le (t92_0 cf R a0 a1 a2 h) (t92_0 cf' R' a0 a1 a2 h)) ∧
  (∀ (a0 a2 a4 a6 a47 : IV) (h : H), le (t92_2 cf R a0 a2 a4 a6 a47 h) (t92_2 cf' R' a0 a2 a4 a6 a47 h)) ∧
  (∀ (a0 a2 a4 a6 : IV) (h : H), le (t92_1 cf R a0 a2 a4 a6 h) (t92_1 cf' R' a0 a2 a4 a6 h)) := by
  refine ⟨?_, ?_, ?_⟩
  all_goals intros
  all_goals first | unfold t92_0 | unfold t92_2 | unfold t92_1
  all_goals
  with_reducible repeat' first
    | refine le_obind fun _ => ?_
    | refine le_callP ?_ (fun _ _ => ?_) (fun _ _ => ?_)
    | refine le_condK ?_ ?_
    | exact hR _ _ _
    | refine le_obind2 fun _ _ => ?_
    | refine le_obindH fun _ => ?_
    | refine le_spanK (fun _ _ _ => ?_) (fun _ _ => ?_)
    | exact hc _ _ _
    | refine le_bif ?_ ?_
    | refine le_guardK ?_ ?_ ?_
    | refine le_mapK fun _ _ => ?_
    | refine le_panK fun _ _ => ?_
    | refine le_funK fun _ _ => ?_
    | exact le_refl _
    | apply_assumption
noncomputable def q92_0p6 (cf : CallF) (R : Rec) (h34 : H) (x45 : IV) (x1 : IV) (a0 : IV) (a2 : IV) (x3 : IV) : CRes :=
 Qo (Ql0 h34 x45) fun x46 =>
 Qo (Qfad 41 x1) fun x47 =>
 Qo (Ql0 h34 x47) fun x48 =>
 Qo (binS .neq x46 x48) fun x49 =>
 Qo (Qpk (.bool false) (some (.bool true)) (some x49)) fun x50 =>
 Qo (Qpk (.bool true) (some x50) (some (.bool false))) fun x51 =>
 R 2 [a0, a2, x1, x3, x51] h34
noncomputable def q92_0p5 (cf : CallF) (R : Rec) (x41 : IV) (h34 : H) (x40 : IV) (x1 : IV) (a0 : IV) (a2 : IV) (x3 : IV) : CRes :=
 Qo (Qfad 1 x41) fun x42 =>
 Qo (Ql0 h34 x42) fun x43 =>
 Qo (Qix 3 x40 x43) fun x44 =>
 Qo (Qfad 1 x44) fun x45 =>
 q92_0p6 cf R h34 x45 x1 a0 a2 x3
noncomputable def q92_0p4 (cf : CallF) (R : Rec) (a0 : IV) (h24 : H) (a2 : IV) (x1 : IV) (x3 : IV) : CRes :=
 Qc (cf 45 [a0, (.str ⟨1, 59⟩)] h24) .pan fun x25 h26 =>
 Qc (cf 31 [a0] h26) (fun v27 h28 =>
 .pan v27 h28) fun x29 h30 =>
 guardK x29 (Qc (cf 68 [a0] h30) (fun v31 h32 =>
 .pan v31 h32) fun x33 h34 =>
 Qo (Qnot x33) fun x35 =>
 guardK x35 (Qo (Qpk (.bool true) (some (.bool true)) (some (.tup []))) fun x36 =>
 Qo (Qpk (.bool true) (some x36) (some (.bool false))) fun x37 =>
 R 2 [a0, a2, x1, x3, x37] h34)
 (Qo (Qnil a0) fun x38 =>
 Qo (Qfad 0 x38) fun x39 =>
 Qo (Ql0 h34 x39) fun x40 =>
 Qo (Qnil a0) fun x41 =>
 q92_0p5 cf R x41 h34 x40 x1 a0 a2 x3)
 (Qo (Qpk (.tup []) (some (.bool true)) (some (.tup []))) fun x52 =>
 Qo (Qpk (.bool true) (some x52) (some (.bool false))) fun x53 =>
 R 2 [a0, a2, x1, x3, x53] h34))
 (Qo (Qpk (.bool false) (some (.tup [])) (some (.bool false))) fun x54 =>
 R 2 [a0, a2, x1, x3, x54] h30)
 (Qo (Qpk (.tup []) (some (.tup [])) (some (.bool false))) fun x55 =>
 R 2 [a0, a2, x1, x3, x55] h30)
noncomputable def q92_0p3 (cf : CallF) (R : Rec) (a0 : IV) (h18 : H) (x1 : IV) (a2 : IV) (x3 : IV) : CRes :=
 Qc (cf 45 [a0, (.str ⟨1, 59⟩)] h18) .pan fun x19 h20 =>
 Qc (cf 70 [a0, (.int .i64 1)] h20) .pan fun x21 h22 =>
 Qo (Qfad 29 x1) fun x23 =>
 QoH (QsA 6 h22 x23 x21) fun h24 =>
 q92_0p4 cf R a0 h24 a2 x1 x3
noncomputable def q92_0p2 (cf : CallF) (R : Rec) (a0 : IV) (h12 : H) (x1 : IV) (a2 : IV) (x3 : IV) : CRes :=
 Qc (cf 45 [a0, (.str ⟨1, 61⟩)] h12) .pan fun x13 h14 =>
 Qc (cf 70 [a0, (.int .i64 1)] h14) .pan fun x15 h16 =>
 Qo (Qfad 23 x1) fun x17 =>
 QoH (QsA 6 h16 x17 x15) fun h18 =>
 q92_0p3 cf R a0 h18 x1 a2 x3
noncomputable def q92_0p1 (cf : CallF) (R : Rec) (a0 : IV) (h6 : H) (x1 : IV) (a2 : IV) (x3 : IV) : CRes :=
 Qc (cf 45 [a0, (.str ⟨1, 40⟩)] h6) .pan fun x7 h8 =>
 Qc (cf 46 [a0] h8) .pan fun x9 h10 =>
 Qo (Qfad 41 x1) fun x11 =>
 QoH (QsA 1 h10 x11 x9) fun h12 =>
 q92_0p2 cf R a0 h12 x1 a2 x3
noncomputable def q92_0 (cf : CallF) (R : Rec) (a0 : IV) (a1 : IV) (a2 : IV) (h : H) : CRes :=
 Qo2 (QnI h (Qcells a1)) fun x1 h2 =>
 Qo2 (QnI h2 z8) fun x3 h4 =>
 Qo (Qfad 0 x1) fun x5 =>
 QoH (QsA 1 h4 x5 (.int .i64 8)) fun h6 =>
 q92_0p1 cf R a0 h6 x1 a2 x3
theorem qe92_0 : q92_0 = t92_0 := by
  unfold q92_0 q92_0p1 q92_0p2 q92_0p3 q92_0p4 q92_0p5 q92_0p6
  try simp only [QE]
  try rfl
noncomputable def q92_2 (cf : CallF) (R : Rec) (a0 : IV) (a2 : IV) (a4 : IV) (a6 : IV) (a47 : IV) (h : H) : CRes :=
 Qif a47
 (Qc (cf 67 [a0, (.int .i64 40)] h) .pan fun x56 h57 =>
 R 1 [a0, a2, a4, a6] h57)
 (R 1 [a0, a2, a4, a6] h)
theorem qe92_2 : q92_2 = t92_2 := by
  unfold q92_2
  try simp only [QE]
  try rfl
noncomputable def q92_1p3 (cf : CallF) (R : Rec) (a0 : IV) (x76 : IV) (h75 : H) (a4 : IV) (a6 : IV) : CRes :=
 Qc (cf 50 [a0, (.str ⟨3, 6581861⟩), x76] h75) .pan fun x77 h78 =>
 Qo (Qfad 46 a4) fun x79 =>
 QoH (QsA 1 h78 x79 x77) fun h80 =>
 Qo (QlA 48 h80 a4) fun x81 =>
 QoH (QsA 48 h80 a6 x81) fun h82 =>
 Qo (QlA 48 h82 a6) fun x83 =>
 .ok x83 h82
noncomputable def q92_1p2 (cf : CallF) (R : Rec) (a0 : IV) (h71 : H) (a4 : IV) (a2 : IV) (a6 : IV) : CRes :=
 Qc (cf 46 [a0] h71) .pan fun x72 h73 =>
 Qo (Qfad 1 a4) fun x74 =>
 QoH (QsA 1 h73 x74 x72) fun h75 =>
 Qo (Qadd a2 (.int .i64 1)) fun x76 =>
 q92_1p3 cf R a0 x76 h75 a4 a6
noncomputable def q92_1p1 (cf : CallF) (R : Rec) (h63 : H) (x64 : IV) (x62 : IV) (a0 : IV) (a4 : IV) (a2 : IV) (a6 : IV) : CRes :=
 QoH (QsA 6 h63 x64 x62) fun h65 =>
 Qc (cf 45 [a0, (.str ⟨1, 41⟩)] h65) .pan fun x66 h67 =>
 Qc (cf 45 [a0, (.str ⟨5, 474214786402⟩)] h67) .pan fun x68 h69 =>
 Qc (cf 45 [a0, (.str ⟨1, 58⟩)] h69) .pan fun x70 h71 =>
 q92_1p2 cf R a0 h71 a4 a2 a6
noncomputable def q92_1 (cf : CallF) (R : Rec) (a0 : IV) (a2 : IV) (a4 : IV) (a6 : IV) (h : H) : CRes :=
 Qc (cf 46 [a0] h) .pan fun x58 h59 =>
 Qc (cf 45 [a0, (.str ⟨1, 61⟩)] h59) .pan fun x60 h61 =>
 Qc (cf 70 [a0, (.int .i64 1)] h61) .pan fun x62 h63 =>
 Qo (Qfad 35 a4) fun x64 =>
 q92_1p1 cf R h63 x64 x62 a0 a4 a2 a6
theorem qe92_1 : q92_1 = t92_1 := by
  unfold q92_1 q92_1p1 q92_1p2 q92_1p3
  try simp only [QE]
  try rfl
noncomputable def bt92 (cf : CallF) (R : Rec) : Rec := fun i l h =>
 br3 i 0 l (fun a0 a1 a2 => t92_0 cf R a0 a1 a2 h) <|
 br5 i 2 l (fun a0 a2 a4 a6 a47 => t92_2 cf R a0 a2 a4 a6 a47 h) <|
 br4 i 1 l (fun a0 a2 a4 a6 => t92_1 cf R a0 a2 a4 a6 h) <|
 .fail
noncomputable def b92 (cf : CallF) (R : Rec) : Rec := fun i l h =>
 brQ3 i 0 l (fun a0 a1 a2 => q92_0 cf R a0 a1 a2 h) <|
 brQ5 i 2 l (fun a0 a2 a4 a6 a47 => q92_2 cf R a0 a2 a4 a6 a47 h) <|
 brQ4 i 1 l (fun a0 a2 a4 a6 => q92_1 cf R a0 a2 a4 a6 h) <|
 .fail
theorem be92 : b92 = bt92 := by
  unfold b92 bt92
  simp only [qe92_0, qe92_2, qe92_1, brQ3_eq, brQ4_eq, brQ5_eq]
theorem r92 {T : Tab} {cf : CallF} (hc : leC cf (CL T)) (n : Nat) : leR (recN (b92 cf) n) (J92 T) := be92 ▸ recN_le (fun R hR i l h => by
  unfold bt92
  refine le_br3 (J := fun i l => J92 T i l h) (fun _ a0 a1 a2 => le_e (fun hn => e92_0 rfl hn) ((m92 hc hR).1 a0 a1 a2 h)) ?_
  refine le_br5 (J := fun i l => J92 T i l h) (fun _ a0 a2 a4 a6 a47 => le_e (fun hn => e92_2 rfl hn) ((m92 hc hR).2.1 a0 a2 a4 a6 a47 h)) ?_
  refine le_br4 (J := fun i l => J92 T i l h) (fun _ a0 a2 a4 a6 => le_e (fun hn => e92_1 rfl hn) ((m92 hc hR).2.2 a0 a2 a4 a6 h)) ?_
  exact le_fail _) n
-- 93
theorem m93 {cf cf' : CallF} {R R' : Rec} (hc : ∀ f l h, le (cf f l h) (cf' f l h)) (hR : ∀ i l h, le (R i l h) (R' i l h)) :
  (∀ (a0 a1 : IV) (h : H), le (t93_0 cf R a0 a1 h) (t93_0 cf' R' a0 a1 h)) ∧
  (∀ (a0 a5 : IV) (h : H), le (t93_2 cf R a0 a5 h) (t93_2 cf' R' a0 a5 h)) ∧
  (∀ (a0 a5 : IV) (h : H), le (t93_1 cf R a0 a5 h) (t93_1 cf' R' a0 a5 h)) := by
  refine ⟨?_, ?_, ?_⟩
  all_goals intros
  all_goals first | unfold t93_0 | unfold t93_2 | unfold t93_1
  all_goals
  with_reducible repeat' first
    | refine le_obind fun _ => ?_
    | refine le_callP ?_ (fun _ _ => ?_) (fun _ _ => ?_)
    | refine le_condK ?_ ?_
    | exact hR _ _ _
    | refine le_obind2 fun _ _ => ?_
    | refine le_obindH fun _ => ?_
    | refine le_spanK (fun _ _ _ => ?_) (fun _ _ => ?_)
    | exact hc _ _ _
    | refine le_bif ?_ ?_
    | refine le_guardK ?_ ?_ ?_
    | refine le_mapK fun _ _ => ?_
    | refine le_panK fun _ _ => ?_
    | refine le_funK fun _ _ => ?_
    | exact le_refl _
    | apply_assumption
noncomputable def q93_0 (cf : CallF) (R : Rec) (a0 : IV) (a1 : IV) (h : H) : CRes :=
 Qo (Qnot a1) fun x1 =>
 Qsp x1 true h (fun k2 =>
 Qc (cf 47 [a0, (.str ⟨1, 41⟩)] h) .pan fun x5 h6 =>
 k2 x5 h6) fun x3 h4 =>
 Qo (Qpk x1 (some x3) (some (.bool false))) fun x7 =>
 Qif x7
 (.ok .nilSlice h4)
 (R 2 [a0, .nilSlice] h4)
theorem qe93_0 : q93_0 = t93_0 := by
  unfold q93_0
  try simp only [QE]
  try rfl
noncomputable def q93_2p4 (cf : CallF) (R : Rec) (a0 : IV) (h34 : H) (x33 : IV) : CRes :=
 Qc (cf 47 [a0, (.str ⟨1, 44⟩)] h34) .pan fun x35 h36 =>
 Qo (Qnot x35) fun x37 =>
 Qif x37
 (R 1 [a0, x33] h36)
 (R 2 [a0, x33] h36)
noncomputable def q93_2p3 (cf : CallF) (R : Rec) (a0 : IV) (h27 : H) (x13 : IV) (a5 : IV) : CRes :=
 Qc (cf 45 [a0, (.str ⟨1, 41⟩)] h27) .pan fun x28 h29 =>
 Qo (QlA 8 h29 x13) fun x30 =>
 Qo2 (Qbsl false 8 z5 1 [(0, x30)] h29) fun x31 h32 =>
 Qo2 (appK 8 104 h32 a5 x31) fun x33 h34 =>
 q93_2p4 cf R a0 h34 x33
noncomputable def q93_2p2 (cf : CallF) (R : Rec) (a0 : IV) (h21 : H) (x13 : IV) (a5 : IV) : CRes :=
 Qc (cf 45 [a0, (.str ⟨1, 40⟩)] h21) .pan fun x22 h23 =>
 Qc (cf 70 [a0, (.int .i64 1)] h23) .pan fun x24 h25 =>
 Qo (Qfad 1 x13) fun x26 =>
 QoH (QsA 6 h25 x26 x24) fun h27 =>
 q93_2p3 cf R a0 h27 x13 a5
noncomputable def q93_2p1 (cf : CallF) (R : Rec) (a0 : IV) (h15 : H) (x13 : IV) (a5 : IV) : CRes :=
 Qc (cf 45 [a0, (.str ⟨1, 46⟩)] h15) .pan fun x16 h17 =>
 Qc (cf 46 [a0] h17) .pan fun x18 h19 =>
 Qo (Qfad 0 x13) fun x20 =>
 QoH (QsA 1 h19 x20 x18) fun h21 =>
 q93_2p2 cf R a0 h21 x13 a5
noncomputable def q93_2 (cf : CallF) (R : Rec) (a0 : IV) (a5 : IV) (h : H) : CRes :=
 Qc (cf 31 [a0] h) .pan fun x8 h9 =>
 Qif x8
 (Qc (cf 44 [a0] h9) .pan fun x10 h11 =>
 Qo (Qbld z5 p9 [(2, x10)]) fun x12 =>
 Qo2 (QnI h11 z5) fun x13 h14 =>
 QoH (QsA 8 h14 x13 x12) fun h15 =>
 q93_2p1 cf R a0 h15 x13 a5)
 (R 1 [a0, a5] h9)
theorem qe93_2 : q93_2 = t93_2 := by
  unfold q93_2 q93_2p1 q93_2p2 q93_2p3 q93_2p4
  try simp only [QE]
  try rfl
noncomputable def q93_1 (cf : CallF) (R : Rec) (a0 : IV) (a5 : IV) (h : H) : CRes :=
 Qc (cf 45 [a0, (.str ⟨1, 41⟩)] h) .pan fun x38 h39 =>
 .ok a5 h39
theorem qe93_1 : q93_1 = t93_1 := by
  unfold q93_1
  try simp only [QE]
  try rfl
noncomputable def bt93 (cf : CallF) (R : Rec) : Rec := fun i l h =>
 br2 i 0 l (fun a0 a1 => t93_0 cf R a0 a1 h) <|
 br2 i 2 l (fun a0 a5 => t93_2 cf R a0 a5 h) <|
 br2 i 1 l (fun a0 a5 => t93_1 cf R a0 a5 h) <|
 .fail
noncomputable def b93 (cf : CallF) (R : Rec) : Rec := fun i l h =>
 brQ2 i 0 l (fun a0 a1 => q93_0 cf R a0 a1 h) <|
 brQ2 i 2 l (fun a0 a5 => q93_2 cf R a0 a5 h) <|
 brQ2 i 1 l (fun a0 a5 => q93_1 cf R a0 a5 h) <|
 .fail
theorem be93 : b93 = bt93 := by
  unfold b93 bt93
  simp only [qe93_0, qe93_2, qe93_1, brQ2_eq]
theorem r93 {T : Tab} {cf : CallF} (hc : leC cf (CL T)) (n : Nat) : leR (recN (b93 cf) n) (J93 T) := be93 ▸ recN_le (fun R hR i l h => by
  unfold bt93
  refine le_br2 (J := fun i l => J93 T i l h) (fun _ a0 a1 => le_e (fun hn => e93_0 rfl hn) ((m93 hc hR).1 a0 a1 h)) ?_
  refine le_br2 (J := fun i l => J93 T i l h) (fun _ a0 a5 => le_e (fun hn => e93_2 rfl hn) ((m93 hc hR).2.1 a0 a5 h)) ?_
  refine le_br2 (J := fun i l => J93 T i l h) (fun _ a0 a5 => le_e (fun hn => e93_1 rfl hn) ((m93 hc hR).2.2 a0 a5 h)) ?_
  exact le_fail _) n
-- 94
theorem m94 {cf cf' : CallF} {R R' : Rec} (hc : ∀ f l h, le (cf f l h) (cf' f l h)) (hR : ∀ i l h, le (R i l h) (R' i l h)) :
  (∀ (a0 a1 a2 : IV) (h : H), le (t94_0 cf R a0 a1 a2 h) (t94_0 cf' R' a0 a1 a2 h)) ∧
  (∀ (a0 a2 a4 a26 : IV) (h : H), le (t94_2 cf R a0 a2 a4 a26 h) (t94_2 cf' R' a0 a2 a4 a26 h)) ∧
  (∀ (a0 a2 a4 : IV) (h : H), le (t94_1 cf R a0 a2 a4 h) (t94_1 cf' R' a0 a2 a4 h)) ∧
  (∀ (a0 a2 a34 a35 a36 : IV) (h : H), le (t94_3 cf R a0 a2 a34 a35 a36 h) (t94_3 cf' R' a0 a2 a34 a35 a36 h)) := by
  refine ⟨?_, ?_, ?_, ?_⟩
  all_goals intros
  all_goals first | unfold t94_0 | unfold t94_2 | unfold t94_1 | unfold t94_3
  all_goals
  with_reducible repeat' first
    | refine le_obind fun _ => ?_
    | refine le_callP ?_ (fun _ _ => ?_) (fun _ _ => ?_)
    | refine le_condK ?_ ?_
    | exact hR _ _ _
    | refine le_obind2 fun _ _ => ?_
    | refine le_obindH fun _ => ?_
    | refine le_spanK (fun _ _ _ => ?_) (fun _ _ => ?_)
    | exact hc _ _ _
    | refine le_bif ?_ ?_
    | refine le_guardK ?_ ?_ ?_
    | refine le_mapK fun _ _ => ?_
    | refine le_panK fun _ _ => ?_
    | refine le_funK fun _ _ => ?_
    | exact le_refl _
    | apply_assumption
noncomputable def q94_0p1 (cf : CallF) (R : Rec) (h7 : H) (x11 : IV) (x10 : IV) (x1 : IV) (a2 : IV) (a0 : IV) : CRes :=
 Qo (Ql0 h7 x11) fun x12 =>
 Qo (lkK true .nilPtr h7 x10 x12 false) fun x13 =>
 Qo (eqP .neq h7 x13 .nilPtr) fun x14 =>
 Qo (Qpk (.bool true) (some x14) (some (.bool false))) fun x15 =>
 guardK x15 (Qo (Qfad 1 x1) fun x16 =>
 Qo (Ql0 h7 x16) fun x17 =>
 Qo (lkK true (.bool false) h7 a2 x17 false) fun x18 =>
 Qo (Qnot x18) fun x19 =>
 Qo (Qpk (.bool true) (some x19) (some (.bool false))) fun x20 =>
 R 2 [a0, a2, x1, x20] h7)
 (Qo (Qpk (.bool false) (some (.tup [])) (some (.bool false))) fun x21 =>
 R 2 [a0, a2, x1, x21] h7)
 (Qo (Qpk (.tup []) (some (.tup [])) (some (.bool false))) fun x22 =>
 R 2 [a0, a2, x1, x22] h7)
noncomputable def q94_0 (cf : CallF) (R : Rec) (a0 : IV) (a1 : IV) (a2 : IV) (h : H) : CRes :=
 Qo2 (QnI h (Qcells a1)) fun x1 h2 =>
 Qo (QlA 6 h2 x1) fun x3 =>
 Qc (cf 74 [x3] h2) (fun v4 h5 =>
 .pan v4 h5) fun x6 h7 =>
 guardK x6 (Qo (Qnil a0) fun x8 =>
 Qo (Qfad 0 x8) fun x9 =>
 Qo (Ql0 h7 x9) fun x10 =>
 Qo (Qfad 1 x1) fun x11 =>
 q94_0p1 cf R h7 x11 x10 x1 a2 a0)
 (Qo (Qpk (.bool false) (some (.tup [])) (some (.bool false))) fun x23 =>
 guardK x23 (Qo (Qfad 1 x1) fun x24 =>
 Qo (Ql0 h7 x24) fun x25 =>
 Qo (lkK true (.bool false) h7 a2 x25 false) fun x26 =>
 Qo (Qnot x26) fun x27 =>
 Qo (Qpk (.bool true) (some x27) (some (.bool false))) fun x28 =>
 R 2 [a0, a2, x1, x28] h7)
 (Qo (Qpk (.bool false) (some (.tup [])) (some (.bool false))) fun x29 =>
 R 2 [a0, a2, x1, x29] h7)
 (Qo (Qpk (.tup []) (some (.tup [])) (some (.bool false))) fun x30 =>
 R 2 [a0, a2, x1, x30] h7))
 (Qo (Qpk (.tup []) (some (.tup [])) (some (.bool false))) fun x31 =>
 guardK x31 (Qo (Qfad 1 x1) fun x32 =>
 Qo (Ql0 h7 x32) fun x33 =>
 Qo (lkK true (.bool false) h7 a2 x33 false) fun x34 =>
 Qo (Qnot x34) fun x35 =>
 Qo (Qpk (.bool true) (some x35) (some (.bool false))) fun x36 =>
 R 2 [a0, a2, x1, x36] h7)
 (Qo (Qpk (.bool false) (some (.tup [])) (some (.bool false))) fun x37 =>
 R 2 [a0, a2, x1, x37] h7)
 (Qo (Qpk (.tup []) (some (.tup [])) (some (.bool false))) fun x38 =>
 R 2 [a0, a2, x1, x38] h7))
theorem qe94_0 : q94_0 = t94_0 := by
  unfold q94_0 q94_0p1
  try simp only [QE]
  try rfl
noncomputable def q94_2 (cf : CallF) (R : Rec) (a0 : IV) (a2 : IV) (a4 : IV) (a26 : IV) (h : H) : CRes :=
 Qif a26
 (Qo (Qfad 5 a4) fun x39 =>
 Qo (Ql0 h x39) fun x40 =>
 Qc (cf 17 [x40, (.int .i64 75)] h) .pan fun x41 h42 =>
 R 1 [a0, a2, a4] h42)
 (R 1 [a0, a2, a4] h)
theorem qe94_2 : q94_2 = t94_2 := by
  unfold q94_2
  try simp only [QE]
  try rfl
noncomputable def q94_1 (cf : CallF) (R : Rec) (a0 : IV) (a2 : IV) (a4 : IV) (h : H) : CRes :=
 Qo (Qfad 0 a4) fun x43 =>
 Qo (Ql0 h x43) fun x44 =>
 Qo (Qneq x44 (.int .i64 4)) fun x45 =>
 Qif x45
 (Qo (Qfad 4 a4) fun x46 =>
 Qo (Ql0 h x46) fun x47 =>
 Qo (Qle x47) fun x48 =>
 R 3 [a0, a2, x47, x48, (.int .i64 0)] h)
 (.ok (.tup []) h)
theorem qe94_1 : q94_1 = t94_1 := by
  unfold q94_1
  try simp only [QE]
  try rfl
noncomputable def q94_3p1 (cf : CallF) (R : Rec) (h54 : H) (x52 : IV) (a0 : IV) (a2 : IV) (a36 : IV) (a34 : IV) (a35 : IV) : CRes :=
 Qo (QlA 6 h54 x52) fun x55 =>
 Qc (cf 94 [a0, x55, a2] h54) .pan fun x56 h57 =>
 Qo (Qadd a36 (.int .i64 1)) fun x58 =>
 R 3 [a0, a2, a34, a35, x58] h57
noncomputable def q94_3 (cf : CallF) (R : Rec) (a0 : IV) (a2 : IV) (a34 : IV) (a35 : IV) (a36 : IV) (h : H) : CRes :=
 Qo (Qlss a36 a35) fun x49 =>
 Qif x49
 (Qo (Qix 6 a34 a36) fun x50 =>
 Qo (QlA 6 h x50) fun x51 =>
 Qo2 (QnI h z11) fun x52 h53 =>
 QoH (QsA 6 h53 x52 x51) fun h54 =>
 q94_3p1 cf R h54 x52 a0 a2 a36 a34 a35)
 (.ok (.tup []) h)
theorem qe94_3 : q94_3 = t94_3 := by
  unfold q94_3 q94_3p1
  try simp only [QE]
  try rfl
noncomputable def bt94 (cf : CallF) (R : Rec) : Rec := fun i l h =>
 br3 i 0 l (fun a0 a1 a2 => t94_0 cf R a0 a1 a2 h) <|
 br4 i 2 l (fun a0 a2 a4 a26 => t94_2 cf R a0 a2 a4 a26 h) <|
 br3 i 1 l (fun a0 a2 a4 => t94_1 cf R a0 a2 a4 h) <|
 br5 i 3 l (fun a0 a2 a34 a35 a36 => t94_3 cf R a0 a2 a34 a35 a36 h) <|
 .fail
noncomputable def b94 (cf : CallF) (R : Rec) : Rec := fun i l h =>
 brQ3 i 0 l (fun a0 a1 a2 => q94_0 cf R a0 a1 a2 h) <|
 brQ4 i 2 l (fun a0 a2 a4 a26 => q94_2 cf R a0 a2 a4 a26 h) <|
 brQ3 i 1 l (fun a0 a2 a4 => q94_1 cf R a0 a2 a4 h) <|
 brQ5 i 3 l (fun a0 a2 a34 a35 a36 => q94_3 cf R a0 a2 a34 a35 a36 h) <|
 .fail
theorem be94 : b94 = bt94 := by
  unfold b94 bt94
  simp only [qe94_0, qe94_2, qe94_1, qe94_3, brQ3_eq, brQ4_eq, brQ5_eq]
theorem r94 {T : Tab} {cf : CallF} (hc : leC cf (CL T)) (n : Nat) : leR (recN (b94 cf) n) (J94 T) := be94 ▸ recN_le (fun R hR i l h => by
  unfold bt94
  refine le_br3 (J := fun i l => J94 T i l h) (fun _ a0 a1 a2 => le_e (fun hn => e94_0 rfl hn) ((m94 hc hR).1 a0 a1 a2 h)) ?_
  refine le_br4 (J := fun i l => J94 T i l h) (fun _ a0 a2 a4 a26 => le_e (fun hn => e94_2 rfl hn) ((m94 hc hR).2.1 a0 a2 a4 a26 h)) ?_
  refine le_br3 (J := fun i l => J94 T i l h) (fun _ a0 a2 a4 => le_e (fun hn => e94_1 rfl hn) ((m94 hc hR).2.2.1 a0 a2 a4 h)) ?_
  refine le_br5 (J := fun i l => J94 T i l h) (fun _ a0 a2 a34 a35 a36 => le_e (fun hn => e94_3 rfl hn) ((m94 hc hR).2.2.2 a0 a2 a34 a35 a36 h)) ?_
  exact le_fail _) n
-- 95
theorem m95 {cf cf' : CallF} {R R' : Rec} (hc : ∀ f l h, le (cf f l h) (cf' f l h)) (hR : ∀ i l h, le (R i l h) (R' i l h)) :
  (∀ (a0 a1 : IV) (h : H), le (t95_0 cf R a0 a1 h) (t95_0 cf' R' a0 a1 h)) ∧
  (∀ (a1 a5 a9 : IV) (h : H), le (t95_1 cf R a1 a5 a9 h) (t95_1 cf' R' a1 a5 a9 h)) := by
  refine ⟨?_, ?_⟩
  all_goals intros
  all_goals first | unfold t95_0 | unfold t95_1
  all_goals
  with_reducible repeat' first
    | refine le_obind fun _ => ?_
    | refine le_callP ?_ (fun _ _ => ?_) (fun _ _ => ?_)
    | refine le_condK ?_ ?_
    | exact hR _ _ _
    | refine le_obind2 fun _ _ => ?_
    | refine le_obindH fun _ => ?_
    | refine le_spanK (fun _ _ _ => ?_) (fun _ _ => ?_)
    | exact hc _ _ _
    | refine le_bif ?_ ?_
    | refine le_guardK ?_ ?_ ?_
    | refine le_mapK fun _ _ => ?_
    | refine le_panK fun _ _ => ?_
    | refine le_funK fun _ _ => ?_
    | exact le_refl _
    | apply_assumption
noncomputable def q95_0 (cf : CallF) (R : Rec) (a0 : IV) (a1 : IV) (h : H) : CRes :=
 mapK h fun x2 h1 =>
 Qo2 (rngM h1 a0) fun x3 h4 =>
 R 1 [a1, x2, x3] h4
theorem qe95_0 : q95_0 = t95_0 := by
  unfold q95_0
  try simp only [QE]
  try rfl
noncomputable def q95_1 (cf : CallF) (R : Rec) (a1 : IV) (a5 : IV) (a9 : IV) (h : H) : CRes :=
 Qo2 (nextI h a9 false) fun x5 h6 =>
 Qo (Qext x5 0) fun x7 =>
 Qif x7
 (Qo (entryI h6 a9) fun x8 =>
 Qo (Qext x8 0) fun x9 =>
 Qo (lkK true (.bool false) h6 a1 x9 false) fun x10 =>
 Qif x10
 (QoH (mupK true h6 a5 x9 (.bool true)) fun h11 =>
 R 1 [a1, a5, a9] h11)
 (R 1 [a1, a5, a9] h6))
 (.ok a5 h6)
theorem qe95_1 : q95_1 = t95_1 := by
  unfold q95_1
  try simp only [QE]
  try rfl
noncomputable def bt95 (cf : CallF) (R : Rec) : Rec := fun i l h =>
 br2 i 0 l (fun a0 a1 => t95_0 cf R a0 a1 h) <|
 br3 i 1 l (fun a1 a5 a9 => t95_1 cf R a1 a5 a9 h) <|
 .fail
noncomputable def b95 (cf : CallF) (R : Rec) : Rec := fun i l h =>
 brQ2 i 0 l (fun a0 a1 => q95_0 cf R a0 a1 h) <|
 brQ3 i 1 l (fun a1 a5 a9 => q95_1 cf R a1 a5 a9 h) <|
 .fail
theorem be95 : b95 = bt95 := by
  unfold b95 bt95
  simp only [qe95_0, qe95_1, brQ2_eq, brQ3_eq]
theorem r95 {T : Tab} {cf : CallF} (hc : leC cf (CL T)) (n : Nat) : leR (recN (b95 cf) n) (J95 T) := be95 ▸ recN_le (fun R hR i l h => by
  unfold bt95
  refine le_br2 (J := fun i l => J95 T i l h) (fun _ a0 a1 => le_e (fun hn => e95_0 rfl hn) ((m95 hc hR).1 a0 a1 h)) ?_
  refine le_br3 (J := fun i l => J95 T i l h) (fun _ a1 a5 a9 => le_e (fun hn => e95_1 rfl hn) ((m95 hc hR).2 a1 a5 a9 h)) ?_
  exact le_fail _) n
-- 98
theorem m98 {cf cf' : CallF} {R R' : Rec} (hc : ∀ f l h, le (cf f l h) (cf' f l h)) (hR : ∀ i l h, le (R i l h) (R' i l h)) : (∀ (h : H), le (t98_0 cf R h) (t98_0 cf' R' h)) := by
  intros
  unfold t98_0
  with_reducible repeat' first
    | refine le_obind fun _ => ?_
    | refine le_callP ?_ (fun _ _ => ?_) (fun _ _ => ?_)
    | refine le_condK ?_ ?_
    | exact hR _ _ _
    | refine le_obind2 fun _ _ => ?_
    | refine le_obindH fun _ => ?_
    | refine le_spanK (fun _ _ _ => ?_) (fun _ _ => ?_)
    | exact hc _ _ _
    | refine le_bif ?_ ?_
    | refine le_guardK ?_ ?_ ?_
    | refine le_mapK fun _ _ => ?_
    | refine le_panK fun _ _ => ?_
    | refine le_funK fun _ _ => ?_
    | exact le_refl _
    | apply_assumption
noncomputable def q98_0 (cf : CallF) (R : Rec) (h : H) : CRes :=
 Qo2 (Qbsl false 1 [(.str ⟨0, 0⟩)] 19 [(0, (.str ⟨6, 111516500389741⟩)), (1, (.str ⟨9, 1870936414602775522917⟩)), (2, (.str ⟨5, 500186508905⟩)), (3, (.str ⟨6, 128047746676079⟩)), (4, (.str ⟨3, 6776178⟩)), (5, (.str ⟨4, 1701996919⟩)), (6, (.str ⟨9, 2110239404018478768496⟩)), (7, (.str ⟨10, 516535522800345012203372⟩)), (8, (.str ⟨6, 121390429860705⟩)), (9, (.str ⟨6, 126965163453537⟩)), (10, (.str ⟨7, 28542653544230768⟩)), (11, (.str ⟨5, 474214786402⟩)), (12, (.str ⟨3, 6581861⟩)), (13, (.str ⟨2, 26217⟩)), (14, (.str ⟨4, 1702063205⟩)), (15, (.str ⟨4, 1702060387⟩)), (16, (.str ⟨7, 28555834764324453⟩)), (17, (.str ⟨7, 32770348699510116⟩)), (18, (.str ⟨3, 7499622⟩))] h) fun x1 h2 =>
 .ok x1 h2
theorem qe98_0 : q98_0 = t98_0 := by
  unfold q98_0
  try simp only [QE]
  try rfl
noncomputable def bt98 (cf : CallF) (R : Rec) : Rec := fun i l h =>
 br0 i 0 l (t98_0 cf R h) <|
 .fail
noncomputable def b98 (cf : CallF) (R : Rec) : Rec := fun i l h =>
 brQ0 i 0 l (q98_0 cf R h) <|
 .fail
theorem be98 : b98 = bt98 := by
  unfold b98 bt98
  simp only [qe98_0, brQ0_eq]
theorem r98 {T : Tab} {cf : CallF} (hc : leC cf (CL T)) (n : Nat) : leR (recN (b98 cf) n) (J98 T) := be98 ▸ recN_le (fun R hR i l h => by
  unfold bt98
  refine le_br0 (J := fun i l => J98 T i l h) (fun _ => le_e (fun hn => e98_0 rfl hn) ((m98 hc hR) h)) ?_
  exact le_fail _) n
-- 99
theorem m99 {cf cf' : CallF} {R R' : Rec} (hc : ∀ f l h, le (cf f l h) (cf' f l h)) (hR : ∀ i l h, le (R i l h) (R' i l h)) :
  (∀ (a0 : IV) (h : H), le (t99_0 cf R a0 h) (t99_0 cf' R' a0 h)) ∧
  (∀ (a0 a3 a4 : IV) (h : H), le (t99_1 cf R a0 a3 a4 h) (t99_1 cf' R' a0 a3 a4 h)) := by
  refine ⟨?_, ?_⟩
  all_goals intros
  all_goals first | unfold t99_0 | unfold t99_1
  all_goals
  with_reducible repeat' first
    | refine le_obind fun _ => ?_
    | refine le_callP ?_ (fun _ _ => ?_) (fun _ _ => ?_)
    | refine le_condK ?_ ?_
    | exact hR _ _ _
    | refine le_obind2 fun _ _ => ?_
    | refine le_obindH fun _ => ?_
    | refine le_spanK (fun _ _ _ => ?_) (fun _ _ => ?_)
    | exact hc _ _ _
    | refine le_bif ?_ ?_
    | refine le_guardK ?_ ?_ ?_
    | refine le_mapK fun _ _ => ?_
    | refine le_panK fun _ _ => ?_
    | refine le_funK fun _ _ => ?_
    | exact le_refl _
    | apply_assumption
noncomputable def q99_0 (cf : CallF) (R : Rec) (a0 : IV) (h : H) : CRes :=
 Qo2 (Qbsl false 1 [(.str ⟨0, 0⟩)] 6 [(0, (.str ⟨1, 126⟩)), (1, (.str ⟨1, 33⟩)), (2, (.str ⟨1, 45⟩)), (3, (.str ⟨1, 38⟩)), (4, (.str ⟨1, 124⟩)), (5, (.str ⟨1, 94⟩))] h) fun x1 h2 =>
 R 1 [a0, x1, (.int .i64 0)] h2
theorem qe99_0 : q99_0 = t99_0 := by
  unfold q99_0
  try simp only [QE]
  try rfl
noncomputable def q99_1 (cf : CallF) (R : Rec) (a0 : IV) (a3 : IV) (a4 : IV) (h : H) : CRes :=
 Qo (Qle a3) fun x3 =>
 Qo (Qlss a4 x3) fun x4 =>
 Qif x4
 (Qo (Qix 1 a3 a4) fun x5 =>
 Qo (Ql0 h x5) fun x6 =>
 Qo (Qse x6 a0) fun x7 =>
 Qif x7
 (Qo (Qadd (.int .i64 7) a4) fun x8 =>
 .ok x8 h)
 (Qo (Qadd a4 (.int .i64 1)) fun x9 =>
 R 1 [a0, a3, x9] h))
 (.ok (.int .i64 0) h)
theorem qe99_1 : q99_1 = t99_1 := by
  unfold q99_1
  try simp only [QE]
  try rfl
noncomputable def bt99 (cf : CallF) (R : Rec) : Rec := fun i l h =>
 br1 i 0 l (fun a0 => t99_0 cf R a0 h) <|
 br3 i 1 l (fun a0 a3 a4 => t99_1 cf R a0 a3 a4 h) <|
 .fail
noncomputable def b99 (cf : CallF) (R : Rec) : Rec := fun i l h =>
 brQ1 i 0 l (fun a0 => q99_0 cf R a0 h) <|
 brQ3 i 1 l (fun a0 a3 a4 => q99_1 cf R a0 a3 a4 h) <|
 .fail
theorem be99 : b99 = bt99 := by
  unfold b99 bt99
  simp only [qe99_0, qe99_1, brQ1_eq, brQ3_eq]
theorem r99 {T : Tab} {cf : CallF} (hc : leC cf (CL T)) (n : Nat) : leR (recN (b99 cf) n) (J99 T) := be99 ▸ recN_le (fun R hR i l h => by
  unfold bt99
  refine le_br1 (J := fun i l => J99 T i l h) (fun _ a0 => le_e (fun hn => e99_0 rfl hn) ((m99 hc hR).1 a0 h)) ?_
  refine le_br3 (J := fun i l => J99 T i l h) (fun _ a0 a3 a4 => le_e (fun hn => e99_1 rfl hn) ((m99 hc hR).2 a0 a3 a4 h)) ?_
  exact le_fail _) n
-- 100
theorem m100 {cf cf' : CallF} {R R' : Rec} (hc : ∀ f l h, le (cf f l h) (cf' f l h)) (hR : ∀ i l h, le (R i l h) (R' i l h)) :
  (∀ (a0 a1 : IV) (h : H), le (t100_0 cf R a0 a1 h) (t100_0 cf' R' a0 a1 h)) ∧
  (∀ (a0 a1 a4 : IV) (h : H), le (t100_1 cf R a0 a1 a4 h) (t100_1 cf' R' a0 a1 a4 h)) := by
  refine ⟨?_, ?_⟩
  all_goals intros
  all_goals first | unfold t100_0 | unfold t100_1
  all_goals
  with_reducible repeat' first
    | refine le_obind fun _ => ?_
    | refine le_callP ?_ (fun _ _ => ?_) (fun _ _ => ?_)
    | refine le_condK ?_ ?_
    | exact hR _ _ _
    | refine le_obind2 fun _ _ => ?_
    | refine le_obindH fun _ => ?_
    | refine le_spanK (fun _ _ _ => ?_) (fun _ _ => ?_)
    | exact hc _ _ _
    | refine le_bif ?_ ?_
    | refine le_guardK ?_ ?_ ?_
    | refine le_mapK fun _ _ => ?_
    | refine le_panK fun _ _ => ?_
    | refine le_funK fun _ _ => ?_
    | exact le_refl _
    | apply_assumption
noncomputable def q100_0p1 (cf : CallF) (R : Rec) (x11 : IV) (a0 : IV) (h7 : H) (a1 : IV) (x1 : IV) : CRes :=
 Qif x11
 (Qc (cf 67 [a0, (.int .i64 40)] h7) .pan fun x12 h13 =>
 R 1 [a0, a1, x1] h13)
 (R 1 [a0, a1, x1] h7)
noncomputable def q100_0 (cf : CallF) (R : Rec) (a0 : IV) (a1 : IV) (h : H) : CRes :=
 Qo2 (QnI h z11) fun x1 h2 =>
 Qc (cf 31 [a0] h2) .pan fun x3 h4 =>
 Qsp x3 true h4 (fun k5 =>
 Qc (cf 86 [a0] h4) .pan fun x8 h9 =>
 Qo (Qnot x8) fun x10 =>
 k5 x10 h9) fun x6 h7 =>
 Qo (Qpk x3 (some x6) (some (.bool false))) fun x11 =>
 q100_0p1 cf R x11 a0 h7 a1 x1
theorem qe100_0 : q100_0 = t100_0 := by
  unfold q100_0 q100_0p1
  try simp only [QE]
  try rfl
noncomputable def q100_1p7 (cf : CallF) (R : Rec) (h52 : H) (x62 : IV) (x63 : IV) (h59 : H) (x36 : IV) (x60 : IV) (h61 : H) (a4 : IV) : CRes :=
 Qo (Ql0 h52 x62) fun x64 =>
 bif IV.beq x64 x63 then
 Qo (Ql0 h59 x62) fun x65 =>
 bif IV.beq x65 x63 then
 Qo (Qbld z11 p12 [(0, x36), (4, x60), (5, x63)]) fun x66 =>
 QoH (QsA 6 h61 a4 x66) fun h67 =>
 Qo (QlA 6 h67 a4) fun x68 =>
 .ok x68 h67
 else .fail
 else .fail
noncomputable def q100_1p6 (cf : CallF) (R : Rec) (a0 : IV) (x53 : IV) (h52 : H) (x28 : IV) (x36 : IV) (a4 : IV) : CRes :=
 Qc (cf 104 [a0, x53] h52) (fun v54 h55 =>
 Qo (Qfad 2 x28) fun x56 =>
 Qo (Ql0 h52 x56) fun x57 =>
 .pan v54 h55) fun x58 h59 =>
 Qo2 (Qbsl false 6 z11 1 [(0, x58)] h59) fun x60 h61 =>
 Qo (Qfad 2 x28) fun x62 =>
 Qo (Ql0 h61 x62) fun x63 =>
 q100_1p7 cf R h52 x62 x63 h59 x36 x60 h61 a4
noncomputable def q100_1p5 (cf : CallF) (R : Rec) (a0 : IV) (h43 : H) (x49 : IV) (a1 : IV) (x28 : IV) (x36 : IV) (a4 : IV) : CRes :=
 Qo (Qnil a0) fun x50 =>
 Qo (Qfad 1 x50) fun x51 =>
 QoH (QsA 1 h43 x51 x49) fun h52 =>
 Qo (Qadd a1 (.int .i64 1)) fun x53 =>
 q100_1p6 cf R a0 x53 h52 x28 x36 a4
noncomputable def q100_1p4 (cf : CallF) (R : Rec) (x40 : IV) (x42 : IV) (a0 : IV) (h43 : H) (a1 : IV) (x28 : IV) (x36 : IV) (a4 : IV) : CRes :=
 Qo (Qpk x40 (some x42) (some (.bool false))) fun x45 =>
 Qif x45
 (Qo (Qnil a0) fun x46 =>
 Qo (Qfad 1 x46) fun x47 =>
 Qo (Ql0 h43 x47) fun x48 =>
 Qo (Qadd x48 (.int .i64 1)) fun x49 =>
 q100_1p5 cf R a0 h43 x49 a1 x28 x36 a4)
 (Qc (cf 102 [a0, a1] h43) .pan fun x69 h70 =>
 QoH (QsA 6 h70 a4 x69) fun h71 =>
 Qo (QlA 6 h71 a4) fun x72 =>
 .ok x72 h71)
noncomputable def q100_1p3 (cf : CallF) (R : Rec) (x28 : IV) (h37 : H) (x36 : IV) (a0 : IV) (a1 : IV) (a4 : IV) : CRes :=
 Qo (Qfad 0 x28) fun x38 =>
 Qo (Ql0 h37 x38) fun x39 =>
 Qo (Qeql x39 (.int .i64 3)) fun x40 =>
 Qsp x40 true h37 (fun k41 =>
 Qo (Qgtr x36 (.int .i64 0)) fun x44 =>
 k41 x44 h37) fun x42 h43 =>
 q100_1p4 cf R x40 x42 a0 h43 a1 x28 x36 a4
noncomputable def q100_1p2 (cf : CallF) (R : Rec) (h15 : H) (x26 : IV) (x27 : IV) (x24 : IV) (x25 : IV) (x21 : IV) (x22 : IV) (a0 : IV) (a1 : IV) (a4 : IV) : CRes :=
 Qo2 (QnI h15 z1) fun x28 h29 =>
 Qo (QlA 3 h29 x26) fun x30 =>
 bif IV.beq x30 x27 then
 Qo (Ql0 h29 x24) fun x31 =>
 bif IV.beq x31 x25 then
 Qo (Ql0 h29 x21) fun x32 =>
 bif IV.beq x32 x22 then
 QoH (QsA 3 h29 x28 x27) fun h33 =>
 Qo (Qfad 1 x28) fun x34 =>
 Qo (Ql0 h33 x34) fun x35 =>
 Qc (cf 99 [x35] h33) .pan fun x36 h37 =>
 q100_1p3 cf R x28 h37 x36 a0 a1 a4
 else .fail
 else .fail
 else .fail
noncomputable def q100_1p1 (cf : CallF) (R : Rec) (x23 : IV) (h15 : H) (x22 : IV) (x21 : IV) (a0 : IV) (a1 : IV) (a4 : IV) : CRes :=
 Qo (Qfad 1 x23) fun x24 =>
 Qo (Ql0 h15 x24) fun x25 =>
 Qo (Qix 3 x22 x25) fun x26 =>
 Qo (QlA 3 h15 x26) fun x27 =>
 q100_1p2 cf R h15 x26 x27 x24 x25 x21 x22 a0 a1 a4
noncomputable def q100_1 (cf : CallF) (R : Rec) (a0 : IV) (a1 : IV) (a4 : IV) (h : H) : CRes :=
 Qc (cf 31 [a0] h) .pan fun x14 h15 =>
 Qo (Qnot x14) fun x16 =>
 Qif x16
 (Qo (Qbld z11 p12 []) fun x17 =>
 QoH (QsA 6 h15 a4 x17) fun h18 =>
 Qo (QlA 6 h18 a4) fun x19 =>
 .ok x19 h18)
 (Qo (Qnil a0) fun x20 =>
 Qo (Qfad 0 x20) fun x21 =>
 Qo (Ql0 h15 x21) fun x22 =>
 Qo (Qnil a0) fun x23 =>
 q100_1p1 cf R x23 h15 x22 x21 a0 a1 a4)
theorem qe100_1 : q100_1 = t100_1 := by
  unfold q100_1 q100_1p1 q100_1p2 q100_1p3 q100_1p4 q100_1p5 q100_1p6 q100_1p7
  try simp only [QE]
  try rfl
noncomputable def bt100 (cf : CallF) (R : Rec) : Rec := fun i l h =>
 br2 i 0 l (fun a0 a1 => t100_0 cf R a0 a1 h) <|
 br3 i 1 l (fun a0 a1 a4 => t100_1 cf R a0 a1 a4 h) <|
 .fail
noncomputable def b100 (cf : CallF) (R : Rec) : Rec := fun i l h =>
 brQ2 i 0 l (fun a0 a1 => q100_0 cf R a0 a1 h) <|
 brQ3 i 1 l (fun a0 a1 a4 => q100_1 cf R a0 a1 a4 h) <|
 .fail
theorem be100 : b100 = bt100 := by
  unfold b100 bt100
  simp only [qe100_0, qe100_1, brQ2_eq, brQ3_eq]
theorem r100 {T : Tab} {cf : CallF} (hc : leC cf (CL T)) (n : Nat) : leR (recN (b100 cf) n) (J100 T) := be100 ▸ recN_le (fun R hR i l h => by
  unfold bt100
  refine le_br2 (J := fun i l => J100 T i l h) (fun _ a0 a1 => le_e (fun hn => e100_0 rfl hn) ((m100 hc hR).1 a0 a1 h)) ?_
  refine le_br3 (J := fun i l => J100 T i l h) (fun _ a0 a1 a4 => le_e (fun hn => e100_1 rfl hn) ((m100 hc hR).2 a0 a1 a4 h)) ?_
  exact le_fail _) n
-- 101
theorem m101 {cf cf' : CallF} {R R' : Rec} (hc : ∀ f l h, le (cf f l h) (cf' f l h)) (hR : ∀ i l h, le (R i l h) (R' i l h)) :
  (∀ (a0 : IV) (h : H), le (t101_0 cf R a0 h) (t101_0 cf' R' a0 h)) ∧
  (∀ (a0 a4 a5 a6 a7 : IV) (h : H), le (t101_1 cf R a0 a4 a5 a6 a7 h) (t101_1 cf' R' a0 a4 a5 a6 a7 h)) := by
  refine ⟨?_, ?_⟩
  all_goals intros
  all_goals first | unfold t101_0 | unfold t101_1
  all_goals
  with_reducible repeat' first
    | refine le_obind fun _ => ?_
    | refine le_callP ?_ (fun _ _ => ?_) (fun _ _ => ?_)
    | refine le_condK ?_ ?_
    | exact hR _ _ _
    | refine le_obind2 fun _ _ => ?_
    | refine le_obindH fun _ => ?_
    | refine le_spanK (fun _ _ _ => ?_) (fun _ _ => ?_)
    | exact hc _ _ _
    | refine le_bif ?_ ?_
    | refine le_guardK ?_ ?_ ?_
    | refine le_mapK fun _ _ => ?_
    | refine le_panK fun _ _ => ?_
    | refine le_funK fun _ _ => ?_
    | exact le_refl _
    | apply_assumption
noncomputable def q101_0 (cf : CallF) (R : Rec) (a0 : IV) (h : H) : CRes :=
 Qo2 (Qbsl false 1 [(.str ⟨0, 0⟩)] 15 [(0, (.str ⟨2, 31868⟩)), (1, (.str ⟨2, 9766⟩)), (2, (.str ⟨1, 124⟩)), (3, (.str ⟨1, 94⟩)), (4, (.str ⟨1, 38⟩)), (5, (.str ⟨2, 15677⟩)), (6, (.str ⟨2, 15649⟩)), (7, (.str ⟨1, 60⟩)), (8, (.str ⟨2, 15676⟩)), (9, (.str ⟨1, 62⟩)), (10, (.str ⟨2, 15678⟩)), (11, (.str ⟨2, 15420⟩)), (12, (.str ⟨2, 15934⟩)), (13, (.str ⟨1, 43⟩)), (14, (.str ⟨1, 45⟩))] h) fun x1 h2 =>
 Qo2 (Qbsl true 1 [(.int .i64 0)] 15 [(0, (.int .i64 1)), (1, (.int .i64 2)), (2, (.int .i64 3)), (3, (.int .i64 4)), (4, (.int .i64 5)), (5, (.int .i64 6)), (6, (.int .i64 6)), (7, (.int .i64 7)), (8, (.int .i64 7)), (9, (.int .i64 7)), (10, (.int .i64 7)), (11, (.int .i64 8)), (12, (.int .i64 8)), (13, (.int .i64 9)), (14, (.int .i64 9))] h2) fun x3 h4 =>
 Qo2 (Qbsl true 1 [(.int .i64 0)] 15 [(0, (.int .i64 27)), (1, (.int .i64 26)), (2, (.int .i64 25)), (3, (.int .i64 24)), (4, (.int .i64 23)), (5, (.int .i64 21)), (6, (.int .i64 22)), (7, (.int .i64 17)), (8, (.int .i64 18)), (9, (.int .i64 19)), (10, (.int .i64 20)), (11, (.int .i64 15)), (12, (.int .i64 16)), (13, (.int .i64 13)), (14, (.int .i64 14))] h4) fun x5 h6 =>
 R 1 [a0, x1, x3, x5, (.int .i64 0)] h6
theorem qe101_0 : q101_0 = t101_0 := by
  unfold q101_0
  try simp only [QE]
  try rfl
noncomputable def q101_1 (cf : CallF) (R : Rec) (a0 : IV) (a4 : IV) (a5 : IV) (a6 : IV) (a7 : IV) (h : H) : CRes :=
 Qo (Qle a4) fun x7 =>
 Qo (Qlss a7 x7) fun x8 =>
 Qif x8
 (Qo (Qix 1 a4 a7) fun x9 =>
 Qo (Ql0 h x9) fun x10 =>
 Qo (Qse x10 a0) fun x11 =>
 Qif x11
 (Qo (Qix 1 a5 a7) fun x12 =>
 Qo (Ql0 h x12) fun x13 =>
 Qo (Qix 1 a6 a7) fun x14 =>
 Qo (Ql0 h x14) fun x15 =>
 .ok (.tup [x13, x15]) h)
 (Qo (Qadd a7 (.int .i64 1)) fun x16 =>
 R 1 [a0, a4, a5, a6, x16] h))
 (.ok (.tup [(.int .i64 0), (.int .i64 0)]) h)
theorem qe101_1 : q101_1 = t101_1 := by
  unfold q101_1
  try simp only [QE]
  try rfl
noncomputable def bt101 (cf : CallF) (R : Rec) : Rec := fun i l h =>
 br1 i 0 l (fun a0 => t101_0 cf R a0 h) <|
 br5 i 1 l (fun a0 a4 a5 a6 a7 => t101_1 cf R a0 a4 a5 a6 a7 h) <|
 .fail
noncomputable def b101 (cf : CallF) (R : Rec) : Rec := fun i l h =>
 brQ1 i 0 l (fun a0 => q101_0 cf R a0 h) <|
 brQ5 i 1 l (fun a0 a4 a5 a6 a7 => q101_1 cf R a0 a4 a5 a6 a7 h) <|
 .fail
theorem be101 : b101 = bt101 := by
  unfold b101 bt101
  simp only [qe101_0, qe101_1, brQ1_eq, brQ5_eq]
theorem r101 {T : Tab} {cf : CallF} (hc : leC cf (CL T)) (n : Nat) : leR (recN (b101 cf) n) (J101 T) := be101 ▸ recN_le (fun R hR i l h => by
  unfold bt101
  refine le_br1 (J := fun i l => J101 T i l h) (fun _ a0 => le_e (fun hn => e101_0 rfl hn) ((m101 hc hR).1 a0 h)) ?_
  refine le_br5 (J := fun i l => J101 T i l h) (fun _ a0 a4 a5 a6 a7 => le_e (fun hn => e101_1 rfl hn) ((m101 hc hR).2 a0 a4 a5 a6 a7 h)) ?_
  exact le_fail _) n
-- 102
theorem m102 {cf cf' : CallF} {R R' : Rec} (hc : ∀ f l h, le (cf f l h) (cf' f l h)) (hR : ∀ i l h, le (R i l h) (R' i l h)) :
  (∀ (a0 a1 : IV) (h : H), le (t102_0 cf R a0 a1 h) (t102_0 cf' R' a0 a1 h)) ∧
  (∀ (a0 a1 a4 a10 : IV) (h : H), le (t102_1 cf R a0 a1 a4 a10 h) (t102_1 cf' R' a0 a1 a4 a10 h)) ∧
  (∀ (a0 a4 a11 : IV) (h : H), le (t102_2 cf R a0 a4 a11 h) (t102_2 cf' R' a0 a4 a11 h)) := by
  refine ⟨?_, ?_, ?_⟩
  all_goals intros
  all_goals first | unfold t102_0 | unfold t102_1 | unfold t102_2
  all_goals
  with_reducible repeat' first
    | refine le_obind fun _ => ?_
    | refine le_callP ?_ (fun _ _ => ?_) (fun _ _ => ?_)
    | refine le_condK ?_ ?_
    | exact hR _ _ _
    | refine le_obind2 fun _ _ => ?_
    | refine le_obindH fun _ => ?_
    | refine le_spanK (fun _ _ _ => ?_) (fun _ _ => ?_)
    | exact hc _ _ _
    | refine le_bif ?_ ?_
    | refine le_guardK ?_ ?_ ?_
    | refine le_mapK fun _ _ => ?_
    | refine le_panK fun _ _ => ?_
    | refine le_funK fun _ _ => ?_
    | exact le_refl _
    | apply_assumption
noncomputable def q102_0p6 (cf : CallF) (R : Rec) (x29 : IV) (x11 : IV) (h30 : H) (x31 : IV) (x32 : IV) (x1 : IV) : CRes :=
 Qo (Qext x29 2) fun x33 =>
 Qo (Qfad 2 x11) fun x34 =>
 Qo (Ql0 h30 x34) fun x35 =>
 Qo (Qbld z11 p12 [(0, (.int .i64 1)), (2, x31), (3, x32), (5, x35)]) fun x36 =>
 QoH (QsA 6 h30 x1 x36) fun h37 =>
 Qo (QlA 6 h37 x1) fun x38 =>
 .ok x38 h37
noncomputable def q102_0p5 (cf : CallF) (R : Rec) (h26 : H) (x27 : IV) (x11 : IV) (x1 : IV) : CRes :=
 Qo (Ql0 h26 x27) fun x28 =>
 Qc (cf 42 [x28] h26) .pan fun x29 h30 =>
 Qo (Qext x29 0) fun x31 =>
 Qo (Qext x29 1) fun x32 =>
 q102_0p6 cf R x29 x11 h30 x31 x32 x1
noncomputable def q102_0p4 (cf : CallF) (R : Rec) (a0 : IV) (h16 : H) (x23 : IV) (x11 : IV) (x1 : IV) : CRes :=
 Qo (Qnil a0) fun x24 =>
 Qo (Qfad 1 x24) fun x25 =>
 QoH (QsA 1 h16 x25 x23) fun h26 =>
 Qo (Qfad 1 x11) fun x27 =>
 q102_0p5 cf R h26 x27 x11 x1
noncomputable def q102_0p7 (cf : CallF) (R : Rec) (a0 : IV) (h46 : H) (x44 : IV) (x1 : IV) : CRes :=
 Qc (cf 45 [a0, (.str ⟨1, 41⟩)] h46) .pan fun x47 h48 =>
 Qo (QlA 6 h48 x44) fun x49 =>
 QoH (QsA 6 h48 x1 x49) fun h50 =>
 Qo (QlA 6 h50 x1) fun x51 =>
 .ok x51 h50
noncomputable def q102_0p8 (cf : CallF) (R : Rec) (h62 : H) (x63 : IV) (h53 : H) (h60 : H) (x61 : IV) (a0 : IV) (a1 : IV) (x1 : IV) : CRes :=
 Qo (Ql0 h62 x63) fun x64 =>
 Qo (Ql0 h53 x63) fun x65 =>
 bif IV.beq x65 x64 then
 Qo (Ql0 h60 x63) fun x66 =>
 bif IV.beq x66 x64 then
 Qo (Qbld z11 p12 [(0, (.int .i64 5)), (4, x61), (5, x64)]) fun x67 =>
 Qo2 (QnI h62 z11) fun x68 h69 =>
 Qo (Ql0 h69 x63) fun x70 =>
 bif IV.beq x70 x64 then
 QoH (QsA 6 h69 x68 x67) fun h71 =>
 R 1 [a0, a1, x1, x68] h71
 else .fail
 else .fail
 else .fail
noncomputable def q102_0p12 (cf : CallF) (R : Rec) (a1 : IV) (a0 : IV) (h104 : H) (x105 : IV) (x106 : IV) (x82 : IV) (x1 : IV) : CRes :=
 Qo (Qadd a1 (.int .i64 1)) fun x107 =>
 Qc (cf 70 [a0, x107] h104) (fun v108 h109 =>
 .pan v108 h109) fun x110 h111 =>
 Qo (Ql0 h111 x105) fun x112 =>
 bif IV.beq x112 x106 then
 Qo2 (Qbsl false 6 z11 1 [(0, x110)] h111) fun x113 h114 =>
 Qo (Ql0 h114 x105) fun x115 =>
 bif IV.beq x115 x106 then
 Qo2 (appK 6 80 h114 x106 x113) fun x116 h117 =>
 Qo (Qfad 4 x82) fun x118 =>
 QoH (QsA 1 h117 x118 x116) fun h119 =>
 R 2 [a0, x1, x82] h119
 else .fail
 else .fail
noncomputable def q102_0p11 (cf : CallF) (R : Rec) (x101 : IV) (x82 : IV) (h102 : H) (a1 : IV) (a0 : IV) (x1 : IV) : CRes :=
 Qif x101
 (Qo (Qfad 0 x82) fun x103 =>
 QoH (QsA 1 h102 x103 (.int .i64 4)) fun h104 =>
 Qo (Qfad 4 x82) fun x105 =>
 Qo (Ql0 h104 x105) fun x106 =>
 q102_0p12 cf R a1 a0 h104 x105 x106 x82 x1)
 (R 2 [a0, x1, x82] h102)
noncomputable def q102_0p10 (cf : CallF) (R : Rec) (x95 : IV) (h96 : H) (x82 : IV) (a0 : IV) (a1 : IV) (x1 : IV) : CRes :=
 Qo2 (Qbsl false 6 z11 1 [(0, x95)] h96) fun x97 h98 =>
 Qo (Qfad 4 x82) fun x99 =>
 QoH (QsA 1 h98 x99 x97) fun h100 =>
 Qc (cf 47 [a0, (.str ⟨1, 58⟩)] h100) .pan fun x101 h102 =>
 q102_0p11 cf R x101 x82 h102 a1 a0 x1
noncomputable def q102_0p9 (cf : CallF) (R : Rec) (x80 : IV) (x79 : IV) (x76 : IV) (h77 : H) (x78 : IV) (a0 : IV) (x1 : IV) (a1 : IV) : CRes :=
 bif IV.beq x80 x79 then
 Qo (Qbld z11 p12 [(0, (.int .i64 2)), (1, x76), (5, x79)]) fun x81 =>
 Qo2 (QnI h77 z11) fun x82 h83 =>
 Qo (Ql0 h83 x78) fun x84 =>
 bif IV.beq x84 x79 then
 QoH (QsA 6 h83 x82 x81) fun h85 =>
 Qc (cf 47 [a0, (.str ⟨1, 91⟩)] h85) .pan fun x86 h87 =>
 Qo (Qnot x86) fun x88 =>
 Qif x88
 (Qo (QlA 6 h87 x82) fun x89 =>
 QoH (QsA 6 h87 x1 x89) fun h90 =>
 Qo (QlA 6 h90 x1) fun x91 =>
 .ok x91 h90)
 (Qo (Qfad 0 x82) fun x92 =>
 QoH (QsA 1 h87 x92 (.int .i64 3)) fun h93 =>
 Qo (Qadd a1 (.int .i64 1)) fun x94 =>
 Qc (cf 70 [a0, x94] h93) .pan fun x95 h96 =>
 q102_0p10 cf R x95 h96 x82 a0 a1 x1)
 else .fail
 else .fail
noncomputable def q102_0p3 (cf : CallF) (R : Rec) (x19 : IV) (a0 : IV) (h16 : H) (x11 : IV) (x1 : IV) (a1 : IV) : CRes :=
 Qif x19
 (Qo (Qnil a0) fun x20 =>
 Qo (Qfad 1 x20) fun x21 =>
 Qo (Ql0 h16 x21) fun x22 =>
 Qo (Qadd x22 (.int .i64 1)) fun x23 =>
 q102_0p4 cf R a0 h16 x23 x11 x1)
 (Qc (cf 47 [a0, (.str ⟨1, 40⟩)] h16) .pan fun x39 h40 =>
 Qif x39
 (Qo (Qadd a1 (.int .i64 1)) fun x41 =>
 Qc (cf 70 [a0, x41] h40) .pan fun x42 h43 =>
 Qo2 (QnI h43 z11) fun x44 h45 =>
 QoH (QsA 6 h45 x44 x42) fun h46 =>
 q102_0p7 cf R a0 h46 x44 x1)
 (Qc (cf 47 [a0, (.str ⟨1, 123⟩)] h40) .pan fun x52 h53 =>
 Qif x52
 (Qo (Qadd a1 (.int .i64 1)) fun x54 =>
 Qc (cf 70 [a0, x54] h53) (fun v55 h56 =>
 Qo (Qfad 2 x11) fun x57 =>
 Qo (Ql0 h53 x57) fun x58 =>
 .pan v55 h56) fun x59 h60 =>
 Qo2 (Qbsl false 6 z11 1 [(0, x59)] h60) fun x61 h62 =>
 Qo (Qfad 2 x11) fun x63 =>
 q102_0p8 cf R h62 x63 h53 h60 x61 a0 a1 x1)
 (Qc (cf 46 [a0] h53) (fun v72 h73 =>
 Qo (Qfad 2 x11) fun x74 =>
 Qo (Ql0 h53 x74) fun x75 =>
 .pan v72 h73) fun x76 h77 =>
 Qo (Qfad 2 x11) fun x78 =>
 Qo (Ql0 h77 x78) fun x79 =>
 Qo (Ql0 h53 x78) fun x80 =>
 q102_0p9 cf R x80 x79 x76 h77 x78 a0 x1 a1)))
noncomputable def q102_0p2 (cf : CallF) (R : Rec) (h2 : H) (x9 : IV) (x7 : IV) (x8 : IV) (x4 : IV) (x5 : IV) (a0 : IV) (x1 : IV) (a1 : IV) : CRes :=
 Qo (QlA 3 h2 x9) fun x10 =>
 Qo2 (QnI h2 z1) fun x11 h12 =>
 Qo (QlA 3 h12 x9) fun x13 =>
 bif IV.beq x13 x10 then
 Qo (Ql0 h12 x7) fun x14 =>
 bif IV.beq x14 x8 then
 Qo (Ql0 h12 x4) fun x15 =>
 bif IV.beq x15 x5 then
 QoH (QsA 3 h12 x11 x10) fun h16 =>
 Qo (Qfad 0 x11) fun x17 =>
 Qo (Ql0 h16 x17) fun x18 =>
 Qo (Qeql x18 (.int .i64 2)) fun x19 =>
 q102_0p3 cf R x19 a0 h16 x11 x1 a1
 else .fail
 else .fail
 else .fail
noncomputable def q102_0p1 (cf : CallF) (R : Rec) (a0 : IV) (h2 : H) (x5 : IV) (x4 : IV) (x1 : IV) (a1 : IV) : CRes :=
 Qo (Qnil a0) fun x6 =>
 Qo (Qfad 1 x6) fun x7 =>
 Qo (Ql0 h2 x7) fun x8 =>
 Qo (Qix 3 x5 x8) fun x9 =>
 q102_0p2 cf R h2 x9 x7 x8 x4 x5 a0 x1 a1
noncomputable def q102_0 (cf : CallF) (R : Rec) (a0 : IV) (a1 : IV) (h : H) : CRes :=
 Qo2 (QnI h z11) fun x1 h2 =>
 Qo (Qnil a0) fun x3 =>
 Qo (Qfad 0 x3) fun x4 =>
 Qo (Ql0 h2 x4) fun x5 =>
 q102_0p1 cf R a0 h2 x5 x4 x1 a1
theorem qe102_0 : q102_0 = t102_0 := by
  unfold q102_0 q102_0p1 q102_0p2 q102_0p3 q102_0p9 q102_0p10 q102_0p11 q102_0p12 q102_0p8 q102_0p7 q102_0p4 q102_0p5 q102_0p6
  try simp only [QE]
  try rfl
noncomputable def q102_1p1 (cf : CallF) (R : Rec) (h128 : H) (x122 : IV) (x123 : IV) (x127 : IV) (a10 : IV) (a0 : IV) (a1 : IV) (a4 : IV) : CRes :=
 Qo (Ql0 h128 x122) fun x129 =>
 bif IV.beq x129 x123 then
 Qo2 (Qbsl false 6 z11 1 [(0, x127)] h128) fun x130 h131 =>
 Qo (Ql0 h131 x122) fun x132 =>
 bif IV.beq x132 x123 then
 Qo2 (appK 6 80 h131 x123 x130) fun x133 h134 =>
 Qo (Qfad 4 a10) fun x135 =>
 QoH (QsA 1 h134 x135 x133) fun h136 =>
 R 1 [a0, a1, a4, a10] h136
 else .fail
 else .fail
noncomputable def q102_1 (cf : CallF) (R : Rec) (a0 : IV) (a1 : IV) (a4 : IV) (a10 : IV) (h : H) : CRes :=
 Qc (cf 47 [a0, (.str ⟨1, 44⟩)] h) .pan fun x120 h121 =>
 Qif x120
 (Qo (Qfad 4 a10) fun x122 =>
 Qo (Ql0 h121 x122) fun x123 =>
 Qo (Qadd a1 (.int .i64 1)) fun x124 =>
 Qc (cf 70 [a0, x124] h121) (fun v125 h126 =>
 .pan v125 h126) fun x127 h128 =>
 q102_1p1 cf R h128 x122 x123 x127 a10 a0 a1 a4)
 (Qc (cf 45 [a0, (.str ⟨1, 125⟩)] h121) .pan fun x137 h138 =>
 Qo (QlA 6 h138 a10) fun x139 =>
 QoH (QsA 6 h138 a4 x139) fun h140 =>
 Qo (QlA 6 h140 a4) fun x141 =>
 .ok x141 h140)
theorem qe102_1 : q102_1 = t102_1 := by
  unfold q102_1 q102_1p1
  try simp only [QE]
  try rfl
noncomputable def q102_2 (cf : CallF) (R : Rec) (a0 : IV) (a4 : IV) (a11 : IV) (h : H) : CRes :=
 Qc (cf 45 [a0, (.str ⟨1, 93⟩)] h) .pan fun x142 h143 =>
 Qo (QlA 6 h143 a11) fun x144 =>
 QoH (QsA 6 h143 a4 x144) fun h145 =>
 Qo (QlA 6 h145 a4) fun x146 =>
 .ok x146 h145
theorem qe102_2 : q102_2 = t102_2 := by
  unfold q102_2
  try simp only [QE]
  try rfl
noncomputable def bt102 (cf : CallF) (R : Rec) : Rec := fun i l h =>
 br2 i 0 l (fun a0 a1 => t102_0 cf R a0 a1 h) <|
 br4 i 1 l (fun a0 a1 a4 a10 => t102_1 cf R a0 a1 a4 a10 h) <|
 br3 i 2 l (fun a0 a4 a11 => t102_2 cf R a0 a4 a11 h) <|
 .fail
noncomputable def b102 (cf : CallF) (R : Rec) : Rec := fun i l h =>
 brQ2 i 0 l (fun a0 a1 => q102_0 cf R a0 a1 h) <|
 brQ4 i 1 l (fun a0 a1 a4 a10 => q102_1 cf R a0 a1 a4 a10 h) <|
 brQ3 i 2 l (fun a0 a4 a11 => q102_2 cf R a0 a4 a11 h) <|
 .fail
theorem be102 : b102 = bt102 := by
  unfold b102 bt102
  simp only [qe102_0, qe102_1, qe102_2, brQ2_eq, brQ3_eq, brQ4_eq]
theorem r102 {T : Tab} {cf : CallF} (hc : leC cf (CL T)) (n : Nat) : leR (recN (b102 cf) n) (J102 T) := be102 ▸ recN_le (fun R hR i l h => by
  unfold bt102
  refine le_br2 (J := fun i l => J102 T i l h) (fun _ a0 a1 => le_e (fun hn => e102_0 rfl hn) ((m102 hc hR).1 a0 a1 h)) ?_
  refine le_br4 (J := fun i l => J102 T i l h) (fun _ a0 a1 a4 a10 => le_e (fun hn => e102_1 rfl hn) ((m102 hc hR).2.1 a0 a1 a4 a10 h)) ?_
  refine le_br3 (J := fun i l => J102 T i l h) (fun _ a0 a4 a11 => le_e (fun hn => e102_2 rfl hn) ((m102 hc hR).2.2 a0 a4 a11 h)) ?_
  exact le_fail _) n
-- 103
theorem m103 {cf cf' : CallF} {R R' : Rec} (hc : ∀ f l h, le (cf f l h) (cf' f l h)) (hR : ∀ i l h, le (R i l h) (R' i l h)) :
  (∀ (a0 a1 : IV) (h : H), le (t103_0 cf R a0 a1 h) (t103_0 cf' R' a0 a1 h)) ∧
  (∀ (a0 a1 : IV) (h : H), le (t103_1 cf R a0 a1 h) (t103_1 cf' R' a0 a1 h)) ∧
  (∀ (a0 a1 : IV) (h : H), le (t103_2 cf R a0 a1 h) (t103_2 cf' R' a0 a1 h)) ∧
  (∀ (a0 a1 a6 : IV) (h : H), le (t103_3 cf R a0 a1 a6 h) (t103_3 cf' R' a0 a1 a6 h)) ∧
  (∀ (a7 : IV) (h : H), le (t103_4 cf R a7 h) (t103_4 cf' R' a7 h)) ∧
  (∀ (a0 a8 : IV) (h : H), le (t103_5 cf R a0 a8 h) (t103_5 cf' R' a0 a8 h)) := by
  refine ⟨?_, ?_, ?_, ?_, ?_, ?_⟩
  all_goals intros
  all_goals first | unfold t103_0 | unfold t103_1 | unfold t103_2 | unfold t103_3 | unfold t103_4 | unfold t103_5
  all_goals
  with_reducible repeat' first
    | refine le_obind fun _ => ?_
    | refine le_callP ?_ (fun _ _ => ?_) (fun _ _ => ?_)
    | refine le_condK ?_ ?_
    | exact hR _ _ _
    | refine le_obind2 fun _ _ => ?_
    | refine le_obindH fun _ => ?_
    | refine le_spanK (fun _ _ _ => ?_) (fun _ _ => ?_)
    | exact hc _ _ _
    | refine le_bif ?_ ?_
    | refine le_guardK ?_ ?_ ?_
    | refine le_mapK fun _ _ => ?_
    | refine le_panK fun _ _ => ?_
    | refine le_funK fun _ _ => ?_
    | exact le_refl _
    | apply_assumption
noncomputable def q103_0p2 (cf : CallF) (R : Rec) (x23 : IV) (x25 : IV) (a0 : IV) (h26 : H) (a1 : IV) : CRes :=
 Qo (Qpk x23 (some x25) (some (.bool false))) fun x30 =>
 Qif x30
 (Qc (cf 67 [a0, (.int .i64 40)] h26) .pan fun x31 h32 =>
 R 1 [a0, a1] h32)
 (R 1 [a0, a1] h26)
noncomputable def q103_0p1 (cf : CallF) (R : Rec) (x9 : IV) (x11 : IV) (h12 : H) (a0 : IV) (a1 : IV) : CRes :=
 Qo (Qpk x9 (some x11) (some (.bool false))) fun x16 =>
 Qsp x16 true h12 (fun k17 =>
 Qc (cf 69 [a0, (.str ⟨2, 26217⟩)] h12) .pan fun x20 h21 =>
 Qo (Qnot x20) fun x22 =>
 k17 x22 h21) fun x18 h19 =>
 Qo (Qpk x16 (some x18) (some (.bool false))) fun x23 =>
 Qsp x23 true h19 (fun k24 =>
 Qc (cf 69 [a0, (.str ⟨4, 1702060387⟩)] h19) .pan fun x27 h28 =>
 Qo (Qnot x27) fun x29 =>
 k24 x29 h28) fun x25 h26 =>
 q103_0p2 cf R x23 x25 a0 h26 a1
noncomputable def q103_0 (cf : CallF) (R : Rec) (a0 : IV) (a1 : IV) (h : H) : CRes :=
 Qc (cf 31 [a0] h) .pan fun x1 h2 =>
 Qsp x1 true h2 (fun k3 =>
 Qc (cf 68 [a0] h2) .pan fun x6 h7 =>
 Qo (Qnot x6) fun x8 =>
 k3 x8 h7) fun x4 h5 =>
 Qo (Qpk x1 (some x4) (some (.bool false))) fun x9 =>
 Qsp x9 true h5 (fun k10 =>
 Qc (cf 69 [a0, (.str ⟨5, 474214786402⟩)] h5) .pan fun x13 h14 =>
 Qo (Qnot x13) fun x15 =>
 k10 x15 h14) fun x11 h12 =>
 q103_0p1 cf R x9 x11 h12 a0 a1
theorem qe103_0 : q103_0 = t103_0 := by
  unfold q103_0 q103_0p1 q103_0p2
  try simp only [QE]
  try rfl
noncomputable def q103_1 (cf : CallF) (R : Rec) (a0 : IV) (a1 : IV) (h : H) : CRes :=
 Qc (cf 31 [a0] h) .pan fun x33 h34 =>
 Qsp x33 true h34 (fun k35 =>
 Qo (Qgtr a1 (.int .i64 32)) fun x38 =>
 k35 x38 h34) fun x36 h37 =>
 Qo (Qpk x33 (some x36) (some (.bool false))) fun x39 =>
 Qif x39
 (Qc (cf 67 [a0, (.int .i64 41)] h37) .pan fun x40 h41 =>
 R 2 [a0, a1] h41)
 (R 2 [a0, a1] h37)
theorem qe103_1 : q103_1 = t103_1 := by
  unfold q103_1
  try simp only [QE]
  try rfl
noncomputable def q103_2p3 (cf : CallF) (R : Rec) (a0 : IV) (h67 : H) (a1 : IV) (x52 : IV) : CRes :=
 Qc (cf 47 [a0, (.str ⟨4, 1702063205⟩)] h67) .pan fun x68 h69 =>
 Qif x68
 (Qo (Qadd a1 (.int .i64 1)) fun x70 =>
 Qc (cf 103 [a0, x70] h69) .pan fun x71 h72 =>
 Qo (Qfad 9 x52) fun x73 =>
 QoH (QsA 1 h72 x73 x71) fun h74 =>
 R 4 [x52] h74)
 (R 4 [x52] h69)
noncomputable def q103_2p2 (cf : CallF) (R : Rec) (a1 : IV) (a0 : IV) (h62 : H) (x52 : IV) : CRes :=
 Qo (Qadd a1 (.int .i64 1)) fun x63 =>
 Qc (cf 103 [a0, x63] h62) .pan fun x64 h65 =>
 Qo (Qfad 8 x52) fun x66 =>
 QoH (QsA 1 h65 x66 x64) fun h67 =>
 q103_2p3 cf R a0 h67 a1 x52
noncomputable def q103_2p1 (cf : CallF) (R : Rec) (a0 : IV) (h56 : H) (x52 : IV) (a1 : IV) : CRes :=
 Qc (cf 70 [a0, (.int .i64 1)] h56) .pan fun x57 h58 =>
 Qo (Qfad 2 x52) fun x59 =>
 QoH (QsA 6 h58 x59 x57) fun h60 =>
 Qc (cf 45 [a0, (.str ⟨1, 41⟩)] h60) .pan fun x61 h62 =>
 q103_2p2 cf R a1 a0 h62 x52
noncomputable def q103_2p4 (cf : CallF) (R : Rec) (a0 : IV) (h84 : H) (x82 : IV) : CRes :=
 Qc (cf 47 [a0, (.str ⟨2, 15676⟩)] h84) .pan fun x85 h86 =>
 Qif x85
 (Qo (Qfad 0 x82) fun x87 =>
 QoH (QsA 1 h86 x87 (.int .i64 2)) fun h88 =>
 R 5 [a0, x82] h88)
 (Qc (cf 45 [a0, (.str ⟨1, 61⟩)] h86) .pan fun x89 h90 =>
 R 5 [a0, x82] h90)
noncomputable def q103_2 (cf : CallF) (R : Rec) (a0 : IV) (a1 : IV) (h : H) : CRes :=
 Qc (cf 31 [a0] h) .pan fun x42 h43 =>
 Qo (Qnot x42) fun x44 =>
 Qif x44
 (.ok .nilSlice h43)
 (Qc (cf 44 [a0] h43) .pan fun x45 h46 =>
 Qc (cf 47 [a0, (.str ⟨5, 474214786402⟩)] h46) .pan fun x47 h48 =>
 Qif x47
 (R 3 [a0, a1, .nilSlice] h48)
 (Qc (cf 47 [a0, (.str ⟨2, 26217⟩)] h48) .pan fun x49 h50 =>
 Qif x49
 (Qo (Qbld z14 p16 [(0, (.int .i64 3)), (6, x45)]) fun x51 =>
 Qo2 (QnI h50 z14) fun x52 h53 =>
 QoH (QsA 12 h53 x52 x51) fun h54 =>
 Qc (cf 45 [a0, (.str ⟨1, 40⟩)] h54) .pan fun x55 h56 =>
 q103_2p1 cf R a0 h56 x52 a1)
 (Qc (cf 47 [a0, (.str ⟨4, 1702060387⟩)] h50) .pan fun x75 h76 =>
 Qif x75
 (Qc (cf 105 [a0, a1, x45] h76) .pan fun x77 h78 =>
 .ok x77 h78)
 (Qc (cf 46 [a0] h76) .pan fun x79 h80 =>
 Qo (Qbld z14 p16 [(0, (.int .i64 1)), (1, x79), (6, x45)]) fun x81 =>
 Qo2 (QnI h80 z14) fun x82 h83 =>
 QoH (QsA 12 h83 x82 x81) fun h84 =>
 q103_2p4 cf R a0 h84 x82))))
theorem qe103_2 : q103_2 = t103_2 := by
  unfold q103_2 q103_2p4 q103_2p1 q103_2p2 q103_2p3
  try simp only [QE]
  try rfl
noncomputable def q103_3 (cf : CallF) (R : Rec) (a0 : IV) (a1 : IV) (a6 : IV) (h : H) : CRes :=
 Qc (cf 31 [a0] h) .pan fun x91 h92 =>
 Qsp x91 true h92 (fun k93 =>
 Qc (cf 47 [a0, (.str ⟨3, 6581861⟩)] h92) .pan fun x96 h97 =>
 Qo (Qnot x96) fun x98 =>
 k93 x98 h97) fun x94 h95 =>
 Qo (Qpk x91 (some x94) (some (.bool false))) fun x99 =>
 Qif x99
 (Qo (Qadd a1 (.int .i64 1)) fun x100 =>
 Qc (cf 103 [a0, x100] h95) .pan fun x101 h102 =>
 Qo2 (appK 12 184 h102 a6 x101) fun x103 h104 =>
 R 3 [a0, a1, x103] h104)
 (.ok a6 h95)
theorem qe103_3 : q103_3 = t103_3 := by
  unfold q103_3
  try simp only [QE]
  try rfl
noncomputable def q103_4 (cf : CallF) (R : Rec) (a7 : IV) (h : H) : CRes :=
 Qo (QlA 12 h a7) fun x105 =>
 Qo2 (Qbsl false 12 z14 1 [(0, x105)] h) fun x106 h107 =>
 .ok x106 h107
theorem qe103_4 : q103_4 = t103_4 := by
  unfold q103_4
  try simp only [QE]
  try rfl
noncomputable def q103_5 (cf : CallF) (R : Rec) (a0 : IV) (a8 : IV) (h : H) : CRes :=
 Qc (cf 70 [a0, (.int .i64 1)] h) .pan fun x108 h109 =>
 Qo (Qfad 2 a8) fun x110 =>
 QoH (QsA 6 h109 x110 x108) fun h111 =>
 Qc (cf 45 [a0, (.str ⟨1, 59⟩)] h111) .pan fun x112 h113 =>
 Qo (QlA 12 h113 a8) fun x114 =>
 Qo2 (Qbsl false 12 z14 1 [(0, x114)] h113) fun x115 h116 =>
 .ok x115 h116
theorem qe103_5 : q103_5 = t103_5 := by
  unfold q103_5
  try simp only [QE]
  try rfl
noncomputable def bt103 (cf : CallF) (R : Rec) : Rec := fun i l h =>
 br2 i 0 l (fun a0 a1 => t103_0 cf R a0 a1 h) <|
 br2 i 1 l (fun a0 a1 => t103_1 cf R a0 a1 h) <|
 br2 i 2 l (fun a0 a1 => t103_2 cf R a0 a1 h) <|
 br3 i 3 l (fun a0 a1 a6 => t103_3 cf R a0 a1 a6 h) <|
 br1 i 4 l (fun a7 => t103_4 cf R a7 h) <|
 br2 i 5 l (fun a0 a8 => t103_5 cf R a0 a8 h) <|
 .fail
noncomputable def b103 (cf : CallF) (R : Rec) : Rec := fun i l h =>
 brQ2 i 0 l (fun a0 a1 => q103_0 cf R a0 a1 h) <|
 brQ2 i 1 l (fun a0 a1 => q103_1 cf R a0 a1 h) <|
 brQ2 i 2 l (fun a0 a1 => q103_2 cf R a0 a1 h) <|
 brQ3 i 3 l (fun a0 a1 a6 => q103_3 cf R a0 a1 a6 h) <|
 brQ1 i 4 l (fun a7 => q103_4 cf R a7 h) <|
 brQ2 i 5 l (fun a0 a8 => q103_5 cf R a0 a8 h) <|
 .fail
theorem be103 : b103 = bt103 := by
  unfold b103 bt103
  simp only [qe103_0, qe103_1, qe103_2, qe103_3, qe103_4, qe103_5, brQ1_eq, brQ2_eq, brQ3_eq]
theorem r103 {T : Tab} {cf : CallF} (hc : leC cf (CL T)) (n : Nat) : leR (recN (b103 cf) n) (J103 T) := be103 ▸ recN_le (fun R hR i l h => by
  unfold bt103
  refine le_br2 (J := fun i l => J103 T i l h) (fun _ a0 a1 => le_e (fun hn => e103_0 rfl hn) ((m103 hc hR).1 a0 a1 h)) ?_
  refine le_br2 (J := fun i l => J103 T i l h) (fun _ a0 a1 => le_e (fun hn => e103_1 rfl hn) ((m103 hc hR).2.1 a0 a1 h)) ?_
  refine le_br2 (J := fun i l => J103 T i l h) (fun _ a0 a1 => le_e (fun hn => e103_2 rfl hn) ((m103 hc hR).2.2.1 a0 a1 h)) ?_
  refine le_br3 (J := fun i l => J103 T i l h) (fun _ a0 a1 a6 => le_e (fun hn => e103_3 rfl hn) ((m103 hc hR).2.2.2.1 a0 a1 a6 h)) ?_
  refine le_br1 (J := fun i l => J103 T i l h) (fun _ a7 => le_e (fun hn => e103_4 rfl hn) ((m103 hc hR).2.2.2.2.1 a7 h)) ?_
  refine le_br2 (J := fun i l => J103 T i l h) (fun _ a0 a8 => le_e (fun hn => e103_5 rfl hn) ((m103 hc hR).2.2.2.2.2 a0 a8 h)) ?_
  exact le_fail _) n
-- 104
theorem m104 {cf cf' : CallF} {R R' : Rec} (hc : ∀ f l h, le (cf f l h) (cf' f l h)) (hR : ∀ i l h, le (R i l h) (R' i l h)) :
  (∀ (a0 a1 : IV) (h : H), le (t104_0 cf R a0 a1 h) (t104_0 cf' R' a0 a1 h)) ∧
  (∀ (a0 a1 a4 : IV) (h : H), le (t104_1 cf R a0 a1 a4 h) (t104_1 cf' R' a0 a1 a4 h)) := by
  refine ⟨?_, ?_⟩
  all_goals intros
  all_goals first | unfold t104_0 | unfold t104_1
  all_goals
  with_reducible repeat' first
    | refine le_obind fun _ => ?_
    | refine le_callP ?_ (fun _ _ => ?_) (fun _ _ => ?_)
    | refine le_condK ?_ ?_
    | exact hR _ _ _
    | refine le_obind2 fun _ _ => ?_
    | refine le_obindH fun _ => ?_
    | refine le_spanK (fun _ _ _ => ?_) (fun _ _ => ?_)
    | exact hc _ _ _
    | refine le_bif ?_ ?_
    | refine le_guardK ?_ ?_ ?_
    | refine le_mapK fun _ _ => ?_
    | refine le_panK fun _ _ => ?_
    | refine le_funK fun _ _ => ?_
    | exact le_refl _
    | apply_assumption
noncomputable def q104_0p1 (cf : CallF) (R : Rec) (x10 : IV) (h7 : H) (a1 : IV) (a0 : IV) (x1 : IV) : CRes :=
 Qsp x10 true h7 (fun k11 =>
 Qo (Qgtr a1 (.int .i64 32)) fun x14 =>
 k11 x14 h7) fun x12 h13 =>
 Qo (Qpk x10 (some x12) (some (.bool false))) fun x15 =>
 Qif x15
 (Qc (cf 67 [a0, (.int .i64 41)] h13) .pan fun x16 h17 =>
 R 1 [a0, a1, x1] h17)
 (R 1 [a0, a1, x1] h13)
noncomputable def q104_0 (cf : CallF) (R : Rec) (a0 : IV) (a1 : IV) (h : H) : CRes :=
 Qo2 (QnI h z11) fun x1 h2 =>
 Qc (cf 31 [a0] h2) .pan fun x3 h4 =>
 Qsp x3 true h4 (fun k5 =>
 Qc (cf 86 [a0] h4) .pan fun x8 h9 =>
 k5 x8 h9) fun x6 h7 =>
 Qo (Qpk x3 (some x6) (some (.bool false))) fun x10 =>
 q104_0p1 cf R x10 h7 a1 a0 x1
theorem qe104_0 : q104_0 = t104_0 := by
  unfold q104_0 q104_0p1
  try simp only [QE]
  try rfl
noncomputable def q104_1 (cf : CallF) (R : Rec) (a0 : IV) (a1 : IV) (a4 : IV) (h : H) : CRes :=
 Qc (cf 100 [a0, a1] h) .pan fun x18 h19 =>
 QoH (QsA 6 h19 a4 x18) fun h20 =>
 Qo (QlA 6 h20 a4) fun x21 =>
 .ok x21 h20
theorem qe104_1 : q104_1 = t104_1 := by
  unfold q104_1
  try simp only [QE]
  try rfl
noncomputable def bt104 (cf : CallF) (R : Rec) : Rec := fun i l h =>
 br2 i 0 l (fun a0 a1 => t104_0 cf R a0 a1 h) <|
 br3 i 1 l (fun a0 a1 a4 => t104_1 cf R a0 a1 a4 h) <|
 .fail
noncomputable def b104 (cf : CallF) (R : Rec) : Rec := fun i l h =>
 brQ2 i 0 l (fun a0 a1 => q104_0 cf R a0 a1 h) <|
 brQ3 i 1 l (fun a0 a1 a4 => q104_1 cf R a0 a1 a4 h) <|
 .fail
theorem be104 : b104 = bt104 := by
  unfold b104 bt104
  simp only [qe104_0, qe104_1, brQ2_eq, brQ3_eq]
theorem r104 {T : Tab} {cf : CallF} (hc : leC cf (CL T)) (n : Nat) : leR (recN (b104 cf) n) (J104 T) := be104 ▸ recN_le (fun R hR i l h => by
  unfold bt104
  refine le_br2 (J := fun i l => J104 T i l h) (fun _ a0 a1 => le_e (fun hn => e104_0 rfl hn) ((m104 hc hR).1 a0 a1 h)) ?_
  refine le_br3 (J := fun i l => J104 T i l h) (fun _ a0 a1 a4 => le_e (fun hn => e104_1 rfl hn) ((m104 hc hR).2 a0 a1 a4 h)) ?_
  exact le_fail _) n
-- 105
theorem m105 {cf cf' : CallF} {R R' : Rec} (hc : ∀ f l h, le (cf f l h) (cf' f l h)) (hR : ∀ i l h, le (R i l h) (R' i l h)) :
  (∀ (a0 a1 a2 : IV) (h : H), le (t105_0 cf R a0 a1 a2 h) (t105_0 cf' R' a0 a1 a2 h)) ∧
  (∀ (a0 a1 a7 : IV) (h : H), le (t105_1 cf R a0 a1 a7 h) (t105_1 cf' R' a0 a1 a7 h)) ∧
  (∀ (a0 a7 : IV) (h : H), le (t105_2 cf R a0 a7 h) (t105_2 cf' R' a0 a7 h)) := by
  refine ⟨?_, ?_, ?_⟩
  all_goals intros
  all_goals first | unfold t105_0 | unfold t105_1 | unfold t105_2
  all_goals
  with_reducible repeat' first
    | refine le_obind fun _ => ?_
    | refine le_callP ?_ (fun _ _ => ?_) (fun _ _ => ?_)
    | refine le_condK ?_ ?_
    | exact hR _ _ _
    | refine le_obind2 fun _ _ => ?_
    | refine le_obindH fun _ => ?_
    | refine le_spanK (fun _ _ _ => ?_) (fun _ _ => ?_)
    | exact hc _ _ _
    | refine le_bif ?_ ?_
    | refine le_guardK ?_ ?_ ?_
    | refine le_mapK fun _ _ => ?_
    | refine le_panK fun _ _ => ?_
    | refine le_funK fun _ _ => ?_
    | exact le_refl _
    | apply_assumption
noncomputable def q105_0p1 (cf : CallF) (R : Rec) (a0 : IV) (h6 : H) (x2 : IV) (a1 : IV) : CRes :=
 Qc (cf 70 [a0, (.int .i64 1)] h6) .pan fun x7 h8 =>
 Qo (Qfad 2 x2) fun x9 =>
 QoH (QsA 6 h8 x9 x7) fun h10 =>
 Qc (cf 45 [a0, (.str ⟨1, 41⟩)] h10) .pan fun x11 h12 =>
 R 1 [a0, a1, x2] h12
noncomputable def q105_0 (cf : CallF) (R : Rec) (a0 : IV) (a1 : IV) (a2 : IV) (h : H) : CRes :=
 Qo (Qbld z14 p16 [(0, (.int .i64 4)), (6, a2)]) fun x1 =>
 Qo2 (QnI h z14) fun x2 h3 =>
 QoH (QsA 12 h3 x2 x1) fun h4 =>
 Qc (cf 45 [a0, (.str ⟨1, 40⟩)] h4) .pan fun x5 h6 =>
 q105_0p1 cf R a0 h6 x2 a1
theorem qe105_0 : q105_0 = t105_0 := by
  unfold q105_0 q105_0p1
  try simp only [QE]
  try rfl
noncomputable def q105_1p3 (cf : CallF) (R : Rec) (x36 : IV) (h33 : H) (x35 : IV) (a7 : IV) (a0 : IV) (a1 : IV) : CRes :=
 Qo2 (Qbsl false 8 z15 1 [(0, x36)] h33) fun x37 h38 =>
 Qo2 (appK 8 112 h38 x35 x37) fun x39 h40 =>
 Qo (Qfad 10 a7) fun x41 =>
 QoH (QsA 1 h40 x41 x39) fun h42 =>
 R 1 [a0, a1, a7] h42
noncomputable def q105_1p2 (cf : CallF) (R : Rec) (h31 : H) (x32 : IV) (x30 : IV) (a7 : IV) (x24 : IV) (a0 : IV) (a1 : IV) : CRes :=
 QoH (QsA 1 h31 x32 x30) fun h33 =>
 Qo (Qfad 10 a7) fun x34 =>
 Qo (Ql0 h33 x34) fun x35 =>
 Qo (QlA 8 h33 x24) fun x36 =>
 q105_1p3 cf R x36 h33 x35 a7 a0 a1
noncomputable def q105_1p1 (cf : CallF) (R : Rec) (a0 : IV) (h26 : H) (a1 : IV) (x24 : IV) (a7 : IV) : CRes :=
 Qc (cf 45 [a0, (.str ⟨1, 58⟩)] h26) .pan fun x27 h28 =>
 Qo (Qadd a1 (.int .i64 1)) fun x29 =>
 Qc (cf 103 [a0, x29] h28) .pan fun x30 h31 =>
 Qo (Qfad 7 x24) fun x32 =>
 q105_1p2 cf R h31 x32 x30 a7 x24 a0 a1
noncomputable def q105_1p4 (cf : CallF) (R : Rec) (a0 : IV) (x49 : IV) (h46 : H) (x47 : IV) (x48 : IV) (a7 : IV) : CRes :=
 Qc (cf 103 [a0, x49] h46) (fun v50 h51 =>
 .pan v50 h51) fun x52 h53 =>
 Qo (Ql0 h53 x47) fun x54 =>
 bif IV.beq x54 x48 then
 Qo (Qbld z15 p9 [(0, (.bool true)), (2, x52)]) fun x55 =>
 Qo2 (Qbsl false 8 z15 1 [(0, x55)] h53) fun x56 h57 =>
 Qo (Ql0 h57 x47) fun x58 =>
 bif IV.beq x58 x48 then
 Qo2 (appK 8 112 h57 x48 x56) fun x59 h60 =>
 Qo (Qfad 10 a7) fun x61 =>
 QoH (QsA 1 h60 x61 x59) fun h62 =>
 R 2 [a0, a7] h62
 else .fail
 else .fail
noncomputable def q105_1 (cf : CallF) (R : Rec) (a0 : IV) (a1 : IV) (a7 : IV) (h : H) : CRes :=
 Qc (cf 31 [a0] h) .pan fun x13 h14 =>
 Qsp x13 true h14 (fun k15 =>
 Qc (cf 86 [a0] h14) .pan fun x18 h19 =>
 k15 x18 h19) fun x16 h17 =>
 Qo (Qpk x13 (some x16) (some (.bool false))) fun x20 =>
 Qif x20
 (Qc (cf 70 [a0, (.int .i64 1)] h17) .pan fun x21 h22 =>
 Qo (Qbld z15 p9 [(1, x21)]) fun x23 =>
 Qo2 (QnI h22 z15) fun x24 h25 =>
 QoH (QsA 8 h25 x24 x23) fun h26 =>
 q105_1p1 cf R a0 h26 a1 x24 a7)
 (Qc (cf 47 [a0, (.str ⟨7, 32770348699510116⟩)] h17) .pan fun x43 h44 =>
 Qif x43
 (Qc (cf 45 [a0, (.str ⟨1, 58⟩)] h44) .pan fun x45 h46 =>
 Qo (Qfad 10 a7) fun x47 =>
 Qo (Ql0 h46 x47) fun x48 =>
 Qo (Qadd a1 (.int .i64 1)) fun x49 =>
 q105_1p4 cf R a0 x49 h46 x47 x48 a7)
 (R 2 [a0, a7] h44))
theorem qe105_1 : q105_1 = t105_1 := by
  unfold q105_1 q105_1p4 q105_1p1 q105_1p2 q105_1p3
  try simp only [QE]
  try rfl
noncomputable def q105_2 (cf : CallF) (R : Rec) (a0 : IV) (a7 : IV) (h : H) : CRes :=
 Qc (cf 45 [a0, (.str ⟨7, 28555834764324453⟩)] h) .pan fun x63 h64 =>
 Qo (QlA 12 h64 a7) fun x65 =>
 Qo2 (Qbsl false 12 z14 1 [(0, x65)] h64) fun x66 h67 =>
 .ok x66 h67
theorem qe105_2 : q105_2 = t105_2 := by
  unfold q105_2
  try simp only [QE]
  try rfl
noncomputable def bt105 (cf : CallF) (R : Rec) : Rec := fun i l h =>
 br3 i 0 l (fun a0 a1 a2 => t105_0 cf R a0 a1 a2 h) <|
 br3 i 1 l (fun a0 a1 a7 => t105_1 cf R a0 a1 a7 h) <|
 br2 i 2 l (fun a0 a7 => t105_2 cf R a0 a7 h) <|
 .fail
noncomputable def b105 (cf : CallF) (R : Rec) : Rec := fun i l h =>
 brQ3 i 0 l (fun a0 a1 a2 => q105_0 cf R a0 a1 a2 h) <|
 brQ3 i 1 l (fun a0 a1 a7 => q105_1 cf R a0 a1 a7 h) <|
 brQ2 i 2 l (fun a0 a7 => q105_2 cf R a0 a7 h) <|
 .fail
theorem be105 : b105 = bt105 := by
  unfold b105 bt105
  simp only [qe105_0, qe105_1, qe105_2, brQ2_eq, brQ3_eq]
theorem r105 {T : Tab} {cf : CallF} (hc : leC cf (CL T)) (n : Nat) : leR (recN (b105 cf) n) (J105 T) := be105 ▸ recN_le (fun R hR i l h => by
  unfold bt105
  refine le_br3 (J := fun i l => J105 T i l h) (fun _ a0 a1 a2 => le_e (fun hn => e105_0 rfl hn) ((m105 hc hR).1 a0 a1 a2 h)) ?_
  refine le_br3 (J := fun i l => J105 T i l h) (fun _ a0 a1 a7 => le_e (fun hn => e105_1 rfl hn) ((m105 hc hR).2.1 a0 a1 a7 h)) ?_
  refine le_br2 (J := fun i l => J105 T i l h) (fun _ a0 a7 => le_e (fun hn => e105_2 rfl hn) ((m105 hc hR).2.2 a0 a7 h)) ?_
  exact le_fail _) n
def tabB (f : FuncId) : Bool := [43, 85, 101, 99, 42, 12].any fun x => Nat.beq f x
noncomputable def cfB (T : Tab) (cf : CallF) : CallF := fun f l h =>
 @Bool.rec (fun _ => CRes) (@Bool.rec (fun _ => CRes) (@Bool.rec (fun _ => CRes) (@Bool.rec (fun _ => CRes) (@Bool.rec (fun _ => CRes) (@Bool.rec (fun _ => CRes) (brQ1 f 5 l (fun a0 => QsP (recN (b5 cf) 1000000 0 [a0] ⟨h.next, h.objs, T.pol 5⟩) h.pol) .fail) (brQ2 f 6 l (fun a0 a1 => QsP (recN (b6 cf) 1000000 0 [a0, a1] ⟨h.next, h.objs, T.pol 6⟩) h.pol) .fail) (Nat.ble 6 f)) (@Bool.rec (fun _ => CRes) (brQ1 f 7 l (fun a0 => QsP (recN (b7 cf) 1000000 0 [a0] ⟨h.next, h.objs, T.pol 7⟩) h.pol) .fail) (brQ1 f 9 l (fun a0 => QsP (recN (b9 cf) 1000000 0 [a0] ⟨h.next, h.objs, T.pol 9⟩) h.pol) .fail) (Nat.ble 9 f)) (Nat.ble 7 f)) (@Bool.rec (fun _ => CRes) (@Bool.rec (fun _ => CRes) (brQ0 f 12 l (ovK (T.ov 12) [] h (QsP (recN (b12 cf) 1000000 0 [] ⟨h.next, h.objs, T.pol 12⟩) h.pol)) .fail) (brQ1 f 14 l (fun a0 => QsP (recN (b14 cf) 1000000 0 [a0] ⟨h.next, h.objs, T.pol 14⟩) h.pol) .fail) (Nat.ble 14 f)) (@Bool.rec (fun _ => CRes) (brQ1 f 15 l (fun a0 => QsP (recN (b15 cf) 1000000 0 [a0] ⟨h.next, h.objs, T.pol 15⟩) h.pol) .fail) (brQ2 f 17 l (fun a0 a1 => QsP (recN (b17 cf) 1000000 0 [a0, a1] ⟨h.next, h.objs, T.pol 17⟩) h.pol) .fail) (Nat.ble 17 f)) (Nat.ble 15 f)) (Nat.ble 12 f)) (@Bool.rec (fun _ => CRes) (@Bool.rec (fun _ => CRes) (@Bool.rec (fun _ => CRes) (brQ2 f 18 l (fun a0 a1 => QsP (recN (b18 cf) 1000000 0 [a0, a1] ⟨h.next, h.objs, T.pol 18⟩) h.pol) .fail) (brQ2 f 26 l (fun a0 a1 => QsP (recN (b26 cf) 1000000 0 [a0, a1] ⟨h.next, h.objs, T.pol 26⟩) h.pol) .fail) (Nat.ble 26 f)) (@Bool.rec (fun _ => CRes) (brQ3 f 27 l (fun a0 a1 a2 => QsP (recN (b27 cf) 1000000 0 [a0, a1, a2] ⟨h.next, h.objs, T.pol 27⟩) h.pol) .fail) (brQ2 f 28 l (fun a0 a1 => QsP (recN (b28 cf) 1000000 0 [a0, a1] ⟨h.next, h.objs, T.pol 28⟩) h.pol) .fail) (Nat.ble 28 f)) (Nat.ble 27 f)) (@Bool.rec (fun _ => CRes) (@Bool.rec (fun _ => CRes) (brQ2 f 29 l (fun a0 a1 => QsP (recN (b29 cf) 1000000 0 [a0, a1] ⟨h.next, h.objs, T.pol 29⟩) h.pol) .fail) (brQ1 f 30 l (fun a0 => QsP (recN (b30 cf) 1000000 0 [a0] ⟨h.next, h.objs, T.pol 30⟩) h.pol) .fail) (Nat.ble 30 f)) (@Bool.rec (fun _ => CRes) (brQ1 f 31 l (fun a0 => QsP (recN (b31 cf) 1000000 0 [a0] ⟨h.next, h.objs, T.pol 31⟩) h.pol) .fail) (@Bool.rec (fun _ => CRes) (brQ4 f 32 l (fun a0 a1 a2 a3 => QsP (recN (b32 cf) 1000000 0 [a0, a1, a2, a3] ⟨h.next, h.objs, T.pol 32⟩) h.pol) .fail) (brQ2 f 33 l (fun a0 a1 => QsP (recN (b33 cf) 1000000 0 [a0, a1] ⟨h.next, h.objs, T.pol 33⟩) h.pol) .fail) (Nat.ble 33 f)) (Nat.ble 32 f)) (Nat.ble 31 f)) (Nat.ble 29 f)) (Nat.ble 18 f)) (@Bool.rec (fun _ => CRes) (@Bool.rec (fun _ => CRes) (@Bool.rec (fun _ => CRes) (@Bool.rec (fun _ => CRes) (brQ3 f 34 l (fun a0 a1 a2 => QsP (recN (b34 cf) 1000000 0 [a0, a1, a2] ⟨h.next, h.objs, T.pol 34⟩) h.pol) .fail) (brQ1 f 39 l (fun a0 => QsP (recN (b39 cf) 1000000 0 [a0] ⟨h.next, h.objs, T.pol 39⟩) h.pol) .fail) (Nat.ble 39 f)) (@Bool.rec (fun _ => CRes) (brQ1 f 40 l (fun a0 => QsP (recN (b40 cf) 1000000 0 [a0] ⟨h.next, h.objs, T.pol 40⟩) h.pol) .fail) (brQ1 f 41 l (fun a0 => QsP (recN (b41 cf) 1000000 0 [a0] ⟨h.next, h.objs, T.pol 41⟩) h.pol) .fail) (Nat.ble 41 f)) (Nat.ble 40 f)) (@Bool.rec (fun _ => CRes) (@Bool.rec (fun _ => CRes) (brQ1 f 42 l (fun a0 => ovK (T.ov 42) [a0] h (QsP (recN (b42 cf) 1000000 0 [a0] ⟨h.next, h.objs, T.pol 42⟩) h.pol)) .fail) (brQ2 f 43 l (fun a0 a1 => ovK (T.ov 43) [a0, a1] h (QsP (recN (b43 cf) 1000000 0 [a0, a1] ⟨h.next, h.objs, T.pol 43⟩) h.pol)) .fail) (Nat.ble 43 f)) (@Bool.rec (fun _ => CRes) (brQ1 f 44 l (fun a0 => QsP (recN (b44 cf) 1000000 0 [a0] ⟨h.next, h.objs, T.pol 44⟩) h.pol) .fail) (@Bool.rec (fun _ => CRes) (brQ2 f 45 l (fun a0 a1 => QsP (recN (b45 cf) 1000000 0 [a0, a1] ⟨h.next, h.objs, T.pol 45⟩) h.pol) .fail) (brQ1 f 46 l (fun a0 => QsP (recN (b46 cf) 1000000 0 [a0] ⟨h.next, h.objs, T.pol 46⟩) h.pol) .fail) (Nat.ble 46 f)) (Nat.ble 45 f)) (Nat.ble 44 f)) (Nat.ble 42 f)) (@Bool.rec (fun _ => CRes) (@Bool.rec (fun _ => CRes) (@Bool.rec (fun _ => CRes) (brQ2 f 47 l (fun a0 a1 => QsP (recN (b47 cf) 1000000 0 [a0, a1] ⟨h.next, h.objs, T.pol 47⟩) h.pol) .fail) (brQ1 f 48 l (fun a0 => QsP (recN (b48 cf) 1000000 0 [a0] ⟨h.next, h.objs, T.pol 48⟩) h.pol) .fail) (Nat.ble 48 f)) (@Bool.rec (fun _ => CRes) (brQ1 f 49 l (fun a0 => QsP (recN (b49 cf) 1000000 0 [a0] ⟨h.next, h.objs, T.pol 49⟩) h.pol) .fail) (brQ3 f 50 l (fun a0 a1 a2 => QsP (recN (b50 cf) 1000000 0 [a0, a1, a2] ⟨h.next, h.objs, T.pol 50⟩) h.pol) .fail) (Nat.ble 50 f)) (Nat.ble 49 f)) (@Bool.rec (fun _ => CRes) (@Bool.rec (fun _ => CRes) (brQ5 f 51 l (fun a0 a1 a2 a3 a4 => QsP (recN (b51 cf) 1000000 0 [a0, a1, a2, a3, a4] ⟨h.next, h.objs, T.pol 51⟩) h.pol) .fail) (brQ2 f 52 l (fun a0 a1 => QsP (recN (b52 cf) 1000000 0 [a0, a1] ⟨h.next, h.objs, T.pol 52⟩) h.pol) .fail) (Nat.ble 52 f)) (@Bool.rec (fun _ => CRes) (brQ2 f 53 l (fun a0 a1 => QsP (recN (b53 cf) 1000000 0 [a0, a1] ⟨h.next, h.objs, T.pol 53⟩) h.pol) .fail) (@Bool.rec (fun _ => CRes) (brQ2 f 54 l (fun a0 a1 => QsP (recN (b54 cf) 1000000 0 [a0, a1] ⟨h.next, h.objs, T.pol 54⟩) h.pol) .fail) (brQ3 f 55 l (fun a0 a1 a2 => QsP (recN (b55 cf) 1000000 0 [a0, a1, a2] ⟨h.next, h.objs, T.pol 55⟩) h.pol) .fail) (Nat.ble 55 f)) (Nat.ble 54 f)) (Nat.ble 53 f)) (Nat.ble 51 f)) (Nat.ble 47 f)) (Nat.ble 34 f)) (@Bool.rec (fun _ => CRes) (@Bool.rec (fun _ => CRes) (@Bool.rec (fun _ => CRes) (@Bool.rec (fun _ => CRes) (@Bool.rec (fun _ => CRes) (brQ3 f 62 l (fun a0 a1 a2 => QsP (recN (b62 cf) 1000000 0 [a0, a1, a2] ⟨h.next, h.objs, T.pol 62⟩) h.pol) .fail) (brQ2 f 63 l (fun a0 a1 => QsP (recN (b63 cf) 1000000 0 [a0, a1] ⟨h.next, h.objs, T.pol 63⟩) h.pol) .fail) (Nat.ble 63 f)) (@Bool.rec (fun _ => CRes) (brQ2 f 64 l (fun a0 a1 => QsP (recN (b64 cf) 1000000 0 [a0, a1] ⟨h.next, h.objs, T.pol 64⟩) h.pol) .fail) (brQ2 f 65 l (fun a0 a1 => QsP (recN (b65 cf) 1000000 0 [a0, a1] ⟨h.next, h.objs, T.pol 65⟩) h.pol) .fail) (Nat.ble 65 f)) (Nat.ble 64 f)) (@Bool.rec (fun _ => CRes) (@Bool.rec (fun _ => CRes) (brQ2 f 66 l (fun a0 a1 => QsP (recN (b66 cf) 1000000 0 [a0, a1] ⟨h.next, h.objs, T.pol 66⟩) h.pol) .fail) (brQ2 f 67 l (fun a0 a1 => QsP (recN (b67 cf) 1000000 0 [a0, a1] ⟨h.next, h.objs, T.pol 67⟩) h.pol) .fail) (Nat.ble 67 f)) (@Bool.rec (fun _ => CRes) (brQ1 f 68 l (fun a0 => QsP (recN (b68 cf) 1000000 0 [a0] ⟨h.next, h.objs, T.pol 68⟩) h.pol) .fail) (brQ2 f 69 l (fun a0 a1 => QsP (recN (b69 cf) 1000000 0 [a0, a1] ⟨h.next, h.objs, T.pol 69⟩) h.pol) .fail) (Nat.ble 69 f)) (Nat.ble 68 f)) (Nat.ble 66 f)) (@Bool.rec (fun _ => CRes) (@Bool.rec (fun _ => CRes) (@Bool.rec (fun _ => CRes) (brQ2 f 70 l (fun a0 a1 => QsP (recN (b70 cf) 1000000 0 [a0, a1] ⟨h.next, h.objs, T.pol 70⟩) h.pol) .fail) (brQ1 f 71 l (fun a0 => QsP (recN (b71 cf) 1000000 0 [a0] ⟨h.next, h.objs, T.pol 71⟩) h.pol) .fail) (Nat.ble 71 f)) (@Bool.rec (fun _ => CRes) (brQ2 f 72 l (fun a0 a1 => QsP (recN (b72 cf) 1000000 0 [a0, a1] ⟨h.next, h.objs, T.pol 72⟩) h.pol) .fail) (brQ2 f 73 l (fun a0 a1 => QsP (recN (b73 cf) 1000000 0 [a0, a1] ⟨h.next, h.objs, T.pol 73⟩) h.pol) .fail) (Nat.ble 73 f)) (Nat.ble 72 f)) (@Bool.rec (fun _ => CRes) (@Bool.rec (fun _ => CRes) (brQ1 f 74 l (fun a0 => QsP (recN (b74 cf) 1000000 0 [a0] ⟨h.next, h.objs, T.pol 74⟩) h.pol) .fail) (brQ4 f 75 l (fun a0 a1 a2 a3 => QsP (recN (b75 cf) 1000000 0 [a0, a1, a2, a3] ⟨h.next, h.objs, T.pol 75⟩) h.pol) .fail) (Nat.ble 75 f)) (@Bool.rec (fun _ => CRes) (brQ3 f 76 l (fun a0 a1 a2 => QsP (recN (b76 cf) 1000000 0 [a0, a1, a2] ⟨h.next, h.objs, T.pol 76⟩) h.pol) .fail) (@Bool.rec (fun _ => CRes) (brQ1 f 84 l (fun a0 => QsP (recN (b84 cf) 1000000 0 [a0] ⟨h.next, h.objs, T.pol 84⟩) h.pol) .fail) (brQ1 f 85 l (fun a0 => ovK (T.ov 85) [a0] h (QsP (recN (b85 cf) 1000000 0 [a0] ⟨h.next, h.objs, T.pol 85⟩) h.pol)) .fail) (Nat.ble 85 f)) (Nat.ble 84 f)) (Nat.ble 76 f)) (Nat.ble 74 f)) (Nat.ble 70 f)) (@Bool.rec (fun _ => CRes) (@Bool.rec (fun _ => CRes) (@Bool.rec (fun _ => CRes) (@Bool.rec (fun _ => CRes) (brQ1 f 86 l (fun a0 => QsP (recN (b86 cf) 1000000 0 [a0] ⟨h.next, h.objs, T.pol 86⟩) h.pol) .fail) (brQ3 f 87 l (fun a0 a1 a2 => QsP (recN (b87 cf) 1000000 0 [a0, a1, a2] ⟨h.next, h.objs, T.pol 87⟩) h.pol) .fail) (Nat.ble 87 f)) (@Bool.rec (fun _ => CRes) (brQ1 f 88 l (fun a0 => QsP (recN (b88 cf) 1000000 0 [a0] ⟨h.next, h.objs, T.pol 88⟩) h.pol) .fail) (brQ3 f 89 l (fun a0 a1 a2 => QsP (recN (b89 cf) 1000000 0 [a0, a1, a2] ⟨h.next, h.objs, T.pol 89⟩) h.pol) .fail) (Nat.ble 89 f)) (Nat.ble 88 f)) (@Bool.rec (fun _ => CRes) (@Bool.rec (fun _ => CRes) (brQ2 f 90 l (fun a0 a1 => QsP (recN (b90 cf) 1000000 0 [a0, a1] ⟨h.next, h.objs, T.pol 90⟩) h.pol) .fail) (brQ2 f 91 l (fun a0 a1 => QsP (recN (b91 cf) 1000000 0 [a0, a1] ⟨h.next, h.objs, T.pol 91⟩) h.pol) .fail) (Nat.ble 91 f)) (@Bool.rec (fun _ => CRes) (brQ3 f 92 l (fun a0 a1 a2 => QsP (recN (b92 cf) 1000000 0 [a0, a1, a2] ⟨h.next, h.objs, T.pol 92⟩) h.pol) .fail) (@Bool.rec (fun _ => CRes) (brQ2 f 93 l (fun a0 a1 => QsP (recN (b93 cf) 1000000 0 [a0, a1] ⟨h.next, h.objs, T.pol 93⟩) h.pol) .fail) (brQ3 f 94 l (fun a0 a1 a2 => QsP (recN (b94 cf) 1000000 0 [a0, a1, a2] ⟨h.next, h.objs, T.pol 94⟩) h.pol) .fail) (Nat.ble 94 f)) (Nat.ble 93 f)) (Nat.ble 92 f)) (Nat.ble 90 f)) (@Bool.rec (fun _ => CRes) (@Bool.rec (fun _ => CRes) (@Bool.rec (fun _ => CRes) (brQ2 f 95 l (fun a0 a1 => QsP (recN (b95 cf) 1000000 0 [a0, a1] ⟨h.next, h.objs, T.pol 95⟩) h.pol) .fail) (brQ0 f 98 l (QsP (recN (b98 cf) 1000000 0 [] ⟨h.next, h.objs, T.pol 98⟩) h.pol) .fail) (Nat.ble 98 f)) (@Bool.rec (fun _ => CRes) (brQ1 f 99 l (fun a0 => ovK (T.ov 99) [a0] h (QsP (recN (b99 cf) 1000000 0 [a0] ⟨h.next, h.objs, T.pol 99⟩) h.pol)) .fail) (brQ2 f 100 l (fun a0 a1 => QsP (recN (b100 cf) 1000000 0 [a0, a1] ⟨h.next, h.objs, T.pol 100⟩) h.pol) .fail) (Nat.ble 100 f)) (Nat.ble 99 f)) (@Bool.rec (fun _ => CRes) (@Bool.rec (fun _ => CRes) (brQ1 f 101 l (fun a0 => ovK (T.ov 101) [a0] h (QsP (recN (b101 cf) 1000000 0 [a0] ⟨h.next, h.objs, T.pol 101⟩) h.pol)) .fail) (brQ2 f 102 l (fun a0 a1 => QsP (recN (b102 cf) 1000000 0 [a0, a1] ⟨h.next, h.objs, T.pol 102⟩) h.pol) .fail) (Nat.ble 102 f)) (@Bool.rec (fun _ => CRes) (brQ2 f 103 l (fun a0 a1 => QsP (recN (b103 cf) 1000000 0 [a0, a1] ⟨h.next, h.objs, T.pol 103⟩) h.pol) .fail) (@Bool.rec (fun _ => CRes) (brQ2 f 104 l (fun a0 a1 => QsP (recN (b104 cf) 1000000 0 [a0, a1] ⟨h.next, h.objs, T.pol 104⟩) h.pol) .fail) (brQ3 f 105 l (fun a0 a1 a2 => QsP (recN (b105 cf) 1000000 0 [a0, a1, a2] ⟨h.next, h.objs, T.pol 105⟩) h.pol) .fail) (Nat.ble 105 f)) (Nat.ble 104 f)) (Nat.ble 103 f)) (Nat.ble 101 f)) (Nat.ble 95 f)) (Nat.ble 86 f)) (Nat.ble 62 f)
theorem cfB_le {T : Tab} (hN : ∀ f, tabB f = false → T.ov f = none) (cf : CallF) (hc : leC cf (CL T)) (f : FuncId) (l : List IV) (h : H) : le (cfB T cf f l h) (CL T f l h) := by
  unfold cfB
  simp only [QsP_eq, brQ0_eq, brQ1_eq, brQ2_eq, brQ3_eq, brQ4_eq, brQ5_eq]
  refine le_brec ?_ ?_
  · refine le_brec ?_ ?_
    · refine le_brec ?_ ?_
      · refine le_brec ?_ ?_
        · refine le_brec ?_ ?_
          · refine le_brec ?_ ?_
            · refine le_brec ?_ ?_
              · exact le_br3 (J := fun f l => CL T f l h) (fun e a0 a1 a2 => call_le (hN 105 rfl) Try.func105 rfl rfl rfl (r105 hc _ 0 _ _)) (le_fail _)
              · exact le_br2 (J := fun f l => CL T f l h) (fun e a0 a1 => call_le (hN 104 rfl) Try.func104 rfl rfl rfl (r104 hc _ 0 _ _)) (le_fail _)
            · exact le_br2 (J := fun f l => CL T f l h) (fun e a0 a1 => call_le (hN 103 rfl) Try.func103 rfl rfl rfl (r103 hc _ 0 _ _)) (le_fail _)
          · refine le_brec ?_ ?_
            · exact le_br2 (J := fun f l => CL T f l h) (fun e a0 a1 => call_le (hN 102 rfl) Try.func102 rfl rfl rfl (r102 hc _ 0 _ _)) (le_fail _)
            · exact le_br1 (J := fun f l => CL T f l h) (fun e a0 => le_ovK fun ho => call_le ho Try.func101 rfl rfl rfl (r101 hc _ 0 _ _)) (le_fail _)
        · refine le_brec ?_ ?_
          · refine le_brec ?_ ?_
            · exact le_br2 (J := fun f l => CL T f l h) (fun e a0 a1 => call_le (hN 100 rfl) Try.func100 rfl rfl rfl (r100 hc _ 0 _ _)) (le_fail _)
            · exact le_br1 (J := fun f l => CL T f l h) (fun e a0 => le_ovK fun ho => call_le ho Try.func99 rfl rfl rfl (r99 hc _ 0 _ _)) (le_fail _)
          · refine le_brec ?_ ?_
            · exact le_br0 (J := fun f l => CL T f l h) (fun e => call_le (hN 98 rfl) Try.func98 rfl rfl rfl (r98 hc _ 0 _ _)) (le_fail _)
            · exact le_br2 (J := fun f l => CL T f l h) (fun e a0 a1 => call_le (hN 95 rfl) Try.func95 rfl rfl rfl (r95 hc _ 0 _ _)) (le_fail _)
      · refine le_brec ?_ ?_
        · refine le_brec ?_ ?_
          · refine le_brec ?_ ?_
            · refine le_brec ?_ ?_
              · exact le_br3 (J := fun f l => CL T f l h) (fun e a0 a1 a2 => call_le (hN 94 rfl) Try.func94 rfl rfl rfl (r94 hc _ 0 _ _)) (le_fail _)
              · exact le_br2 (J := fun f l => CL T f l h) (fun e a0 a1 => call_le (hN 93 rfl) Try.func93 rfl rfl rfl (r93 hc _ 0 _ _)) (le_fail _)
            · exact le_br3 (J := fun f l => CL T f l h) (fun e a0 a1 a2 => call_le (hN 92 rfl) Try.func92 rfl rfl rfl (r92 hc _ 0 _ _)) (le_fail _)
          · refine le_brec ?_ ?_
            · exact le_br2 (J := fun f l => CL T f l h) (fun e a0 a1 => call_le (hN 91 rfl) Try.func91 rfl rfl rfl (r91 hc _ 0 _ _)) (le_fail _)
            · exact le_br2 (J := fun f l => CL T f l h) (fun e a0 a1 => call_le (hN 90 rfl) Try.func90 rfl rfl rfl (r90 hc _ 0 _ _)) (le_fail _)
        · refine le_brec ?_ ?_
          · refine le_brec ?_ ?_
            · exact le_br3 (J := fun f l => CL T f l h) (fun e a0 a1 a2 => call_le (hN 89 rfl) Try.func89 rfl rfl rfl (r89 hc _ 0 _ _)) (le_fail _)
            · exact le_br1 (J := fun f l => CL T f l h) (fun e a0 => call_le (hN 88 rfl) Try.func88 rfl rfl rfl (r88 hc _ 0 _ _)) (le_fail _)
          · refine le_brec ?_ ?_
            · exact le_br3 (J := fun f l => CL T f l h) (fun e a0 a1 a2 => call_le (hN 87 rfl) Try.func87 rfl rfl rfl (r87 hc _ 0 _ _)) (le_fail _)
            · exact le_br1 (J := fun f l => CL T f l h) (fun e a0 => call_le (hN 86 rfl) Try.func86 rfl rfl rfl (r86 hc _ 0 _ _)) (le_fail _)
    · refine le_brec ?_ ?_
      · refine le_brec ?_ ?_
        · refine le_brec ?_ ?_
          · refine le_brec ?_ ?_
            · refine le_brec ?_ ?_
              · exact le_br1 (J := fun f l => CL T f l h) (fun e a0 => le_ovK fun ho => call_le ho Try.func85 rfl rfl rfl (r85 hc _ 0 _ _)) (le_fail _)
              · exact le_br1 (J := fun f l => CL T f l h) (fun e a0 => call_le (hN 84 rfl) Try.func84 rfl rfl rfl (r84 hc _ 0 _ _)) (le_fail _)
            · exact le_br3 (J := fun f l => CL T f l h) (fun e a0 a1 a2 => call_le (hN 76 rfl) Try.func76 rfl rfl rfl (r76 hc _ 0 _ _)) (le_fail _)
          · refine le_brec ?_ ?_
            · exact le_br4 (J := fun f l => CL T f l h) (fun e a0 a1 a2 a3 => call_le (hN 75 rfl) Try.func75 rfl rfl rfl (r75 hc _ 0 _ _)) (le_fail _)
            · exact le_br1 (J := fun f l => CL T f l h) (fun e a0 => call_le (hN 74 rfl) Try.func74 rfl rfl rfl (r74 hc _ 0 _ _)) (le_fail _)
        · refine le_brec ?_ ?_
          · refine le_brec ?_ ?_
            · exact le_br2 (J := fun f l => CL T f l h) (fun e a0 a1 => call_le (hN 73 rfl) Try.func73 rfl rfl rfl (r73 hc _ 0 _ _)) (le_fail _)
            · exact le_br2 (J := fun f l => CL T f l h) (fun e a0 a1 => call_le (hN 72 rfl) Try.func72 rfl rfl rfl (r72 hc _ 0 _ _)) (le_fail _)
          · refine le_brec ?_ ?_
            · exact le_br1 (J := fun f l => CL T f l h) (fun e a0 => call_le (hN 71 rfl) Try.func71 rfl rfl rfl (r71 hc _ 0 _ _)) (le_fail _)
            · exact le_br2 (J := fun f l => CL T f l h) (fun e a0 a1 => call_le (hN 70 rfl) Try.func70 rfl rfl rfl (r70 hc _ 0 _ _)) (le_fail _)
      · refine le_brec ?_ ?_
        · refine le_brec ?_ ?_
          · refine le_brec ?_ ?_
            · exact le_br2 (J := fun f l => CL T f l h) (fun e a0 a1 => call_le (hN 69 rfl) Try.func69 rfl rfl rfl (r69 hc _ 0 _ _)) (le_fail _)
            · exact le_br1 (J := fun f l => CL T f l h) (fun e a0 => call_le (hN 68 rfl) Try.func68 rfl rfl rfl (r68 hc _ 0 _ _)) (le_fail _)
          · refine le_brec ?_ ?_
            · exact le_br2 (J := fun f l => CL T f l h) (fun e a0 a1 => call_le (hN 67 rfl) Try.func67 rfl rfl rfl (r67 hc _ 0 _ _)) (le_fail _)
            · exact le_br2 (J := fun f l => CL T f l h) (fun e a0 a1 => call_le (hN 66 rfl) Try.func66 rfl rfl rfl (r66 hc _ 0 _ _)) (le_fail _)
        · refine le_brec ?_ ?_
          · refine le_brec ?_ ?_
            · exact le_br2 (J := fun f l => CL T f l h) (fun e a0 a1 => call_le (hN 65 rfl) Try.func65 rfl rfl rfl (r65 hc _ 0 _ _)) (le_fail _)
            · exact le_br2 (J := fun f l => CL T f l h) (fun e a0 a1 => call_le (hN 64 rfl) Try.func64 rfl rfl rfl (r64 hc _ 0 _ _)) (le_fail _)
          · refine le_brec ?_ ?_
            · exact le_br2 (J := fun f l => CL T f l h) (fun e a0 a1 => call_le (hN 63 rfl) Try.func63 rfl rfl rfl (r63 hc _ 0 _ _)) (le_fail _)
            · exact le_br3 (J := fun f l => CL T f l h) (fun e a0 a1 a2 => call_le (hN 62 rfl) Try.func62 rfl rfl rfl (r62 hc _ 0 _ _)) (le_fail _)
  · refine le_brec ?_ ?_
    · refine le_brec ?_ ?_
      · refine le_brec ?_ ?_
        · refine le_brec ?_ ?_
          · refine le_brec ?_ ?_
            · refine le_brec ?_ ?_
              · exact le_br3 (J := fun f l => CL T f l h) (fun e a0 a1 a2 => call_le (hN 55 rfl) Try.func55 rfl rfl rfl (r55 hc _ 0 _ _)) (le_fail _)
              · exact le_br2 (J := fun f l => CL T f l h) (fun e a0 a1 => call_le (hN 54 rfl) Try.func54 rfl rfl rfl (r54 hc _ 0 _ _)) (le_fail _)
            · exact le_br2 (J := fun f l => CL T f l h) (fun e a0 a1 => call_le (hN 53 rfl) Try.func53 rfl rfl rfl (r53 hc _ 0 _ _)) (le_fail _)
          · refine le_brec ?_ ?_
            · exact le_br2 (J := fun f l => CL T f l h) (fun e a0 a1 => call_le (hN 52 rfl) Try.func52 rfl rfl rfl (r52 hc _ 0 _ _)) (le_fail _)
            · exact le_br5 (J := fun f l => CL T f l h) (fun e a0 a1 a2 a3 a4 => call_le (hN 51 rfl) Try.func51 rfl rfl rfl (r51 hc _ 0 _ _)) (le_fail _)
        · refine le_brec ?_ ?_
          · refine le_brec ?_ ?_
            · exact le_br3 (J := fun f l => CL T f l h) (fun e a0 a1 a2 => call_le (hN 50 rfl) Try.func50 rfl rfl rfl (r50 hc _ 0 _ _)) (le_fail _)
            · exact le_br1 (J := fun f l => CL T f l h) (fun e a0 => call_le (hN 49 rfl) Try.func49 rfl rfl rfl (r49 hc _ 0 _ _)) (le_fail _)
          · refine le_brec ?_ ?_
            · exact le_br1 (J := fun f l => CL T f l h) (fun e a0 => call_le (hN 48 rfl) Try.func48 rfl rfl rfl (r48 hc _ 0 _ _)) (le_fail _)
            · exact le_br2 (J := fun f l => CL T f l h) (fun e a0 a1 => call_le (hN 47 rfl) Try.func47 rfl rfl rfl (r47 hc _ 0 _ _)) (le_fail _)
      · refine le_brec ?_ ?_
        · refine le_brec ?_ ?_
          · refine le_brec ?_ ?_
            · refine le_brec ?_ ?_
              · exact le_br1 (J := fun f l => CL T f l h) (fun e a0 => call_le (hN 46 rfl) Try.func46 rfl rfl rfl (r46 hc _ 0 _ _)) (le_fail _)
              · exact le_br2 (J := fun f l => CL T f l h) (fun e a0 a1 => call_le (hN 45 rfl) Try.func45 rfl rfl rfl (r45 hc _ 0 _ _)) (le_fail _)
            · exact le_br1 (J := fun f l => CL T f l h) (fun e a0 => call_le (hN 44 rfl) Try.func44 rfl rfl rfl (r44 hc _ 0 _ _)) (le_fail _)
          · refine le_brec ?_ ?_
            · exact le_br2 (J := fun f l => CL T f l h) (fun e a0 a1 => le_ovK fun ho => call_le ho Try.func43 rfl rfl rfl (r43 hc _ 0 _ _)) (le_fail _)
            · exact le_br1 (J := fun f l => CL T f l h) (fun e a0 => le_ovK fun ho => call_le ho Try.func42 rfl rfl rfl (r42 hc _ 0 _ _)) (le_fail _)
        · refine le_brec ?_ ?_
          · refine le_brec ?_ ?_
            · exact le_br1 (J := fun f l => CL T f l h) (fun e a0 => call_le (hN 41 rfl) Try.func41 rfl rfl rfl (r41 hc _ 0 _ _)) (le_fail _)
            · exact le_br1 (J := fun f l => CL T f l h) (fun e a0 => call_le (hN 40 rfl) Try.func40 rfl rfl rfl (r40 hc _ 0 _ _)) (le_fail _)
          · refine le_brec ?_ ?_
            · exact le_br1 (J := fun f l => CL T f l h) (fun e a0 => call_le (hN 39 rfl) Try.func39 rfl rfl rfl (r39 hc _ 0 _ _)) (le_fail _)
            · exact le_br3 (J := fun f l => CL T f l h) (fun e a0 a1 a2 => call_le (hN 34 rfl) Try.func34 rfl rfl rfl (r34 hc _ 0 _ _)) (le_fail _)
    · refine le_brec ?_ ?_
      · refine le_brec ?_ ?_
        · refine le_brec ?_ ?_
          · refine le_brec ?_ ?_
            · refine le_brec ?_ ?_
              · exact le_br2 (J := fun f l => CL T f l h) (fun e a0 a1 => call_le (hN 33 rfl) Try.func33 rfl rfl rfl (r33 hc _ 0 _ _)) (le_fail _)
              · exact le_br4 (J := fun f l => CL T f l h) (fun e a0 a1 a2 a3 => call_le (hN 32 rfl) Try.func32 rfl rfl rfl (r32 hc _ 0 _ _)) (le_fail _)
            · exact le_br1 (J := fun f l => CL T f l h) (fun e a0 => call_le (hN 31 rfl) Try.func31 rfl rfl rfl (r31 hc _ 0 _ _)) (le_fail _)
          · refine le_brec ?_ ?_
            · exact le_br1 (J := fun f l => CL T f l h) (fun e a0 => call_le (hN 30 rfl) Try.func30 rfl rfl rfl (r30 hc _ 0 _ _)) (le_fail _)
            · exact le_br2 (J := fun f l => CL T f l h) (fun e a0 a1 => call_le (hN 29 rfl) Try.func29 rfl rfl rfl (r29 hc _ 0 _ _)) (le_fail _)
        · refine le_brec ?_ ?_
          · refine le_brec ?_ ?_
            · exact le_br2 (J := fun f l => CL T f l h) (fun e a0 a1 => call_le (hN 28 rfl) Try.func28 rfl rfl rfl (r28 hc _ 0 _ _)) (le_fail _)
            · exact le_br3 (J := fun f l => CL T f l h) (fun e a0 a1 a2 => call_le (hN 27 rfl) Try.func27 rfl rfl rfl (r27 hc _ 0 _ _)) (le_fail _)
          · refine le_brec ?_ ?_
            · exact le_br2 (J := fun f l => CL T f l h) (fun e a0 a1 => call_le (hN 26 rfl) Try.func26 rfl rfl rfl (r26 hc _ 0 _ _)) (le_fail _)
            · exact le_br2 (J := fun f l => CL T f l h) (fun e a0 a1 => call_le (hN 18 rfl) Try.func18 rfl rfl rfl (r18 hc _ 0 _ _)) (le_fail _)
      · refine le_brec ?_ ?_
        · refine le_brec ?_ ?_
          · refine le_brec ?_ ?_
            · exact le_br2 (J := fun f l => CL T f l h) (fun e a0 a1 => call_le (hN 17 rfl) Try.func17 rfl rfl rfl (r17 hc _ 0 _ _)) (le_fail _)
            · exact le_br1 (J := fun f l => CL T f l h) (fun e a0 => call_le (hN 15 rfl) Try.func15 rfl rfl rfl (r15 hc _ 0 _ _)) (le_fail _)
          · refine le_brec ?_ ?_
            · exact le_br1 (J := fun f l => CL T f l h) (fun e a0 => call_le (hN 14 rfl) Try.func14 rfl rfl rfl (r14 hc _ 0 _ _)) (le_fail _)
            · exact le_br0 (J := fun f l => CL T f l h) (fun e => le_ovK fun ho => call_le ho Try.func12 rfl rfl rfl (r12 hc _ 0 _ _)) (le_fail _)
        · refine le_brec ?_ ?_
          · refine le_brec ?_ ?_
            · exact le_br1 (J := fun f l => CL T f l h) (fun e a0 => call_le (hN 9 rfl) Try.func9 rfl rfl rfl (r9 hc _ 0 _ _)) (le_fail _)
            · exact le_br1 (J := fun f l => CL T f l h) (fun e a0 => call_le (hN 7 rfl) Try.func7 rfl rfl rfl (r7 hc _ 0 _ _)) (le_fail _)
          · refine le_brec ?_ ?_
            · exact le_br2 (J := fun f l => CL T f l h) (fun e a0 a1 => call_le (hN 6 rfl) Try.func6 rfl rfl rfl (r6 hc _ 0 _ _)) (le_fail _)
            · exact le_br1 (J := fun f l => CL T f l h) (fun e a0 => call_le (hN 5 rfl) Try.func5 rfl rfl rfl (r5 hc _ 0 _ _)) (le_fail _)

/-- the run of a closed call -/
noncomputable def CN (T : Tab) (n : Nat) : CallF := @Nat.rec (fun _ => CallF) (fun _ _ _ => .fail) (fun _ cf => cfB T cf) n
theorem CN_le {T : Tab} (hN : ∀ f, tabB f = false → T.ov f = none) (n : Nat) : leC (CN T n) (CL T) := by
  induction n with
  | zero => exact fun _ _ _ => le_fail _
  | succ n ih => exact fun f l h => cfB_le hN _ ih f l h
theorem CN_val {T : Tab} (hN : ∀ f, tabB f = false → T.ov f = none) {n : Nat} {f : FuncId} {args : List IV} {h : H} {v : IV} (e : (CN T n f args h).val = some v) : ∃ h', CL T f args h = .ok v h' := run_val (CN_le hN n) e

end Go.Proofs.Ytgmajopnflfcdaa

namespace Go.Proofs.Ytgmajopnflfcdaa
open Go I
set_option maxRecDepth 100000
set_option linter.unusedVariables false
set_option linter.unusedSimpArgs false

def pol (f : FuncId) : Bool := true
noncomputable def tab0 : Tab := ⟨ovOf [], pol⟩
theorem step0 : OvStep tab0 := ovStep_of fun x hx args g => by cases hx
theorem sound0 : ∀ w₀ S, CallS Try.prog w₀ S (CL tab0) := call_sound (fun w₀ S => ovS_of fun x hx => by cases hx) Try.checked.mixed noNum
theorem no0 : ∀ f, tabB f = false → tab0.ov f = none := fun _ _ => rfl
theorem awake12 : ∃ h', CL tab0 12 [] H0 = .ok (.bool true) h' := CN_val no0 (n := 60) (by kernel_rfl)

end Go.Proofs.Ytgmajopnflfcdaa

namespace Go.Proofs.Ytgmajopnflfcdaa
open Go I
set_option maxRecDepth 100000
set_option linter.unusedVariables false
set_option linter.unusedSimpArgs false

theorem lenStr_raw (s : Str) : lenStr (.str s) = some (.int .i64 (s.len : Nat)) := rfl
theorem binS_raw (a b : Str) : binS .eql (.str a) (.str b) = some (.bool (a.eq b)) := rfl
theorem slc_raw (s : Str) (a b : Nat) (h1 : a ≤ b) (h2 : b ≤ s.len) : slcStr (.str s) (some (.int .i64 (a : Nat))) (some (.int .i64 (b : Nat))) = some (.str (s.ext a b)) := by
  simp only [slcStr, boundI]
  rw [if_pos ⟨by omega, by omega⟩]
  simp only
  rw [if_pos ⟨by omega, by omega⟩]
  simp
theorem begins27 {h : H} (g : Gd h) (s t : Str) (n : Nat) (hs : s.len ≤ 131072) (hn : n ≤ s.len) (ht : t.len ≤ 2) : CL tab0 27 [.str s, .int .i64 (n : Nat), .str t] h = .ok (.bool (decide (n + t.len ≤ s.len) && Str.eq (s.ext n (n + t.len)) t)) h := by
  refine c27 step0 rfl rfl g ?_ (by simp)
  have e2 : wr .i64 ((s.len : Int) - (n : Nat)) = (s.len : Int) - (n : Nat) := wr_i64 (by omega) (by omega)
  have e9 : wr .i64 ((n : Int) + (t.len : Nat)) = ((n + t.len : Nat) : Int) := by rw [wr_i64 (by omega) (by omega)]; omega
  by_cases hc : n + t.len ≤ s.len
  · have h4 : ((t.len : Nat) : Int) ≤ (s.len : Int) - (n : Nat) := by omega
    simp only [t27_0, lenStr_raw, W, decide_eq_true_eq, Bool.not_eq_true', decide_eq_false_iff_not, Bool.false_eq_true, Bool.not_true, Bool.not_false, decide_true, decide_false, not_true_eq_false, not_false_eq_true, and_true, true_and, and_false, false_and, ne_eq, Nat.zero_add, Nat.add_zero, cond_true, cond_false, ↓reduceIte, reduceCtorEq, Nat.reduceAdd, Int.reduceEq, Int.reduceNe, Int.reduceLT, Int.reduceLE, Int.reduceAdd, Int.reduceSub, Int.reduceMul, Int.reduceNeg, Nat.reduceMul, List.getElem?_cons_zero, List.getElem?_cons_succ, e2, h4, e9, slc_raw s n (n + t.len) (by omega) hc, binS_raw, hc, decide_true, Bool.true_and]
  · have h4 : ¬ ((t.len : Nat) : Int) ≤ (s.len : Int) - (n : Nat) := by omega
    simp only [t27_0, lenStr_raw, W, decide_eq_true_eq, Bool.not_eq_true', decide_eq_false_iff_not, Bool.false_eq_true, Bool.not_true, Bool.not_false, decide_true, decide_false, not_true_eq_false, not_false_eq_true, and_true, true_and, and_false, false_and, ne_eq, Nat.zero_add, Nat.add_zero, cond_true, cond_false, ↓reduceIte, reduceCtorEq, Nat.reduceAdd, Int.reduceEq, Int.reduceNe, Int.reduceLT, Int.reduceLE, Int.reduceAdd, Int.reduceSub, Int.reduceMul, Int.reduceNeg, Nat.reduceMul, List.getElem?_cons_zero, List.getElem?_cons_succ, e2, h4, hc, decide_false, Bool.false_and]

def twos : List Str := [⟨2, 9766⟩, ⟨2, 31868⟩, ⟨2, 15677⟩, ⟨2, 15649⟩, ⟨2, 15676⟩, ⟨2, 15678⟩, ⟨2, 15420⟩, ⟨2, 15934⟩]
def ones : Str := ⟨24, 1035797962038895658522808901809198590842054073607314417960⟩
def hit (s : Str) (n : Nat) (t : Str) : Bool := decide (n + t.len ≤ s.len) && Str.eq (s.ext n (n + t.len)) t
def twoE (s : Str) (n : Nat) : List Str → Option Str
  | [] => none
  | t :: l => if hit s n t = true then some t else twoE s n l
theorem loop1 {h : H} (g : Gd h) {b : Nat} (c : Cs h b false true (twos.map IV.str)) (s : Str) (n : Nat) (hs : s.len ≤ 131072) (hn : n ≤ s.len) : ∀ (k i : Nat), i + k = 8 → ∀ r : CRes, r ≠ .fail → J43 tab0 2 [.str s, .int .i64 (n : Nat), .str ones, .int .i64 0] h = r →
    J43 tab0 1 [.str s, .int .i64 (n : Nat), .slice b 0 8 1, .int .i64 (i : Nat)] h = (match twoE s n (twos.drop i) with | some t => .ok (.str t) h | none => r) := by
  intro k
  induction k with
  | zero =>
    intro i hi r hr e
    have hi8 : i = 8 := by omega
    subst hi8
    have hd : twos.drop 8 = [] := rfl
    rw [hd]
    simp only [twoE]
    refine e43_1 ?_ hr
    have : ¬ ((8 : Nat) : Int) < ((8 : Nat) : Int) := by omega
    simp only [t43_1, lenS, W, decide_eq_true_eq, Bool.not_eq_true', decide_eq_false_iff_not, Bool.false_eq_true, Bool.not_true, Bool.not_false, decide_true, decide_false, not_true_eq_false, not_false_eq_true, and_true, true_and, and_false, false_and, ne_eq, Nat.zero_add, Nat.add_zero, cond_true, cond_false, ↓reduceIte, reduceCtorEq, Nat.reduceAdd, Int.reduceEq, Int.reduceNe, Int.reduceLT, Int.reduceLE, Int.reduceAdd, Int.reduceSub, Int.reduceMul, Int.reduceNeg, Nat.reduceMul, List.getElem?_cons_zero, List.getElem?_cons_succ, this]
    exact e
  | succ k ih =>
    intro i hi r hr e
    have hlt : i < twos.length := by show i < 8; omega
    have hx : twos[i]? = some twos[i] := List.getElem?_eq_getElem hlt
    have hlt' : ((i : Nat) : Int) < ((8 : Nat) : Int) := by omega
    have eix : ixS 1 (.slice b 0 8 1) (.int .i64 (i : Nat)) = some (.ptr b i) := by
      rw [ixS_eq]; simp only [ixS0]; rw [if_pos ⟨trivial, by omega, by omega⟩]; simp
    have eld : I.ld0 h (.ptr b i) = some (.str twos[i]) := by
      rw [c.ld0 i, List.getElem?_map, hx]; rfl
    have ht2 : ∀ t ∈ twos, t.len ≤ 2 := by decide
    have e27 := begins27 g s twos[i] n hs hn (ht2 _ (List.getElem_mem hlt))
    have hd : twos.drop i = twos[i] :: twos.drop (i + 1) := List.drop_eq_getElem_cons hlt
    have ei : wr .i64 ((i : Int) + 1) = ((i + 1 : Nat) : Int) := by rw [wr_i64 (by omega) (by omega)]; omega
    rw [hd]
    simp only [twoE]
    by_cases hh : hit s n twos[i] = true
    · rw [if_pos hh]
      refine e43_1 ?_ (by simp)
      have e27' : CL tab0 27 [.str s, .int .i64 (n : Nat), .str twos[i]] h = .ok (.bool true) h := by rw [e27]; unfold hit at hh; rw [hh]
      simp only [t43_1, lenS, W, decide_eq_true_eq, Bool.not_eq_true', decide_eq_false_iff_not, Bool.false_eq_true, Bool.not_true, Bool.not_false, decide_true, decide_false, not_true_eq_false, not_false_eq_true, and_true, true_and, and_false, false_and, ne_eq, Nat.zero_add, Nat.add_zero, cond_true, cond_false, ↓reduceIte, reduceCtorEq, Nat.reduceAdd, Int.reduceEq, Int.reduceNe, Int.reduceLT, Int.reduceLE, Int.reduceAdd, Int.reduceSub, Int.reduceMul, Int.reduceNeg, Nat.reduceMul, List.getElem?_cons_zero, List.getElem?_cons_succ, hlt', eix, eld, e27']
    · rw [if_neg hh]
      have e27' : CL tab0 27 [.str s, .int .i64 (n : Nat), .str twos[i]] h = .ok (.bool false) h := by rw [e27]; unfold hit at hh; simp only [Bool.not_eq_true] at hh; rw [hh]
      refine e43_1 ?_ (by split <;> simp [hr])
      simp only [t43_1, lenS, W, decide_eq_true_eq, Bool.not_eq_true', decide_eq_false_iff_not, Bool.false_eq_true, Bool.not_true, Bool.not_false, decide_true, decide_false, not_true_eq_false, not_false_eq_true, and_true, true_and, and_false, false_and, ne_eq, Nat.zero_add, Nat.add_zero, cond_true, cond_false, ↓reduceIte, reduceCtorEq, Nat.reduceAdd, Int.reduceEq, Int.reduceNe, Int.reduceLT, Int.reduceLE, Int.reduceAdd, Int.reduceSub, Int.reduceMul, Int.reduceNeg, Nat.reduceMul, List.getElem?_cons_zero, List.getElem?_cons_succ, hlt', eix, eld, e27', ei]
      exact ih (i + 1) (by omega) r hr e
def oneR (c : Nat) : Nat → Nat → IV
  | 0, i => .str ⟨0, 0⟩
  | k + 1, i => if c = ones.at i then .str (ones.ext i (i + 1)) else oneR c k (i + 1)
theorem loop2 {h : H} (s : Str) (n : Nat) (hn : n < s.len) : ∀ (k i : Nat), i + k = 24 → J43 tab0 2 [.str s, .int .i64 (n : Nat), .str ones, .int .i64 (i : Nat)] h = .ok (oneR (s.at n) k i) h := by
  intro k
  induction k with
  | zero =>
    intro i hi
    have hi8 : i = 24 := by omega
    subst hi8
    refine e43_2 ?_ (by simp)
    have hl : lenStr (.str ones) = some (.int .i64 24) := rfl
    have : ¬ ((24 : Nat) : Int) < 24 := by omega
    simp only [t43_2, hl, W, decide_eq_true_eq, Bool.not_eq_true', decide_eq_false_iff_not, Bool.false_eq_true, Bool.not_true, Bool.not_false, decide_true, decide_false, not_true_eq_false, not_false_eq_true, and_true, true_and, and_false, false_and, ne_eq, Nat.zero_add, Nat.add_zero, cond_true, cond_false, ↓reduceIte, reduceCtorEq, Nat.reduceAdd, Int.reduceEq, Int.reduceNe, Int.reduceLT, Int.reduceLE, Int.reduceAdd, Int.reduceSub, Int.reduceMul, Int.reduceNeg, Nat.reduceMul, List.getElem?_cons_zero, List.getElem?_cons_succ, this, oneR]
  | succ k ih =>
    intro i hi
    refine e43_2 ?_ (by simp)
    have hl : lenStr (.str ones) = some (.int .i64 24) := rfl
    have hlt : ((i : Nat) : Int) < 24 := by omega
    have e14 : ixStr (.str s) (.int .i64 (n : Nat)) = some (.int .u8 (s.at n : Nat)) := by
      rw [ixStr_eq]; simp only [ixStr0]; rw [if_pos ⟨by omega, by omega⟩]; simp
    have e15 : ixStr (.str ones) (.int .i64 (i : Nat)) = some (.int .u8 (ones.at i : Nat)) := by
      rw [ixStr_eq]; simp only [ixStr0]; rw [if_pos ⟨by omega, by show ((i : Nat) : Int) < (24 : Nat); omega⟩]; simp
    have ei : wr .i64 ((i : Int) + 1) = ((i + 1 : Nat) : Int) := by rw [wr_i64 (by omega) (by omega)]; omega
    have e18 : slcStr (.str ones) (some (.int .i64 (i : Nat))) (some (.int .i64 ((i + 1 : Nat) : Int))) = some (.str (ones.ext i (i + 1))) := slc_raw ones i (i + 1) (by omega) (by show i + 1 ≤ 24; omega)
    by_cases hc : s.at n = ones.at i
    · have hc' : ((s.at n : Nat) : Int) = (ones.at i : Nat) := by rw [hc]
      simp only [t43_2, hl, W, decide_eq_true_eq, Bool.not_eq_true', decide_eq_false_iff_not, Bool.false_eq_true, Bool.not_true, Bool.not_false, decide_true, decide_false, not_true_eq_false, not_false_eq_true, and_true, true_and, and_false, false_and, ne_eq, Nat.zero_add, Nat.add_zero, cond_true, cond_false, ↓reduceIte, reduceCtorEq, Nat.reduceAdd, Int.reduceEq, Int.reduceNe, Int.reduceLT, Int.reduceLE, Int.reduceAdd, Int.reduceSub, Int.reduceMul, Int.reduceNeg, Nat.reduceMul, List.getElem?_cons_zero, List.getElem?_cons_succ, hlt, e14, e15, hc', ei, e18]
      unfold oneR
      rw [if_pos hc]
    · have hc' : ¬ ((s.at n : Nat) : Int) = (ones.at i : Nat) := by omega
      simp only [t43_2, hl, W, decide_eq_true_eq, Bool.not_eq_true', decide_eq_false_iff_not, Bool.false_eq_true, Bool.not_true, Bool.not_false, decide_true, decide_false, not_true_eq_false, not_false_eq_true, and_true, true_and, and_false, false_and, ne_eq, Nat.zero_add, Nat.add_zero, cond_true, cond_false, ↓reduceIte, reduceCtorEq, Nat.reduceAdd, Int.reduceEq, Int.reduceNe, Int.reduceLT, Int.reduceLE, Int.reduceAdd, Int.reduceSub, Int.reduceMul, Int.reduceNeg, Nat.reduceMul, List.getElem?_cons_zero, List.getElem?_cons_succ, hlt, e14, e15, hc', ei]
      rw [oneR, if_neg hc]
      exact ih (i + 1) (by omega)
/-- one byte's sign -/
def oneB (c : Nat) : Bool := [40, 41, 91, 93, 123, 125, 44, 59, 58, 46, 35, 64, 63, 43, 45, 126, 33, 38, 124, 94, 61, 60, 42, 62].any fun x => Nat.beq x c
def oneV (c : Nat) : IV := bif oneB c then .str ⟨1, c⟩ else .str ⟨0, 0⟩
theorem oneR_eq (c : Nat) (hc : c < 256) : oneR c 24 0 = oneV c := by
  have h : ((List.range 256).all fun c => IV.beq (oneR c 24 0) (oneV c)) = true := by kernel_rfl
  exact IV.beq_eq (List.all_eq_true.1 h c (List.mem_range.2 hc))
def twoB (s : Str) (n : Nat) : Bool := [9766, 31868, 15677, 15649, 15676, 15678, 15420, 15934].any fun x => Nat.beq x (Nat.mod (Nat.div s.val (Nat.pow 256 n)) 65536)
def g43 (args : List IV) : Option IV :=
  match args with
  | [.str s, .int .i64 (.ofNat n)] => bif (Nat.ble (Nat.succ n) s.len && Nat.ble s.len 131072) then
      (bif (Nat.ble (Nat.add n 2) s.len && twoB s n) then T.fN (Nat.mod (Nat.div s.val (Nat.pow 256 n)) 65536) fun x => some (.str ⟨2, x⟩) else T.fN (Nat.mod (Nat.div s.val (Nat.pow 256 n)) 256) fun x => some (oneV x)) else none
  | _ => none
theorem twoE_any (s : Str) (n : Nat) (hn : n + 2 ≤ s.len) : twoE s n twos = bif twoB s n then some ⟨2, s.val / 256 ^ n % 65536⟩ else none := by
  have he : s.ext n (n + 2) = ⟨2, s.val / 256 ^ n % 65536⟩ := by
    simp only [Str.ext]
    rw [show n + 2 - n = 2 by omega]
  have hh : ∀ x : Nat, hit s n ⟨2, x⟩ = Nat.beq x (s.val / 256 ^ n % 65536) := by
    intro x
    unfold hit
    simp only [decide_eq_true hn, Bool.true_and, he, Str.eq]
    have : Nat.beq 2 2 = true := rfl
    rw [this, Bool.true_and, T.nbeq, T.nbeq]
    by_cases hx : x = s.val / 256 ^ n % 65536
    · simp [hx]
    · have hx' : ¬ s.val / 256 ^ n % 65536 = x := fun e => hx e.symm
      simp [hx, hx']
  unfold twoB
  have hp : Nat.mod (Nat.div s.val (Nat.pow 256 n)) 65536 = s.val / 256 ^ n % 65536 := rfl
  rw [hp]
  generalize s.val / 256 ^ n % 65536 = v at *
  simp only [twos, twoE, hh, List.any_cons, List.any_nil, T.nbeq, decide_eq_true_eq]
  repeat' split
  all_goals simp_all
theorem twoE_none (s : Str) (n : Nat) (hn : ¬ n + 2 ≤ s.len) : twoE s n twos = none := by
  have hh : ∀ x : Nat, hit s n ⟨2, x⟩ = false := by
    intro x
    unfold hit
    simp only [decide_eq_false hn, Bool.false_and]
  simp [twos, twoE, hh]
theorem t43 : PureT Try.prog (CL tab0) 43 g43 := ⟨⟨_, _, Try.func43, rfl⟩, fun args v hv => by
  unfold g43 at hv
  split at hv
  · rename_i s n
    refine ⟨rfl, ?_, true, ?_⟩
    all_goals
      cases hc : (Nat.ble (Nat.succ n) s.len && Nat.ble s.len 131072) with
      | false => rw [hc] at hv; cases hv
      | true => ?_
    · rw [hc] at hv
      simp only [cond_true, T.fN_eq] at hv
      cases ht : (Nat.ble (Nat.add n 2) s.len && twoB s n) with
      | true => rw [ht] at hv; injection hv with hv; subst hv; rfl
      | false =>
        rw [ht] at hv; injection hv with hv; subst hv
        unfold oneV
        cases oneB (Nat.mod (Nat.div s.val (Nat.pow 256 n)) 256) <;> rfl
    · rw [hc] at hv
      simp only [cond_true, T.fN_eq] at hv
      rw [nble, nble, Bool.and_eq_true, decide_eq_true_eq, decide_eq_true_eq] at hc
      obtain ⟨h1, h2⟩ := hc
      have h1 : n < s.len := h1
      obtain ⟨h', e, x, c⟩ := bslK_imm (z := [.str ⟨0, 0⟩]) (vs := twos.map IV.str) (show Gd H0 from ⟨fun b _ => rfl, rfl⟩) (es := 1) rfl (by intro w hw; obtain ⟨t, _, rfl⟩ := List.mem_map.1 hw; rfl) rfl
      have hco : cellsOf (twos.map IV.str) = twos.map IV.str := rfl
      rw [hco] at c
      have el2 := loop2 (h := h') s n h1 24 0 rfl
      rw [oneR_eq (s.at n) (Nat.mod_lt _ (by omega))] at el2
      have el1 := loop1 x.gd c s n h2 (by omega) 8 0 rfl _ (by simp) el2
      rw [List.drop_zero] at el1
      refine ⟨h', c43 step0 rfl rfl (show Gd H0 from ⟨fun b _ => rfl, rfl⟩) ?_ (by simp)⟩
      have e' : bslK false 1 [.str ⟨0, 0⟩] 8 [(0, (.str ⟨2, 9766⟩)), (1, (.str ⟨2, 31868⟩)), (2, (.str ⟨2, 15677⟩)), (3, (.str ⟨2, 15649⟩)), (4, (.str ⟨2, 15676⟩)), (5, (.str ⟨2, 15678⟩)), (6, (.str ⟨2, 15420⟩)), (7, (.str ⟨2, 15934⟩))] ⟨0, .leaf, true⟩ = some (.slice 0 0 8 1, h') := e
      simp only [t43_0, e', W, decide_eq_true_eq, Bool.not_eq_true', decide_eq_false_iff_not, Bool.false_eq_true, Bool.not_true, Bool.not_false, decide_true, decide_false, not_true_eq_false, not_false_eq_true, and_true, true_and, and_false, false_and, ne_eq, Nat.zero_add, Nat.add_zero, cond_true, cond_false, ↓reduceIte, reduceCtorEq, Nat.reduceAdd, Int.reduceEq, Int.reduceNe, Int.reduceLT, Int.reduceLE, Int.reduceAdd, Int.reduceSub, Int.reduceMul, Int.reduceNeg, Nat.reduceMul, List.getElem?_cons_zero, List.getElem?_cons_succ]
      refine Eq.trans el1 ?_
      by_cases h3 : n + 2 ≤ s.len
      · rw [twoE_any s n h3]
        have h3' : Nat.ble (Nat.add n 2) s.len = true := by rw [nble]; exact decide_eq_true h3
        rw [h3', Bool.true_and] at hv
        cases htb : twoB s n with
        | true => rw [htb] at hv; injection hv with hv; subst hv; rfl
        | false => rw [htb] at hv; injection hv with hv; subst hv; rfl
      · rw [twoE_none s n h3]
        have h3' : Nat.ble (Nat.add n 2) s.len = false := by rw [nble]; exact decide_eq_false h3
        rw [h3', Bool.false_and] at hv
        injection hv with hv; subst hv; rfl
  · cases hv⟩

end Go.Proofs.Ytgmajopnflfcdaa

namespace Go.Proofs.Ytgmajopnflfcdaa
open Go I
set_option maxRecDepth 100000
set_option linter.unusedVariables false

def tbl85 : List (Str × IV) := [(⟨1, 97⟩, .bool false), (⟨1, 105⟩, .bool false), (⟨1, 120⟩, .bool false), (⟨1, 121⟩, .bool false), (⟨1, 103⟩, .bool false), (⟨1, 109⟩, .bool false), (⟨5, 474214786402⟩, .bool true), (⟨2, 26217⟩, .bool true), (⟨3, 6581861⟩, .bool true), (⟨4, 1702063205⟩, .bool true), (⟨6, 121390429860705⟩, .bool true), (⟨4, 1701996919⟩, .bool true), (⟨3, 7499622⟩, .bool true), (⟨6, 126965163453537⟩, .bool true), (⟨5, 500186508905⟩, .bool true), (⟨6, 128047746676079⟩, .bool true), (⟨3, 6776178⟩, .bool true), (⟨6, 111516500389741⟩, .bool true), (⟨9, 1870936414602775522917⟩, .bool true), (⟨9, 2110239404018478768496⟩, .bool true), (⟨10, 516535522800345012203372⟩, .bool true), (⟨7, 28542653544230768⟩, .bool true), (⟨4, 1702060387⟩, .bool true), (⟨7, 28555834764324453⟩, .bool true), (⟨7, 32770348699510116⟩, .bool true), (⟨1, 98⟩, .bool false), (⟨1, 99⟩, .bool false)]
def tbl101 : List (Str × IV) := [(⟨1, 41⟩, .tup [.int .i64 0, .int .i64 0]), (⟨1, 59⟩, .tup [.int .i64 0, .int .i64 0]), (⟨1, 40⟩, .tup [.int .i64 0, .int .i64 0]), (⟨1, 61⟩, .tup [.int .i64 0, .int .i64 0]), (⟨1, 60⟩, .tup [.int .i64 7, .int .i64 17]), (⟨1, 43⟩, .tup [.int .i64 9, .int .i64 13]), (⟨1, 64⟩, .tup [.int .i64 0, .int .i64 0]), (⟨1, 42⟩, .tup [.int .i64 0, .int .i64 0]), (⟨1, 44⟩, .tup [.int .i64 0, .int .i64 0]), (⟨1, 58⟩, .tup [.int .i64 0, .int .i64 0]), (⟨2, 9766⟩, .tup [.int .i64 2, .int .i64 26]), (⟨2, 31868⟩, .tup [.int .i64 1, .int .i64 27]), (⟨2, 15677⟩, .tup [.int .i64 6, .int .i64 21]), (⟨2, 15649⟩, .tup [.int .i64 6, .int .i64 22]), (⟨2, 15676⟩, .tup [.int .i64 7, .int .i64 18]), (⟨2, 15678⟩, .tup [.int .i64 7, .int .i64 20]), (⟨2, 15420⟩, .tup [.int .i64 8, .int .i64 15]), (⟨2, 15934⟩, .tup [.int .i64 8, .int .i64 16]), (⟨1, 91⟩, .tup [.int .i64 0, .int .i64 0]), (⟨1, 93⟩, .tup [.int .i64 0, .int .i64 0]), (⟨1, 123⟩, .tup [.int .i64 0, .int .i64 0]), (⟨1, 125⟩, .tup [.int .i64 0, .int .i64 0]), (⟨1, 46⟩, .tup [.int .i64 0, .int .i64 0]), (⟨1, 35⟩, .tup [.int .i64 0, .int .i64 0]), (⟨1, 63⟩, .tup [.int .i64 0, .int .i64 0]), (⟨1, 45⟩, .tup [.int .i64 9, .int .i64 14]), (⟨1, 126⟩, .tup [.int .i64 0, .int .i64 0]), (⟨1, 33⟩, .tup [.int .i64 0, .int .i64 0]), (⟨1, 38⟩, .tup [.int .i64 5, .int .i64 23]), (⟨1, 124⟩, .tup [.int .i64 3, .int .i64 25]), (⟨1, 94⟩, .tup [.int .i64 4, .int .i64 24]), (⟨1, 62⟩, .tup [.int .i64 7, .int .i64 19])]
def tbl99 : List (Str × IV) := [(⟨1, 97⟩, .int .i64 0), (⟨1, 105⟩, .int .i64 0), (⟨1, 120⟩, .int .i64 0), (⟨1, 121⟩, .int .i64 0), (⟨1, 103⟩, .int .i64 0), (⟨1, 109⟩, .int .i64 0), (⟨5, 474214786402⟩, .int .i64 0), (⟨2, 26217⟩, .int .i64 0), (⟨3, 6581861⟩, .int .i64 0), (⟨4, 1702063205⟩, .int .i64 0), (⟨6, 121390429860705⟩, .int .i64 0), (⟨4, 1701996919⟩, .int .i64 0), (⟨3, 7499622⟩, .int .i64 0), (⟨6, 126965163453537⟩, .int .i64 0), (⟨5, 500186508905⟩, .int .i64 0), (⟨6, 128047746676079⟩, .int .i64 0), (⟨3, 6776178⟩, .int .i64 0), (⟨6, 111516500389741⟩, .int .i64 0), (⟨9, 1870936414602775522917⟩, .int .i64 0), (⟨9, 2110239404018478768496⟩, .int .i64 0), (⟨10, 516535522800345012203372⟩, .int .i64 0), (⟨7, 28542653544230768⟩, .int .i64 0), (⟨4, 1702060387⟩, .int .i64 0), (⟨7, 28555834764324453⟩, .int .i64 0), (⟨7, 32770348699510116⟩, .int .i64 0), (⟨1, 98⟩, .int .i64 0), (⟨1, 99⟩, .int .i64 0), (⟨1, 48⟩, .int .i64 0), (⟨1, 49⟩, .int .i64 0), (⟨1, 50⟩, .int .i64 0), (⟨1, 41⟩, .int .i64 0), (⟨1, 59⟩, .int .i64 0), (⟨1, 40⟩, .int .i64 0), (⟨1, 61⟩, .int .i64 0), (⟨1, 60⟩, .int .i64 0), (⟨1, 43⟩, .int .i64 0), (⟨1, 64⟩, .int .i64 0), (⟨1, 42⟩, .int .i64 0), (⟨1, 44⟩, .int .i64 0), (⟨1, 58⟩, .int .i64 0), (⟨2, 9766⟩, .int .i64 0), (⟨2, 31868⟩, .int .i64 0), (⟨2, 15677⟩, .int .i64 0), (⟨2, 15649⟩, .int .i64 0), (⟨2, 15676⟩, .int .i64 0), (⟨2, 15678⟩, .int .i64 0), (⟨2, 15420⟩, .int .i64 0), (⟨2, 15934⟩, .int .i64 0), (⟨1, 91⟩, .int .i64 0), (⟨1, 93⟩, .int .i64 0), (⟨1, 123⟩, .int .i64 0), (⟨1, 125⟩, .int .i64 0), (⟨1, 46⟩, .int .i64 0), (⟨1, 35⟩, .int .i64 0), (⟨1, 63⟩, .int .i64 0), (⟨1, 45⟩, .int .i64 9), (⟨1, 126⟩, .int .i64 7), (⟨1, 33⟩, .int .i64 8), (⟨1, 38⟩, .int .i64 10), (⟨1, 124⟩, .int .i64 11), (⟨1, 94⟩, .int .i64 12), (⟨1, 62⟩, .int .i64 0)]
def tbl42 : List (Str × IV) := [(⟨1, 48⟩, .tup [.str ⟨32, 21796157974083048550319244236929488537086114760591164995662604048548353814576⟩, .bool true, .int .i64 0]), (⟨1, 49⟩, .tup [.str ⟨32, 22248470822666314938692568397119675677137950638191323448941735236079264477232⟩, .bool true, .int .i64 0]), (⟨1, 50⟩, .tup [.str ⟨32, 21797924821147826934648827534430231455601942244488040614620725654749646434352⟩, .bool true, .int .i64 0])]
theorem t85 : PureT Try.prog (CL tab0) 85 (gT tbl85) := pureT_tbl (CN_le no0 60) Try.func85 rfl (by kernel_rfl)
theorem t101 : PureT Try.prog (CL tab0) 101 (gT tbl101) := pureT_tbl (CN_le no0 60) Try.func101 rfl (by kernel_rfl)
theorem t99 : PureT Try.prog (CL tab0) 99 (gT tbl99) := pureT_tbl (CN_le no0 60) Try.func99 rfl (by kernel_rfl)
theorem t42 : PureT Try.prog (CL tab0) 42 (gT tbl42) := pureT_tbl (CN_le no0 60) Try.func42 rfl (by kernel_rfl)
def g12 (args : List IV) : Option IV :=
  match args with
  | [] => some (.bool true)
  | _ => none
theorem t12 : PureT Try.prog (CL tab0) 12 g12 := ⟨⟨_, _, Try.func12, rfl⟩, fun args v h => by
  unfold g12 at h
  split at h
  · injection h with h; subst h
    obtain ⟨h', e⟩ := awake12
    exact ⟨rfl, rfl, true, h', e⟩
  · cases h⟩
noncomputable def tab1 : Tab := ⟨ovQ [(43, pureF g43), (85, pureF (gT tbl85)), (101, pureF (gT tbl101)), (99, pureF (gT tbl99)), (42, pureF (gT tbl42)), (12, pureF g12)], pol⟩
theorem tab1_eq : tab1 = ⟨ovOf [(43, pureF g43), (85, pureF (gT tbl85)), (101, pureF (gT tbl101)), (99, pureF (gT tbl99)), (42, pureF (gT tbl42)), (12, pureF g12)], pol⟩ := by unfold tab1; rw [ovQ_eq]
theorem no1 : ∀ f, tabB f = false → tab1.ov f = none := by
  intro f hf
  rw [tab1_eq]
  simp only [tabB, List.any_cons, List.any_nil, Bool.or_false, Bool.or_eq_false_iff] at hf
  simp only [ovOf, hf, cond_false]
theorem step1 : OvStep tab1 := tab1_eq ▸ ovStep_of fun x hx args g => by
  simp only [List.mem_cons, List.not_mem_nil, or_false] at hx
  rcases hx with rfl | rfl | rfl | rfl | rfl | rfl
  all_goals exact pureF_step _ args g
theorem sound1 : ∀ w₀ S, CallS Try.prog w₀ S (CL tab1) := tab1_eq ▸ call_sound (fun w₀ S => ovS_of fun x hx => by
  simp only [List.mem_cons, List.not_mem_nil, or_false] at hx
  rcases hx with rfl | rfl | rfl | rfl | rfl | rfl
  · exact pureF_S sound0 noNum t43 w₀ S
  · exact pureF_S sound0 noNum t85 w₀ S
  · exact pureF_S sound0 noNum t101 w₀ S
  · exact pureF_S sound0 noNum t99 w₀ S
  · exact pureF_S sound0 noNum t42 w₀ S
  · exact pureF_S sound0 noNum t12 w₀ S) Try.checked.mixed noNum

end Go.Proofs.Ytgmajopnflfcdaa

namespace Go.Proofs.Ytgmajopnflfcdaa
open Go I
set_option maxRecDepth 100000
set_option linter.unusedVariables false
set_option linter.unusedSimpArgs false

theorem maskN (q : Int) (k : Nat) (m : Int) (hk : k ≤ 16) (hm : m = 2 ^ k - 1) : binN .and (.int .i64 q) (.int .i64 m) = some (.int .i64 (q % 2 ^ k)) := by
  subst hm
  rw [binN_and]
  have hp : (2 : Int) ^ k = ((2 ^ k : Nat) : Int) := by norm_cast
  have hle : (2 : Nat) ^ k ≤ 2 ^ 16 := Nat.pow_le_pow_right (by omega) hk
  have hpos : 0 < (2 : Nat) ^ k := Nat.pow_pos (by omega)
  have e : (BitVec.ofInt 64 q &&& BitVec.ofInt 64 (2 ^ k - 1)).toNat = (q % 2 ^ k).toNat := by
    rw [BitVec.toNat_and]
    have h7 : (BitVec.ofInt 64 ((2 : Int) ^ k - 1)).toNat = 2 ^ k - 1 := by
      rw [BitVec.toNat_ofInt, hp]
      generalize 2 ^ k = w at *
      have : (((w : Nat) : Int) - 1) % ((2 ^ 64 : Nat) : Int) = (w : Int) - 1 := Int.emod_eq_of_lt (by omega) (by omega)
      rw [this]; omega
    rw [h7, Nat.and_two_pow_sub_one_eq_mod, BitVec.toNat_ofInt, hp]
    have hd : ((2 ^ k : Nat) : Int) ∣ ((2 ^ 64 : Nat) : Int) := by
      refine Int.natCast_dvd_natCast.2 (Nat.pow_dvd_pow 2 (by omega))
    have h1 : 0 ≤ q % ((2 ^ 64 : Nat) : Int) := Int.emod_nonneg _ (by omega)
    have h2 : (q % ((2 ^ 64 : Nat) : Int)) % ((2 ^ k : Nat) : Int) = q % ((2 ^ k : Nat) : Int) := Int.emod_emod_of_dvd q hd
    rw [← h2]
    generalize q % ((2 ^ 64 : Nat) : Int) = z at *
    have h3 : z = (z.toNat : Int) := by omega
    rw [h3]
    norm_cast
  show some (IV.int .i64 (IntKind.i64.wrap (BitVec.ofInt 64 q &&& BitVec.ofInt 64 (2 ^ k - 1)).toNat)) = _
  rw [e]
  have h0 : 0 ≤ q % 2 ^ k := by rw [hp]; exact Int.emod_nonneg _ (by omega)
  have h1 : q % 2 ^ k < 2 ^ k := by rw [hp]; exact Int.emod_lt_of_pos _ (by omega)
  have h2 : (2 : Int) ^ k ≤ 65536 := by rw [hp]; omega
  rw [← wr_eq, wr_i64] <;> congr 2 <;> omega
theorem tmod_nn (a b : Int) (h : 0 ≤ a) : a.tmod b = a % b := Int.tmod_eq_emod_of_nonneg h

def s6 : IV := (.str ⟨45, 295042996737027189892664453235703659773535717092407273043438385707730273476733613257889332524423640923795309⟩)
noncomputable def run6 (n k : Int) : Option IV := (recN (b6 (CN tab1 200)) 1000 1 [.int .i64 n, .int .i64 k, s6, .int .i64 0] H0).val
theorem of_run6 {n k : Int} (e : run6 n k = some (.bool true)) : ∃ h', J6 tab1 1 [.int .i64 n, .int .i64 k, s6, .int .i64 0] H0 = .ok (.bool true) h' := by
  obtain ⟨h', e'⟩ := CRes.of_val e
  refine ⟨h', ?_⟩
  have := r6 (CN_le no1 200) 1000 1 [.int .i64 n, .int .i64 k, s6, .int .i64 0] H0 (by rw [e']; simp)
  rw [e'] at this; exact this
theorem gd0 : Gd H0 := ⟨fun b _ => rfl, rfl⟩
theorem ways6 (hall : ∀ n k : Nat, 1 ≤ n → n ≤ 14 → k ≤ n → run6 n k = some (.bool true)) (a b : Int) : ∃ h', CL tab1 6 [.int .i64 a, .int .i64 b] H0 = .ok (.bool true) h' := by
  have hp : 0 ≤ a % 2 ^ 5 % 14 ∧ a % 2 ^ 5 % 14 < 14 := by omega
  have hb : 0 ≤ b % 2 ^ 8 := by omega
  generalize hpe : a % 2 ^ 5 % 14 = p at hp
  have hk : 0 ≤ b % 2 ^ 8 % (p + 2) ∧ b % 2 ^ 8 % (p + 2) < p + 2 := ⟨Int.emod_nonneg _ (by omega), Int.emod_lt_of_pos _ (by omega)⟩
  obtain ⟨h', e⟩ := of_run6 (hall (1 + p).toNat (b % 2 ^ 8 % (p + 2)).toNat (by omega) (by omega) (by omega))
  have e1 : (((1 + p).toNat : Nat) : Int) = 1 + p := by omega
  have e2 : (((b % 2 ^ 8 % (p + 2)).toNat : Nat) : Int) = b % 2 ^ 8 % (p + 2) := by omega
  rw [e1, e2] at e
  refine ⟨h', c6 step1 rfl rfl gd0 ?_ (by simp)⟩
  have w1 : wr .i64 (1 + p) = 1 + p := wr_i64 (by omega) (by omega)
  have w2 : wr .i64 (1 + p + 1) = p + 2 := by rw [wr_i64 (by omega) (by omega)]; omega
  have t1 : (a % 2 ^ 5).tmod 14 = p := by rw [tmod_nn _ _ (by omega)]; exact hpe
  have t2 : (b % 2 ^ 8).tmod (p + 2) = b % 2 ^ 8 % (p + 2) := tmod_nn _ _ hb
  unfold t6_0
  simp only [maskN a 5 31 (by omega) (by rfl), maskN b 8 255 (by omega) (by rfl), obind_some, binN_rem _ _ _ (show (14 : Int) ≠ 0 by omega), t1, binN_add, w1, w2, binN_rem _ _ _ (show p + 2 ≠ 0 by omega), t2]
  exact e

def s5 : IV := (.str ⟨43, 4511958892279302592037838659287471757360031553175582169925867472317880056563007935988880239883784056685⟩)
noncomputable def run5 (n : Int) : Option IV := (recN (b5 (CN tab1 200)) 1000 1 [.int .i64 n, s5, .int .i64 0] H0).val
theorem of_run5 {n : Int} (e : run5 n = some (.bool true)) : ∃ h', J5 tab1 1 [.int .i64 n, s5, .int .i64 0] H0 = .ok (.bool true) h' := by
  obtain ⟨h', e'⟩ := CRes.of_val e
  refine ⟨h', ?_⟩
  have := r5 (CN_le no1 200) 1000 1 [.int .i64 n, s5, .int .i64 0] H0 (by rw [e']; simp)
  rw [e'] at this; exact this
theorem scopes5 (hall : ∀ n : Nat, n < 20 → run5 n = some (.bool true)) (a : Int) : ∃ h', CL tab1 5 [.int .i64 a] H0 = .ok (.bool true) h' := by
  have hp : 0 ≤ a % 2 ^ 5 % 20 ∧ a % 2 ^ 5 % 20 < 20 := by omega
  generalize hpe : a % 2 ^ 5 % 20 = p at hp
  obtain ⟨h', e⟩ := of_run5 (hall p.toNat (by omega))
  have e1 : ((p.toNat : Nat) : Int) = p := by omega
  rw [e1] at e
  refine ⟨h', c5 step1 rfl rfl gd0 ?_ (by simp)⟩
  have t1 : (a % 2 ^ 5).tmod 20 = p := by rw [tmod_nn _ _ (by omega)]; exact hpe
  unfold t5_0
  simp only [maskN a 5 31 (by omega) (by rfl), obind_some, binN_rem _ _ _ (show (20 : Int) ≠ 0 by omega), t1]
  exact e

end Go.Proofs.Ytgmajopnflfcdaa
