import Derived.Test.YtdccdfmbakbikaaDoorM5
import Derived.Lib.CountLaws
set_option maxRecDepth 100000
set_option linter.unusedVariables false
set_option linter.unusedSimpArgs false
namespace Go.Proofs.YtdccdfmbakbikaaDoor
open Go I
structure Kw (h₀ h : H) : Prop where
  wf : WF h
  pol : h.pol = h₀.pol
  next : h₀.next ≤ h.next
  low : ∀ b, b < h₀.next → h.get b = h₀.get b
  ty : ∀ b, b < h₀.next → h.tys.get b = h₀.tys.get b
theorem Kw.refl {h : H} (w : WF h) : Kw h h := ⟨w, rfl, Nat.le_refl _, fun _ _ => rfl, fun _ _ => rfl⟩
theorem Kw.trans {a b c : H} (x : Kw a b) (y : Kw b c) : Kw a c :=
  ⟨y.wf, y.pol.trans x.pol, Nat.le_trans x.next y.next, fun k hk => (y.low k (Nat.lt_of_lt_of_le hk x.next)).trans (x.low k hk), fun k hk => (y.ty k (Nat.lt_of_lt_of_le hk x.next)).trans (x.ty k hk)⟩
theorem Kw.push {h₀ h : H} (x : Kw h₀ h) (o : I.Obj) : Kw h₀ (h.push o) :=
  ⟨(Step.push h o x.wf).1, x.pol, Nat.le_succ_of_le x.next, fun b hb => by rw [H.get_push, if_neg (by have := x.next; omega)]; exact x.low b hb, x.ty⟩
theorem Kw.newI {h₀ h : H} (x : Kw h₀ h) {cs : List IV} (hs : allScalar cs = true) : ∃ h', I.newI h cs = some (.ptr h.next 0, h') ∧ Kw h₀ h' ∧ Cs h' h.next true false cs ∧ Kw h h' :=
  ⟨_, by rw [newI_eq]; rw [if_pos hs], x.push _, .push cs, (Kw.refl x.wf).push _⟩
theorem Kw.put {h₀ h : H} (x : Kw h₀ h) {b : Nat} {q o : I.Obj} (hb : h₀.next ≤ b) (hq : h.get b = some q) (ho : ∀ fz size cs, q = .cells false fz size cs → ∃ fz', o = .cells false fz' size cs) : Kw h₀ (h.put b o) :=
  ⟨(Step.put hq ho x.wf).1, x.pol, x.next, fun k hk => by rw [H.get_put, if_neg (by omega)]; exact x.low k hk, x.ty⟩
theorem Cs.kw {h h' : H} {b : Nat} {rw fz : Bool} {cs : List IV} (c : Cs h b rw fz cs) (w : WF h) (x : Kw h h') : Cs h' b rw fz cs := c.of_get (x.low b (c.lt w))
theorem LR.kw {α : Type} {h h' : H} {es : Nat} {R : α → List IV → Prop} {l : List α} {v : IV} (r : LR h es R l v) (w : WF h) (x : Kw h h') : LR h' es R l v := by
  rcases r with r | ⟨b, off, cs, h1, ⟨fz, c⟩, h3, h4⟩
  · exact .inl r
  · exact .inr ⟨b, off, cs, h1, ⟨fz, Cs.kw c w x⟩, h3, h4⟩
theorem LW.kw {h h' : H} {l : List Int} {v : IV} (r : LW h l v) (w : WF h) (x : Kw h h') : LW h' l v := by
  rcases r with r | ⟨b, fz, h1, c⟩
  · exact .inl (LR.kw r w x)
  · exact .inr ⟨b, fz, h1, Cs.kw c w x⟩
theorem WB.kw {h h' : H} {b : Nat} {n wd f l : IV} {w : Wv} (x : WB h b n wd f l w) (g : WF h) (y : Kw h h') : WB h' b n wd f l w := ⟨Cs.kw x.cs g y, ⟨LR.kw x.wr.names g y, LW.kw x.wr.wides g y, LR.kw x.wr.first g y, LR.kw x.wr.list g y⟩⟩
theorem named4 {h : H} (s : Bs) (hs : s.length ≤ 9223372036854775807) : CL tab4 29 [sv s] h = .ok (.bool (s.all okC && decide (s.length ≤ 256))) h := call1 (A := dS) (a := s) rfl (by unfold namedV; rw [if_pos hs]) h
theorem may4 {h : H} (s : Bs) (hs : s.length ≤ 9223372036854775807) : CL tab4 30 [sv s] h = .ok (.bool (checkM s)) h := call1 (A := dS) (a := s) rfl (by unfold mayV; rw [if_pos hs]) h
theorem aheadW4 {h : H} (a b : Chg) : CL tab4 31 [.agg (chgC a), .agg (chgC b)] h = .ok (.bool (aheadB a b)) h := call2 (A := dC) (B := dC) (a := a) (b := b) rfl rfl h
theorem mnet_step {h : H} {b : Nat} {n wd f l : IV} {w : Wv} (x : WB h b n wd f l w) {i N : Nat} (hi : i < N) {nm fs : Bs} {wi : Int} (e1 : w.names[i]? = some nm) (e2 : w.wides[i]? = some wi) (e3 : w.first[i]? = some fs) (bn : nm.length ≤ 9223372036854775807) (bf : fs.length ≤ 9223372036854775807) {r : CRes} (hr : r ≠ .fail)
    (e : J10 tab4 2 [.ptr b 0, .int .i64 (N : Nat), .int .i64 (i : Nat), .bool (!(netF nm wi fs))] h = r) : J10 tab4 1 [.ptr b 0, .int .i64 (N : Nat), .int .i64 (i : Nat)] h = r := by
  obtain ⟨p1, q1, r1⟩ := LR.str x.wr.names e1
  obtain ⟨p2, q2, r2⟩ := LW.int x.wr.wides e2
  obtain ⟨p3, q3, r3⟩ := LR.str x.wr.first e3
  have hlt : ((i : Nat) : Int) < (N : Nat) := by omega
  have l0 := x.l0
  have l1 := x.l1
  have l2 := x.l2
  have en := named4 (h := h) nm bn
  have ek := may4 (h := h) fs bf
  refine e10_1 ?_ hr
  cases h2 : (nm.all okC && decide (nm.length ≤ 256)) with
  | false =>
    rw [h2] at en
    have hn : netF nm wi fs = false := by
      unfold netF
      rw [Bool.and_comm (decide (nm.length ≤ 256)), h2]; rfl
    rw [hn] at e
    simp only [t10_1, W, WW, ↓reduceIte, reduceCtorEq, Nat.reduceAdd, Int.reduceEq, Int.reduceNe, Int.reduceLT, Int.reduceLE, Int.reduceAdd, Int.reduceSub, Int.reduceMul, Int.reduceNeg, Nat.reduceMul, hlt, l0, q1, r1, en, Bool.not_false, guardK]
    exact e
  | true =>
    rw [h2] at en
    have hN : netF nm wi fs = (checkM fs && decide ((fs.length : Int) = wi)) := by
      unfold netF
      rw [Bool.and_comm (decide (nm.length ≤ 256)), h2, Bool.true_and]
    cases h3 : checkM fs with
    | false =>
      rw [h3] at ek
      have hn : netF nm wi fs = false := by rw [hN, h3]; rfl
      rw [hn] at e
      simp only [t10_1, W, WW, ↓reduceIte, reduceCtorEq, Nat.reduceAdd, Int.reduceEq, Int.reduceNe, Int.reduceLT, Int.reduceLE, Int.reduceAdd, Int.reduceSub, Int.reduceMul, Int.reduceNeg, Nat.reduceMul, hlt, l0, l2, q1, r1, q3, r3, en, ek, Bool.not_true, Bool.not_false, guardK]
      exact e
    | true =>
      rw [h3] at ek
      by_cases h4 : ((fs.length : Nat) : Int) = wi
      · have hn : netF nm wi fs = true := by rw [hN, h3, decide_eq_true h4]; rfl
        rw [hn] at e
        simp only [t10_1, W, WW, ↓reduceIte, reduceCtorEq, Nat.reduceAdd, Int.reduceEq, Int.reduceNe, Int.reduceLT, Int.reduceLE, Int.reduceAdd, Int.reduceSub, Int.reduceMul, Int.reduceNeg, Nat.reduceMul, hlt, l0, l1, l2, q1, r1, q2, r2, q3, r3, en, ek, Bool.not_true, Bool.not_false, guardK, eq_true h4]
        exact e
      · have hn : netF nm wi fs = false := by rw [hN, h3, decide_eq_false h4]; rfl
        rw [hn] at e
        simp only [t10_1, W, WW, ↓reduceIte, reduceCtorEq, Nat.reduceAdd, Int.reduceEq, Int.reduceNe, Int.reduceLT, Int.reduceLE, Int.reduceAdd, Int.reduceSub, Int.reduceMul, Int.reduceNeg, Nat.reduceMul, hlt, l0, l1, l2, q1, r1, q2, r2, q3, r3, en, ek, Bool.not_true, Bool.not_false, guardK, eq_false h4]
        exact e
theorem mchg_step {h : H} (g : WF h) {b : Nat} {n wd f l now : IV} {w : Wv} (x : WB h b n wd f l w) {i N : Nat} {c : Chg} (e1 : w.list[i]? = some c) (hlen : w.list.length ≤ 9223372036854775807) :
    ∃ h' c8, Kw h h' ∧ h.next ≤ c8 ∧ Cs h' c8 true false (chgC c) ∧ ∀ r, r ≠ .fail → J10 tab4 4 [.ptr b 0, .int .i64 (N : Nat), now, .int .i64 (i : Nat), .ptr c8 0, .bool (!(placeF N (prevAt w.list i) c))] h' = r →
    J10 tab4 3 [.ptr b 0, .int .i64 (N : Nat), now, .int .i64 (i : Nat)] h = r := by
  obtain ⟨pb, po, q1, q2, _⟩ := LR.chg x.wr.list e1
  have hil : i < w.list.length := (List.getElem?_eq_some_iff.1 e1).1
  have hlt : ((i : Nat) : Int) < (w.list.length : Nat) := by omega
  obtain ⟨h6, e6, k6, c6, -⟩ := (Kw.refl g).newI (cs := z1) rfl
  obtain ⟨o, e7, c7, _⟩ := c6.st (n := 3) (off := 0) (v := .agg (chgC c)) rfl rfl (by show 0 + 3 ≤ 3; omega)
  have hp : placeL z1 0 (IV.agg (chgC c)).cells = chgC c := rfl
  rw [hp] at c7
  have k7 : Kw h (h6.put h.next o) := by
    obtain ⟨tt, q, _⟩ := c6
    exact k6.put (Nat.le_refl _) q (fun fz size cs hh => by cases hh)
  generalize h6.put h.next o = h7 at e7 c7 k7
  refine ⟨h7, h.next, k7, Nat.le_refl _, c7, fun r hr e => ?_⟩
  have l0 : I.ld0 h7 (.ptr h.next 0) = some (.int .i64 c.time) := by rw [c7.ld0]; rfl
  have l1 : I.ld0 h7 (.ptr h.next 1) = some (.int .i64 c.net) := by rw [c7.ld0]; rfl
  have lA : I.ldA 3 h7 (.ptr h.next 0) = some (.agg (chgC c)) := c7.ldAll rfl
  have x7 := x.kw g k7
  have l3 := x7.l3
  have m3 := x.l3
  have n3 := x.wr.list.len
  refine e10_3 ?_ hr
  by_cases h1 : c.net < 0
  · have hn : placeF N (prevAt w.list i) c = false := by
      have : ¬ 0 ≤ c.net := by omega
      simp [placeF, this]
    rw [hn] at e
    simp only [t10_3, W, WW, ↓reduceIte, reduceCtorEq, Nat.reduceAdd, Int.reduceEq, Int.reduceNe, Int.reduceLT, Int.reduceLE, Int.reduceAdd, Int.reduceSub, Int.reduceMul, Int.reduceNeg, Nat.reduceMul, m3, n3, Int.ofNat_eq_natCast, hlt, q1, q2, e6, e7, l0, l1, h1, guardK]
    exact e
  · have h1' : 0 ≤ c.net := by omega
    by_cases h2 : ((N : Nat) : Int) ≤ c.net
    · have hn : placeF N (prevAt w.list i) c = false := by
        have : ¬ c.net < N := by omega
        simp [placeF, this]
      rw [hn] at e
      simp only [t10_3, W, WW, ↓reduceIte, reduceCtorEq, Nat.reduceAdd, Int.reduceEq, Int.reduceNe, Int.reduceLT, Int.reduceLE, Int.reduceAdd, Int.reduceSub, Int.reduceMul, Int.reduceNeg, Nat.reduceMul, m3, n3, Int.ofNat_eq_natCast, hlt, q1, q2, e6, e7, l0, l1, h1, h2, guardK]
      exact e
    · have h2' : c.net < N := by omega
      by_cases h3 : c.time < 0
      · have hn : placeF N (prevAt w.list i) c = false := by
          have : ¬ 0 ≤ c.time := by omega
          simp [placeF, this]
        rw [hn] at e
        simp only [t10_3, W, WW, ↓reduceIte, reduceCtorEq, Nat.reduceAdd, Int.reduceEq, Int.reduceNe, Int.reduceLT, Int.reduceLE, Int.reduceAdd, Int.reduceSub, Int.reduceMul, Int.reduceNeg, Nat.reduceMul, m3, n3, Int.ofNat_eq_natCast, hlt, q1, q2, e6, e7, l0, l1, h1, h2, h3, guardK]
        exact e
      · have h3' : 0 ≤ c.time := by omega
        by_cases h4 : 4611686018427387903 < c.time
        · have hn : placeF N (prevAt w.list i) c = false := by
            have : ¬ c.time ≤ 4611686018427387903 := by omega
            simp [placeF, this]
          rw [hn] at e
          simp only [t10_3, W, WW, ↓reduceIte, reduceCtorEq, Nat.reduceAdd, Int.reduceEq, Int.reduceNe, Int.reduceLT, Int.reduceLE, Int.reduceAdd, Int.reduceSub, Int.reduceMul, Int.reduceNeg, Nat.reduceMul, m3, n3, Int.ofNat_eq_natCast, hlt, q1, q2, e6, e7, l0, l1, h1, h2, h3, h4, guardK]
          exact e
        · have h4' : c.time ≤ 4611686018427387903 := by omega
          by_cases h5 : i = 0
          · have hn : placeF N (prevAt w.list i) c = true := by simp [placeF, h1', h2', h3', h4', prevAt, h5, prevF]
            have h5' : ¬ (0 : Int) < (i : Nat) := by omega
            rw [hn] at e
            simp only [t10_3, W, WW, ↓reduceIte, reduceCtorEq, Nat.reduceAdd, Int.reduceEq, Int.reduceNe, Int.reduceLT, Int.reduceLE, Int.reduceAdd, Int.reduceSub, Int.reduceMul, Int.reduceNeg, Nat.reduceMul, m3, n3, Int.ofNat_eq_natCast, hlt, q1, q2, e6, e7, l0, l1, h1, h2, h3, h4, h5', guardK]
            exact e
          · have h5' : (0 : Int) < (i : Nat) := by omega
            obtain ⟨d, hd⟩ : ∃ d, w.list[i - 1]? = some d := ⟨w.list[i - 1]'(by omega), List.getElem?_eq_getElem (by omega)⟩
            obtain ⟨qb, qo, q3, q4, _⟩ := LR.chg x7.wr.list hd
            have ws : wr .i64 (((i : Nat) : Int) - 1) = ((i - 1 : Nat) : Int) := by rw [wr_i64 (by omega) (by omega)]; omega
            have ea := aheadW4 (h := h7) d c
            have hn : placeF N (prevAt w.list i) c = aheadB d c := by
              simp [placeF, h1', h2', h3', h4', prevAt, h5, hd, prevF]
            rw [hn] at e
            cases h6 : aheadB d c with
            | true =>
              rw [h6] at e ea
              simp only [t10_3, W, WW, ↓reduceIte, reduceCtorEq, Nat.reduceAdd, Int.reduceEq, Int.reduceNe, Int.reduceLT, Int.reduceLE, Int.reduceAdd, Int.reduceSub, Int.reduceMul, Int.reduceNeg, Nat.reduceMul, m3, n3, Int.ofNat_eq_natCast, hlt, q1, q2, e6, e7, l0, l1, h1, h2, h3, h4, h5', guardK, l3, ws, q3, q4, lA, ea, Bool.not_true]
              exact e
            | false =>
              rw [h6] at e ea
              simp only [t10_3, W, WW, ↓reduceIte, reduceCtorEq, Nat.reduceAdd, Int.reduceEq, Int.reduceNe, Int.reduceLT, Int.reduceLE, Int.reduceAdd, Int.reduceSub, Int.reduceMul, Int.reduceNeg, Nat.reduceMul, m3, n3, Int.ofNat_eq_natCast, hlt, q1, q2, e6, e7, l0, l1, h1, h2, h3, h4, h5', guardK, l3, ws, q3, q4, lA, ea, Bool.not_false]
              exact e
theorem mval_step {hM h : H} (k : Kw hM h) (gM : WF hM) {b : Nat} {n wd f l nowV : IV} {w : Wv} (x : WB hM b n wd f l w) {i N : Nat} (hN : w.wides.length = N) {c : Chg} {now : List Bs} (nw : Now hM h N nowV now) (c0 : 0 ≤ c.net) (cN : c.net < N) {c8 : Nat} (hc8 : hM.next ≤ c8) (cc : Cs h c8 true false (chgC c))
    (hcn : ∀ nb, nowV = .slice nb 0 N 1 → c8 ≠ nb) (hi : i < 9223372036854775807) (bv : c.val.length ≤ 9223372036854775807) :
    (valF w.wides now c = false → J10 tab4 4 [.ptr b 0, .int .i64 (N : Nat), nowV, .int .i64 (i : Nat), .ptr c8 0, .bool false] h = .ok (.bool false) h) ∧
    (valF w.wides now c = true → ∃ h', Kw hM h' ∧ Now hM h' N nowV (now.set c.net.toNat c.val) ∧ ∀ r, r ≠ .fail → J10 tab4 3 [.ptr b 0, .int .i64 (N : Nat), nowV, .int .i64 ((i + 1 : Nat) : Int)] h' = r → J10 tab4 4 [.ptr b 0, .int .i64 (N : Nat), nowV, .int .i64 (i : Nat), .ptr c8 0, .bool false] h = r) := by
  have xh := x.kw gM k
  obtain ⟨m, hm⟩ := Int.eq_ofNat_of_zero_le c0
  have hmN : m < N := by omega
  have hmt : c.net.toNat = m := by omega
  obtain ⟨nl, nw⟩ := nw
  obtain ⟨nb, fz, rfl, hnb, cn⟩ := nw (by omega)
  have l1 : I.ld0 h (.ptr c8 1) = some (.int .i64 (m : Nat)) := by rw [cc.ld0, ← hm]; rfl
  have l2 : I.ld0 h (.ptr c8 2) = some (sv c.val) := by rw [cc.ld0]; rfl
  have w1 := xh.l1
  obtain ⟨wi, hwi⟩ : ∃ wi, w.wides[m]? = some wi := ⟨w.wides[m]'(by omega), List.getElem?_eq_getElem (by omega)⟩
  obtain ⟨pw, qw, rw_⟩ := LW.int xh.wr.wides hwi
  obtain ⟨nv, hnv⟩ : ∃ nv, now[m]? = some nv := ⟨now[m]'(by omega), List.getElem?_eq_getElem (by omega)⟩
  have qn : ixS 1 (.slice nb 0 N 1) (.int .i64 (m : Nat)) = some (.ptr nb m) := by
    have := ixS_at (i := m) (n := N) (b := nb) (es := 1) (k := .i64) hmN
    rw [Nat.mul_one] at this; exact this
  have ln : I.ld0 h (.ptr nb m) = some (sv nv) := by rw [cn.ld0, List.getElem?_map, hnv]; rfl
  have ek := may4 (h := h) c.val bv
  have eV : valF w.wides now c = (checkM c.val && decide ((c.val.length : Int) = wi) && !decide (c.val = nv)) := by
    unfold valF
    rw [hmt, hwi, hnv]
    congr 1
    · congr 1
      apply decide_eq_decide.2
      simp only [Option.some.injEq]
      exact eq_comm
    · congr 1
      apply decide_eq_decide.2
      simp only [Option.some.injEq]
      exact eq_comm
  rw [eV]
  have five : ∀ t r, r ≠ .fail → J10 tab4 5 [.ptr b 0, .int .i64 (N : Nat), .slice nb 0 N 1, .int .i64 (i : Nat), .ptr c8 0, .bool t] h = r → (J10 tab4 5 [.ptr b 0, .int .i64 (N : Nat), .slice nb 0 N 1, .int .i64 (i : Nat), .ptr c8 0, .bool t] h = r) := fun _ _ _ e => e
  have bad5 : J10 tab4 5 [.ptr b 0, .int .i64 (N : Nat), .slice nb 0 N 1, .int .i64 (i : Nat), .ptr c8 0, .bool true] h = .ok (.bool false) h :=
    e10_5 (by simp only [t10_5, W, WW, ↓reduceIte, reduceCtorEq, Nat.reduceAdd, Int.reduceEq, Int.reduceNe, Int.reduceLT, Int.reduceLE, Int.reduceAdd, Int.reduceSub, Int.reduceMul, Int.reduceNeg, Nat.reduceMul]) (by simp)
  cases h1 : checkM c.val with
  | false =>
    rw [h1] at ek
    refine ⟨fun _ => e10_4 ?_ (by simp), fun h => by simp at h⟩
    simp only [t10_4, W, WW, ↓reduceIte, reduceCtorEq, Nat.reduceAdd, Int.reduceEq, Int.reduceNe, Int.reduceLT, Int.reduceLE, Int.reduceAdd, Int.reduceSub, Int.reduceMul, Int.reduceNeg, Nat.reduceMul, l2, ek, Bool.not_false, guardK]
    exact bad5
  | true =>
    rw [h1] at ek
    by_cases h2 : ((c.val.length : Nat) : Int) = wi
    · by_cases h3 : c.val = nv
      · refine ⟨fun _ => e10_4 ?_ (by simp), fun h => by simp [h3] at h⟩
        simp only [t10_4, W, WW, ↓reduceIte, reduceCtorEq, Nat.reduceAdd, Int.reduceEq, Int.reduceNe, Int.reduceLT, Int.reduceLE, Int.reduceAdd, Int.reduceSub, Int.reduceMul, Int.reduceNeg, Nat.reduceMul, l1, l2, ek, Bool.not_true, guardK, w1, qw, rw_, eq_true h2, qn, ln, eq_true h3]
        exact bad5
      · refine ⟨fun h => by simp [h2, h3] at h, fun _ => ?_⟩
        obtain ⟨o, s1, s2, s3⟩ := cn.st (n := 1) (off := m) (v := sv c.val) rfl rfl (by rw [List.length_map]; omega)
        have hp : placeL (now.map sv) m (sv c.val).cells = (now.set m c.val).map sv := by
          show (now.map sv).set m (sv c.val) = _
          rw [List.map_set]
        rw [hp] at s2
        have k' : Kw hM (h.put nb o) := by
          obtain ⟨tt, q, _⟩ := cn
          exact k.put hnb q (fun fz size cs hh => by cases hh)
        refine ⟨h.put nb o, k', ⟨by rw [List.length_set]; exact nl, fun _ => ⟨nb, fz, rfl, hnb, by rw [hmt]; exact s2⟩⟩, fun r hr e => e10_4 ?_ hr⟩
        have w2 := wr_succ hi
        have e5 : J10 tab4 5 [.ptr b 0, .int .i64 (N : Nat), .slice nb 0 N 1, .int .i64 (i : Nat), .ptr c8 0, .bool false] h = r := by
          refine e10_5 ?_ hr
          simp only [t10_5, W, WW, ↓reduceIte, reduceCtorEq, Nat.reduceAdd, Int.reduceEq, Int.reduceNe, Int.reduceLT, Int.reduceLE, Int.reduceAdd, Int.reduceSub, Int.reduceMul, Int.reduceNeg, Nat.reduceMul, l1, l2, qn, s1, w2]
          exact e
        simp only [t10_4, W, WW, ↓reduceIte, reduceCtorEq, Nat.reduceAdd, Int.reduceEq, Int.reduceNe, Int.reduceLT, Int.reduceLE, Int.reduceAdd, Int.reduceSub, Int.reduceMul, Int.reduceNeg, Nat.reduceMul, l1, l2, ek, Bool.not_true, guardK, w1, qw, rw_, eq_true h2, qn, ln, eq_false h3]
        exact e5
    · refine ⟨fun _ => e10_4 ?_ (by simp), fun h => by simp [h2] at h⟩
      simp only [t10_4, W, WW, ↓reduceIte, reduceCtorEq, Nat.reduceAdd, Int.reduceEq, Int.reduceNe, Int.reduceLT, Int.reduceLE, Int.reduceAdd, Int.reduceSub, Int.reduceMul, Int.reduceNeg, Nat.reduceMul, l1, l2, ek, Bool.not_true, guardK, w1, qw, rw_, eq_false h2]
      exact bad5
theorem mlist_loop {hM : H} (gM : WF hM) {b : Nat} {n wd f l nowV : IV} {w : Wv} (x : WB hM b n wd f l w) {N : Nat} (hN : w.wides.length = N) (hlen : w.list.length ≤ 9223372036854775807) (hbv : ∀ c ∈ w.list, c.val.length ≤ 9223372036854775807) : ∀ (k i : Nat) (h : H) (now : List Bs), i + k = w.list.length → Kw hM h → Now hM h N nowV now →
    ∃ h', J10 tab4 3 [.ptr b 0, .int .i64 (N : Nat), nowV, .int .i64 (i : Nat)] h = .ok (.bool (listF N w.wides now (prevAt w.list i) (w.list.drop i))) h' ∧ Kw hM h' := by
  intro k
  induction k with
  | zero =>
    intro i h now hi kk nw
    rw [List.drop_of_length_le (by omega)]
    refine ⟨h, e10_3 ?_ (by simp), kk⟩
    have hlt : ¬ ((i : Nat) : Int) < (w.list.length : Nat) := by omega
    have m3 := (x.kw gM kk).l3
    have n3 := (x.kw gM kk).wr.list.len
    simp only [t10_3, W, WW, ↓reduceIte, reduceCtorEq, Nat.reduceAdd, Int.reduceEq, Int.reduceNe, Int.reduceLT, Int.reduceLE, Int.reduceAdd, Int.reduceSub, Int.reduceMul, Int.reduceNeg, Nat.reduceMul, m3, n3, Int.ofNat_eq_natCast, hlt]
    rfl
  | succ k ih =>
    intro i h now hi kk nw
    have hil : i < w.list.length := by omega
    have hd := List.drop_eq_getElem_cons hil
    have hc : w.list[i]? = some w.list[i] := List.getElem?_eq_getElem hil
    generalize w.list[i] = c at hd hc
    rw [hd]
    have xh := x.kw gM kk
    have bad4 : ∀ (h' : H) (c8 : Nat), J10 tab4 4 [.ptr b 0, .int .i64 (N : Nat), nowV, .int .i64 (i : Nat), .ptr c8 0, .bool true] h' = .ok (.bool false) h' := fun h' c8 =>
      e10_4 (by simp only [t10_4, W, WW, ↓reduceIte, reduceCtorEq, Nat.reduceAdd, Int.reduceEq, Int.reduceNe, Int.reduceLT, Int.reduceLE, Int.reduceAdd, Int.reduceSub, Int.reduceMul, Int.reduceNeg, Nat.reduceMul]) (by simp)
    obtain ⟨h1, c8, k1, hc8, cc, step⟩ := mchg_step kk.wf xh (now := nowV) (N := N) hc (by omega)
    have k2 := kk.trans k1
    have hc8' : hM.next ≤ c8 := Nat.le_trans kk.next hc8
    cases hp : placeF N (prevAt w.list i) c with
    | false =>
      have hF : listF N w.wides now (prevAt w.list i) (c :: w.list.drop (i + 1)) = false := by simp [listF, hp]
      rw [hF]
      rw [hp] at step
      exact ⟨h1, step _ (by simp) (bad4 h1 c8), k2⟩
    | true =>
      rw [hp] at step
      have hp' := hp
      simp only [placeF, Bool.and_eq_true, decide_eq_true_eq] at hp'
      obtain ⟨⟨⟨⟨c0, cN⟩, _⟩, _⟩, _⟩ := hp'
      have nw1 : Now hM h1 N nowV now := ⟨nw.1, fun hz => by
        obtain ⟨nb, fz, e1, e2, e3⟩ := nw.2 hz
        exact ⟨nb, fz, e1, e2, Cs.kw e3 kk.wf k1⟩⟩
      have hne : ∀ nb, nowV = .slice nb 0 N 1 → c8 ≠ nb := fun nb hv => by
        obtain ⟨nb', fz, e1, e2, e3⟩ := nw.2 (by omega)
        rw [hv] at e1
        injection e1 with e1
        subst e1
        have := e3.lt kk.wf
        omega
      obtain ⟨v1, v2⟩ := mval_step k2 gM x hN nw1 c0 cN hc8' cc hne (i := i) (by omega) (hbv c (List.mem_of_getElem? hc))
      cases hv : valF w.wides now c with
      | false =>
        have hF : listF N w.wides now (prevAt w.list i) (c :: w.list.drop (i + 1)) = false := by simp [listF, hp, hv]
        rw [hF]
        exact ⟨h1, step _ (by simp) (v1 hv), k2⟩
      | true =>
        obtain ⟨h2, k3, nw2, go⟩ := v2 hv
        obtain ⟨h', e, k4⟩ := ih (i + 1) h2 _ (by omega) k3 nw2
        have hF : listF N w.wides now (prevAt w.list i) (c :: w.list.drop (i + 1)) = listF N w.wides (now.set c.net.toNat c.val) (prevAt w.list (i + 1)) (w.list.drop (i + 1)) := by
          have hpr : prevAt w.list (i + 1) = some c := by
            unfold prevAt
            rw [if_neg (by omega), Nat.add_sub_cancel]; exact hc
          rw [hpr]
          simp [listF, hp, hv]
        rw [hF]
        exact ⟨h', step _ (by simp) (go _ (by simp) e), k4⟩
theorem mnets_loop {h : H} {b : Nat} {n wd f l : IV} {w : Wv} (x : WB h b n wd f l w) {N : Nat} (h1 : w.names.length = N) (h2 : w.wides.length = N) (h3 : w.first.length = N) (hN : N ≤ 4096) (bn : ∀ s ∈ w.names, s.length ≤ 9223372036854775807) (bf : ∀ s ∈ w.first, s.length ≤ 9223372036854775807) : ∀ (k i : Nat), i + k = N →
    (netsF (w.names.drop i) (w.wides.drop i) (w.first.drop i) = false → J10 tab4 1 [.ptr b 0, .int .i64 (N : Nat), .int .i64 (i : Nat)] h = .ok (.bool false) h) ∧
    (netsF (w.names.drop i) (w.wides.drop i) (w.first.drop i) = true → ∀ r, r ≠ .fail → J10 tab4 1 [.ptr b 0, .int .i64 (N : Nat), .int .i64 (N : Nat)] h = r → J10 tab4 1 [.ptr b 0, .int .i64 (N : Nat), .int .i64 (i : Nat)] h = r) := by
  intro k
  induction k with
  | zero =>
    intro i hi
    have hi : i = N := by omega
    subst hi
    rw [List.drop_of_length_le (by omega), List.drop_of_length_le (by omega), List.drop_of_length_le (by omega)]
    exact ⟨fun h => by simp [netsF] at h, fun _ r _ e => e⟩
  | succ k ih =>
    intro i hi
    have d1 := List.drop_eq_getElem_cons (l := w.names) (i := i) (by omega)
    have d2 := List.drop_eq_getElem_cons (l := w.wides) (i := i) (by omega)
    have d3 := List.drop_eq_getElem_cons (l := w.first) (i := i) (by omega)
    have e1 : w.names[i]? = some (w.names[i]'(by omega)) := List.getElem?_eq_getElem _
    have e2 : w.wides[i]? = some (w.wides[i]'(by omega)) := List.getElem?_eq_getElem _
    have e3 : w.first[i]? = some (w.first[i]'(by omega)) := List.getElem?_eq_getElem _
    generalize w.names[i]'(by omega) = nm at d1 e1
    generalize w.wides[i]'(by omega) = wi at d2 e2
    generalize w.first[i]'(by omega) = fs at d3 e3
    rw [d1, d2, d3]
    simp only [netsF]
    obtain ⟨i1, i2⟩ := ih (i + 1) (by omega)
    cases hn : netF nm wi fs with
    | false =>
      refine ⟨fun _ => mnet_step x (by omega) e1 e2 e3 (bn _ (List.mem_of_getElem? e1)) (bf _ (List.mem_of_getElem? e3)) (by simp) ?_, fun h => by simp at h⟩
      rw [hn]
      exact e10_2 (by simp only [t10_2, W, WW, ↓reduceIte, reduceCtorEq, Nat.reduceAdd, Int.reduceEq, Int.reduceNe, Int.reduceLT, Int.reduceLE, Int.reduceAdd, Int.reduceSub, Int.reduceMul, Int.reduceNeg, Nat.reduceMul, Bool.not_false]) (by simp)
    | true =>
      rw [Bool.true_and]
      have two : ∀ r, r ≠ .fail → J10 tab4 1 [.ptr b 0, .int .i64 (N : Nat), .int .i64 ((i + 1 : Nat) : Int)] h = r → J10 tab4 1 [.ptr b 0, .int .i64 (N : Nat), .int .i64 (i : Nat)] h = r := by
        intro r hr e
        refine mnet_step x (by omega) e1 e2 e3 (bn _ (List.mem_of_getElem? e1)) (bf _ (List.mem_of_getElem? e3)) hr ?_
        rw [hn]
        refine e10_2 ?_ hr
        have w1 := wr_succ (show i < 9223372036854775807 by omega)
        simp only [t10_2, W, WW, ↓reduceIte, reduceCtorEq, Nat.reduceAdd, Int.reduceEq, Int.reduceNe, Int.reduceLT, Int.reduceLE, Int.reduceAdd, Int.reduceSub, Int.reduceMul, Int.reduceNeg, Nat.reduceMul, Bool.not_true, w1]
        exact e
      exact ⟨fun h => two _ (by simp) (i1 h), fun h r hr e => two r hr (i2 h r hr e)⟩
structure WS (w : Wv) : Prop where
  names : ∀ s ∈ w.names, s.length ≤ 9223372036854775807
  first : ∀ s ∈ w.first, s.length ≤ 9223372036854775807
  vals : ∀ c ∈ w.list, c.val.length ≤ 9223372036854775807
theorem wavesMay {h : H} (g : Gd h) {n wd f l : IV} {w : Wv} (r0 : WR h n wd f l w) (hl : w.list.length ≤ 9223372036854775807) (ok : WS w) : ∃ h', CL tab4 10 [.agg [n, wd, f, l]] h = .ok (.bool (waveF w)) h' ∧ Ky h h' := by
  have r : WR (h.setPol false) n wd f l w := ⟨r0.names, r0.wides, r0.first, r0.list⟩
  have wf0 : WF (h.setPol false) := g.wf
  have fin : ∀ (v : Bool) (hf : H), t10_0 (CL tab4) (J10 tab4) (.agg [n, wd, f, l]) (h.setPol false) = .ok (.bool v) hf → Kw (h.setPol false) hf → ∃ h', CL tab4 10 [.agg [n, wd, f, l]] h = .ok (.bool v) h' ∧ Ky h h' := by
    intro v hf e k
    have e2 := c10 good4.step rfl rfl g e (by simp)
    rw [CRes.setPol] at e2
    exact ⟨_, e2, (call_ok good4.step e2 g).1, k.next, fun b hb => k.low b hb, fun b hb => k.ty b hb⟩
  obtain ⟨h2, e2, k2, c2, -⟩ := (Kw.refl wf0).newI (cs := [n, wd, f, l]) r.scalar
  have x : WB h2 (h.setPol false).next n wd f l w := ⟨c2, ⟨LR.kw r.names wf0 k2, LW.kw r.wides wf0 k2, LR.kw r.first wf0 k2, LR.kw r.list wf0 k2⟩⟩
  have l0 := x.l0
  have l1 := x.l1
  have l2 := x.l2
  have n0 := x.wr.names.len
  have n1 := x.wr.wides.len
  have n2 := x.wr.first.len
  by_cases h1 : (4096 : Int) < (w.names.length : Nat)
  · have hF : waveF w = false := by
      have : ¬ w.names.length ≤ 4096 := by omega
      simp [waveF, this]
    rw [hF]
    refine fin _ h2 ?_ k2
    simp only [t10_0, IV.cells, e2, W, WW, ↓reduceIte, reduceCtorEq, Nat.reduceAdd, Int.reduceEq, Int.reduceNe, Int.reduceLT, Int.reduceLE, Int.reduceAdd, Int.reduceSub, Int.reduceMul, Int.reduceNeg, Nat.reduceMul, l0, l1, l2, n0, h1, Int.ofNat_eq_natCast]
  have h1' : w.names.length ≤ 4096 := by omega
  by_cases h2' : ((w.wides.length : Nat) : Int) = (w.names.length : Nat)
  rotate_left
  · have hF : waveF w = false := by
      have : netsF w.names w.wides w.first = false := by
        cases hn : netsF w.names w.wides w.first with
        | false => rfl
        | true => have := netsF_len hn; omega
      simp [waveF, this]
    rw [hF]
    refine fin _ h2 ?_ k2
    simp only [t10_0, IV.cells, e2, W, WW, ↓reduceIte, reduceCtorEq, Nat.reduceAdd, Int.reduceEq, Int.reduceNe, Int.reduceLT, Int.reduceLE, Int.reduceAdd, Int.reduceSub, Int.reduceMul, Int.reduceNeg, Nat.reduceMul, l0, l1, l2, n0, n1, h1, Int.ofNat_eq_natCast, eq_false h2']
  by_cases h3' : ((w.first.length : Nat) : Int) = (w.names.length : Nat)
  rotate_left
  · have hF : waveF w = false := by
      have : netsF w.names w.wides w.first = false := by
        cases hn : netsF w.names w.wides w.first with
        | false => rfl
        | true => have := netsF_len hn; omega
      simp [waveF, this]
    rw [hF]
    refine fin _ h2 ?_ k2
    simp only [t10_0, IV.cells, e2, W, WW, ↓reduceIte, reduceCtorEq, Nat.reduceAdd, Int.reduceEq, Int.reduceNe, Int.reduceLT, Int.reduceLE, Int.reduceAdd, Int.reduceSub, Int.reduceMul, Int.reduceNeg, Nat.reduceMul, l0, l1, l2, n0, n1, n2, h1, Int.ofNat_eq_natCast, eq_true h2', eq_false h3']
  have start : ∀ r : CRes, J10 tab4 1 [.ptr (h.setPol false).next 0, .int .i64 (w.names.length : Nat), .int .i64 ((0 : Nat) : Int)] h2 = r → t10_0 (CL tab4) (J10 tab4) (.agg [n, wd, f, l]) (h.setPol false) = r := by
    intro r e
    simp only [t10_0, IV.cells, e2, W, WW, ↓reduceIte, reduceCtorEq, Nat.reduceAdd, Int.reduceEq, Int.reduceNe, Int.reduceLT, Int.reduceLE, Int.reduceAdd, Int.reduceSub, Int.reduceMul, Int.reduceNeg, Nat.reduceMul, l0, l1, l2, n0, n1, n2, h1, Int.ofNat_eq_natCast, eq_true h2', eq_true h3']
    exact e
  obtain ⟨i1, i2⟩ := mnets_loop x rfl (by omega) (by omega) h1' ok.names ok.first w.names.length 0 (by omega)
  simp only [List.drop_zero] at i1 i2
  cases hn : netsF w.names w.wides w.first with
  | false =>
    have hF : waveF w = false := by simp [waveF, hn]
    rw [hF]
    exact fin _ h2 (start _ (i1 hn)) k2
  | true =>
    have hF : waveF w = listF w.names.length w.wides w.first none w.list := by simp [waveF, hn, h1']
    rw [hF]
    have hpol : h2.pol = false := k2.pol
    obtain ⟨v', h4, ea, k4, nw⟩ : ∃ v' h4, appK 1 16 h2 .nilSlice f = some (v', h4) ∧ Kw h2 h4 ∧ Now h2 h4 w.names.length v' w.first := by
      obtain ⟨cs, es, ch, hcl⟩ := x.wr.first.source
      have hX := Ch.texts ch
      subst hX
      by_cases hz : w.first.length = 0
      · refine ⟨.nilSlice, h2, ?_, Kw.refl k2.wf, by omega, fun hh => by omega⟩
        simp only [appK, es, allScalar_sv, Bool.true_eq_false, if_false, hz, if_true]
      · refine ⟨.slice h2.next 0 w.first.length 1, h2.push (.cells true false (w.first.map sv).length (T.arr (w.first.map sv))), ?_, (Kw.refl k2.wf).push _, by omega, fun _ => ⟨h2.next, false, by congr 1; omega, Nat.le_refl _, Cs.push (h := h2) (rw := true) (fz := false) (w.first.map sv)⟩⟩
        simp only [appK, es, allScalar_sv, Bool.true_eq_false, if_false, if_neg hz, hpol, Bool.not_false]
        rw [if_pos (by omega)]
    obtain ⟨h', e, k5⟩ := mlist_loop k2.wf x (N := w.names.length) (by omega) hl ok.vals w.list.length 0 h4 w.first (by omega) k4 nw
    rw [List.drop_zero] at e
    refine fin _ h' (start _ (i2 hn _ (by simp) ?_)) (k2.trans k5)
    refine e10_1 ?_ (by simp)
    simp only [t10_1, W, WW, ↓reduceIte, reduceCtorEq, Nat.reduceAdd, Int.reduceEq, Int.reduceNe, Int.reduceLT, Int.reduceLE, Int.reduceAdd, Int.reduceSub, Int.reduceMul, Int.reduceNeg, Nat.reduceMul, Int.lt_irrefl, l2, ea]
    exact e
theorem lit_ky {es : Nat} {z : List IV} {vs : List IV} {h : H} (g : Gd h) (hz : z.length = es) (hv : ∀ v ∈ vs, v.cells.length = es) (hs : allScalar (cellsOf vs) = true) :
    ∃ h', bslK false es z vs.length (partsFrom vs 0) h = some (.slice h.next 0 vs.length es, h') ∧ Ky h h' ∧ Cs h' h.next false true (cellsOf vs) ∧ h'.next = h.next + 1 := by
  refine ⟨_, bslK_all hz hv hs h, (Ky.refl g).push _, ?_, rfl⟩
  rw [g.pol]; exact Cs.push _
theorem litW_ky {es : Nat} {z : List IV} {vs : List IV} {h : H} (g : Gd h) (hz : z.length = es) (hv : ∀ v ∈ vs, v.cells.length = es) (hs : allScalar (cellsOf vs) = true) :
    ∃ h', bslK true es z vs.length (partsFrom vs 0) h = some (.slice h.next 0 vs.length es, h') ∧ Ky h h' ∧ Cs h' h.next true false (cellsOf vs) ∧ h'.next = h.next + 1 := by
  refine ⟨_, bslK_all hz hv hs h, (Ky.refl g).push _, ?_, rfl⟩
  rw [g.pol]; exact Cs.push _
theorem I.Cs.ne {h : H} {q b : Nat} {rw fz fz' : Bool} {cs cs' : List IV} (c : Cs h q rw fz cs) (d : Cs h b (!rw) fz' cs') : q ≠ b := by
  rintro rfl
  obtain ⟨t, q1, _⟩ := c
  obtain ⟨t', q2, _⟩ := d
  rw [q1] at q2
  injection q2 with q2
  injection q2 with q2
  cases rw <;> cases q2
theorem I.GLk.of_put {h₀ h : H} {b : Nat} {o : I.Obj} {es : Nat} {cs ds : List IV} {fz : Bool} {s : IV} (gl : GLk h₀ h es cs s) (d : Cs h b true fz ds) : GLk h₀ (h.put b o) es cs s := by
  rcases gl with h1 | ⟨b', k, h1, c, h3, h4⟩
  · exact .inl h1
  · exact .inr ⟨b', k, h1, c.of_put (c.ne d), h3, h4⟩
theorem I.LR.of_put {α : Type} {R : α → List IV → Prop} {h : H} {b : Nat} {o : I.Obj} {es : Nat} {l : List α} {v : IV} (r : LR h es R l v) {fz : Bool} {ds : List IV} (d : Cs h b true fz ds) : LR (h.put b o) es R l v := by
  rcases r with r | ⟨b', off, cs, h1, ⟨fz', c⟩, h3, h4⟩
  · exact .inl r
  · exact .inr ⟨b', off, cs, h1, ⟨fz', c.of_put (c.ne d)⟩, h3, h4⟩
theorem I.Ky.st {h₀ h : H} (x : Ky h₀ h) {b : Nat} {fz : Bool} {cs : List IV} (c : Cs h b true fz cs) (hb : h₀.next ≤ b) {n off : Nat} {v : IV} (hv : v.cells.length = n) (hs : allScalar v.cells = true) (hle : off + n ≤ cs.length) :
    ∃ o, stA n h (.ptr b off) v = some (h.put b o) ∧ Ky h₀ (h.put b o) ∧ Cs (h.put b o) b true fz (placeL cs off v.cells) := by
  obtain ⟨o, e, c', _⟩ := c.st hv hs hle
  obtain ⟨t, q, _⟩ := c
  exact ⟨o, e, x.put hb q (fun _ _ _ hh => by cases hh), c'⟩
theorem appK_keep {h h' : H} (w : WF h) {es bytes : Nat} {cs : List IV} {s y s' : IV} (gl : GL h es cs s) (e : appK es bytes h s y = some (s', h')) {b : Nat} {fz : Bool} {ds : List IV} (d : Cs h b true fz ds) : Cs h' b true fz ds := by
  refine d.of_get ?_
  unfold appK at e
  split at e
  · split at e
    · cases e
    · rcases gl with ⟨q1, rfl⟩ | ⟨b', k, rfl, c, q3⟩
      · simp only at e
        split at e
        · injection e with e; injection e with _ e; subst e; rfl
        · split at e
          · injection e with e; injection e with _ e; subst e
            rw [H.get_push, if_neg (by have := d.lt w; omega)]
          · cases e
      · have hne := I.Cs.ne c d
        obtain ⟨t, q5, q6⟩ := c
        simp only [q5, ne_eq, not_true_eq_false, if_false] at e
        split at e
        · injection e with e; injection e with _ e; subst e; rfl
        · split at e
          · injection e with e; injection e with _ e; subst e
            rw [H.get_push, if_neg (by show ¬ b = h.next; have := d.lt w; omega), H.get_put, if_neg (Ne.symm hne)]
          · cases e
  · cases e
def flC (l : List Chg) : List IV := (l.map chgC).flatten
theorem flC_snoc (l : List Chg) (c : Chg) : flC (l ++ [c]) = flC l ++ chgC c := by simp [flC]
theorem flC_len : ∀ l : List Chg, (flC l).length = 3 * l.length
  | [] => rfl
  | c :: l => by
    have := flC_len l
    simp only [flC, List.map_cons, List.flatten_cons, List.length_append, List.length_cons] at this ⊢
    rw [this]
    show 3 + _ = _
    omega
theorem flC_ch : ∀ l : List Chg, Ch RC 3 l (flC l)
  | [] => rfl
  | c :: l => ⟨chgC c, flC l, rfl, rfl, rfl, flC_ch l⟩
def splitL (c : UInt8) : Bs → List Bs
  | [] => [[]]
  | x :: l => if x = c then [] :: splitL c l else match splitL c l with
    | [] => [[x]]
    | p :: r => (x :: p) :: r
theorem splitL_cut (c : UInt8) : ∀ l : Bs, splitL c l = if (cutL c l).2.2 = true then (cutL c l).1 :: splitL c (cutL c l).2.1 else [l]
  | [] => rfl
  | x :: l => by
    rw [show splitL c (x :: l) = (if x = c then [] :: splitL c l else match splitL c l with | [] => [[x]] | p :: r => (x :: p) :: r) from rfl, show cutL c (x :: l) = if x = c then ([], l, true) else (x :: (cutL c l).1, (cutL c l).2) from rfl]
    by_cases h : x = c
    · rw [if_pos h, if_pos h]; rfl
    · rw [if_neg h, if_neg h, splitL_cut c l]
      by_cases h2 : (cutL c l).2.2 = true
      · rw [if_pos h2, if_pos h2]
      · rw [if_neg h2, if_neg h2]
theorem splitL_ne (c : UInt8) (l : Bs) : splitL c l ≠ [] := by
  rw [splitL_cut]
  split <;> simp
theorem splitL_len (c : UInt8) : ∀ l : Bs, (splitL c l).length ≤ l.length + 1
  | [] => Nat.le_refl _
  | x :: l => by
    have := splitL_len c l
    unfold splitL
    split
    · simp only [List.length_cons]; omega
    · split <;> rename_i e <;> rw [e] at this <;> simp only [List.length_cons, List.length_nil] at this ⊢ <;> omega
theorem splitL_mem (c : UInt8) : ∀ (l p : Bs), p ∈ splitL c l → p.length ≤ l.length
  | [], p, h => by
    simp [splitL] at h
    subst h; simp
  | x :: l, p, h => by
    unfold splitL at h
    split at h
    · rcases List.mem_cons.1 h with rfl | h
      · simp
      · have := splitL_mem c l p h
        simp only [List.length_cons]; omega
    · split at h
      · simp only [List.mem_singleton] at h
        subst h; simp
      · rename_i q r e
        rcases List.mem_cons.1 h with rfl | h
        · have := splitL_mem c l q (by rw [e]; exact List.mem_cons_self ..)
          simp only [List.length_cons]; omega
        · have := splitL_mem c l p (by rw [e]; exact List.mem_cons_of_mem _ h)
          simp only [List.length_cons]; omega
theorem drop_mid (l a b : Bs) (c : UInt8) (e : l = a ++ c :: b) : l.drop (a.length + 1) = b := by
  rw [e, show a.length + 1 = (a ++ [c]).length by simp, show a ++ c :: b = (a ++ [c]) ++ b by simp, List.drop_left]
theorem count_split (c : UInt8) : ∀ (n : Nat) (l : Bs), l.length ≤ n → Lib.count l [c] + 1 = (splitL c l).length := by
  intro n
  induction n with
  | zero =>
    intro l h
    have : l = [] := List.eq_nil_of_length_eq_zero (by omega)
    subst this
    rw [Lib.count_miss rfl]; rfl
  | succ n ih =>
    intro l h
    have hi := index_one c l
    rw [splitL_cut]
    by_cases h2 : (cutL c l).2.2 = true
    · rw [if_pos h2] at hi ⊢
      have e := cutL_true c l h2
      have hl := congrArg List.length e
      rw [List.length_append, List.length_cons] at hl
      rw [Lib.count_hit (by simp) hi, show [c].length = 1 from rfl, drop_mid l _ _ c e, List.length_cons, ← ih _ (by omega)]
      omega
    · rw [if_neg h2] at hi ⊢
      rw [Lib.count_miss hi]; rfl
theorem mks_txt {h : H} (g : Gd h) (n : Nat) (hn : n ≤ 4294967296) : ∃ h', mksK 1 16 [.str ⟨0, 0⟩] h (.int .i64 (n : Nat)) (.int .i64 (n : Nat)) = some (.slice h.next 0 n 1, h') ∧ Ky h h' ∧ Cs h' h.next true false ((List.replicate n ([] : Bs)).map sv) ∧ h'.next = h.next + 1 := by
  refine ⟨_, ?_, (Ky.refl g).push (.cells true false (n * 1) (T.arr (repCells [.str ⟨0, 0⟩] n))), ?_, rfl⟩
  · simp only [mksK]
    rw [if_pos ⟨by omega, by omega, by omega, by omega⟩]
    simp
  · have := Cs.push (h := h) (rw := true) (fz := false) ((List.replicate n ([] : Bs)).map sv)
    have e : (List.replicate n ([] : Bs)).map sv = repCells [.str ⟨0, 0⟩] n := by rw [repCells_one, List.map_replicate]; rfl
    rw [e] at this ⊢
    have hl : (repCells [IV.str ⟨0, 0⟩] n).length = n * 1 := by rw [repCells_one]; simp
    rw [hl] at this
    exact this
theorem idx3 {h : H} (a b : Bs) (ha : a.length < 4294967281) : CL tab3 70 [sv a, sv b] h = .ok (.int .i64 (Lib.index a b)) h := call2 (A := dS) (B := dS) rfl (by simp only [idxF, ha, if_true]) h
theorem cnt3 {h : H} (a b : Bs) (ha : a.length < 4294967281) (hb : b ≠ []) : CL tab3 49 [sv a, sv b] h = .ok (.int .i64 (Lib.count a b : Nat)) h := call2 (A := dS) (B := dS) rfl (by unfold cntF; rw [if_pos ⟨ha, hb⟩]) h
theorem index3 {h : H} (g : Gd h) (a b : Bs) (ha : a.length < 4294967281) : CL tab3 50 [sv a, sv b] h = .ok (.int .i64 (Lib.index a b)) h := by
  refine c50 good3.step rfl rfl g ?_ (by simp)
  simp only [t50_0, idx3 a b ha, W, WW, ↓reduceIte, reduceCtorEq, Nat.reduceAdd, Int.reduceEq, Int.reduceNe, Int.reduceLT, Int.reduceLE, Int.reduceAdd, Int.reduceSub, Int.reduceMul, Int.reduceNeg, Nat.reduceMul]
theorem set_txt (done : List Bs) (k : Nat) (r : Bs) : ((done ++ List.replicate (k + 1) []).map sv).set done.length (sv r) = ((done ++ [r]) ++ List.replicate k []).map sv := by
  rw [List.map_append, List.set_append_right _ _ (by simp), List.length_map, Nat.sub_self, List.replicate_succ, List.map_cons, List.set_cons_zero, List.append_assoc, List.map_append]
  rfl
theorem split_loop {h₀ : H} (c : UInt8) {b N : Nat} (hb : h₀.next ≤ b) (hN : N ≤ 4294967296) : ∀ (k : Nat) (h : H) (r : Bs) (done : List Bs), (splitL c r).length = k + 1 → done.length + k + 1 = N → r.length < 4294967281 → Ky h₀ h → Cs h b true false ((done ++ List.replicate (k + 1) []).map sv) →
    ∃ h', J39 tab3 3 [sv r, sv [c], .int .i64 0, .int .i64 ((N - 1 : Nat) : Int), .slice b 0 N 1, .int .i64 (done.length : Nat)] h = .ok (.slice b 0 N 1) h' ∧ Ky h₀ h' ∧ Cs h' b true false ((done ++ splitL c r).map sv) := by
  intro k
  induction k with
  | zero =>
    intro h r done hk hi hr ky cs
    have hlt : ¬ ((done.length : Nat) : Int) < ((N - 1 : Nat) : Int) := by omega
    have h1 : splitL c r = [r] := by
      have := splitL_cut c r
      split at this
      · rw [this, List.length_cons] at hk
        exact absurd (List.eq_nil_of_length_eq_zero (Nat.succ.inj hk)) (splitL_ne c _)
      · exact this
    have ix := ixS_byte (b := b) (n := N) (i := done.length) (k := .i64) (by omega)
    obtain ⟨o, es, k1, d1⟩ := ky.st cs hb (n := 1) (off := done.length) (v := sv r) rfl rfl (by simp)
    have hp : placeL ((done ++ List.replicate (0 + 1) []).map sv) done.length (sv r).cells = (done ++ [r]).map sv := by
      have := set_txt done 0 r
      rw [List.replicate_zero, List.append_nil] at this
      exact this
    rw [hp] at d1
    refine ⟨_, e39_3 ?_ (by simp), k1, by rw [h1]; exact d1⟩
    have hw : wr .i64 (((done.length : Nat) : Int) + 1) = ((N : Nat) : Int) := by rw [wr_i64 (by omega) (by omega)]; omega
    have sl := slcS_to (es := 1) (b := b) (off := 0) (len := N) (j := .i64) (k := N) (Nat.le_refl _)
    simp only [t39_3, W, WW, ↓reduceIte, reduceCtorEq, Nat.reduceAdd, Int.reduceEq, Int.reduceNe, Int.reduceLT, Int.reduceLE, Int.reduceAdd, Int.reduceSub, Int.reduceMul, Int.reduceNeg, Nat.reduceMul, hlt]
    refine e39_2 ?_ (by simp)
    simp only [t39_2, W, WW, ↓reduceIte, reduceCtorEq, Nat.reduceAdd, Int.reduceEq, Int.reduceNe, Int.reduceLT, Int.reduceLE, Int.reduceAdd, Int.reduceSub, Int.reduceMul, Int.reduceNeg, Nat.reduceMul, ix, es, hw, sl]
  | succ k ih =>
    intro h r done hk hi hr ky cs
    have hlt : ((done.length : Nat) : Int) < ((N - 1 : Nat) : Int) := by omega
    have hfound : (cutL c r).2.2 = true := by
      cases hf : (cutL c r).2.2 with
      | true => rfl
      | false =>
        rw [splitL_cut, hf] at hk
        simp at hk
    have hsp := splitL_cut c r
    rw [if_pos hfound] at hsp
    have e := cutL_true c r hfound
    have hl := congrArg List.length e
    rw [List.length_append, List.length_cons] at hl
    have hi0 := index_one c r
    rw [if_pos hfound] at hi0
    have ei := index3 ky.gd r [c] hr
    rw [hi0] at ei
    have ix := ixS_byte (b := b) (n := N) (i := done.length) (k := .i64) (by omega)
    have ht : r.take (cutL c r).1.length = (cutL c r).1 := by
      have : ∀ a b : Bs, r = a ++ c :: b → r.take a.length = a := fun a b e => by rw [e, List.take_left]
      exact this _ _ e
    have hd := drop_mid r _ _ c e
    generalize (cutL c r).1 = p at *
    generalize (cutL c r).2.1 = q at *
    obtain ⟨o, es, k1, d1⟩ := ky.st cs hb (n := 1) (off := done.length) (v := sv p) rfl rfl (by simp)
    have hp : placeL ((done ++ List.replicate (k + 1 + 1) []).map sv) done.length (sv p).cells = ((done ++ [p]) ++ List.replicate (k + 1) []).map sv := set_txt done (k + 1) p
    rw [hp] at d1
    obtain ⟨h', e', k', d'⟩ := ih _ q (done ++ [p]) (by rw [hsp, List.length_cons] at hk; omega) (by rw [List.length_append, List.length_singleton]; omega) (by omega) k1 d1
    refine ⟨h', e39_3 ?_ (by simp), k', by rw [hsp]; simpa using d'⟩
    have h0 : ¬ ((p.length : Nat) : Int) < 0 := by omega
    have s1 : slcStr (sv r) none (some (.int .i64 ((p.length : Nat) : Int))) = some (sv p) := by
      rw [slcStr_to _ _ (by omega) (by omega), Int.toNat_natCast, ht]
    have s2 : slcStr (sv r) (some (.int .i64 ((p.length + 1 : Nat) : Int))) none = some (sv q) := by
      rw [slcStr_from _ _ (by omega) (by omega), Int.toNat_natCast, hd]
    have w1 : wr .i64 (((p.length : Nat) : Int) + 0) = ((p.length : Nat) : Int) := by rw [wr_i64 (by omega) (by omega)]; omega
    have w2 : wr .i64 (((p.length : Nat) : Int) + (([c] : Bs).length : Nat)) = ((p.length + 1 : Nat) : Int) := by rw [wr_i64 (by simp; omega) (by simp; omega)]; simp
    have w3 : wr .i64 (((done.length : Nat) : Int) + 1) = (((done ++ [p]).length : Nat) : Int) := by rw [List.length_append, List.length_singleton, wr_i64 (by omega) (by omega)]; omega
    simp only [t39_3, W, WW, ↓reduceIte, reduceCtorEq, Nat.reduceAdd, Int.reduceEq, Int.reduceNe, Int.reduceLT, Int.reduceLE, Int.reduceAdd, Int.reduceSub, Int.reduceMul, Int.reduceNeg, Nat.reduceMul, hlt, ei, h0, w1, s1, ix, es, w2, s2, w3]
    exact e'
theorem split3 {h : H} (g : Gd h) (s : Bs) (c : UInt8) (hs : s.length < 4294967281) : ∃ h', CL tab3 23 [sv s, sv [c]] h = .ok (.slice h.next 0 (splitL c s).length 1) h' ∧ Ky h h' ∧ Cs h' h.next true false ((splitL c s).map sv) := by
  have hlen := splitL_len c s
  have hct := count_split c s.length s (Nat.le_refl _)
  have hpos : 0 < (splitL c s).length := List.length_pos_iff.2 (splitL_ne c s)
  obtain ⟨h2, e2, k2, d2, -⟩ := mks_txt g (splitL c s).length (by omega)
  obtain ⟨h', e', k', d'⟩ := split_loop c (Nat.le_refl h.next) (N := (splitL c s).length) (by omega) ((splitL c s).length - 1) h2 s [] (by omega) (by simp; omega) hs k2 (by simpa [Nat.sub_add_cancel hpos] using d2)
  refine ⟨h', c23 good3.step rfl rfl g ?_ (by simp), k', by simpa using d'⟩
  have e46 : CL tab3 39 [sv s, sv [c], .int .i64 0, .int .i64 (-1)] h = .ok (.slice h.next 0 (splitL c s).length 1) h' := by
    refine c39 good3.step rfl rfl g ?_ (by simp)
    have n1 : ¬ (-1 : Int) = 0 := by decide
    have n2 : (-1 : Int) < 0 := by decide
    have s0 : IV.str ⟨0, 0⟩ = sv [] := rfl
    have w1 : wr .i64 (((Lib.count s [c] : Nat) : Int) + 1) = (((splitL c s).length : Nat) : Int) := by rw [wr_i64 (by omega) (by omega)]; omega
    simp only [t39_0, W, WW, ↓reduceIte, reduceCtorEq, Nat.reduceAdd, Int.reduceEq, Int.reduceNe, Int.reduceLT, Int.reduceLE, Int.reduceAdd, Int.reduceSub, Int.reduceMul, Int.reduceNeg, Nat.reduceMul, s0, n1, n2, cnt3 s [c] hs (by simp), w1, List.cons_ne_nil]
    refine e39_1 ?_ (by simp)
    have w2 : wr .i64 (((s.length : Nat) : Int) + 1) = ((s.length + 1 : Nat) : Int) := by rw [wr_i64 (by omega) (by omega)]; omega
    have m1 : ¬ ((s.length + 1 : Nat) : Int) < (((splitL c s).length : Nat) : Int) := by omega
    have w3 : wr .i64 ((((splitL c s).length : Nat) : Int) - 1) = (((splitL c s).length - 1 : Nat) : Int) := by rw [wr_i64 (by omega) (by omega)]; omega
    have s0' : sv [] = IV.str ⟨0, 0⟩ := rfl
    simp only [t39_1, W, WW, ↓reduceIte, reduceCtorEq, Nat.reduceAdd, Int.reduceEq, Int.reduceNe, Int.reduceLT, Int.reduceLE, Int.reduceAdd, Int.reduceSub, Int.reduceMul, Int.reduceNeg, Nat.reduceMul, w2, m1, e2, w3]
    exact e'
  simp only [t23_0, e46, W, WW, ↓reduceIte, reduceCtorEq, Nat.reduceAdd, Int.reduceEq, Int.reduceNe, Int.reduceLT, Int.reduceLE, Int.reduceAdd, Int.reduceSub, Int.reduceMul, Int.reduceNeg, Nat.reduceMul]
abbrev Sc := List (Bs × Int)
def getM (s : Sc) (name : Bs) : Option Int := (s.find? fun p => p.1 == name).map (·.2)
def EsR : List (IV × IV × Nat) → Sc → Prop
  | [], s => s = []
  | (k, v, _) :: es, s => ∃ p q, s = p :: q ∧ k = sv p.1 ∧ v = .int .i64 p.2 ∧ EsR es q
theorem keyEq_sv (a b : Bs) : keyEq (sv a) (sv b) = some (decide (a = b)) := by simp only [keyEq, sv, str_eq]
theorem findI_get {es : List (IV × IV × Nat)} : ∀ {s : Sc} (name : Bs) (i : Nat), EsR es s → findI (sv name) es i = some (match getM s name with | none => none | some n => some (i + s.findIdx (fun p => p.1 == name), .int .i64 n)) := by
  induction es with
  | nil => intro s name i h; simp only [EsR] at h; subst h; rfl
  | cons e es ih =>
    obtain ⟨k, v, st⟩ := e
    intro s name i h
    obtain ⟨p, q, rfl, rfl, rfl, h4⟩ := h
    simp only [findI, keyEq_sv]
    by_cases hn : name = p.1
    · subst hn
      simp [getM, List.findIdx_cons]
    · have hb : (p.1 == name) = false := by simp; exact fun e => hn e.symm
      simp only [hn, decide_false]
      rw [ih name (i + 1) h4]
      simp only [getM, List.find?_cons, hb, List.findIdx_cons]
      cases q.find? (fun p => p.1 == name) with
      | none => rfl
      | some x => simp only [Option.map_some, cond_false]; congr 3; omega
theorem look_get {h : H} {m clock : Nat} {es : List (IV × IV × Nat)} {s : Sc} (hm : h.get m = some (.map es clock)) (he : EsR es s) (name : Bs) : lkK true (.int .i64 0) h (.map m) (sv name) true = some (match getM s name with | some n => .tup [.int .i64 n, .bool true] | none => .tup [.int .i64 0, .bool false]) := by
  have hk : keyK true (sv name) = true := rfl
  simp only [lkK, hk, cond_true, entsOf, hm, findI_get name 0 he]
  cases getM s name <;> rfl
def setM (s : Sc) (nm : Bs) (n : Int) : Sc :=
  match getM s nm with
  | none => s ++ [(nm, n)]
  | some _ => s.modify (s.findIdx fun p => p.1 == nm) fun _ => (nm, n)
theorem EsR_mod {nm : Bs} {n : Int} : ∀ {es : List (IV × IV × Nat)} {s : Sc} (i : Nat), EsR es s → EsR (es.modify i fun e => (sv nm, .int .i64 n, e.2.2)) (s.modify i fun _ => (nm, n))
  | [], s, i, h => by simp only [EsR] at h; subst h; cases i <;> simp [EsR]
  | (k, v, st) :: es, s, i, h => by
    obtain ⟨p, q, rfl, rfl, rfl, h4⟩ := h
    cases i with
    | zero => simp only [List.modify_zero_cons]; exact ⟨(nm, n), q, rfl, rfl, rfl, h4⟩
    | succ i => simp only [List.modify_succ_cons]; exact ⟨p, _, rfl, rfl, rfl, EsR_mod i h4⟩
theorem EsR_app {nm : Bs} {n : Int} {c : Nat} : ∀ {es : List (IV × IV × Nat)} {s : Sc}, EsR es s → EsR (es ++ [(sv nm, .int .i64 n, c)]) (s ++ [(nm, n)])
  | [], s, h => by simp only [EsR] at h; subst h; exact ⟨(nm, n), [], rfl, rfl, rfl, rfl⟩
  | (k, v, st) :: es, s, h => by
    obtain ⟨p, q, rfl, rfl, rfl, h4⟩ := h
    exact ⟨p, q ++ [(nm, n)], rfl, rfl, rfl, EsR_app h4⟩
theorem mup_set {h : H} {m clock : Nat} {es : List (IV × IV × Nat)} {s : Sc} (hm : h.get m = some (.map es clock)) (he : EsR es s) (nm : Bs) (n : Int) : ∃ es' c', mupK true h (.map m) (sv nm) (.int .i64 n) = some (h.put m (.map es' c')) ∧ EsR es' (setM s nm n) := by
  have hk : keyK true (sv nm) = true := rfl
  have hfi := findI_get nm 0 he
  unfold setM
  cases hgm : getM s nm with
  | none =>
    rw [hgm] at hfi
    exact ⟨es ++ [(sv nm, .int .i64 n, clock)], clock + 1, by simp only [mupK, hk, cond_true, hm, hfi], EsR_app he⟩
  | some v =>
    rw [hgm] at hfi
    simp only [Nat.zero_add] at hfi
    exact ⟨es.modify (s.findIdx fun p => p.1 == nm) fun e => (sv nm, .int .i64 n, e.2.2), clock, by simp only [mupK, hk, cond_true, hm, hfi], EsR_mod _ he⟩
def blk : IV → Option Nat
  | .slice b _ _ _ => some b
  | _ => none
def upd {α : Type} (f : Nat → α) (i : Nat) (a : α) : Nat → α := fun j => if j = i then a else f j
def esI (i : Nat) : Nat := if i = 3 then 3 else 1
theorem app_keep {h₀ h : H} (x : Ky h₀ h) {es bytes : Nat} {cs new : List IV} {s y : IV} {n : Nat} (gl : GLk h₀ h es cs s) (hs : sourceI h es y = some (new, n)) (hl : new.length = n * es) (hsc : allScalar new = true) (hn : n ≠ 0)
    (hroom : (2 * (cs.length + n) + 2000) * bytes ≤ 2 ^ 46) (hes : es ≠ 0) : ∃ s' h', appK es bytes h s y = some (s', h') ∧ Ky h₀ h' ∧ GLk h₀ h' es (cs ++ new) s' ∧ blk s' = some h.next ∧ h'.next = h.next + 1 ∧ ∀ c, c < h.next → blk s ≠ some c → h'.get c = h.get c := by
  have g := x.gd
  rcases gl with ⟨rfl, rfl⟩ | ⟨b, k, rfl, ⟨t, h1, h2⟩, h3, h4⟩
  · refine ⟨_, _, ?_, x.push (.cells (!h.pol) h.pol new.length (T.arr new)), .inr ⟨h.next, n, rfl, ?_, by simpa using hl.symm, x.next⟩, rfl, rfl, fun c hc _ => by rw [H.get_push, if_neg (by omega)]⟩
    · simp only [appK, hs, hsc, Bool.true_eq_false, if_false, if_neg hn]
      rw [if_pos (by simpa using hroom)]
    · rw [g.pol]; simpa using Cs.push (h := h) (rw := false) (fz := true) new
  · have hk : k ≤ cs.length := by
      rw [← h3]; exact Nat.le_mul_of_pos_right _ (Nat.pos_of_ne_zero hes)
    have hroom' : (2 * (k + n) + 2000) * bytes ≤ 2 ^ 46 := Nat.le_trans (Nat.mul_le_mul_right _ (by omega)) hroom
    have x1 := x.put (o := .cells false false cs.length t) h4 h1 (fun fz size cs' hc => by injection hc with _ _ q3 q4; exact ⟨false, by rw [q3, q4]⟩)
    refine ⟨_, _, ?_, x1.push (.cells false true ((k + n) * es) (setList t (k * es) new)), .inr ⟨h.next, k + n, rfl, ⟨setList t (k * es) new, ?_, fun i hi => ?_⟩, by rw [Nat.add_mul, h3, List.length_append, hl], x.next⟩, rfl, rfl, fun c hc hcs => ?_⟩
    · simp only [appK, hs, hsc, Bool.true_eq_false, if_false, if_neg hn, ne_eq, not_true_eq_false, h1]
      rw [if_pos ⟨trivial, h3, hroom'⟩]
    · rw [H.get_push, if_pos (show h.next = (h.put b (.cells false false cs.length t)).next from rfl), List.length_append, hl, Nat.add_mul, h3]
    · rw [List.length_append] at hi
      rw [get_setList, h3]
      by_cases hc : cs.length ≤ i ∧ i < cs.length + new.length
      · rw [if_pos hc, List.getElem?_append_right hc.1]
      · rw [if_neg hc, List.getElem?_append_left (by omega)]; exact h2 i (by omega)
    · rw [H.get_push, if_neg (show ¬ c = (h.put b (.cells false false cs.length t)).next from fun e => by have e : c = h.next := e; omega), H.get_put, if_neg]
      rintro rfl; exact hcs rfl
theorem I.GLk.same {h₀ h h' : H} {es : Nat} {cs : List IV} {u : IV} (gl : GLk h₀ h es cs u) (e : ∀ c, blk u = some c → h'.get c = h.get c) : GLk h₀ h' es cs u := by
  rcases gl with h1 | ⟨b, k, rfl, c, h3, h4⟩
  · exact .inl h1
  · exact .inr ⟨b, k, rfl, c.of_get (e b rfl), h3, h4⟩
theorem I.GLk.lt {h₀ h : H} (w : WF h) {es : Nat} {cs : List IV} {u : IV} (gl : GLk h₀ h es cs u) {c : Nat} (hc : blk u = some c) : c < h.next := by
  rcases gl with ⟨_, rfl⟩ | ⟨b, k, rfl, cc, _⟩
  · cases hc
  · injection hc with hc; subst hc; exact cc.lt w
theorem I.GLk.ro {h₀ h : H} {es : Nat} {cs : List IV} {u : IV} (gl : GLk h₀ h es cs u) {c : Nat} (hc : blk u = some c) : ∃ ds, Cs h c false true ds := by
  rcases gl with ⟨_, rfl⟩ | ⟨b, k, rfl, cc, _⟩
  · cases hc
  · injection hc with hc; subst hc; exact ⟨_, cc⟩
def Kp (b : Nat) (h h' : H) : Prop := ∀ q fz cs, q ≠ b → Cs h q true fz cs → Cs h' q true fz cs
theorem Kp.trans {b : Nat} {x y z : H} (p : Kp b x y) (q : Kp b y z) : Kp b x z := fun c fz cs hne h => q c fz cs hne (p c fz cs hne h)
theorem Kp.ky {b : Nat} {h h' : H} (w : WF h) (k : Ky h h') : Kp b h h' := fun q fz cs _ c => c.ky w k
structure RD (h₀ h : H) (b bl m : Nat) (L : List Bs) (k : Nat) (s : Sc) (C : Nat → List IV) (vs : Nat → IV) : Prop where
  wf : WF h₀
  ky : Ky h₀ h
  hb : h₀.next ≤ b
  hm : h₀.next ≤ m
  ln : Cs h₀ bl true false (L.map sv)
  hk : k ≤ L.length
  hL : L.length ≤ 4294967296
  cs : Cs h b true false [.slice bl k (L.length - k) 1, .map m, vs 0, vs 1, vs 2, vs 3]
  gl : ∀ i, i < 4 → GLk h₀ h (esI i) (C i) (vs i)
  ap : ∀ i j, i < 4 → j < 4 → i ≠ j → ∀ c, blk (vs i) = some c → blk (vs j) ≠ some c
  mp : ∃ es clock, h.get m = some (.map es clock) ∧ EsR es s
variable {h₀ h : H} {b bl m k : Nat} {L : List Bs} {s : Sc} {C : Nat → List IV} {vs : Nat → IV}
theorem RD.gd (x : RD h₀ h b bl m L k s C vs) : Gd h := x.ky.gd
theorem map_lt {h : H} (w : WF h) {m : Nat} {o : I.Obj} (e : h.get m = some o) : m < h.next := by
  rcases Nat.lt_or_ge m h.next with hh | hh
  · exact hh
  · rw [w m hh] at e; cases e
theorem map_ne {h : H} {q m : Nat} {rw fz : Bool} {cs : List IV} (c : Cs h q rw fz cs) {es : List (IV × IV × Nat)} {cl : Nat} (e : h.get m = some (.map es cl)) : q ≠ m := by
  rintro rfl
  obtain ⟨t, q1, _⟩ := c
  rw [q1] at e; cases e
theorem RD.go (x : RD h₀ h b bl m L k s C vs) {h' : H} (y : Ky h h') : RD h₀ h' b bl m L k s C vs := by
  obtain ⟨es, cl, m1, m2⟩ := x.mp
  exact ⟨x.wf, x.ky.trans y, x.hb, x.hm, x.ln, x.hk, x.hL, x.cs.ky x.gd.wf y, fun i hi => (x.gl i hi).ky x.gd.wf y, x.ap, es, cl, (y.low m (map_lt x.gd.wf m1)).trans m1, m2⟩
theorem RD.next (x : RD h₀ h b bl m L k s C vs) (hk : k < L.length) : ∃ o, stA 1 h (.ptr b 0) (.slice bl (k + 1) (L.length - (k + 1)) 1) = some (h.put b o) ∧ RD h₀ (h.put b o) b bl m L (k + 1) s C vs ∧ Kp b h (h.put b o) := by
  obtain ⟨o, e, k1, d1⟩ := x.ky.st x.cs x.hb (n := 1) (off := 0) (v := .slice bl (k + 1) (L.length - (k + 1)) 1) rfl rfl (by show 0 + 1 ≤ 6; omega)
  obtain ⟨es, cl, m1, m2⟩ := x.mp
  refine ⟨o, e, ⟨x.wf, k1, x.hb, x.hm, x.ln, hk, x.hL, d1, fun i hi => (x.gl i hi).of_put x.cs, x.ap, es, cl, ?_, m2⟩, fun q fz cs hne c => c.of_put hne⟩
  rw [H.get_put, if_neg (Ne.symm (map_ne x.cs m1))]; exact m1
theorem RD.mup (x : RD h₀ h b bl m L k s C vs) (nm : Bs) (n : Int) : ∃ o, mupK true h (.map m) (sv nm) (.int .i64 n) = some (h.put m o) ∧ RD h₀ (h.put m o) b bl m L k (setM s nm n) C vs ∧ Kp b h (h.put m o) := by
  obtain ⟨es, cl, m1, m2⟩ := x.mp
  obtain ⟨es', c', e, r⟩ := mup_set m1 m2 nm n
  refine ⟨_, e, ⟨x.wf, x.ky.put x.hm m1 (fun _ _ _ hh => by cases hh), x.hb, x.hm, x.ln, x.hk, x.hL, x.cs.of_put (map_ne x.cs m1), fun i hi => (x.gl i hi).same fun c hc => ?_, x.ap, es', c', by rw [H.get_put, if_pos rfl], r⟩, fun q fz cs hne c => c.of_put (map_ne c m1)⟩
  obtain ⟨ds, d⟩ := (x.gl i hi).ro hc
  rw [H.get_put, if_neg (map_ne d m1)]
theorem RD.app (x : RD h₀ h b bl m L k s C vs) (i : Nat) (hi : i < 4) {bytes : Nat} {new : List IV} {y : IV} (hs : sourceI h (esI i) y = some (new, 1)) (hl : new.length = esI i) (hsc : allScalar new = true) (hby : bytes ≤ 32) (hroom : (C i).length ≤ 100000000000) :
    ∃ s' h1 o, appK (esI i) bytes h (vs i) y = some (s', h1) ∧ stA 1 h1 (.ptr b (2 + i)) s' = some (h1.put b o) ∧ RD h₀ (h1.put b o) b bl m L k s (upd C i (C i ++ new)) (upd vs i s') ∧ Kp b h (h1.put b o) := by
  have hes : esI i ≠ 0 := by unfold esI; split <;> decide
  obtain ⟨s', h1, e1, k1, g1, b1, n1, keep⟩ := app_keep x.ky (bytes := bytes) (x.gl i hi) hs (by omega) hsc (by decide) (by
    have : (2 * ((C i).length + 1) + 2000) * bytes ≤ (2 * (100000000000 + 1) + 2000) * 32 := Nat.mul_le_mul (by omega) hby
    omega) hes
  have hbn := x.cs.lt x.gd.wf
  have cs1 : Cs h1 b true false [.slice bl k (L.length - k) 1, .map m, vs 0, vs 1, vs 2, vs 3] := appK_keep x.gd.wf (x.gl i hi).gl e1 x.cs
  have sc := g1.scalar
  have scc : s'.cells = [s'] := by cases s' <;> first | rfl | (simp [IV.scalar] at sc)
  obtain ⟨o, e2, k2, d2⟩ := k1.st cs1 x.hb (n := 1) (off := 2 + i) (v := s') (by rw [scc]; rfl) (by rw [scc]; simp [allScalar, sc]) (by show 2 + i + 1 ≤ 6; omega)
  have hp : placeL [IV.slice bl k (L.length - k) 1, .map m, vs 0, vs 1, vs 2, vs 3] (2 + i) s'.cells = [.slice bl k (L.length - k) 1, .map m, upd vs i s' 0, upd vs i s' 1, upd vs i s' 2, upd vs i s' 3] := by
    rw [scc]
    match i, hi with
    | 0, _ => rfl
    | 1, _ => rfl
    | 2, _ => rfl
    | 3, _ => rfl
  rw [hp] at d2
  obtain ⟨es, cl, m1, m2⟩ := x.mp
  have hmk : h1.get m = some (.map es cl) := by
    rw [keep m (map_lt x.gd.wf m1)]
    · exact m1
    · intro hc
      obtain ⟨ds, d⟩ := (x.gl i hi).ro hc
      exact map_ne d m1 rfl
  refine ⟨s', h1, o, e1, e2, ⟨x.wf, k2, x.hb, x.hm, x.ln, x.hk, x.hL, d2, fun j hj => ?_, fun j l hj hl4 hne c => ?_, es, cl, ?_, m2⟩, fun q fz cs hne c => (appK_keep x.gd.wf (x.gl i hi).gl e1 c).of_put hne⟩
  · unfold upd
    by_cases hji : j = i
    · subst hji
      rw [if_pos rfl, if_pos rfl]
      exact g1.of_put cs1
    · rw [if_neg hji, if_neg hji]
      refine I.GLk.of_put ((x.gl j hj).same fun c hc => keep c ((x.gl j hj).lt x.gd.wf hc) (x.ap j i hj hi hji c hc)) cs1
  · unfold upd
    by_cases hji : j = i
    · subst hji
      rw [if_pos rfl, if_neg (Ne.symm hne), b1]
      intro hc hl'
      injection hc with hc
      have := (x.gl l hl4).lt x.gd.wf hl'
      omega
    · rw [if_neg hji]
      by_cases hli : l = i
      · subst hli
        rw [if_pos rfl, b1]
        intro hc hl'
        injection hl' with hl'
        have := (x.gl j hj).lt x.gd.wf hc
        omega
      · rw [if_neg hli]
        exact x.ap j l hj hl4 hne c
  · rw [H.get_put, if_neg (Ne.symm (map_ne cs1 hmk))]; exact hmk
abbrev tyO : Nat := 55
def oddI : IV := .iface tyO (.agg [])
theorem right3 (c : Bool) {h : H} (g : Gd h) : CL tab3 27 [.bool c] h = if c = true then .ok (.tup []) h else .pan oddI h := by
  refine c27 good3.step rfl rfl g ?_ (by cases c <;> simp)
  have b0 : bldK [] [] [] = some (.agg []) := rfl
  cases c <;> simp only [t27_0, W, WW, ↓reduceIte, reduceCtorEq, Nat.reduceAdd, Int.reduceEq, Int.reduceNe, Int.reduceLT, Int.reduceLE, Int.reduceAdd, Int.reduceSub, Int.reduceMul, Int.reduceNeg, Nat.reduceMul, b0] <;> rfl
def numP (s : Bs) : Option Int := match Lib.atoiAll s with
  | .ok v => if itoaF v = s then some v else none
  | _ => none
theorem number3 {h : H} (g : Gd h) (s : Bs) (hs : s.length ≤ 281474976710656) : ∃ h', Ky h h' ∧ CL tab3 28 [sv s] h = match numP s with | some v => .ok (.int .i64 v) h' | none => .pan oddI h' := by
  have q : ∀ r, r ≠ .fail → atoiI [sv s] h = r → CL tab3 41 [sv s] h = r := fun r hr e => call_tab (g := atoiI) rfl e hr
  have hd : dS.dec (sv s) = some s := dS.ret s
  unfold numP
  cases hc : Lib.atoiAll s with
  | ok v =>
    obtain ⟨b1, b2⟩ := Lib.atoiAll_bounds hc
    have q1 := q (.ok (.tup [.int .i64 v, .nilIface]) h) (by simp) (by simp only [atoiI, hd, hc, if_pos hs])
    have q2 := itoa3 (h := h) v (by omega) (by omega)
    have r1 := right3 (decide (itoaF v = s)) g
    refine ⟨h, .refl g, c28 good3.step rfl rfl g ?_ (by split <;> simp)⟩
    by_cases he : itoaF v = s
    · simp only [eq_true he, decide_true, if_true] at r1
      simp only [t28_0, q1, W, WW, ↓reduceIte, reduceCtorEq, Nat.reduceAdd, Int.reduceEq, Int.reduceNe, Int.reduceLT, Int.reduceLE, Int.reduceAdd, Int.reduceSub, Int.reduceMul, Int.reduceNeg, Nat.reduceMul, q2, eq_true he, r1]
    · simp only [eq_false he, decide_false, Bool.false_eq_true, if_false] at r1
      simp only [t28_0, q1, W, WW, ↓reduceIte, reduceCtorEq, Nat.reduceAdd, Int.reduceEq, Int.reduceNe, Int.reduceLT, Int.reduceLE, Int.reduceAdd, Int.reduceSub, Int.reduceMul, Int.reduceNeg, Nat.reduceMul, q2, eq_false he, r1]
  | range =>
    have q1 := q _ (by simp) (show atoiI [sv s] h = .ok (.tup [.int .i64 (Lib.atoiSat s), .iface tyE (.ptr h.next 0)]) h.skip by simp only [atoiI, hd, hc, if_pos hs])
    have k := (Ky.refl g).skip
    have r1 := right3 false k.gd
    simp only [Bool.false_eq_true, if_false] at r1
    refine ⟨_, k, c28 good3.step rfl rfl g ?_ (by simp)⟩
    simp only [t28_0, q1, W, WW, ↓reduceIte, reduceCtorEq, Nat.reduceAdd, Int.reduceEq, Int.reduceNe, Int.reduceLT, Int.reduceLE, Int.reduceAdd, Int.reduceSub, Int.reduceMul, Int.reduceNeg, Nat.reduceMul, r1]
  | _ =>
    have q1 := q _ (by simp) (show atoiI [sv s] h = .ok (.tup [.int .i64 0, .iface tyE (.ptr h.next 0)]) h.skip by simp only [atoiI, hd, hc, if_pos hs])
    have k := (Ky.refl g).skip
    have r1 := right3 false k.gd
    simp only [Bool.false_eq_true, if_false] at r1
    refine ⟨_, k, c28 good3.step rfl rfl g ?_ (by simp)⟩
    simp only [t28_0, q1, W, WW, ↓reduceIte, reduceCtorEq, Nat.reduceAdd, Int.reduceEq, Int.reduceNe, Int.reduceLT, Int.reduceLE, Int.reduceAdd, Int.reduceSub, Int.reduceMul, Int.reduceNeg, Nat.reduceMul, r1]
theorem RD.l0 (x : RD h₀ h b bl m L k s C vs) : I.ld0 h (.ptr b 0) = some (.slice bl k (L.length - k) 1) := by rw [x.cs.ld0]; rfl
theorem RD.l1 (x : RD h₀ h b bl m L k s C vs) : I.ld0 h (.ptr b 1) = some (.map m) := by rw [x.cs.ld0]; rfl
theorem RD.lv (x : RD h₀ h b bl m L k s C vs) (i : Nat) (hi : i < 4) : I.ld0 h (.ptr b (2 + i)) = some (vs i) := by
  rw [x.cs.ld0]
  match i, hi with
  | 0, _ => rfl
  | 1, _ => rfl
  | 2, _ => rfl
  | 3, _ => rfl
theorem line_some (x : RD h₀ h b bl m L k s C vs) {l : Bs} (hx : L[k]? = some l) : ∃ h', CL tab3 26 [.ptr b 0] h = .ok (sv l) h' ∧ RD h₀ h' b bl m L (k + 1) s C vs ∧ Kp b h h' := by
  have hk : k < L.length := (List.getElem?_eq_some_iff.1 hx).1
  obtain ⟨o, e, r, kp⟩ := x.next hk
  refine ⟨_, c26 good3.step rfl rfl x.gd ?_ (by simp), r, kp⟩
  have l0 := x.l0
  have hlt : (0 : Int) < ((L.length - k : Nat) : Int) := by omega
  have r1 := right3 true x.gd
  simp only [if_true] at r1
  have ix : ixS 1 (.slice bl k (L.length - k) 1) (.int .i64 0) = some (.ptr bl k) := by
    rw [ixS_eq]; simp only [ixS0]
    rw [if_pos ⟨trivial, by omega, by omega⟩]
    simp
  have ll : I.ld0 h (.ptr bl k) = some (sv l) := by
    rw [(x.ln.ky x.wf x.ky).ld0, List.getElem?_map, hx]; rfl
  have sl : slcS 1 (.slice bl k (L.length - k) 1) (some (.int .i64 1)) none none = some (.slice bl (k + 1) (L.length - (k + 1)) 1) := by
    simp only [slcS, boundI, if_true]
    simp only [Option.isSome_none, Bool.false_eq_true, if_false, false_and]
    rw [if_pos ⟨by omega, by omega⟩]
    simp only [Option.some.injEq]
    congr 1
  simp only [t26_0, W, WW, ↓reduceIte, reduceCtorEq, Nat.reduceAdd, Int.reduceEq, Int.reduceNe, Int.reduceLT, Int.reduceLE, Int.reduceAdd, Int.reduceSub, Int.reduceMul, Int.reduceNeg, Nat.reduceMul, l0, lenS, hlt, Int.ofNat_eq_natCast, r1, ix, ll, sl, e]
theorem line_none (x : RD h₀ h b bl m L k s C vs) (hx : L[k]? = none) : CL tab3 26 [.ptr b 0] h = .pan oddI h := by
  have hk : L.length ≤ k := List.getElem?_eq_none_iff.1 hx
  refine c26 good3.step rfl rfl x.gd ?_ (by simp)
  have l0 := x.l0
  have hlt : ¬ (0 : Int) < ((L.length - k : Nat) : Int) := by omega
  have r1 := right3 false x.gd
  simp only [Bool.false_eq_true, if_false] at r1
  simp only [t26_0, W, WW, ↓reduceIte, reduceCtorEq, Nat.reduceAdd, Int.reduceEq, Int.reduceNe, Int.reduceLT, Int.reduceLE, Int.reduceAdd, Int.reduceSub, Int.reduceMul, Int.reduceNeg, Nat.reduceMul, l0, lenS, hlt, Int.ofNat_eq_natCast, r1]
def valP (s : Sc) (l : Bs) : Option (Int × Bs) := match l with
  | [] => none
  | x :: t => if x = 98 then (getM s (cutL 32 t).2.1).map fun n => (n, (cutL 32 t).1) else (getM s t).map fun n => (n, [x])
theorem cut3 {h : H} (s : Bs) (c : UInt8) (hs : s.length < 4294967281) : CL tab3 40 [sv s, sv [c]] h = .ok (.tup [sv (cutL c s).1, sv (cutL c s).2.1, .bool (cutL c s).2.2]) h := call2 (A := dS) (B := dS) (a := s) (b := [c]) rfl (by simp only [cutF, if_pos hs]) h
theorem value3r (x : RD h₀ h b bl m L k s C vs) (l : Bs) (hl : l.length < 4294967281) : CL tab3 25 [.ptr b 0, sv l] h = match valP s l with | some p => .ok (.tup [.int .i64 p.1, sv p.2]) h | none => .pan oddI h := by
  obtain ⟨es, cl, m1, m2⟩ := x.mp
  have l1 := x.l1
  have s0 : IV.str ⟨0, 0⟩ = sv [] := rfl
  have c32 : IV.str ⟨1, 32⟩ = sv [32] := rfl
  have rt := right3 true x.gd
  have rf := right3 false x.gd
  simp only [if_true] at rt
  simp only [Bool.false_eq_true, if_false] at rf
  refine c25 good3.step rfl rfl x.gd ?_ (by split <;> simp)
  have one : ∀ (v c : Bs), J25 tab3 1 [.ptr b 0, sv v, sv c] h = match (getM s c).map fun n => (n, v) with | some p => .ok (.tup [.int .i64 p.1, sv p.2]) h | none => .pan oddI h := by
    intro v c
    have lk := look_get m1 m2 c
    cases hg : getM s c with
    | none =>
      rw [hg] at lk
      refine e25_1 ?_ (by simp)
      simp only [t25_1, W, WW, ↓reduceIte, reduceCtorEq, Nat.reduceAdd, Int.reduceEq, Int.reduceNe, Int.reduceLT, Int.reduceLE, Int.reduceAdd, Int.reduceSub, Int.reduceMul, Int.reduceNeg, Nat.reduceMul, l1, lk, rf, Option.map_none]
    | some n =>
      rw [hg] at lk
      refine e25_1 ?_ (by simp)
      simp only [t25_1, W, WW, ↓reduceIte, reduceCtorEq, Nat.reduceAdd, Int.reduceEq, Int.reduceNe, Int.reduceLT, Int.reduceLE, Int.reduceAdd, Int.reduceSub, Int.reduceMul, Int.reduceNeg, Nat.reduceMul, l1, lk, rt, Option.map_some]
  cases l with
  | nil => simp only [t25_0, W, WW, ↓reduceIte, reduceCtorEq, Nat.reduceAdd, Int.reduceEq, Int.reduceNe, Int.reduceLT, Int.reduceLE, Int.reduceAdd, Int.reduceSub, Int.reduceMul, Int.reduceNeg, Nat.reduceMul, s0, rf, valP]
  | cons c t =>
    have a1 : slcStr (sv (c :: t)) none (some (.int .i64 1)) = some (sv [c]) := slcStr_to (c :: t) 1 (by omega) (by simp only [List.length_cons]; omega)
    have a2 : slcStr (sv (c :: t)) (some (.int .i64 1)) none = some (sv t) := slcStr_from (c :: t) 1 (by omega) (by simp only [List.length_cons]; omega)
    have a3 : ixStr (sv (c :: t)) (.int .i64 0) = some (.int .u8 ((c.toNat : Nat) : Int)) := ixStr_sv (c :: t) 0 (by omega) (by simp)
    have hc : (((c.toNat : Nat) : Int) = 98) = (c = 98) := u8_eqv c 98
    rw [List.length_cons] at hl
    by_cases h98 : c = 98
    · have o := one (cutL 32 t).1 (cutL 32 t).2.1
      simp only [t25_0, W, WW, ↓reduceIte, reduceCtorEq, Nat.reduceAdd, Int.reduceEq, Int.reduceNe, Int.reduceLT, Int.reduceLE, Int.reduceAdd, Int.reduceSub, Int.reduceMul, Int.reduceNeg, Nat.reduceMul, s0, List.cons_ne_nil, rt, a1, a2, a3, hc, eq_true h98, c32, cut3 t 32 (by omega), valP, if_pos h98]
      exact o
    · have o := one [c] t
      simp only [t25_0, W, WW, ↓reduceIte, reduceCtorEq, Nat.reduceAdd, Int.reduceEq, Int.reduceNe, Int.reduceLT, Int.reduceLE, Int.reduceAdd, Int.reduceSub, Int.reduceMul, Int.reduceNeg, Nat.reduceMul, s0, List.cons_ne_nil, rt, a1, a2, a3, hc, eq_false h98, valP, if_neg h98]
      exact o
end Go.Proofs.YtdccdfmbakbikaaDoor
namespace Go.Proofs.YtdccdfmbakbikaaDoor
open Go I
def dvar : Bs := [36, 118, 97, 114]
def dwire : Bs := [119, 105, 114, 101]
def dend : Bs := [36, 101, 110, 100]
def upW : Bs := (midF.take 13)
def edW : Bs := ((midF.drop 14).take 20)
def dvW : Bs := ((midF.drop 35).take 9)
def tsW : Bs := (headF.take 20)
def scW : Bs := ((headF.drop 21).take 22)
def varP (s : Bs) : Option (Bs × Bs × Int) := match splitL 32 s with
  | [a, b, w, c, n, e] => if a = dvar ∧ b = dwire ∧ e = dend then (numP w).map fun x => (c, (if n = [95] then [] else n), x) else none
  | _ => none
def upP (ls : List Bs) (s : Sc) (nm : List Bs) (wd : List Int) : Option (List Bs × Sc × List Bs × List Int) := match ls with
  | a :: b :: r => if a = edW ∧ b = dvW then some (r, s, nm, wd) else none
  | _ => none
def varsP : List Bs → Sc → List Bs → List Int → Option (List Bs × Sc × List Bs × List Int)
  | [], _, _, _ => none
  | l :: ls, s, nm, wd =>
    if l = upW then upP ls s nm wd
    else match varP l with
      | none => none
      | some (c, n, x) => varsP ls (setM s c nm.length) (nm ++ [n]) (wd ++ [x])
variable {h₀ h : H} {b bl m k : Nat} {L : List Bs} {s : Sc} {C : Nat → List IV} {vs : Nat → IV}
theorem I.Cs.source1 {h : H} {q : Nat} {rw fz : Bool} {cs : List IV} (c : Cs h q rw fz cs) {es : Nat} (hl : cs.length = es) : sourceI h es (.slice q 0 1 es) = some (cs, 1) := by
  obtain ⟨t, h1, h2⟩ := c
  have h11 : ¬ (1 : Nat) = 0 := by decide
  simp only [sourceI, if_neg h11, h1]
  rw [if_pos ⟨trivial, by omega⟩, getList_of h2 _ _ (by omega)]
  simp only [List.drop_zero, Nat.one_mul]
  rw [← hl, List.take_length]
theorem I.GLk.len1 {h₀ h : H} {cs : List IV} {v : IV} (gl : GLk h₀ h 1 cs v) : lenS v = some (.int .i64 cs.length) := by
  rcases gl with ⟨rfl, rfl⟩ | ⟨b, k, rfl, c, h3, _⟩
  · rfl
  · rw [Nat.mul_one] at h3
    show some (IV.int .i64 (k : Nat)) = _
    rw [h3]
theorem RD.putQ (x : RD h₀ h b bl m L k s C vs) {q : Nat} {fz : Bool} {cs : List IV} (c : Cs h q true fz cs) (hq : h₀.next ≤ q) (hne : q ≠ b) {o : I.Obj} : RD h₀ (h.put q o) b bl m L k s C vs := by
  obtain ⟨es, cl, m1, m2⟩ := x.mp
  have hk : Ky h₀ (h.put q o) := by
    obtain ⟨t, e, _⟩ := c
    exact x.ky.put hq e (fun _ _ _ hh => by cases hh)
  refine ⟨x.wf, hk, x.hb, x.hm, x.ln, x.hk, x.hL, x.cs.of_put (Ne.symm hne), fun i hi => (x.gl i hi).of_put c, x.ap, es, cl, ?_, m2⟩
  rw [H.get_put, if_neg (Ne.symm (map_ne c m1))]; exact m1
def ints (l : List Int) : List IV := l.map fun n => .int .i64 n
theorem upd_ne {α : Type} {f : Nat → α} {i j : Nat} {a : α} (h : j ≠ i) : upd f i a j = f j := if_neg h
theorem upd_eq {α : Type} {f : Nat → α} {i : Nat} {a : α} : upd f i a i = a := if_pos rfl
theorem pvar_step (x : RD h₀ h b bl m L k s C vs) {nm : List Bs} {wd : List Int} (c0 : C 0 = nm.map sv) (c1 : C 1 = ints wd) (hn : nm.length ≤ 4294967296) (hw : wd.length ≤ 4294967296) (l : Bs) (hl : l.length ≤ 1048576) (hup : l ≠ upW) :
    match varP l with
    | none => ∃ h', J24 tab3 1 [.ptr b 0, sv l] h = .pan oddI h' ∧ Ky h₀ h'
    | some (c, n, v) => ∃ h' C' vs', RD h₀ h' b bl m L k (setM s c nm.length) C' vs' ∧ C' 0 = (nm ++ [n]).map sv ∧ C' 1 = ints (wd ++ [v]) ∧ C' 2 = C 2 ∧ C' 3 = C 3 ∧
      ∀ r, r ≠ .fail → callP (CL tab3 26 [.ptr b 0] h') .pan (fun v h => J24 tab3 1 [.ptr b 0, v] h) = r → J24 tab3 1 [.ptr b 0, sv l] h = r := by
  obtain ⟨h17, es, k17, d17⟩ := split3 x.gd l 32 (by omega)
  have x17 := x.go k17
  have hf0 : h₀.next ≤ h.next := x.ky.next
  have hfb : h.next ≠ b := by have := x.cs.lt x.gd.wf; omega
  have c32 : IV.str ⟨1, 32⟩ = sv [32] := rfl
  have cup : IV.str ⟨13, 7956981874617361452794851128612⟩ = sv upW := by kernel_rfl
  have cv : IV.str ⟨4, 1918989860⟩ = sv dvar := rfl
  have cw : IV.str ⟨4, 1701996919⟩ = sv dwire := rfl
  have ce : IV.str ⟨4, 1684956452⟩ = sv dend := rfl
  have c95 : IV.str ⟨1, 95⟩ = sv [95] := rfl
  have s0 : IV.str ⟨0, 0⟩ = sv [] := rfl
  have rf := right3 false x17.gd
  have rt := right3 true x17.gd
  simp only [Bool.false_eq_true, if_false] at rf
  simp only [if_true] at rt
  unfold varP
  generalize hfs : splitL 32 l = fs at es d17
  have bad : (¬ ∃ a b w c n e, fs = [a, b, w, c, n, e] ∧ a = dvar ∧ b = dwire ∧ e = dend) → J24 tab3 1 [.ptr b 0, sv l] h = .pan oddI h17 := by
    intro hno
    refine e24_1 ?_ (by simp)
    by_cases h6 : fs.length = 6
    · match fs, h6 with
      | [p0, p1, p2, p3, p4, p5], _ =>
      have l6 : lenS (.slice h.next 0 6 1) = some (.int .i64 6) := rfl
      have i0 := ixS_byte (b := h.next) (n := 6) (i := 0) (k := .i64) (by omega)
      have i1 := ixS_byte (b := h.next) (n := 6) (i := 1) (k := .i64) (by omega)
      have i5 := ixS_byte (b := h.next) (n := 6) (i := 5) (k := .i64) (by omega)
      have q0 : I.ld0 h17 (.ptr h.next 0) = some (sv p0) := by rw [d17.ld0]; rfl
      have q1 : I.ld0 h17 (.ptr h.next 1) = some (sv p1) := by rw [d17.ld0]; rfl
      have q5 : I.ld0 h17 (.ptr h.next 5) = some (sv p5) := by rw [d17.ld0]; rfl
      simp only [Int.cast_ofNat_Int] at i0 i1 i5
      have n6 : (([p0, p1, p2, p3, p4, p5] : List Bs).length : Nat) = 6 := rfl
      rw [n6] at es
      by_cases z0 : p0 = dvar
      · by_cases z1 : p1 = dwire
        · have z5 : p5 ≠ dend := fun z => hno ⟨_, _, _, _, _, _, rfl, z0, z1, z⟩
          simp only [t24_1, W, WW, ↓reduceIte, reduceCtorEq, Nat.reduceAdd, Int.reduceEq, Int.reduceNe, Int.reduceLT, Int.reduceLE, Int.reduceAdd, Int.reduceSub, Int.reduceMul, Int.reduceNeg, Nat.reduceMul, cup, hup, c32, es, l6, i0, i1, i5, q0, q1, q5, cv, cw, ce, eq_true z0, eq_true z1, eq_false z5, rf]
        · simp only [t24_1, W, WW, ↓reduceIte, reduceCtorEq, Nat.reduceAdd, Int.reduceEq, Int.reduceNe, Int.reduceLT, Int.reduceLE, Int.reduceAdd, Int.reduceSub, Int.reduceMul, Int.reduceNeg, Nat.reduceMul, cup, hup, c32, es, l6, i0, i1, q0, q1, cv, cw, ce, eq_true z0, eq_false z1, rf]
      · simp only [t24_1, W, WW, ↓reduceIte, reduceCtorEq, Nat.reduceAdd, Int.reduceEq, Int.reduceNe, Int.reduceLT, Int.reduceLE, Int.reduceAdd, Int.reduceSub, Int.reduceMul, Int.reduceNeg, Nat.reduceMul, cup, hup, c32, es, l6, i0, q0, cv, eq_false z0, rf]
    · have h6' : ¬ ((fs.length : Nat) : Int) = 6 := by omega
      simp only [t24_1, W, WW, ↓reduceIte, reduceCtorEq, Nat.reduceAdd, Int.reduceEq, Int.reduceNe, Int.reduceLT, Int.reduceLE, Int.reduceAdd, Int.reduceSub, Int.reduceMul, Int.reduceNeg, Nat.reduceMul, cup, hup, c32, es, lenS, Int.ofNat_eq_natCast, eq_false h6', rf]
  split
  · rename_i hv
    split at hv
    · rename_i p0 p1 p2 p3 p4 p5
      by_cases hz : p0 = dvar ∧ p1 = dwire ∧ p5 = dend
      · rw [if_pos hz] at hv
        obtain ⟨z0, z1, z5⟩ := hz
        have hnum : numP p2 = none := by
          cases hq : numP p2 with
          | none => rfl
          | some v => rw [hq] at hv; cases hv
        have hpl : p2.length ≤ 281474976710656 := by
          have := splitL_mem 32 l p2 (by rw [hfs]; simp)
          omega
        have l6 : lenS (.slice h.next 0 6 1) = some (.int .i64 6) := rfl
        have i0 := ixS_byte (b := h.next) (n := 6) (i := 0) (k := .i64) (by omega)
        have i1 := ixS_byte (b := h.next) (n := 6) (i := 1) (k := .i64) (by omega)
        have i2 := ixS_byte (b := h.next) (n := 6) (i := 2) (k := .i64) (by omega)
        have i3 := ixS_byte (b := h.next) (n := 6) (i := 3) (k := .i64) (by omega)
        have i5 := ixS_byte (b := h.next) (n := 6) (i := 5) (k := .i64) (by omega)
        have q0 : I.ld0 h17 (.ptr h.next 0) = some (sv p0) := by rw [d17.ld0]; rfl
        have q1 : I.ld0 h17 (.ptr h.next 1) = some (sv p1) := by rw [d17.ld0]; rfl
        have q3 : I.ld0 h17 (.ptr h.next 3) = some (sv p3) := by rw [d17.ld0]; rfl
        have q5 : I.ld0 h17 (.ptr h.next 5) = some (sv p5) := by rw [d17.ld0]; rfl
        simp only [Int.cast_ofNat_Int] at i0 i1 i2 i3 i5
        have n6 : (([p0, p1, p2, p3, p4, p5] : List Bs).length : Nat) = 6 := rfl
        rw [n6] at es
        have l1 := x17.l1
        have v0 := x17.lv 0 (by omega)
        have ln := (x17.gl 0 (by omega)).len1
        obtain ⟨o, em, x53, kp⟩ := x17.mup p3 (C 0).length
        have d53 := kp _ _ _ hfb d17
        have q2 : I.ld0 (h17.put m o) (.ptr h.next 2) = some (sv p2) := by rw [d53.ld0]; rfl
        have v1 := x53.lv 1 (by omega)
        obtain ⟨h63, k63, en⟩ := number3 x53.gd p2 hpl
        rw [hnum] at en
        simp only at en
        refine ⟨h63, e24_1 ?_ (by simp), (x53.go k63).ky⟩
        simp only [t24_1, W, WW, ↓reduceIte, reduceCtorEq, Nat.reduceAdd, Int.reduceEq, Int.reduceNe, Int.reduceLT, Int.reduceLE, Int.reduceAdd, Int.reduceSub, Int.reduceMul, Int.reduceNeg, Nat.reduceMul, cup, hup, c32, es, l6, i0, i1, i5, q0, q1, q5, cv, cw, ce, eq_true z0, eq_true z1, eq_true z5, rt, l1, i3, q3, v0, ln, em, v1, i2, q2, en]
      · exact ⟨h17, bad (fun ⟨a, b, w, c, n, e, hh, z⟩ => by
          injection hh with e0 hh; injection hh with e1 hh; injection hh with _ hh; injection hh with _ hh; injection hh with _ hh; injection hh with e5 hh
          subst e0; subst e1; subst e5
          exact hz z), x17.ky⟩
    · rename_i hno
      exact ⟨h17, bad (fun ⟨a, b, w, c, n, e, hh, z⟩ => hno a b w c n e hh), x17.ky⟩
  · rename_i c n v hv
    split at hv
    · rename_i p0 p1 p2 p3 p4 p5
      split at hv
      · rename_i hz
        obtain ⟨z0, z1, z5⟩ := hz
        obtain ⟨v', hnum, hv⟩ := Option.map_eq_some_iff.1 hv
        injection hv with hv1 hv; injection hv with hv2 hv3
        subst hv1; subst hv3
        have hpl : p2.length ≤ 281474976710656 := by
          have := splitL_mem 32 l p2 (by rw [hfs]; simp)
          omega
        have l6 : lenS (.slice h.next 0 6 1) = some (.int .i64 6) := rfl
        have i0 := ixS_byte (b := h.next) (n := 6) (i := 0) (k := .i64) (by omega)
        have i1 := ixS_byte (b := h.next) (n := 6) (i := 1) (k := .i64) (by omega)
        have i2 := ixS_byte (b := h.next) (n := 6) (i := 2) (k := .i64) (by omega)
        have i3 := ixS_byte (b := h.next) (n := 6) (i := 3) (k := .i64) (by omega)
        have i4 := ixS_byte (b := h.next) (n := 6) (i := 4) (k := .i64) (by omega)
        have i5 := ixS_byte (b := h.next) (n := 6) (i := 5) (k := .i64) (by omega)
        have q0 : I.ld0 h17 (.ptr h.next 0) = some (sv p0) := by rw [d17.ld0]; rfl
        have q1 : I.ld0 h17 (.ptr h.next 1) = some (sv p1) := by rw [d17.ld0]; rfl
        have q3 : I.ld0 h17 (.ptr h.next 3) = some (sv p3) := by rw [d17.ld0]; rfl
        have q5 : I.ld0 h17 (.ptr h.next 5) = some (sv p5) := by rw [d17.ld0]; rfl
        simp only [Int.cast_ofNat_Int] at i0 i1 i2 i3 i4 i5
        have n6 : (([p0, p1, p2, p3, p4, p5] : List Bs).length : Nat) = 6 := rfl
        rw [n6] at es
        have l1 := x17.l1
        have v0 := x17.lv 0 (by omega)
        have ln := (x17.gl 0 (by omega)).len1
        have hC0 : (C 0).length = nm.length := by rw [c0, List.length_map]
        have hC1 : (C 1).length = wd.length := by rw [c1]; simp [ints]
        rw [hC0] at ln
        obtain ⟨o, em, x53, kp⟩ := x17.mup p3 nm.length
        have d53 := kp _ _ _ hfb d17
        generalize h17.put m o = h53 at em x53 kp d53
        have q2 : I.ld0 h53 (.ptr h.next 2) = some (sv p2) := by rw [d53.ld0]; rfl
        have v1 := x53.lv 1 (by omega)
        obtain ⟨h63, k63, en⟩ := number3 x53.gd p2 hpl
        rw [hnum] at en
        simp only at en
        have x63 := x53.go k63
        have d63 := d53.ky x53.gd.wf k63
        have v1' := x63.lv 1 (by omega)
        obtain ⟨h66, e66, k66, c66, -⟩ := litW_ky (es := 1) (z := [.int .i64 0]) (vs := [.int .i64 v']) x63.gd rfl (fun v hv => by simp at hv; subst hv; rfl) rfl
        have x66 := x63.go k66
        have d66 := d63.ky x63.gd.wf k66
        have v1'' := x66.lv 1 (by omega)
        obtain ⟨s', h69, o2, ea, est, x73, kp73⟩ := x66.app 1 (by omega) (bytes := 8) (new := [.int .i64 v']) (y := .slice h63.next 0 1 1) (c66.source1 rfl) rfl rfl (by omega) (by omega)
        have d73 := kp73 _ _ _ hfb d66
        generalize h69.put b o2 = h73 at est x73 kp73 d73
        have q4 : I.ld0 h73 (.ptr h.next 4) = some (sv p4) := by rw [d73.ld0]; rfl
        have two : ∀ {h78 : H} {nmv : Bs}, RD h₀ h78 b bl m L k (setM s p3 nm.length) (upd C 1 (C 1 ++ [.int .i64 v'])) (upd vs 1 s') → I.ld0 h78 (.ptr h.next 4) = some (sv nmv) → Cs h78 h.next true false ([p0, p1, p2, p3, nmv, p5].map sv) →
            ∃ h' C' vs', RD h₀ h' b bl m L k (setM s p3 nm.length) C' vs' ∧ C' 0 = (nm ++ [nmv]).map sv ∧ C' 1 = ints (wd ++ [v']) ∧ C' 2 = C 2 ∧ C' 3 = C 3 ∧ ∀ r, r ≠ .fail → callP (CL tab3 26 [.ptr b 0] h') .pan (fun v h => J24 tab3 1 [.ptr b 0, v] h) = r → J24 tab3 2 [.ptr b 0, .slice h.next 0 6 1] h78 = r := by
          intro h78 nmv x78 q4 _
          have w0 := x78.lv 0 (by omega)
          obtain ⟨h98, e98, k98, c98, -⟩ := lit_ky (es := 1) (z := [.str ⟨0, 0⟩]) (vs := [sv nmv]) x78.gd rfl (fun v hv => by simp at hv; subst hv; rfl) rfl
          have x98 := x78.go k98
          have w0' := x98.lv 0 (by omega)
          obtain ⟨s2, h101, o3, ea, est, x105, -⟩ := x98.app 0 (by omega) (bytes := 16) (new := [sv nmv]) (y := .slice h78.next 0 1 1) (c98.source1 rfl) rfl rfl (by omega) (by rw [upd_ne (by decide)]; omega)
          refine ⟨_, _, _, x105, by rw [upd_eq, upd_ne (by decide), c0]; simp, by rw [upd_ne (by decide), upd_eq, c1]; simp [ints], by rw [upd_ne (by decide), upd_ne (by decide)], by rw [upd_ne (by decide), upd_ne (by decide)], fun r hr e => e24_2 ?_ hr⟩
          have e98' : bslK false 1 [.str ⟨0, 0⟩] 1 [(0, sv nmv)] h78 = some (.slice h78.next 0 1 1, h98) := e98
          have ea' : appK 1 16 h98 (upd vs 1 s' 0) (.slice h78.next 0 1 1) = some (s2, h101) := ea
          simp only [t24_2, W, WW, ↓reduceIte, reduceCtorEq, Nat.reduceAdd, Int.reduceEq, Int.reduceNe, Int.reduceLT, Int.reduceLE, Int.reduceAdd, Int.reduceSub, Int.reduceMul, Int.reduceNeg, Nat.reduceMul, w0, i4, q4, e98', w0', ea', est]
          exact e
        have e66' : bslK true 1 [.int .i64 0] 1 [(0, .int .i64 v')] h63 = some (.slice h63.next 0 1 1, h66) := e66
        have ea' : appK 1 8 h66 (vs 1) (.slice h63.next 0 1 1) = some (s', h69) := ea
        by_cases h95 : p4 = [95]
        · obtain ⟨o4, e4, -, d4⟩ := x73.ky.st d73 hf0 (n := 1) (off := 4) (v := .str ⟨0, 0⟩) rfl rfl (by show 4 + 1 ≤ 6; omega)
          have x78 := x73.putQ (o := o4) d73 hf0 hfb
          obtain ⟨h', C', vs', r1, r2, r3, r4, r5, r6⟩ := two (nmv := []) x78 (by rw [d4.ld0]; rfl) d4
          refine ⟨h', C', vs', r1, by rw [← hv2, if_pos h95]; exact r2, r3, r4, r5, fun r hr e => e24_1 ?_ hr⟩
          simp only [t24_1, W, WW, ↓reduceIte, reduceCtorEq, Nat.reduceAdd, Int.reduceEq, Int.reduceNe, Int.reduceLT, Int.reduceLE, Int.reduceAdd, Int.reduceSub, Int.reduceMul, Int.reduceNeg, Nat.reduceMul, cup, hup, c32, es, l6, i0, i1, i5, q0, q1, q5, cv, cw, ce, eq_true z0, eq_true z1, eq_true z5, rt, l1, i3, q3, v0, ln, em, v1, i2, q2, en, v1', e66', v1'', ea', est, i4, q4, c95, eq_true h95, e4]
          exact r6 r hr e
        · obtain ⟨h', C', vs', r1, r2, r3, r4, r5, r6⟩ := two (nmv := p4) x73 q4 d73
          refine ⟨h', C', vs', r1, by rw [← hv2, if_neg h95]; exact r2, r3, r4, r5, fun r hr e => e24_1 ?_ hr⟩
          simp only [t24_1, W, WW, ↓reduceIte, reduceCtorEq, Nat.reduceAdd, Int.reduceEq, Int.reduceNe, Int.reduceLT, Int.reduceLE, Int.reduceAdd, Int.reduceSub, Int.reduceMul, Int.reduceNeg, Nat.reduceMul, cup, hup, c32, es, l6, i0, i1, i5, q0, q1, q5, cv, cw, ce, eq_true z0, eq_true z1, eq_true z5, rt, l1, i3, q3, v0, ln, em, v1, i2, q2, en, v1', e66', v1'', ea', est, i4, q4, c95, eq_false h95]
          exact r6 r hr e
      · cases hv
    · cases hv
end Go.Proofs.YtdccdfmbakbikaaDoor
namespace Go.Proofs.YtdccdfmbakbikaaDoor
open Go I
variable {h₀ h : H} {b bl m k : Nat} {L : List Bs} {s : Sc} {C : Nat → List IV} {vs : Nat → IV}
theorem drop_some {k : Nat} {L : List Bs} {l : Bs} {ls : List Bs} (e : L.drop k = l :: ls) : L[k]? = some l ∧ L.drop (k + 1) = ls := by
  have h1 : k < L.length := by
    rcases Nat.lt_or_ge k L.length with h | h
    · exact h
    · rw [List.drop_of_length_le h] at e; cases e
  rw [List.drop_eq_getElem_cons h1] at e
  injection e with e1 e2
  exact ⟨by rw [List.getElem?_eq_getElem h1, e1], e2⟩
theorem drop_none {k : Nat} {L : List Bs} (e : L.drop k = []) : L[k]? = none := List.getElem?_eq_none_iff.2 (List.drop_eq_nil_iff.1 e)
def VOut (h₀ : H) (b bl m : Nat) (L : List Bs) (C : Nat → List IV) : Option (List Bs × Sc × List Bs × List Int) → CRes → Prop
  | none, r => ∃ h', r = .pan oddI h' ∧ Ky h₀ h'
  | some (ls, s', nm, wd), r => ∃ h' k' C' vs', r = .ok (.tup []) h' ∧ RD h₀ h' b bl m L k' s' C' vs' ∧ L.drop k' = ls ∧ C' 0 = nm.map sv ∧ C' 1 = ints wd ∧ C' 2 = C 2 ∧ C' 3 = C 3 ∧ nm.length ≤ k' ∧ wd.length ≤ k'
theorem vars_go (hlen : ∀ l ∈ L, l.length ≤ 1048576) : ∀ (ls : List Bs) {k : Nat} {h : H} {s : Sc} {C : Nat → List IV} {vs : Nat → IV} (nm : List Bs) (wd : List Int) (l : Bs), RD h₀ h b bl m L k s C vs → C 0 = nm.map sv → C 1 = ints wd → nm.length ≤ k → wd.length ≤ k → L.drop k = ls → l.length ≤ 1048576 →
    VOut h₀ b bl m L C (varsP (l :: ls) s nm wd) (J24 tab3 1 [.ptr b 0, sv l] h) := by
  intro ls
  induction ls with
  | nil =>
    intro k h s C vs nm wd l x c0 c1 hn hw hd hl
    have hkL := x.hk
    have hLL := x.hL
    have none_ := drop_none hd
    unfold varsP
    by_cases hup : l = upW
    · rw [if_pos hup]
      refine ⟨h, e24_1 ?_ (by simp), x.ky⟩
      have cup : IV.str ⟨13, 7956981874617361452794851128612⟩ = sv upW := by kernel_rfl
      simp only [t24_1, W, WW, ↓reduceIte, reduceCtorEq, Nat.reduceAdd, Int.reduceEq, Int.reduceNe, Int.reduceLT, Int.reduceLE, Int.reduceAdd, Int.reduceSub, Int.reduceMul, Int.reduceNeg, Nat.reduceMul, cup, eq_true hup, line_none x none_]
    · rw [if_neg hup]
      have st := pvar_step x c0 c1 (by omega) (by omega) l hl hup
      cases hv : varP l with
      | none =>
        rw [hv] at st
        obtain ⟨h', e, k'⟩ := st
        exact ⟨h', e, k'⟩
      | some p =>
        obtain ⟨c, n, v⟩ := p
        rw [hv] at st
        obtain ⟨h', C', vs', x', r2, r3, r4, r5, go⟩ := st
        refine ⟨h', go _ (by simp) ?_, x'.ky⟩
        rw [line_none x' none_]; rfl
  | cons l2 ls ih =>
    intro k h s C vs nm wd l x c0 c1 hn hw hd hl
    have hkL := x.hk
    have hLL := x.hL
    obtain ⟨hs, hd2⟩ := drop_some hd
    have hl2 : l2.length ≤ 1048576 := hlen _ (List.mem_of_getElem? hs)
    unfold varsP
    by_cases hup : l = upW
    · rw [if_pos hup]
      have cup : IV.str ⟨13, 7956981874617361452794851128612⟩ = sv upW := by kernel_rfl
      have ced : IV.str ⟨20, 573360969688401287803447223673949885673767855396⟩ = sv edW := by kernel_rfl
      have cdv : IV.str ⟨9, 2129617567494907978788⟩ = sv dvW := by kernel_rfl
      obtain ⟨h2, e2, x2, -⟩ := line_some x hs
      have rf := right3 false x2.gd
      simp only [Bool.false_eq_true, if_false] at rf
      by_cases hed : l2 = edW
      · cases ls with
        | nil =>
          refine ⟨h2, e24_1 ?_ (by simp), x2.ky⟩
          simp only [t24_1, W, WW, ↓reduceIte, reduceCtorEq, Nat.reduceAdd, Int.reduceEq, Int.reduceNe, Int.reduceLT, Int.reduceLE, Int.reduceAdd, Int.reduceSub, Int.reduceMul, Int.reduceNeg, Nat.reduceMul, cup, eq_true hup, e2, ced, eq_true hed, line_none x2 (drop_none hd2)]
        | cons l3 ls =>
          obtain ⟨hs3, hd3⟩ := drop_some hd2
          obtain ⟨h3, e3, x3, -⟩ := line_some x2 hs3
          have rf := right3 false x3.gd
          have rt := right3 true x3.gd
          simp only [Bool.false_eq_true, if_false] at rf
          simp only [if_true] at rt
          show VOut h₀ b bl m L C (if l2 = edW ∧ l3 = dvW then some (ls, s, nm, wd) else none) _
          by_cases hdv : l3 = dvW
          · rw [if_pos ⟨hed, hdv⟩]
            refine ⟨h3, k + 1 + 1, C, vs, e24_1 ?_ (by simp), x3, hd3, c0, c1, rfl, rfl, by omega, by omega⟩
            simp only [t24_1, W, WW, ↓reduceIte, reduceCtorEq, Nat.reduceAdd, Int.reduceEq, Int.reduceNe, Int.reduceLT, Int.reduceLE, Int.reduceAdd, Int.reduceSub, Int.reduceMul, Int.reduceNeg, Nat.reduceMul, cup, eq_true hup, e2, ced, eq_true hed, e3, cdv, eq_true hdv, rt]
          · rw [if_neg (fun hh => hdv hh.2)]
            refine ⟨h3, e24_1 ?_ (by simp), x3.ky⟩
            simp only [t24_1, W, WW, ↓reduceIte, reduceCtorEq, Nat.reduceAdd, Int.reduceEq, Int.reduceNe, Int.reduceLT, Int.reduceLE, Int.reduceAdd, Int.reduceSub, Int.reduceMul, Int.reduceNeg, Nat.reduceMul, cup, eq_true hup, e2, ced, eq_true hed, e3, cdv, eq_false hdv, rf]
      · have hno : upP (l2 :: ls) s nm wd = none := by
          unfold upP
          split
          · rename_i a b' r e
            injection e with e _
            rw [if_neg (fun hh => hed (e.trans hh.1))]
          · rfl
        rw [hno]
        refine ⟨h2, e24_1 ?_ (by simp), x2.ky⟩
        simp only [t24_1, W, WW, ↓reduceIte, reduceCtorEq, Nat.reduceAdd, Int.reduceEq, Int.reduceNe, Int.reduceLT, Int.reduceLE, Int.reduceAdd, Int.reduceSub, Int.reduceMul, Int.reduceNeg, Nat.reduceMul, cup, eq_true hup, e2, ced, eq_false hed, rf]
    · rw [if_neg hup]
      have st := pvar_step x c0 c1 (by omega) (by omega) l hl hup
      cases hv : varP l with
      | none =>
        rw [hv] at st
        obtain ⟨h', e, k'⟩ := st
        exact ⟨h', e, k'⟩
      | some p =>
        obtain ⟨c, n, v⟩ := p
        rw [hv] at st
        obtain ⟨h', C', vs', x', r2, r3, r4, r5, go⟩ := st
        obtain ⟨h2, e2, x2, -⟩ := line_some x' hs
        have := ih (nm ++ [n]) (wd ++ [v]) l2 x2 r2 r3 (by simp; omega) (by simp; omega) hd2 hl2
        have key : ∀ {o r}, VOut h₀ b bl m L C' o r → J24 tab3 1 [.ptr b 0, sv l2] h2 = r → VOut h₀ b bl m L C o (J24 tab3 1 [.ptr b 0, sv l] h) := by
          intro o r w e
          have up : ∀ r, r ≠ .fail → J24 tab3 1 [.ptr b 0, sv l2] h2 = r → J24 tab3 1 [.ptr b 0, sv l] h = r := fun r hr e => go r hr (by rw [e2]; exact e)
          cases o with
          | none =>
            obtain ⟨h9, rfl, k9⟩ := w
            exact ⟨h9, up _ (by simp) e, k9⟩
          | some q =>
            obtain ⟨ls', s', nm', wd'⟩ := q
            obtain ⟨h9, k9, C9, vs9, rfl, w2, w3, w4, w5, w6, w7, w8⟩ := w
            exact ⟨h9, k9, C9, vs9, up _ (by simp) e, w2, w3, w4, w5, w6.trans r4, w7.trans r5, w8⟩
        exact key this rfl
def readVarsP (ls : List Bs) : Option (List Bs × Sc × List Bs × List Int) := match ls with
  | a :: c :: l :: ls => if a = tsW ∧ c = scW then varsP (l :: ls) [] [] [] else none
  | _ => none
theorem vars3 (hlen : ∀ l ∈ L, l.length ≤ 1048576) (x : RD h₀ h b bl m L 0 [] C vs) (c0 : C 0 = []) (c1 : C 1 = []) : VOut h₀ b bl m L C (readVarsP L) (CL tab3 24 [.ptr b 0] h) := by
  have cts : IV.str ⟨20, 573360969688401281526989655801287553678907634724⟩ = sv tsW := by kernel_rfl
  have csc : IV.str ⟨22, 37575784509498047304093631126285379671082732007682852⟩ = sv scW := by kernel_rfl
  have go : ∀ r, r ≠ .fail → t24_0 (CL tab3) (J24 tab3) (.ptr b 0) h = r → CL tab3 24 [.ptr b 0] h = r := fun r hr e => c24 good3.step rfl rfl x.gd e hr
  have pan : ∀ h', t24_0 (CL tab3) (J24 tab3) (.ptr b 0) h = .pan oddI h' → Ky h₀ h' → VOut h₀ b bl m L C none (CL tab3 24 [.ptr b 0] h) := fun h' e k => ⟨h', go _ (by simp) e, k⟩
  have hd0 : L.drop 0 = L := List.drop_zero
  match hL : L, x, hlen with
  | [], x, hlen => exact pan h (by simp only [t24_0, line_none x rfl, W, WW, ↓reduceIte, reduceCtorEq, Nat.reduceAdd, Int.reduceEq, Int.reduceNe, Int.reduceLT, Int.reduceLE, Int.reduceAdd, Int.reduceSub, Int.reduceMul, Int.reduceNeg, Nat.reduceMul]) x.ky
  | a :: rest, x, hlen =>
    obtain ⟨h1, e1, x1, -⟩ := line_some x (l := a) rfl
    have rf := right3 false x1.gd
    simp only [Bool.false_eq_true, if_false] at rf
    by_cases ha : a = tsW
    · match rest, x1, x, hlen, e1, hL, hd0, go, pan with
      | [], x1, x, hlen, e1, hL, hd0, go, pan => exact pan h1 (by simp only [t24_0, e1, W, WW, ↓reduceIte, reduceCtorEq, Nat.reduceAdd, Int.reduceEq, Int.reduceNe, Int.reduceLT, Int.reduceLE, Int.reduceAdd, Int.reduceSub, Int.reduceMul, Int.reduceNeg, Nat.reduceMul, cts, eq_true ha, line_none x1 rfl]) x1.ky
      | c :: rest, x1, x, hlen, e1, hL, hd0, go, pan =>
        obtain ⟨h2, e2, x2, -⟩ := line_some x1 (l := c) rfl
        have rf := right3 false x2.gd
        have rt := right3 true x2.gd
        simp only [Bool.false_eq_true, if_false] at rf
        simp only [if_true] at rt
        by_cases hc : c = scW
        · match rest, x2, x1, x, hlen, e1, e2, hL, hd0, go, pan with
          | [], x2, x1, x, hlen, e1, e2, hL, hd0, go, pan => exact pan h2 (by simp only [t24_0, e1, W, WW, ↓reduceIte, reduceCtorEq, Nat.reduceAdd, Int.reduceEq, Int.reduceNe, Int.reduceLT, Int.reduceLE, Int.reduceAdd, Int.reduceSub, Int.reduceMul, Int.reduceNeg, Nat.reduceMul, cts, eq_true ha, e2, csc, eq_true hc, rt, line_none x2 rfl]) x2.ky
          | l :: ls, x2, x1, x, hlen, e1, e2, hL, hd0, go, pan =>
            obtain ⟨h3, e3, x3, -⟩ := line_some x2 (l := l) rfl
            have := vars_go hlen ls [] [] l x3 c0 c1 (by simp) (by simp) rfl (hlen l (by simp))
            show VOut h₀ b bl m _ C (if a = tsW ∧ c = scW then varsP (l :: ls) [] [] [] else none) _
            rw [if_pos ⟨ha, hc⟩]
            have up : ∀ r, r ≠ .fail → J24 tab3 1 [.ptr b 0, sv l] h3 = r → CL tab3 24 [.ptr b 0] h = r := fun r hr e => go r hr (by
              simp only [t24_0, e1, W, WW, ↓reduceIte, reduceCtorEq, Nat.reduceAdd, Int.reduceEq, Int.reduceNe, Int.reduceLT, Int.reduceLE, Int.reduceAdd, Int.reduceSub, Int.reduceMul, Int.reduceNeg, Nat.reduceMul, cts, eq_true ha, e2, csc, eq_true hc, rt, e3]
              exact e)
            generalize J24 tab3 1 [.ptr b 0, sv l] h3 = r at this up
            cases ho : varsP (l :: ls) [] [] [] with
            | none =>
              rw [ho] at this
              obtain ⟨h9, rfl, k9⟩ := this
              exact ⟨h9, up _ (by simp) rfl, k9⟩
            | some q =>
              obtain ⟨ls', s', nm', wd'⟩ := q
              rw [ho] at this
              obtain ⟨h9, k9, C9, vs9, rfl, w⟩ := this
              exact ⟨h9, k9, C9, vs9, up _ (by simp) rfl, w⟩
        · have hno : readVarsP (a :: c :: rest) = none := by
            unfold readVarsP
            split
            · rename_i e
              injection e with _ e; injection e with e _
              rw [if_neg (fun hh => hc (e.trans hh.2))]
            · rfl
          rw [hno]
          exact pan h2 (by simp only [t24_0, e1, W, WW, ↓reduceIte, reduceCtorEq, Nat.reduceAdd, Int.reduceEq, Int.reduceNe, Int.reduceLT, Int.reduceLE, Int.reduceAdd, Int.reduceSub, Int.reduceMul, Int.reduceNeg, Nat.reduceMul, cts, eq_true ha, e2, csc, eq_false hc, rf]) x2.ky
    · have hno : readVarsP (a :: rest) = none := by
        unfold readVarsP
        split
        · rename_i e
          injection e with e _
          rw [if_neg (fun hh => ha (e.trans hh.1))]
        · rfl
      rw [hno]
      exact pan h1 (by simp only [t24_0, e1, W, WW, ↓reduceIte, reduceCtorEq, Nat.reduceAdd, Int.reduceEq, Int.reduceNe, Int.reduceLT, Int.reduceLE, Int.reduceAdd, Int.reduceSub, Int.reduceMul, Int.reduceNeg, Nat.reduceMul, cts, eq_false ha, rf]) x1.ky
variable {hS h₀ h : H} {b bl m k b1 b3 : Nat} {L : List Bs} {s : Sc} {C : Nat → List IV} {vs : Nat → IV}
structure RF (hS h₀ : H) (b1 b3 : Nat) : Prop where
  ky : Ky hS h₀
  n1 : hS.next ≤ b1
  n3 : hS.next ≤ b3
  ne : b3 ≠ b1
  q1 : Cs h₀ b1 true false z0
  q3 : Cs h₀ b3 true false [.int .i64 0]
theorem odd_lv (f : RF hS h₀ b1 b3) (k : Ky h₀ h) : ∃ h', LV Tryd.prog (CL tab3) 22 [.ptr b1 0, .ptr b3 0] (.pan oddI) h = some (.ret, h') ∧ Ky hS h' ∧ I.ldA 4 h' (.ptr b1 0) = some (.agg z0) ∧ I.ld0 h' (.ptr b3 0) = some (.int .i64 190) := by
  have a1 := f.q1.ky f.ky.gd.wf k
  have a3 := f.q3.ky f.ky.gd.wf k
  have ks := f.ky.trans k
  obtain ⟨h6, w6, k6, d6, k66, n6⟩ := ks.newI (cs := []) rfl
  have a1 := a1.ky k.gd.wf k66
  have a3 := a3.ky k.gd.wf k66
  have hb1 := f.q1.lt f.ky.gd.wf
  have hb3 := f.q3.lt f.ky.gd.wf
  have hnn := k.next
  obtain ⟨o1, w7, k7, d7⟩ := k6.st d6 ks.next (n := 0) (off := 0) (v := .agg []) rfl rfl (by show 0 + 0 ≤ 0; omega)
  have a1 := a1.of_put (o := o1) (show b1 ≠ h.next by omega)
  have a3 := a3.of_put (o := o1) (show b3 ≠ h.next by omega)
  generalize h6.put h.next o1 = h7 at w7 k7 d7 a1 a3
  obtain ⟨o2, w8, k8, d8⟩ := k7.st a1 f.n1 (n := 4) (off := 0) (v := .agg z0) rfl rfl (by show 0 + 4 ≤ 4; omega)
  have a3 := a3.of_put (o := o2) f.ne
  generalize h7.put b1 o2 = h8 at w8 k8 d8 a3
  obtain ⟨o3, w9, k9, d9⟩ := k8.st a3 f.n3 (n := 1) (off := 0) (v := .int .i64 190) rfl rfl (by show 0 + 1 ≤ 1; omega)
  have d8 := d8.of_put (o := o3) (Ne.symm f.ne)
  generalize h8.put b3 o3 = h9 at w9 k9 d9 d8
  have b0 : bldK z0 p2 [] = some (.agg z0) := rfl
  have asr : assertI tyO true (some (.agg [])) (.iface tyO (.agg [])) = some (.tup [.agg [], .bool true]) := rfl
  refine ⟨h9, l22 (by simp) (v := .tup []) ?_, k9, d8.ldAll rfl, by rw [d9.ld0]; rfl⟩
  simp only [recV, oddI, t22_0, W, WW, ↓reduceIte, reduceCtorEq, Nat.reduceAdd, Int.reduceEq, Int.reduceNe, Int.reduceLT, Int.reduceLE, Int.reduceAdd, Int.reduceSub, Int.reduceMul, Int.reduceNeg, Nat.reduceMul, asr, w6, w7]
  refine e22_1 ?_ (by simp)
  simp only [t22_1, W, WW, ↓reduceIte, reduceCtorEq, Nat.reduceAdd, Int.reduceEq, Int.reduceNe, Int.reduceLT, Int.reduceLE, Int.reduceAdd, Int.reduceSub, Int.reduceMul, Int.reduceNeg, Nat.reduceMul, b0, w8, w9]
theorem ret_lv {a a' : IV} : LV Tryd.prog (CL tab3) 22 [a, a'] .ret h = some (.ret, h) :=
  l22 (by simp) (v := .tup []) (by simp only [recV, t22_0, W, WW, ↓reduceIte, reduceCtorEq, Nat.reduceAdd, Int.reduceEq, Int.reduceNe, Int.reduceLT, Int.reduceLE, Int.reduceAdd, Int.reduceSub, Int.reduceMul, Int.reduceNeg, Nat.reduceMul])
def chgP : Int → List Bs → Sc → List Chg → Option (List Chg)
  | _, [], _, _ => none
  | t, l :: ls, s, cs => if l = [] then some cs else if l.head? = some 35 then match numP l.tail with
      | none => none
      | some t' => chgP t' ls s cs
    else match valP s l with
      | none => none
      | some p => chgP t ls s (cs ++ [⟨t, p.1, p.2⟩])
def endP (s : Sc) (w : Wv) (ls : List Bs) : Option Wv := match ls with
  | e :: l :: ls => if e = dend then (chgP (-1) (l :: ls) s []).map fun c => { w with list := c } else none
  | _ => none
def firstP (s : Sc) (w : Wv) : Nat → List Bs → List Bs → Option Wv
  | 0, fs, ls => endP s { w with first := fs } ls
  | _ + 1, _, [] => none
  | n + 1, fs, l :: ls => match valP s l with
    | none => none
    | some p => firstP s w n (fs ++ [p.2]) ls
def readP (s0 : Bs) : Option Wv := match readVarsP (splitL 10 s0) with
  | none => none
  | some (ls, s, nm, wd) => firstP s ⟨nm, wd, [], []⟩ nm.length [] ls
structure WC (C : Nat → List IV) (w : Wv) : Prop where
  u0 : C 0 = w.names.map sv
  u1 : C 1 = ints w.wides
  u2 : C 2 = w.first.map sv
  u3 : C 3 = flC w.list
theorem ch_txt : ∀ l : List Bs, Ch RS 1 l (l.map sv)
  | [] => rfl
  | x :: l => ⟨[sv x], l.map sv, rfl, rfl, rfl, ch_txt l⟩
theorem ch_int : ∀ l : List Int, Ch RI 1 l (ints l)
  | [] => rfl
  | x :: l => ⟨[.int .i64 x], ints l, rfl, rfl, rfl, ch_int l⟩
theorem RD.lr0 (x : RD h₀ h b bl m L k s C vs) {w : Wv} (c : WC C w) : LR h 1 RS w.names (vs 0) := (x.gl 0 (by omega)).gl.LR (by decide) (by rw [c.u0]; exact ch_txt _)
theorem RD.lr1 (x : RD h₀ h b bl m L k s C vs) {w : Wv} (c : WC C w) : LR h 1 RI w.wides (vs 1) := (x.gl 1 (by omega)).gl.LR (by decide) (by rw [c.u1]; exact ch_int _)
theorem RD.lr2 (x : RD h₀ h b bl m L k s C vs) {w : Wv} (c : WC C w) : LR h 1 RS w.first (vs 2) := (x.gl 2 (by omega)).gl.LR (by decide) (by rw [c.u2]; exact ch_txt _)
theorem RD.lr3 (x : RD h₀ h b bl m L k s C vs) {w : Wv} (c : WC C w) : LR h 3 RC w.list (vs 3) := (x.gl 3 (by omega)).gl.LR (by decide) (by rw [c.u3]; exact flC_ch _)
theorem RD.wr (x : RD h₀ h b bl m L k s C vs) {w : Wv} (c : WC C w) : WR h (vs 0) (vs 1) (vs 2) (vs 3) w := ⟨x.lr0 c, .inl (x.lr1 c), x.lr2 c, x.lr3 c⟩
def BadR (hS : H) (r : CRes) : Prop := ∃ h', r = .ok (.tup [.agg z0, .int .i64 190]) h' ∧ Ky hS h'
def GoodR (hS : H) (w : Wv) (r : CRes) : Prop := ∃ n wd f l h', r = .ok (.tup [.agg [n, wd, f, l], .int .i64 0]) h' ∧ Ky hS h' ∧ WR h' n wd f l w
def ROut (hS : H) (s0 : Bs) : Option Wv → CRes → Prop
  | none, r => BadR hS r
  | some w, r => if writeF w = (s0, 0) then GoodR hS w r else BadR hS r
theorem ROut.ne {s0 : Bs} {o : Option Wv} {r : CRes} (x : ROut hS s0 o r) : r ≠ .fail := by
  cases o with
  | none => obtain ⟨_, rfl, _⟩ := x; simp
  | some w =>
    have x : (if writeF w = (s0, 0) then GoodR hS w r else BadR hS r) := x
    split at x
    · obtain ⟨_, _, _, _, _, rfl, _⟩ := x; simp
    · obtain ⟨_, rfl, _⟩ := x; simp
theorem read_end (f : RF hS h₀ b1 b3) (x : RD h₀ h b bl m L k s C vs) {w : Wv} (c : WC C w) (hw : w.list.length ≤ 9223372036854775807) (s0 : Bs) (tm : Int) :
    ROut hS s0 (some w) (J8d tab3 (.ptr b1 0) (.ptr b3 0) 2 [sv s0, .ptr b1 0, .ptr b3 0, .ptr b 0, .int .i64 tm, sv []] h) := by
  have lA : I.ldA 4 h (.ptr b 2) = some (.agg [vs 0, vs 1, vs 2, vs 3]) := x.cs.ldA 4 2 (by show 2 + 4 ≤ 6; omega)
  obtain ⟨h1, ew, k1⟩ := write x.gd (x.wr c) hw
  have x1 := x.go k1
  have lB : I.ldA 4 h1 (.ptr b 2) = some (.agg [vs 0, vs 1, vs 2, vs 3]) := x1.cs.ldA 4 2 (by show 2 + 4 ≤ 6; omega)
  have s00 : IV.str ⟨0, 0⟩ = sv [] := rfl
  have rf := right3 false x1.gd
  have rt := right3 true x1.gd
  simp only [Bool.false_eq_true, if_false] at rf
  simp only [if_true] at rt
  simp only [resI] at ew
  have bad : ¬ writeF w = (s0, 0) → BadR hS (J8d tab3 (.ptr b1 0) (.ptr b3 0) 2 [sv s0, .ptr b1 0, .ptr b3 0, .ptr b 0, .int .i64 tm, sv []] h) := by
    intro hno
    obtain ⟨h9, elv, k9, r1, r3⟩ := odd_lv f x1.ky
    refine ⟨h9, e8_2d ?_ (by simp), k9⟩
    by_cases h0 : (writeF w).2 = 0
    · have ht : ¬ (writeF w).1 = s0 := fun e => hno (Prod.ext e h0)
      simp only [t8_2d, W, WW, ↓reduceIte, reduceCtorEq, Nat.reduceAdd, Int.reduceEq, Int.reduceNe, Int.reduceLT, Int.reduceLE, Int.reduceAdd, Int.reduceSub, Int.reduceMul, Int.reduceNeg, Nat.reduceMul, s00, lA, ew, eq_true h0, eq_false ht, rf, dfP, dfK, elv, r1, r3]
    · simp only [t8_2d, W, WW, ↓reduceIte, reduceCtorEq, Nat.reduceAdd, Int.reduceEq, Int.reduceNe, Int.reduceLT, Int.reduceLE, Int.reduceAdd, Int.reduceSub, Int.reduceMul, Int.reduceNeg, Nat.reduceMul, s00, lA, ew, eq_false h0, rf, dfP, dfK, elv, r1, r3]
  show (if writeF w = (s0, 0) then GoodR hS w _ else BadR hS _)
  split
  · rename_i hg
    have h0 : (writeF w).2 = 0 := congrArg Prod.snd hg
    have ht : (writeF w).1 = s0 := congrArg Prod.fst hg
    have a1 := f.q1.ky f.ky.gd.wf x1.ky
    have a3 := f.q3.ky f.ky.gd.wf x1.ky
    have ks := f.ky.trans x1.ky
    have wr1 := x1.wr c
    obtain ⟨o1, w7, k7, d7⟩ := ks.st a1 f.n1 (n := 4) (off := 0) (v := .agg [vs 0, vs 1, vs 2, vs 3]) rfl wr1.scalar (by show 0 + 4 ≤ 4; omega)
    have q0 := (x1.lr0 c).of_put (o := o1) a1
    have q1 := (x1.lr1 c).of_put (o := o1) a1
    have q2 := (x1.lr2 c).of_put (o := o1) a1
    have q3 := (x1.lr3 c).of_put (o := o1) a1
    have a3 := a3.of_put (o := o1) f.ne
    generalize h1.put b1 o1 = h7 at w7 k7 d7 a3 q0 q1 q2 q3
    obtain ⟨o2, w8, k8, d8⟩ := k7.st a3 f.n3 (n := 1) (off := 0) (v := .int .i64 0) rfl rfl (by show 0 + 1 ≤ 1; omega)
    have q0 := q0.of_put (o := o2) a3
    have q1 := q1.of_put (o := o2) a3
    have q2 := q2.of_put (o := o2) a3
    have q3 := q3.of_put (o := o2) a3
    have d7 := d7.of_put (o := o2) (Ne.symm f.ne)
    generalize h7.put b3 o2 = h8 at w8 k8 d8 d7 q0 q1 q2 q3
    refine ⟨vs 0, vs 1, vs 2, vs 3, h8, e8_2d ?_ (by simp), k8, ⟨q0, .inl q1, q2, q3⟩⟩
    have r1 : I.ldA 4 h8 (.ptr b1 0) = some (.agg [vs 0, vs 1, vs 2, vs 3]) := d7.ldAll rfl
    have r3 : I.ld0 h8 (.ptr b3 0) = some (.int .i64 0) := by rw [d8.ld0]; rfl
    simp only [t8_2d, W, WW, ↓reduceIte, reduceCtorEq, Nat.reduceAdd, Int.reduceEq, Int.reduceNe, Int.reduceLT, Int.reduceLE, Int.reduceAdd, Int.reduceSub, Int.reduceMul, Int.reduceNeg, Nat.reduceMul, s00, lA, ew, eq_true h0, eq_true ht, rt, lB, w7, w8, dfK, ret_lv, r1, r3]
  · rename_i hno; exact bad hno
theorem chg_go (f : RF hS h₀ b1 b3) (hlen : ∀ l ∈ L, l.length ≤ 1048576) (s0 : Bs) : ∀ (ls : List Bs) {k : Nat} {h : H} {C : Nat → List IV} {vs : Nat → IV} (w : Wv) (tm : Int) (l : Bs), RD h₀ h b bl m L k s C vs → WC C w → w.list.length ≤ k → L.drop k = ls → l.length ≤ 1048576 →
    ROut hS s0 ((chgP tm (l :: ls) s w.list).map fun c => { w with list := c }) (J8d tab3 (.ptr b1 0) (.ptr b3 0) 2 [sv s0, .ptr b1 0, .ptr b3 0, .ptr b 0, .int .i64 tm, sv l] h) := by
  intro ls
  induction ls with
  | nil =>
    intro k h C vs w tm l x c hw hd hl
    have hkL := x.hk
    have hLL := x.hL
    have none_ := drop_none hd
    unfold chgP
    by_cases h0 : l = []
    · subst h0
      rw [if_pos rfl]
      exact read_end f x c (by omega) s0 tm
    · rw [if_neg h0]
      have s00 : IV.str ⟨0, 0⟩ = sv [] := rfl
      obtain ⟨y, t, rfl⟩ := List.exists_cons_of_ne_nil h0
      have a2 : slcStr (sv (y :: t)) (some (.int .i64 1)) none = some (sv t) := slcStr_from (y :: t) 1 (by omega) (by simp only [List.length_cons]; omega)
      have a3 : ixStr (sv (y :: t)) (.int .i64 0) = some (.int .u8 ((y.toNat : Nat) : Int)) := ixStr_sv (y :: t) 0 (by omega) (by simp)
      have hy : (((y.toNat : Nat) : Int) = 35) = (y = 35) := u8_eqv y 35
      rw [List.length_cons] at hl
      have bad : ∀ {h' : H} {vs' : Nat → IV} {C' : Nat → List IV} {t' : Int}, RD h₀ h' b bl m L k s C' vs' → BadR hS (J8d tab3 (.ptr b1 0) (.ptr b3 0) 3 [sv s0, .ptr b1 0, .ptr b3 0, .ptr b 0, .int .i64 t'] h') := by
        intro h' vs' C' t' x'
        obtain ⟨h9, elv, k9, r1, r3⟩ := odd_lv f x'.ky
        refine ⟨h9, e8_3d ?_ (by simp), k9⟩
        simp only [t8_3d, line_none x' none_, W, WW, ↓reduceIte, reduceCtorEq, Nat.reduceAdd, Int.reduceEq, Int.reduceNe, Int.reduceLT, Int.reduceLE, Int.reduceAdd, Int.reduceSub, Int.reduceMul, Int.reduceNeg, Nat.reduceMul, dfP, dfK, elv, r1, r3]
      by_cases h35 : y = 35
      · rw [if_pos (by rw [h35]; rfl)]
        obtain ⟨h1, k1, en⟩ := number3 x.gd t (by omega)
        show ROut hS s0 (Option.map _ (match numP t with | none => none | some t' => chgP t' [] s w.list)) _
        cases hn : numP t with
        | none =>
          rw [hn] at en
          obtain ⟨h9, elv, k9, r1, r3⟩ := odd_lv f (x.go k1).ky
          refine ⟨h9, e8_2d ?_ (by simp), k9⟩
          simp only [t8_2d, W, WW, ↓reduceIte, reduceCtorEq, Nat.reduceAdd, Int.reduceEq, Int.reduceNe, Int.reduceLT, Int.reduceLE, Int.reduceAdd, Int.reduceSub, Int.reduceMul, Int.reduceNeg, Nat.reduceMul, s00, List.cons_ne_nil, a3, hy, eq_true h35, a2, en, dfP, dfK, elv, r1, r3]
        | some v =>
          rw [hn] at en
          obtain ⟨h9, e9, k9⟩ := bad (t' := v) (x.go k1)
          refine ⟨h9, e8_2d ?_ (by simp), k9⟩
          simp only [t8_2d, W, WW, ↓reduceIte, reduceCtorEq, Nat.reduceAdd, Int.reduceEq, Int.reduceNe, Int.reduceLT, Int.reduceLE, Int.reduceAdd, Int.reduceSub, Int.reduceMul, Int.reduceNeg, Nat.reduceMul, s00, List.cons_ne_nil, a3, hy, eq_true h35, a2, en]
          exact e9
      · rw [if_neg (by simpa using h35)]
        have ev := value3r x (y :: t) (by simp only [List.length_cons]; omega)
        cases hv : valP s (y :: t) with
        | none =>
          rw [hv] at ev
          obtain ⟨h9, elv, k9, r1, r3⟩ := odd_lv f x.ky
          refine ⟨h9, e8_2d ?_ (by simp), k9⟩
          simp only [t8_2d, W, WW, ↓reduceIte, reduceCtorEq, Nat.reduceAdd, Int.reduceEq, Int.reduceNe, Int.reduceLT, Int.reduceLE, Int.reduceAdd, Int.reduceSub, Int.reduceMul, Int.reduceNeg, Nat.reduceMul, s00, List.cons_ne_nil, a3, hy, eq_false h35, ev, dfP, dfK, elv, r1, r3]
        | some p =>
          rw [hv] at ev
          have hc3 : (C 3).length = 3 * w.list.length := by rw [c.u3, flC_len]
          have v3 := x.lv 3 (by omega)
          obtain ⟨h96, e96, k96, d96, -⟩ := lit_ky (es := 3) (z := z1) (vs := [.agg (chgC ⟨tm, p.1, p.2⟩)]) x.gd rfl (fun v hv => by simp at hv; subst hv; rfl) rfl
          obtain ⟨s', h98, o, ea, est, x102, -⟩ := (x.go k96).app 3 (by omega) (bytes := 32) (new := chgC ⟨tm, p.1, p.2⟩) (y := .slice h.next 0 1 3) (d96.source1 rfl) rfl rfl (by omega) (by omega)
          have e96' : bslK false 3 z1 1 [(0, .agg (chgC ⟨tm, p.1, p.2⟩))] h = some (.slice h.next 0 1 3, h96) := e96
          have ea' : appK 3 32 h96 (vs 3) (.slice h.next 0 1 3) = some (s', h98) := ea
          have bd : bldK z1 p5 [(0, IV.int .i64 tm), (1, .int .i64 p.1), (2, sv p.2)] = some (.agg (chgC ⟨tm, p.1, p.2⟩)) := rfl
          obtain ⟨h9, e9, k9⟩ := bad (t' := tm) x102
          refine ⟨h9, e8_2d ?_ (by simp), k9⟩
          simp only [t8_2d, W, WW, ↓reduceIte, reduceCtorEq, Nat.reduceAdd, Int.reduceEq, Int.reduceNe, Int.reduceLT, Int.reduceLE, Int.reduceAdd, Int.reduceSub, Int.reduceMul, Int.reduceNeg, Nat.reduceMul, s00, List.cons_ne_nil, a3, hy, eq_false h35, ev, v3, bd, e96', ea', est]
          exact e9
  | cons l2 ls ih =>
    intro k h C vs w tm l x c hw hd hl
    have hkL := x.hk
    have hLL := x.hL
    obtain ⟨hs, hd2⟩ := drop_some hd
    have hl2 : l2.length ≤ 1048576 := hlen _ (List.mem_of_getElem? hs)
    unfold chgP
    by_cases h0 : l = []
    · subst h0
      rw [if_pos rfl]
      exact read_end f x c (by omega) s0 tm
    · rw [if_neg h0]
      have s00 : IV.str ⟨0, 0⟩ = sv [] := rfl
      obtain ⟨y, t, rfl⟩ := List.exists_cons_of_ne_nil h0
      have a2 : slcStr (sv (y :: t)) (some (.int .i64 1)) none = some (sv t) := slcStr_from (y :: t) 1 (by omega) (by simp only [List.length_cons]; omega)
      have a3 : ixStr (sv (y :: t)) (.int .i64 0) = some (.int .u8 ((y.toNat : Nat) : Int)) := ixStr_sv (y :: t) 0 (by omega) (by simp)
      have hy : (((y.toNat : Nat) : Int) = 35) = (y = 35) := u8_eqv y 35
      rw [List.length_cons] at hl
      have next : ∀ {h' : H} {vs' : Nat → IV} {C' : Nat → List IV} {w' : Wv} {t' : Int}, RD h₀ h' b bl m L k s C' vs' → WC C' w' → w'.list.length ≤ k + 1 →
          ROut hS s0 ((chgP t' (l2 :: ls) s w'.list).map fun c => { w' with list := c }) (J8d tab3 (.ptr b1 0) (.ptr b3 0) 3 [sv s0, .ptr b1 0, .ptr b3 0, .ptr b 0, .int .i64 t'] h') := by
        intro h' vs' C' w' t' x' c' hw'
        obtain ⟨h2, e2, x2, -⟩ := line_some x' hs
        have := ih w' t' l2 x2 c' hw' hd2 hl2
        rw [e8_3d (r := J8d tab3 (.ptr b1 0) (.ptr b3 0) 2 [sv s0, .ptr b1 0, .ptr b3 0, .ptr b 0, .int .i64 t', sv l2] h2) (by simp only [t8_3d, e2, W, WW, ↓reduceIte, reduceCtorEq, Nat.reduceAdd, Int.reduceEq, Int.reduceNe, Int.reduceLT, Int.reduceLE, Int.reduceAdd, Int.reduceSub, Int.reduceMul, Int.reduceNeg, Nat.reduceMul]) this.ne]
        exact this
      by_cases h35 : y = 35
      · rw [if_pos (by rw [h35]; rfl)]
        obtain ⟨h1, k1, en⟩ := number3 x.gd t (by omega)
        show ROut hS s0 (Option.map _ (match numP t with | none => none | some t' => chgP t' (l2 :: ls) s w.list)) _
        cases hn : numP t with
        | none =>
          rw [hn] at en
          obtain ⟨h9, elv, k9, r1, r3⟩ := odd_lv f (x.go k1).ky
          refine ⟨h9, e8_2d ?_ (by simp), k9⟩
          simp only [t8_2d, W, WW, ↓reduceIte, reduceCtorEq, Nat.reduceAdd, Int.reduceEq, Int.reduceNe, Int.reduceLT, Int.reduceLE, Int.reduceAdd, Int.reduceSub, Int.reduceMul, Int.reduceNeg, Nat.reduceMul, s00, List.cons_ne_nil, a3, hy, eq_true h35, a2, en, dfP, dfK, elv, r1, r3]
        | some v =>
          rw [hn] at en
          have nx := next (t' := v) (x.go k1) c (by omega)
          rw [e8_2d (r := J8d tab3 (.ptr b1 0) (.ptr b3 0) 3 [sv s0, .ptr b1 0, .ptr b3 0, .ptr b 0, .int .i64 v] h1) (by simp only [t8_2d, W, WW, ↓reduceIte, reduceCtorEq, Nat.reduceAdd, Int.reduceEq, Int.reduceNe, Int.reduceLT, Int.reduceLE, Int.reduceAdd, Int.reduceSub, Int.reduceMul, Int.reduceNeg, Nat.reduceMul, s00, List.cons_ne_nil, a3, hy, eq_true h35, a2, en]) nx.ne]
          exact nx
      · rw [if_neg (by simpa using h35)]
        have ev := value3r x (y :: t) (by simp only [List.length_cons]; omega)
        cases hv : valP s (y :: t) with
        | none =>
          rw [hv] at ev
          obtain ⟨h9, elv, k9, r1, r3⟩ := odd_lv f x.ky
          refine ⟨h9, e8_2d ?_ (by simp), k9⟩
          simp only [t8_2d, W, WW, ↓reduceIte, reduceCtorEq, Nat.reduceAdd, Int.reduceEq, Int.reduceNe, Int.reduceLT, Int.reduceLE, Int.reduceAdd, Int.reduceSub, Int.reduceMul, Int.reduceNeg, Nat.reduceMul, s00, List.cons_ne_nil, a3, hy, eq_false h35, ev, dfP, dfK, elv, r1, r3]
        | some p =>
          rw [hv] at ev
          have hc3 : (C 3).length = 3 * w.list.length := by rw [c.u3, flC_len]
          have v3 := x.lv 3 (by omega)
          obtain ⟨h96, e96, k96, d96, -⟩ := lit_ky (es := 3) (z := z1) (vs := [.agg (chgC ⟨tm, p.1, p.2⟩)]) x.gd rfl (fun v hv => by simp at hv; subst hv; rfl) rfl
          obtain ⟨s', h98, o, ea, est, x102, -⟩ := (x.go k96).app 3 (by omega) (bytes := 32) (new := chgC ⟨tm, p.1, p.2⟩) (y := .slice h.next 0 1 3) (d96.source1 rfl) rfl rfl (by omega) (by omega)
          have e96' : bslK false 3 z1 1 [(0, .agg (chgC ⟨tm, p.1, p.2⟩))] h = some (.slice h.next 0 1 3, h96) := e96
          have ea' : appK 3 32 h96 (vs 3) (.slice h.next 0 1 3) = some (s', h98) := ea
          have bd : bldK z1 p5 [(0, IV.int .i64 tm), (1, .int .i64 p.1), (2, sv p.2)] = some (.agg (chgC ⟨tm, p.1, p.2⟩)) := rfl
          have nx := next (t' := tm) (w' := { w with list := w.list ++ [⟨tm, p.1, p.2⟩] }) x102 ⟨by rw [upd_ne (by decide)]; exact c.u0, by rw [upd_ne (by decide)]; exact c.u1, by rw [upd_ne (by decide)]; exact c.u2, by rw [upd_eq, c.u3, flC_snoc]⟩ (by simp; omega)
          rw [e8_2d (r := J8d tab3 (.ptr b1 0) (.ptr b3 0) 3 [sv s0, .ptr b1 0, .ptr b3 0, .ptr b 0, .int .i64 tm] (h98.put b o)) (by simp only [t8_2d, W, WW, ↓reduceIte, reduceCtorEq, Nat.reduceAdd, Int.reduceEq, Int.reduceNe, Int.reduceLT, Int.reduceLE, Int.reduceAdd, Int.reduceSub, Int.reduceMul, Int.reduceNeg, Nat.reduceMul, s00, List.cons_ne_nil, a3, hy, eq_false h35, ev, v3, bd, e96', ea', est]) nx.ne]
          exact nx
end Go.Proofs.YtdccdfmbakbikaaDoor
namespace Go.Proofs.YtdccdfmbakbikaaDoor
open Go I
variable {hS h₀ h : H} {b bl m k b1 b3 : Nat} {L : List Bs} {s : Sc} {C : Nat → List IV} {vs : Nat → IV}
theorem end_go (f : RF hS h₀ b1 b3) (hlen : ∀ l ∈ L, l.length ≤ 1048576) (s0 : Bs) (N : Nat) (x : RD h₀ h b bl m L k s C vs) (w : Wv) (c : WC C w) (hw : w.list = []) (ls : List Bs) (hd : L.drop k = ls) :
    ROut hS s0 (endP s w ls) (J8d tab3 (.ptr b1 0) (.ptr b3 0) 1 [sv s0, .ptr b1 0, .ptr b3 0, .ptr b 0, .int .i64 (N : Nat), .int .i64 (N : Nat)] h) := by
  have ce : IV.str ⟨4, 1684956452⟩ = sv dend := rfl
  match ls, hd with
  | [], hd =>
    obtain ⟨h9, elv, k9, r1, r3⟩ := odd_lv f x.ky
    refine ⟨h9, e8_1d ?_ (by simp), k9⟩
    simp only [t8_1d, W, WW, ↓reduceIte, reduceCtorEq, Nat.reduceAdd, Int.reduceEq, Int.reduceNe, Int.reduceLT, Int.reduceLE, Int.reduceAdd, Int.reduceSub, Int.reduceMul, Int.reduceNeg, Nat.reduceMul, Int.lt_irrefl, line_none x (drop_none hd), dfP, dfK, elv, r1, r3]
  | e :: rest, hd =>
    obtain ⟨hs, hd2⟩ := drop_some hd
    obtain ⟨h2, e2, x2, -⟩ := line_some x hs
    have rf := right3 false x2.gd
    have rt := right3 true x2.gd
    simp only [Bool.false_eq_true, if_false] at rf
    simp only [if_true] at rt
    by_cases he : e = dend
    · match rest, hd2 with
      | [], hd2 =>
        obtain ⟨h9, elv, k9, r1, r3⟩ := odd_lv f x2.ky
        refine ⟨h9, e8_1d ?_ (by simp), k9⟩
        simp only [t8_1d, W, WW, ↓reduceIte, reduceCtorEq, Nat.reduceAdd, Int.reduceEq, Int.reduceNe, Int.reduceLT, Int.reduceLE, Int.reduceAdd, Int.reduceSub, Int.reduceMul, Int.reduceNeg, Nat.reduceMul, Int.lt_irrefl, e2, ce, eq_true he, rt, line_none x2 (drop_none hd2), dfP, dfK, elv, r1, r3]
      | l :: ls, hd2 =>
        obtain ⟨hs3, hd3⟩ := drop_some hd2
        obtain ⟨h3, e3, x3, -⟩ := line_some x2 hs3
        have nx := chg_go f hlen s0 ls w (-1) l x3 c (by rw [hw]; simp) hd3 (hlen _ (List.mem_of_getElem? hs3))
        rw [hw] at nx
        show ROut hS s0 (if e = dend then (chgP (-1) (l :: ls) s []).map fun c => { w with list := c } else none) _
        rw [if_pos he, e8_1d (r := J8d tab3 (.ptr b1 0) (.ptr b3 0) 2 [sv s0, .ptr b1 0, .ptr b3 0, .ptr b 0, .int .i64 (-1), sv l] h3) (by simp only [t8_1d, W, WW, ↓reduceIte, reduceCtorEq, Nat.reduceAdd, Int.reduceEq, Int.reduceNe, Int.reduceLT, Int.reduceLE, Int.reduceAdd, Int.reduceSub, Int.reduceMul, Int.reduceNeg, Nat.reduceMul, Int.lt_irrefl, e2, ce, eq_true he, rt, e3]) nx.ne]
        exact nx
    · have hno : endP s w (e :: rest) = none := by
        unfold endP
        split
        · rename_i hh
          injection hh with hh _
          rw [if_neg (fun z => he (hh.trans z))]
        · rfl
      rw [hno]
      obtain ⟨h9, elv, k9, r1, r3⟩ := odd_lv f x2.ky
      refine ⟨h9, e8_1d ?_ (by simp), k9⟩
      simp only [t8_1d, W, WW, ↓reduceIte, reduceCtorEq, Nat.reduceAdd, Int.reduceEq, Int.reduceNe, Int.reduceLT, Int.reduceLE, Int.reduceAdd, Int.reduceSub, Int.reduceMul, Int.reduceNeg, Nat.reduceMul, Int.lt_irrefl, e2, ce, eq_false he, rf, dfP, dfK, elv, r1, r3]
theorem first_go (f : RF hS h₀ b1 b3) (hlen : ∀ l ∈ L, l.length ≤ 1048576) (s0 : Bs) (w : Wv) (hw : w.list = []) {N : Nat} (hN : N ≤ 4294967296) : ∀ (n : Nat) {k : Nat} {h : H} {C : Nat → List IV} {vs : Nat → IV} (fs ls : List Bs), RD h₀ h b bl m L k s C vs → WC C { w with first := fs } → L.drop k = ls → fs.length + n = N →
    ROut hS s0 (firstP s w n fs ls) (J8d tab3 (.ptr b1 0) (.ptr b3 0) 1 [sv s0, .ptr b1 0, .ptr b3 0, .ptr b 0, .int .i64 (N : Nat), .int .i64 (fs.length : Nat)] h) := by
  intro n
  induction n with
  | zero =>
    intro k h C vs fs ls x c hd hn
    have : fs.length = N := by omega
    rw [this]
    exact end_go f hlen s0 N x { w with first := fs } c hw ls hd
  | succ n ih =>
    intro k h C vs fs ls x c hd hn
    have hlt : ((fs.length : Nat) : Int) < (N : Nat) := by omega
    match ls, hd with
    | [], hd =>
      obtain ⟨h9, elv, k9, r1, r3⟩ := odd_lv f x.ky
      refine ⟨h9, e8_1d ?_ (by simp), k9⟩
      simp only [t8_1d, W, WW, ↓reduceIte, reduceCtorEq, Nat.reduceAdd, Int.reduceEq, Int.reduceNe, Int.reduceLT, Int.reduceLE, Int.reduceAdd, Int.reduceSub, Int.reduceMul, Int.reduceNeg, Nat.reduceMul, hlt, line_none x (drop_none hd), dfP, dfK, elv, r1, r3]
    | l :: ls, hd =>
      obtain ⟨hs, hd2⟩ := drop_some hd
      have hll := hlen _ (List.mem_of_getElem? hs)
      obtain ⟨h2, e2, x2, -⟩ := line_some x hs
      have ev := value3r x2 l (by omega)
      show ROut hS s0 (match valP s l with | none => none | some p => firstP s w n (fs ++ [p.2]) ls) _
      cases hv : valP s l with
      | none =>
        rw [hv] at ev
        obtain ⟨h9, elv, k9, r1, r3⟩ := odd_lv f x2.ky
        refine ⟨h9, e8_1d ?_ (by simp), k9⟩
        simp only [t8_1d, W, WW, ↓reduceIte, reduceCtorEq, Nat.reduceAdd, Int.reduceEq, Int.reduceNe, Int.reduceLT, Int.reduceLE, Int.reduceAdd, Int.reduceSub, Int.reduceMul, Int.reduceNeg, Nat.reduceMul, hlt, e2, ev, dfP, dfK, elv, r1, r3]
      | some p =>
        rw [hv] at ev
        have hc2 : (C 2).length = fs.length := by rw [c.u2, List.length_map]
        have v2 := x2.lv 2 (by omega)
        obtain ⟨h50, e50, k50, d50, -⟩ := lit_ky (es := 1) (z := [.str ⟨0, 0⟩]) (vs := [sv p.2]) x2.gd rfl (fun v hv => by simp at hv; subst hv; rfl) rfl
        obtain ⟨s', h52, o, ea, est, x56, -⟩ := (x2.go k50).app 2 (by omega) (bytes := 16) (new := [sv p.2]) (y := .slice h2.next 0 1 1) (d50.source1 rfl) rfl rfl (by omega) (by omega)
        have e50' : bslK false 1 [.str ⟨0, 0⟩] 1 [(0, sv p.2)] h2 = some (.slice h2.next 0 1 1, h50) := e50
        have ea' : appK 1 16 h50 (vs 2) (.slice h2.next 0 1 1) = some (s', h52) := ea
        have hw1 : wr .i64 (((fs.length : Nat) : Int) + 1) = (((fs ++ [p.2]).length : Nat) : Int) := by rw [List.length_append, List.length_singleton]; exact wr_succ (by omega)
        have nx := ih (fs ++ [p.2]) ls x56 ⟨by rw [upd_ne (by decide)]; exact c.u0, by rw [upd_ne (by decide)]; exact c.u1, by rw [upd_eq, c.u2]; simp, by rw [upd_ne (by decide)]; exact c.u3⟩ hd2 (by simp; omega)
        rw [e8_1d (r := J8d tab3 (.ptr b1 0) (.ptr b3 0) 1 [sv s0, .ptr b1 0, .ptr b3 0, .ptr b 0, .int .i64 (N : Nat), .int .i64 ((fs ++ [p.2]).length : Nat)] (h52.put b o)) (by simp only [t8_1d, W, WW, ↓reduceIte, reduceCtorEq, Nat.reduceAdd, Int.reduceEq, Int.reduceNe, Int.reduceLT, Int.reduceLE, Int.reduceAdd, Int.reduceSub, Int.reduceMul, Int.reduceNeg, Nat.reduceMul, hlt, e2, ev, v2, e50', ea', est, hw1]) nx.ne]
        exact nx
theorem read3 {h : H} (g : Gd h) (s0 : Bs) (hs : s0.length ≤ 1048576) : ROut h s0 (readP s0) (CL tab3 8 [sv s0] h) := by
  obtain ⟨h2, w2, k2, d2, -, n2⟩ := (Ky.refl g).newI (cs := z0) rfl
  obtain ⟨h4, w4, k4, d4, k24, n4⟩ := k2.newI (cs := [.int .i64 0]) rfl
  have d2 := d2.ky k2.gd.wf k24
  obtain ⟨h16, w16, k16, d16⟩ := split3 k4.gd s0 10 (by omega)
  have hL := splitL_len 10 s0
  have hlen : ∀ l ∈ splitL 10 s0, l.length ≤ 1048576 := fun l hl => Nat.le_trans (splitL_mem 10 s0 l hl) hs
  generalize hLe : splitL 10 s0 = L at w16 d16 hL hlen
  have k17 : Ky h16 (h16.push (.map [] 0)) := (Ky.refl k16.gd).push _
  obtain ⟨h21, w21, k21, d21, kk, -⟩ := k17.newI (cs := [.slice h4.next 0 L.length 1, .map h16.next, .nilSlice, .nilSlice, .nilSlice, .nilSlice]) rfl
  have mp : (h16.push (.map [] 0)).get h16.next = some (.map [] 0) := by rw [H.get_push, if_pos rfl]
  have hmp : h21.get h16.next = some (.map [] 0) := (kk.low h16.next (show h16.next < h16.next + 1 by omega)).trans mp
  have x : RD h16 h21 (h16.push (.map [] 0)).next h4.next h16.next L 0 [] (fun _ => []) (fun _ => .nilSlice) :=
    ⟨k16.gd.wf, k21, Nat.le_succ _, Nat.le_refl _, d16, Nat.zero_le _, by omega, d21, fun i _ => .inl ⟨rfl, rfl⟩, fun i j _ _ _ c hc => (by cases hc), [], 0, hmp, rfl⟩
  have f : RF h h16 h.next h2.next := ⟨k4.trans k16, Nat.le_refl _, k2.next, by omega, d2.ky k4.gd.wf k16, d4.ky k4.gd.wf k16⟩
  have vr := vars3 hlen x rfl rfl
  have hlt : ¬ (1048576 : Int) < (s0.length : Nat) := by omega
  have c10 : IV.str ⟨1, 10⟩ = sv [10] := rfl
  have b0 : bldK z3 p4 [(0, IV.slice h4.next 0 L.length 1), (1, .map h16.next)] = some (.agg [.slice h4.next 0 L.length 1, .map h16.next, .nilSlice, .nilSlice, .nilSlice, .nilSlice]) := rfl
  generalize hbb : (h16.push (.map [] 0)).next = bb at *
  unfold readP
  rw [hLe]
  cases hrv : readVarsP L with
  | none =>
    rw [hrv] at vr
    obtain ⟨h26, er, k26⟩ := vr
    obtain ⟨h9, elv, k9, r1, r3⟩ := odd_lv f k26
    refine ⟨h9, c8 good3.step rfl rfl g ?_ (by simp), k9⟩
    simp only [t8_0, w2, w4, W, WW, ↓reduceIte, reduceCtorEq, Nat.reduceAdd, Int.reduceEq, Int.reduceNe, Int.reduceLT, Int.reduceLE, Int.reduceAdd, Int.reduceSub, Int.reduceMul, Int.reduceNeg, Nat.reduceMul, hlt, c10, w16, b0, IV.cells, w21, er, dfP, dfK, elv, r1, r3]
  | some q =>
    obtain ⟨ls, s', nm, wd⟩ := q
    rw [hrv] at vr
    obtain ⟨h26, k', C', vs', er, x26, hd, c0, c1, c2, c3, hn, hw⟩ := vr
    have v0 := x26.lv 0 (by omega)
    have ln := (x26.gl 0 (by omega)).len1
    rw [c0, List.length_map] at ln
    have hk' := x26.hk
    have hL' := x26.hL
    have nx := first_go f hlen s0 ⟨nm, wd, [], []⟩ rfl (N := nm.length) (by omega) nm.length [] ls x26 ⟨c0, c1, c2, c3⟩ hd (by simp)
    have : CL tab3 8 [sv s0] h = J8d tab3 (.ptr h.next 0) (.ptr h2.next 0) 1 [sv s0, .ptr h.next 0, .ptr h2.next 0, .ptr bb 0, .int .i64 (nm.length : Nat), .int .i64 (([] : List Bs).length : Nat)] h26 := by
      refine c8 good3.step rfl rfl g ?_ nx.ne
      simp only [t8_0, w2, w4, W, WW, ↓reduceIte, reduceCtorEq, Nat.reduceAdd, Int.reduceEq, Int.reduceNe, Int.reduceLT, Int.reduceLE, Int.reduceAdd, Int.reduceSub, Int.reduceMul, Int.reduceNeg, Nat.reduceMul, hlt, c10, w16, b0, IV.cells, w21, er, v0, ln]
      rfl
    rw [this]
    exact nx
end Go.Proofs.YtdccdfmbakbikaaDoor
