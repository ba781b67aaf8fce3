/- M6: Law06: ConstsNames: a number in a name's place: the plain law. Law06: ConstsNames: calls that leave all that was there exactly as it was; a list that grows. Law06: ConstsNames: placed puts a number in a name's place. Law06: ConstsNames: the run returns true. -/
import Derived.Test.YtblgpcijbdbeiaaDoorM5
namespace Go.Proofs.YtblgpcijbdbeiaaDoor
open Go I
set_option maxRecDepth 100000
set_option linter.unusedVariables false
set_option linter.unusedSimpArgs false

mutual
def putE (nm v : Bs) : E → E
  | .mk op n val pl kids a => if op = 2 ∧ n = nm then .mk 1 [] v false [] a else .mk op n val pl (putEs nm v kids) a
def putEs (nm v : Bs) : List E → List E
  | [] => []
  | x :: l => putE nm v x :: putEs nm v l
end
theorem putEs_len (nm v : Bs) : ∀ l : List E, (putEs nm v l).length = l.length
  | [] => rfl
  | x :: l => by simp only [putEs, List.length_cons, putEs_len nm v l]
theorem putEs_get (nm v : Bs) : ∀ (l : List E) (i : Nat), (putEs nm v l)[i]? = (l[i]?).map (putE nm v)
  | [], i => by simp [putEs]
  | x :: l, 0 => by simp [putEs]
  | x :: l, i + 1 => by simp only [putEs, List.getElem?_cons_succ, putEs_get nm v l i]
theorem put_eval {nm v : Bs} {k : Int} (hv : numberM v = (k, 0)) : ∀ (n : Nat) (x : E), evalF [(nm, k)] n x = evalF [] n (putE nm v x) := by
  intro n
  induction n with
  | zero => intro x; rfl
  | succ n ih =>
    intro x
    obtain ⟨op, n1, val, pl, kids, a⟩ := x
    have kid : ∀ i, kidF (evalF [(nm, k)] n) kids i = kidF (evalF [] n) (putEs nm v kids) i := by
      intro i
      unfold kidF
      rw [putEs_get]
      cases kids[i]? with
      | none => rfl
      | some y => exact ih y
    by_cases h2 : op = 2
    · subst h2
      by_cases hn : n1 = nm
      · subst hn
        simp [putE, evalF, getM, hv]
      · have h1 : (nm == n1) = false := by simpa using fun h => hn h.symm
        simp [putE, hn, evalF, getM, h1]
    · have hp : putE nm v (.mk op n1 val pl kids a) = .mk op n1 val pl (putEs nm v kids) a := by simp [putE, h2]
      rw [hp]
      simp only [evalF, h2, if_false, kid, putEs_len]

end Go.Proofs.YtblgpcijbdbeiaaDoor

namespace Go.Proofs.YtblgpcijbdbeiaaDoor
open Go I
set_option maxRecDepth 100000
set_option linter.unusedVariables false
set_option linter.unusedSimpArgs false

/-- all that was there is exactly as it was -/
structure Ey (h₀ h : H) : Prop where
  gd : Gd h
  next : h₀.next ≤ h.next
  low : ∀ b, b < h₀.next → h.get b = h₀.get b
theorem Ey.refl {h : H} (g : Gd h) : Ey h h := ⟨g, Nat.le_refl _, fun _ _ => rfl⟩
theorem Ey.trans {a b c : H} (x : Ey a b) (y : Ey b c) : Ey a c := ⟨y.gd, Nat.le_trans x.next y.next, fun k hk => (y.low k (Nat.lt_of_lt_of_le hk x.next)).trans (x.low k hk)⟩
theorem Ey.gr {h₀ h : H} (g : Gd h₀) (x : Ey h₀ h) : Gr h₀ h := fun b o hb => by
  have hlt : b < h₀.next := by
    rcases Nat.lt_or_ge b h₀.next with hl | hl
    · exact hl
    · rw [g.wf b hl] at hb; cases hb
  exact (x.low b hlt).trans hb
theorem Ey.push {h₀ h : H} (x : Ey h₀ h) (o : I.Obj) : Ey h₀ (h.push o) :=
  ⟨⟨(Step.push h o x.gd.wf).1, x.gd.pol⟩, Nat.le_succ_of_le x.next, fun b hb => by rw [H.get_push, if_neg (by have := x.next; omega)]; exact x.low b hb⟩
theorem Ey.newI {h₀ h : H} (x : Ey h₀ h) {cs : List IV} (hs : allScalar cs = true) : ∃ h', I.newI h cs = some (.ptr h.next 0, h') ∧ Ey h₀ h' ∧ Cs h' h.next true false cs ∧ Ey h h' :=
  ⟨_, by rw [newI_eq]; rw [if_pos hs], x.push _, .push cs, (Ey.refl x.gd).push _⟩
theorem Ey.put {h₀ h : H} (x : Ey h₀ h) {b : Nat} {q o : I.Obj} (hb : h₀.next ≤ b) (hq : h.get b = some q) (ho : ∀ fz size cs, q = .cells false fz size cs → ∃ fz', o = .cells false fz' size cs) : Ey h₀ (h.put b o) :=
  ⟨⟨(Step.put hq ho x.gd.wf).1, x.gd.pol⟩, x.next, fun k hk => by rw [H.get_put, if_neg (by omega)]; exact x.low k hk⟩

/-- a list that grows, made behind h₀ -/
def GLo (h₀ h : H) (es : Nat) (cs : List IV) (s : IV) : Prop := (cs = [] ∧ s = .nilSlice) ∨ ∃ b k, s = .slice b 0 k es ∧ Cs h b false true cs ∧ k * es = cs.length ∧ h₀.next ≤ b
theorem GLo.ey {h₀ h h' : H} {es : Nat} {cs : List IV} {s : IV} (gl : GLo h₀ h es cs s) (w : WF h) (x : Ey h h') : GLo h₀ h' es cs s := by
  rcases gl with h1 | ⟨b, k, h1, c, h3, h4⟩
  · exact .inl h1
  · exact .inr ⟨b, k, h1, Cs_same c (x.low b (c.lt w)), h3, h4⟩
theorem GLo.scalar {h₀ h : H} {es : Nat} {cs : List IV} {s : IV} (gl : GLo h₀ h es cs s) : s.scalar = true := by
  rcases gl with ⟨_, rfl⟩ | ⟨b, k, rfl, _⟩ <;> rfl
theorem Ey.app {h₀ h : H} (x : Ey h₀ h) {es bytes : Nat} {cs new : List IV} {s y : IV} {n : Nat} (gl : GLo h₀ h es cs s) (hs : sourceI h es y = some (new, n)) (hl : new.length = n * es) (hsc : allScalar new = true) (hn : n ≠ 0)
    (hroom : (2 * (cs.length + n) + 2000) * bytes ≤ 2 ^ 46) (hes : es ≠ 0) : ∃ s' h', appK es bytes h s y = some (s', h') ∧ Ey h₀ h' ∧ GLo h₀ h' es (cs ++ new) s' := by
  have g := x.gd
  rcases gl with ⟨rfl, rfl⟩ | ⟨b, k, rfl, ⟨t, h1, h2⟩, h3, h4⟩
  · refine ⟨_, _, ?_, x.push (.cells (!h.pol) h.pol new.length (setList .leaf 0 new)), .inr ⟨h.next, n, rfl, ?_, by simpa using hl.symm, x.next⟩⟩
    · simp only [appK, hs, hsc, Bool.true_eq_false, if_false, if_neg hn]
      rw [if_pos (by simpa using hroom)]
    · rw [g.pol]; simpa using Cs.push (h := h) (rw := false) (fz := true) new
  · have hk : k ≤ cs.length := by
      rw [← h3]; exact Nat.le_mul_of_pos_right _ (Nat.pos_of_ne_zero hes)
    have hroom' : (2 * (k + n) + 2000) * bytes ≤ 2 ^ 46 := Nat.le_trans (Nat.mul_le_mul_right _ (by omega)) hroom
    have x1 := x.put (o := .cells false false cs.length t) h4 h1 (fun fz size cs' hc => by injection hc with _ _ q3 q4; exact ⟨false, by rw [q3, q4]⟩)
    refine ⟨_, _, ?_, x1.push (.cells false true ((k + n) * es) (setList t (k * es) new)), .inr ⟨h.next, k + n, rfl, ⟨setList t (k * es) new, ?_, fun i hi => ?_⟩, by rw [Nat.add_mul, h3, List.length_append, hl], x.next⟩⟩
    · simp only [appK, hs, hsc, Bool.true_eq_false, if_false, if_neg hn, ne_eq, not_true_eq_false, h1]
      rw [if_pos ⟨trivial, h3, hroom'⟩]
    · rw [H.get_push, if_pos (show h.next = (h.put b (.cells false false cs.length t)).next from rfl), List.length_append, hl, Nat.add_mul, h3]
    · rw [List.length_append] at hi
      rw [get_setList, h3]
      by_cases hc : cs.length ≤ i ∧ i < cs.length + new.length
      · rw [if_pos hc, List.getElem?_append_right hc.1]
      · rw [if_neg hc, List.getElem?_append_left (by omega)]; exact h2 i (by omega)

end Go.Proofs.YtblgpcijbdbeiaaDoor

namespace Go.Proofs.YtblgpcijbdbeiaaDoor
open Go I
set_option maxRecDepth 100000
set_option linter.unusedVariables false
set_option linter.unusedSimpArgs false

theorem Ey.ext {h₀ h : H} (g : Gd h₀) (x : Ey h₀ h) : Ext h₀ h := ⟨x.gd.pol.trans g.pol.symm, x.next, fun b fz size cs hb => ⟨fz, x.gr g b _ hb⟩⟩
theorem Ey.stp {h₀ h : H} (x : Ey h₀ h) {b : Nat} {fz : Bool} {cs : List IV} (hb : h₀.next ≤ b) (c : Cs h b true fz cs) {n off : Nat} {v : IV} (hv : v.cells.length = n) (hs : allScalar v.cells = true) (hle : off + n ≤ cs.length) :
    ∃ h', stA n h (.ptr b off) v = some h' ∧ Ey h₀ h' ∧ Cs h' b true fz (placeL cs off v.cells) ∧ (∀ k, k ≠ b → h'.get k = h.get k) ∧ h'.next = h.next := by
  obtain ⟨o, e, c', hne⟩ := c.st hv hs hle
  obtain ⟨t, h1, _⟩ := c
  exact ⟨h.put b o, e, x.put hb h1 (fun fz size cs hc => by cases hc), c', fun k hk => by rw [H.get_put, if_neg hk], rfl⟩

theorem putEs_take (nm v : Bs) : ∀ (l : List E) (i : Nat), putEs nm v (l.take i) = (putEs nm v l).take i
  | [], i => by simp [putEs]
  | x :: l, 0 => by simp [putEs]
  | x :: l, i + 1 => by simp only [List.take_succ_cons, putEs, putEs_take nm v l i]
theorem put_snoc (nm v : Bs) (l : List E) (i : Nat) (x : E) (hx : l[i]? = some x) : putEs nm v (l.take (i + 1)) = putEs nm v (l.take i) ++ [putE nm v x] := by
  rw [putEs_take, putEs_take, List.take_add_one, putEs_get, hx]; rfl
theorem GLo.lr {h₀ h : H} {cells : List IV} {s : IV} (gl : GLo h₀ h 6 cells s) {α : Type} {R : α → List IV → Prop} {l : List α} (hch : Ch R 6 l cells) : LR h 6 R l s := by
  have hl := hch.len
  rcases gl with ⟨rfl, rfl⟩ | ⟨b, k, rfl, c, h3, _⟩
  · have : l = [] := List.eq_nil_of_length_eq_zero (by simp at hl; omega)
    exact .inl ⟨this, .inl rfl⟩
  · have hk : k = l.length := by omega
    subst hk
    refine .inr ⟨b, 0, cells, rfl, ⟨true, c⟩, by omega, ?_⟩
    rw [List.drop_zero, ← hl, List.take_length]
    exact hch
theorem cells_scalar {v : IV} (h : v.scalar = true) : v.cells = [v] := by cases v <;> first | rfl | (simp [IV.scalar] at h)
/-- the parts, one behind the other -/
theorem loop13 {h₀ : H} (g₀ : Gd h₀) {nm v : Bs} {n : Nat} {op a : Int} {n1 val : Bs} {pl : Bool} {kids : List E} {K : IV} (hk : LR h₀ 6 (XR h₀ n) kids K) (hkl : kids.length ≤ 2 ^ 21) {b1 b3 : Nat} (hb1 : h₀.next ≤ b1) (hb3 : h₀.next ≤ b3) (hne : b1 ≠ b3)
    (ih : ∀ (x : E), x ∈ kids → ∀ (cs : List IV) (h : H), XR h n x cs → Gd h → ∃ c' h', CL tab2 13 [.agg cs, sv nm, sv v] h = .ok (.agg c') h' ∧ Ey h h' ∧ XR h' n (putE nm v x) c') :
    ∀ (k i : Nat) (h : H) (acc : IV) (cells z3 : List IV), i + k = kids.length → Ey h₀ h → Cs h b1 true false (ecells op n1 val pl K a) → Cs h b3 true false z3 → z3.length = 6 → GLo h₀ h 6 cells acc → Ch (XR h n) 6 (putEs nm v (kids.take i)) cells →
      ∃ c' h', J13 tab2 1 [sv nm, sv v, .ptr b1 0, .ptr b3 0, acc, .int .i64 i] h = .ok (.agg c') h' ∧ Ey h₀ h' ∧ XR h' (n + 1) (.mk op n1 val pl (putEs nm v kids) a) c' := by
  intro k
  induction k with
  | zero =>
    intro i h acc cells z3 hi x c1 c3 hz gl hch
    have hacc := gl.scalar
    have hcl := cells_scalar hacc
    obtain ⟨h36, e36, x36, c36, o36, n36⟩ := x.stp (n := 1) (off := 4) (v := acc) hb1 c1 (by rw [hcl]; rfl) (by rw [hcl]; simp [allScalar, hacc]) (by show 4 + 1 ≤ 6; omega)
    have hpl : placeL (ecells op n1 val pl K a) 4 acc.cells = ecells op n1 val pl acc a := by rw [hcl]; rfl
    rw [hpl] at c36
    have e37 := c36.ldAll (n := 6) rfl
    have c3' : Cs h36 b3 true false z3 := Cs_same c3 (o36 b3 (Ne.symm hne))
    obtain ⟨h38, e38, x38, c38, o38, n38⟩ := x36.stp (n := 6) (off := 0) (v := .agg (ecells op n1 val pl acc a)) hb3 c3' rfl (ecells_scalar hacc) (by omega)
    have hpl3 : placeL z3 0 (IV.agg (ecells op n1 val pl acc a)).cells = ecells op n1 val pl acc a := by
      obtain ⟨y0, y1, y2, y3, y4, y5, rfl⟩ : ∃ a b c d e f, z3 = [a, b, c, d, e, f] := by
        match z3, hz with
        | [a, b, c, d, e, f], _ => exact ⟨a, b, c, d, e, f, rfl⟩
      rfl
    rw [hpl3] at c38
    have e39 := c38.ldAll (n := 6) rfl
    have hgl : GLo h₀ h38 6 cells acc := by
      rcases gl with g1 | ⟨b, k, q1, q2, q3, q4⟩
      · exact .inl g1
      · have hb1' : b ≠ b1 := by
          rintro rfl
          obtain ⟨t1, u1, _⟩ := q2
          obtain ⟨t2, u2, _⟩ := c1
          rw [u1] at u2; cases u2
        have hb3' : b ≠ b3 := by
          rintro rfl
          obtain ⟨t1, u1, _⟩ := q2
          obtain ⟨t2, u2, _⟩ := c3
          rw [u1] at u2; cases u2
        exact .inr ⟨b, k, q1, Cs_same q2 ((o38 b hb3').trans (o36 b hb1')), q3, q4⟩
    have ext : Ext h h38 := ⟨by rw [x38.gd.pol, x.gd.pol], by omega, fun b fz size cs hb => ⟨fz, by
      have m1 : b ≠ b1 := by
        rintro rfl
        obtain ⟨t, u, _⟩ := c1
        rw [u] at hb; cases hb
      have m3 : b ≠ b3 := by
        rintro rfl
        obtain ⟨t, u, _⟩ := c3
        rw [u] at hb; cases hb
      rw [o38 b m3, o36 b m1]; exact hb⟩⟩
    have hxr : ∀ (y : E) (c : List IV), XR h n y c → XR h38 n y c := fun y c r => r.mono ext n
    have hi' : kids.take i = kids := List.take_of_length_le (by omega)
    rw [hi'] at hch
    refine ⟨_, h38, e13_1 ?_ (by simp), x38, acc, rfl, hgl.lr (hch.mono hxr)⟩
    have hlt : ¬ (i : Int) < (kids.length : Nat) := by omega
    have e21 := c1.ld0 4
    simp only [t13_1, fadK, W, decide_eq_true_eq, Bool.not_eq_true', decide_eq_false_iff_not, Bool.false_eq_true, Bool.not_true, Bool.not_false, decide_true, decide_false, not_true_eq_false, not_false_eq_true, and_true, true_and, and_false, false_and, ne_eq, Nat.zero_add, Nat.add_zero, cond_true, cond_false, ↓reduceIte, reduceCtorEq, Nat.reduceAdd, Int.reduceEq, Int.reduceNe, Int.reduceLT, Int.reduceLE, Int.reduceAdd, Int.reduceSub, Int.reduceMul, Int.reduceNeg, Nat.reduceMul, List.getElem?_cons_zero, List.getElem?_cons_succ, e21, EC, hk.len, hlt, e36, e37, e38, e39]
  | succ k ihk =>
    intro i h acc cells z3 hi x c1 c3 hz gl hch
    have hlt : i < kids.length := by omega
    have hx : kids[i]? = some kids[i] := List.getElem?_eq_getElem hlt
    obtain ⟨p, c, q1, q2, q3, q4, _⟩ := (LR.gr (x.gr g₀) (fun y c r => XR.gr (x.gr g₀) n r) hk : LR h 6 (XR h n) kids K).ix hx
    obtain ⟨c', h29, e28, y29, r29⟩ := ih kids[i] (List.getElem_mem hlt) c h q3 x.gd
    have hs29 := r29.scalar
    have hone := bslK_all (w := false) (es := 6) (z := z0) (vs := [.agg c']) rfl (by intro w hw; rcases List.mem_singleton.1 hw with rfl; exact hs29.2) (by show allScalar (c' ++ []) = true; rw [List.append_nil]; exact hs29.1) h29
    rw [y29.gd.pol] at hone
    have hco : cellsOf [IV.agg c'] = c' := by simp [cellsOf, IV.cells]
    rw [hco] at hone
    have x29 := x.trans y29
    generalize hg31 : h29.push (.cells (!(true && !false)) (true && !false) c'.length (setList .leaf 0 c')) = h31 at hone
    have x31 : Ey h₀ h31 := hg31 ▸ x29.push _
    have y31 : Ey h29 h31 := hg31 ▸ (Ey.refl y29.gd).push _
    have cS : Cs h31 h29.next false true c' := hg31 ▸ Cs.push c'
    have hsrc : sourceI h31 6 (.slice h29.next 0 1 6) = some (c', 1) := by
      have := Ci.source (off := 0) (n := 1) (es := 6) ⟨true, cS⟩ (by rw [hs29.2]; omega) (by omega)
      rw [List.drop_zero, show 1 * 6 = c'.length by rw [hs29.2], List.take_length] at this
      exact this
    have hcl : cells.length = i * 6 := by
      rw [hch.len, putEs_len, List.length_take, Nat.min_eq_left (by omega)]
    have y1 := y29.trans y31
    obtain ⟨acc', h33, e32, x33, gl33⟩ := x31.app (bytes := 80) (gl.ey x.gd.wf y1) hsrc (by rw [hs29.2]) hs29.1 (by omega) (by rw [hcl]; omega) (by omega)
    have gl31 : GL h31 6 cells acc := by
      rcases gl.ey x.gd.wf y1 with g1 | ⟨b, k, w1, w2, w3, _⟩
      · exact .inl g1
      · exact .inr ⟨b, k, w1, w2, w3⟩
    obtain ⟨s2, h2, e2, x2, _⟩ := appK_grow x31.gd (bytes := 80) gl31 hsrc (by rw [hs29.2]) hs29.1 (by omega) (by rw [hcl]; omega) (by omega)
    rw [e32] at e2
    injection e2 with e2
    injection e2 with _ e2
    subst e2
    have c1' : Cs h33 b1 true false (ecells op n1 val pl K a) := (Cs_same c1 (y1.low b1 (c1.lt x.gd.wf))).ex x2
    have c3' : Cs h33 b3 true false z3 := (Cs_same c3 (y1.low b3 (c3.lt x.gd.wf))).ex x2
    have e31 := y31.ext y29.gd
    have ch' : Ch (XR h33 n) 6 (putEs nm v (kids.take (i + 1))) (cells ++ c') := by
      rw [put_snoc nm v kids i _ hx]
      exact Ch.snoc hs29.2 ((r29.mono e31 n).mono x2.ext n) (hch.mono fun y d r => (r.mono (y1.ext x.gd) n).mono x2.ext n)
    obtain ⟨cR, hR, eR, xR, rR⟩ := ihk (i + 1) h33 acc' (cells ++ c') z3 (by omega) x33 c1' c3' hz gl33 ch'
    refine ⟨cR, hR, e13_1 ?_ (by simp), xR, rR⟩
    have hlt' : (i : Int) < (kids.length : Nat) := by omega
    have e21 := c1.ld0 4
    have e30 : bslK false 6 z0 1 [(0, .agg c')] h29 = some (.slice h29.next 0 1 6, h31) := hone
    have ei : wr .i64 ((i : Int) + 1) = ((i + 1 : Nat) : Int) := by rw [wr_i64 (by omega) (by omega)]; omega
    simp only [t13_1, fadK, W, decide_eq_true_eq, Bool.not_eq_true', decide_eq_false_iff_not, Bool.false_eq_true, Bool.not_true, Bool.not_false, decide_true, decide_false, not_true_eq_false, not_false_eq_true, and_true, true_and, and_false, false_and, ne_eq, Nat.zero_add, Nat.add_zero, cond_true, cond_false, ↓reduceIte, reduceCtorEq, Nat.reduceAdd, Int.reduceEq, Int.reduceNe, Int.reduceLT, Int.reduceLE, Int.reduceAdd, Int.reduceSub, Int.reduceMul, Int.reduceNeg, Nat.reduceMul, List.getElem?_cons_zero, List.getElem?_cons_succ, e21, EC, hk.len, hlt', q1, q2, e28, e30, e32, ei]
    exact eR

theorem nodes_mem {x : E} : ∀ {l : List E}, x ∈ l → x.nodes ≤ nodesL l
  | [], h => by cases h
  | y :: l, h => by
    simp only [nodesL]
    rcases List.mem_cons.1 h with rfl | h
    · omega
    · have := nodes_mem h; omega
/-- placed -/
theorem placed13 (nm v : Bs) : ∀ (n : Nat) (x : E) (cs : List IV) (h : H), XR h n x cs → Gd h → x.nodes ≤ 2 ^ 21 → ∃ c' h', CL tab2 13 [.agg cs, sv nm, sv v] h = .ok (.agg c') h' ∧ Ey h h' ∧ XR h' n (putE nm v x) c' := by
  intro n
  induction n with
  | zero => intro x cs h r; cases r
  | succ n ih =>
    intro x cs h r g hx
    obtain ⟨op, n1, val, pl, kids, a⟩ := x
    obtain ⟨K, rfl, hk⟩ := r
    simp only [E.nodes] at hx
    have hkl := len_nodes kids
    obtain ⟨h2, e2, x2, c2, y2⟩ := (Ey.refl g).newI (ecells_scalar (op := op) (nm := n1) (v := val) (p := pl) (a := a) hk.scalar)
    obtain ⟨h4, e4, x4, c4, y4⟩ := x2.newI z0s
    have hn2 : h2.next = h.next + 1 := by
      have := e2; rw [newI_eq, if_pos (ecells_scalar hk.scalar)] at this
      injection this with this; injection this with _ this; rw [← this]; rfl
    have c2' : Cs h4 h.next true false (ecells op n1 val pl K a) := Cs_same c2 (y4.low _ (by omega))
    have l0 := c2'.ld0 0
    have l1 := c2'.ld0 1
    have l5 := c2'.ld0 5
    by_cases hh : op = 2 ∧ n1 = nm
    · obtain ⟨rfl, rfl⟩ := hh
      obtain ⟨h18, e18, x18, c18, o18, n18⟩ := x4.stp (n := 6) (off := 0) (v := .agg (ecells 1 [] v false .nilSlice a)) x2.next c4 rfl rfl (by show 0 + 6 ≤ 6; omega)
      have hp3 : placeL z0 0 (IV.agg (ecells 1 [] v false .nilSlice a)).cells = ecells 1 [] v false .nilSlice a := rfl
      rw [hp3] at c18
      have e19 := c18.ldAll (n := 6) rfl
      refine ⟨ecells 1 [] v false .nilSlice a, h18, c13 step2 rfl rfl g ?_ (by simp), x18, ?_⟩
      · have hb : bldK z0 p1 [(0, .int .i64 1), (2, sv v), (5, .int .i64 a)] = some (.agg (ecells 1 [] v false .nilSlice a)) := rfl
        simp only [t13_0, IV.cells, e2, e4, fadK, W, decide_eq_true_eq, Bool.not_eq_true', decide_eq_false_iff_not, Bool.false_eq_true, Bool.not_true, Bool.not_false, decide_true, decide_false, not_true_eq_false, not_false_eq_true, and_true, true_and, and_false, false_and, ne_eq, Nat.zero_add, Nat.add_zero, cond_true, cond_false, ↓reduceIte, reduceCtorEq, Nat.reduceAdd, Int.reduceEq, Int.reduceNe, Int.reduceLT, Int.reduceLE, Int.reduceAdd, Int.reduceSub, Int.reduceMul, Int.reduceNeg, Nat.reduceMul, List.getElem?_cons_zero, List.getElem?_cons_succ, l0, l1, l5, EC, hb, e18]
        simp only [e19, W, decide_eq_true_eq, Bool.not_eq_true', decide_eq_false_iff_not, Bool.false_eq_true, Bool.not_true, Bool.not_false, decide_true, decide_false, not_true_eq_false, not_false_eq_true, and_true, true_and, and_false, false_and, ne_eq, Nat.zero_add, Nat.add_zero, cond_true, cond_false, ↓reduceIte, reduceCtorEq, Nat.reduceAdd, Int.reduceEq, Int.reduceNe, Int.reduceLT, Int.reduceLE, Int.reduceAdd, Int.reduceSub, Int.reduceMul, Int.reduceNeg, Nat.reduceMul, List.getElem?_cons_zero, List.getElem?_cons_succ]
      · simp only [putE, and_self, if_true]
        exact xrLeaf _ _ _ _ _ _
    · obtain ⟨cR, hR, eR, xR, rR⟩ := loop13 g hk (by omega) (Nat.le_refl _) x2.next (by omega) (fun y hy cs h' r' g' => ih y cs h' r' g' (by have := nodes_mem hy; omega)) kids.length 0 h4 .nilSlice [] z0 (by omega) x4 c2' c4 rfl (.inl ⟨rfl, rfl⟩) (by simp [putEs, Ch])
      have hp : putE nm v (.mk op n1 val pl kids a) = .mk op n1 val pl (putEs nm v kids) a := by simp [putE, hh]
      rw [hp]
      refine ⟨cR, hR, c13 step2 rfl rfl g ?_ (by simp), xR, rR⟩
      by_cases ho : op = 2
      · have hn : ¬ n1 = nm := fun e => hh ⟨ho, e⟩
        subst ho
        simp only [t13_0, IV.cells, e2, e4, fadK, W, decide_eq_true_eq, Bool.not_eq_true', decide_eq_false_iff_not, Bool.false_eq_true, Bool.not_true, Bool.not_false, decide_true, decide_false, not_true_eq_false, not_false_eq_true, and_true, true_and, and_false, false_and, ne_eq, Nat.zero_add, Nat.add_zero, cond_true, cond_false, ↓reduceIte, reduceCtorEq, Nat.reduceAdd, Int.reduceEq, Int.reduceNe, Int.reduceLT, Int.reduceLE, Int.reduceAdd, Int.reduceSub, Int.reduceMul, Int.reduceNeg, Nat.reduceMul, List.getElem?_cons_zero, List.getElem?_cons_succ, l0, l1, EC, hn]
        exact eR
      · simp only [t13_0, IV.cells, e2, e4, fadK, W, decide_eq_true_eq, Bool.not_eq_true', decide_eq_false_iff_not, Bool.false_eq_true, Bool.not_true, Bool.not_false, decide_true, decide_false, not_true_eq_false, not_false_eq_true, and_true, true_and, and_false, false_and, ne_eq, Nat.zero_add, Nat.add_zero, cond_true, cond_false, ↓reduceIte, reduceCtorEq, Nat.reduceAdd, Int.reduceEq, Int.reduceNe, Int.reduceLT, Int.reduceLE, Int.reduceAdd, Int.reduceSub, Int.reduceMul, Int.reduceNeg, Nat.reduceMul, List.getElem?_cons_zero, List.getElem?_cons_succ, l0, l1, EC, ho]
        exact eR

end Go.Proofs.YtblgpcijbdbeiaaDoor

namespace Go.Proofs.YtblgpcijbdbeiaaDoor
open Go I
set_option maxRecDepth 100000
set_option linter.unusedVariables false
set_option linter.unusedSimpArgs false

/-! ### the bits of a number, the highest ahead -/
def bitB (n : Int) (i : Nat) : UInt8 := if n / 2 ^ (30 - i) % 2 = 1 then 49 else 48
def bitsB (n : Int) : Nat → Bs
  | 0 => []
  | k + 1 => bitsB n k ++ [bitB n k]
theorem bitsB_len (n : Int) : ∀ k, (bitsB n k).length = k
  | 0 => rfl
  | k + 1 => by simp [bitsB, bitsB_len n k]
theorem bitB_int (n : Int) (i : Nat) : ((bitB n i).toNat : Int) = 48 + n / 2 ^ (30 - i) % 2 := by
  unfold bitB
  split
  · rename_i h; rw [h]; rfl
  · have : n / 2 ^ (30 - i) % 2 = 0 := by omega
    rw [this]; rfl
theorem numF_app (most : Int) : ∀ (a b : Bs) (n : Int), numF most (a ++ b) n = numF most b (numF most a n)
  | [], b, n => rfl
  | c :: a, b, n => by simp only [List.cons_append, numF]; exact numF_app most a b _
theorem bits_num {n : Int} (h0 : 0 ≤ n) (h1 : n < 2147483648) : ∀ k, k ≤ 31 → numF 2147483648 (bitsB n k) 0 = n / 2 ^ (31 - k)
  | 0, _ => by
    show 0 = n / 2 ^ 31
    omega
  | k + 1, hk => by
    rw [bitsB, numF_app, bits_num h0 h1 k (by omega)]
    simp only [numF, bitB_int]
    have e : 31 - k = (30 - k) + 1 := by omega
    have e2 : 31 - (k + 1) = 30 - k := by omega
    rw [e, e2, Int.pow_succ, ← Int.ediv_ediv_of_nonneg (Int.pow_nonneg (by omega))]
    have hq : n / 2 ^ (30 - k) ≤ n := Int.ediv_le_self _ h0
    generalize n / 2 ^ (30 - k) = q at *
    rw [if_neg (by omega)]
    omega
theorem bits_all (n : Int) : ∀ k, (bitsB n k).all (fun c => c == 48 || c == 49) = true
  | 0 => rfl
  | k + 1 => by
    simp only [bitsB, List.all_append, bits_all n k, List.all_cons, List.all_nil, Bool.and_true, Bool.true_and]
    unfold bitB
    split <;> rfl
theorem bits_number {n : Int} (h0 : 0 ≤ n) (h1 : n < 2147483648) : numberM (bitsB n 31) = (n, 0) := by
  have ha := bits_all n 31
  rw [List.all_eq_true] at ha
  have hc : checkM (bitsB n 31) = true := by
    simp only [checkM, bitsB_len, Bool.and_eq_true]
    refine ⟨⟨rfl, rfl⟩, List.all_eq_true.2 fun c hc => ?_⟩
    have := ha c hc
    simp only [Bool.or_eq_true, beq_iff_eq] at this
    rcases this with rfl | rfl <;> rfl
  have hx : (bitsB n 31).any isX = false := by
    rw [List.any_eq_false]
    intro c hc
    have := ha c hc
    simp only [Bool.or_eq_true, beq_iff_eq] at this
    rcases this with rfl | rfl <;> decide
  have hn := bits_num h0 h1 31 (by omega)
  have e : n / 2 ^ (31 - 31) = n := by simp
  rw [e] at hn
  unfold numberM
  rw [if_pos hc, hx, hn]
  simp only [Bool.false_eq_true, if_false]
  rw [if_neg (by omega)]

/-- the loop that writes the bits -/
def bitCells (n : Int) (i : Nat) : List IV := bcells (bitsB n i) ++ List.replicate (31 - i) (.int .u8 0)
theorem bitCells_len (n : Int) {i : Nat} (hi : i ≤ 31) : (bitCells n i).length = 31 := by
  simp only [bitCells, List.length_append, List.length_replicate, bcells, List.length_map, bitsB_len]; omega
theorem bitCells_set (n : Int) {i : Nat} (hi : i < 31) : placeL (bitCells n i) i [.int .u8 ((bitB n i).toNat : Nat)] = bitCells n (i + 1) := by
  have hl : (bcells (bitsB n i)).length = i := by simp [bcells, bitsB_len]
  have hr : List.replicate (31 - i) (IV.int .u8 0) = .int .u8 0 :: List.replicate (31 - (i + 1)) (.int .u8 0) := by
    rw [show 31 - i = (31 - (i + 1)) + 1 by omega, List.replicate_succ]
  have := placeL_mid [.int .u8 ((bitB n i).toNat : Nat)] (bcells (bitsB n i)) (.int .u8 0 :: List.replicate (31 - (i + 1)) (.int .u8 0)) (by simp)
  rw [hl] at this
  unfold bitCells
  rw [hr, this]
  simp [bcells, bitsB]
theorem loop3n {h₀ : H} {nm : IV} {n : Int} {a5 : IV} {p m : Nat} {s : Sc} {L : List (Nat × List IV)} {b : Nat} (hp : p < b) : ∀ (k i : Nat) (h : H), i + k = 31 → Lv h₀ h ((b, bitCells n i) :: L) → ScM h p m s →
    ∃ h', Lv h₀ h' ((b, bitCells n 31) :: L) ∧ ScM h' p m s ∧ Ex h₀ h' ∧ ∀ r : CRes, r ≠ .fail → J3 tab2 1 [nm, .int .i64 n, a5, .ptr p 0, .slice b 0 31 1, .int .i64 31] h' = r → J3 tab2 1 [nm, .int .i64 n, a5, .ptr p 0, .slice b 0 31 1, .int .i64 i] h = r := by
  intro k
  induction k with
  | zero =>
    intro i h hi l sc
    obtain rfl : i = 31 := by omega
    exact ⟨h, l, sc, l.ex, fun r _ e => e⟩
  | succ k ih =>
    intro i h hi l sc
    have hi' : i < 31 := by omega
    obtain ⟨h38, e38, l38⟩ := l.st 0 rfl (n := 1) (off := i) (v := .int .u8 ((bitB n i).toNat : Nat)) rfl rfl (by rw [bitCells_len n (by omega)]; omega)
    simp only [List.set_cons_zero, IV.cells] at l38
    rw [bitCells_set n hi'] at l38
    have sc38 : ScM h38 p m s := sc.st e38 (by omega)
    obtain ⟨h', l', sc', x', hr⟩ := ih (i + 1) h38 (by omega) l38 sc38
    refine ⟨h', l', sc', x', fun r hrf e => e3_1 ?_ hrf⟩
    have hlt : (i : Int) < 31 := by omega
    have e32 : wr .i64 (30 - (i : Int)) = ((30 - i : Nat) : Int) := by rw [wr_i64 (by omega) (by omega)]; omega
    have e33 : binN .shr (.int .i64 n) (.int .i64 ((30 - i : Nat) : Int)) = some (.int .i64 (n / 2 ^ (30 - i))) := by
      rw [binN_shr _ _ _ _ (by omega)]
      have : min ((30 - i : Nat) : Int).toNat IntKind.i64.bits = 30 - i := by
        show min ((30 - i : Nat) : Int).toNat 64 = 30 - i
        omega
      rw [this, Int.fdiv_eq_ediv_of_nonneg _ (Int.pow_nonneg (by omega))]
    have e36 : wr .u8 (wr .i64 (48 + n / 2 ^ (30 - i) % 2)) = ((bitB n i).toNat : Nat) := by
      rw [bitB_int]
      generalize n / 2 ^ (30 - i) = q
      rw [wr_i64 (by omega) (by omega), wr_u8 (by omega) (by omega)]
    have eix : ixS 1 (.slice b 0 31 1) (.int .i64 i) = some (.ptr b i) := by
      simp only [ixS]; rw [if_pos ⟨trivial, by omega, by omega⟩]; simp
    have ei : wr .i64 ((i : Int) + 1) = ((i + 1 : Nat) : Int) := by rw [wr_i64 (by omega) (by omega)]; omega
    simp only [t3_1, W, decide_eq_true_eq, Bool.not_eq_true', decide_eq_false_iff_not, Bool.false_eq_true, Bool.not_true, Bool.not_false, decide_true, decide_false, not_true_eq_false, not_false_eq_true, and_true, true_and, and_false, false_and, ne_eq, Nat.zero_add, Nat.add_zero, cond_true, cond_false, ↓reduceIte, reduceCtorEq, Nat.reduceAdd, Int.reduceEq, Int.reduceNe, Int.reduceLT, Int.reduceLE, Int.reduceAdd, Int.reduceSub, Int.reduceMul, Int.reduceNeg, Nat.reduceMul, List.getElem?_cons_zero, List.getElem?_cons_succ, hlt, e32, e33, binN_and, and1, e36, eix, e38, ei]
    exact hr r hrf e

theorem Ey.ex {h h' : H} (g : Gd h) (x : Ey h h') : Ex h h' := ⟨x.gd, x.ext g, fun b o hb _ => x.gr g b o hb⟩

theorem names {h : H} (g : Gd h) {m : Nat} {x : E} {cs : List IV} (r : XR h m x cs) (hx : x.nodes ≤ 2 ^ 21) (nm : Bs) (k : Int) : ∃ h', CL tab2 3 [sv nm, .int .i64 k, .agg cs] h = .ok (.bool true) h' := by
  have hs := r.scalar
  obtain ⟨h2, e2, l2, x2⟩ := (Lv.start g).newI' hs.1
  have ld2 : I.ldA 6 h2 (.ptr h.next 0) = some (.agg cs) := l2.ldA 0 rfl hs.2.symm
  by_cases hk0 : k < 0
  · refine ⟨h2, c3 step2 rfl rfl g ?_ (by simp)⟩
    simp only [t3_0, IV.cells, e2, W, decide_eq_true_eq, Bool.not_eq_true', decide_eq_false_iff_not, Bool.false_eq_true, Bool.not_true, Bool.not_false, decide_true, decide_false, not_true_eq_false, not_false_eq_true, and_true, true_and, and_false, false_and, ne_eq, Nat.zero_add, Nat.add_zero, cond_true, cond_false, ↓reduceIte, reduceCtorEq, Nat.reduceAdd, Int.reduceEq, Int.reduceNe, Int.reduceLT, Int.reduceLE, Int.reduceAdd, Int.reduceSub, Int.reduceMul, Int.reduceNeg, Nat.reduceMul, List.getElem?_cons_zero, List.getElem?_cons_succ, hk0, call9]
  by_cases hk1 : 2147483647 < k
  · refine ⟨h2, c3 step2 rfl rfl g ?_ (by simp)⟩
    simp only [t3_0, IV.cells, e2, W, decide_eq_true_eq, Bool.not_eq_true', decide_eq_false_iff_not, Bool.false_eq_true, Bool.not_true, Bool.not_false, decide_true, decide_false, not_true_eq_false, not_false_eq_true, and_true, true_and, and_false, false_and, ne_eq, Nat.zero_add, Nat.add_zero, cond_true, cond_false, ↓reduceIte, reduceCtorEq, Nat.reduceAdd, Int.reduceEq, Int.reduceNe, Int.reduceLT, Int.reduceLE, Int.reduceAdd, Int.reduceSub, Int.reduceMul, Int.reduceNeg, Nat.reduceMul, List.getElem?_cons_zero, List.getElem?_cons_succ, hk0, hk1, call9]
  obtain ⟨b8, h12, e8, x12⟩ := small8 l2.gd (r.mono x2.ext _) hx (most := 500) (by omega) (by omega)
  have l12 := l2.go x12
  cases b8 with
  | false =>
    refine ⟨h12, c3 step2 rfl rfl g ?_ (by simp)⟩
    simp only [t3_0, IV.cells, e2, W, decide_eq_true_eq, Bool.not_eq_true', decide_eq_false_iff_not, Bool.false_eq_true, Bool.not_true, Bool.not_false, decide_true, decide_false, not_true_eq_false, not_false_eq_true, and_true, true_and, and_false, false_and, ne_eq, Nat.zero_add, Nat.add_zero, cond_true, cond_false, ↓reduceIte, reduceCtorEq, Nat.reduceAdd, Int.reduceEq, Int.reduceNe, Int.reduceLT, Int.reduceLE, Int.reduceAdd, Int.reduceSub, Int.reduceMul, Int.reduceNeg, Nat.reduceMul, List.getElem?_cons_zero, List.getElem?_cons_succ, hk0, hk1, ld2, e8, call9]
  | true =>
    obtain ⟨pS, mS, h20, e10, sc20, l20, hm⟩ := new10 l12
    obtain ⟨h26, e11, sc26, l26⟩ := set11 l20 sc20 (nm := nm) (n := k) rfl (by omega) hm
    rw [List.nil_append] at sc26
    obtain ⟨h30, e30, l30, x30⟩ := l26.newI' (cs := bitCells k 0) rfl
    have emk : mksK 1 1 [.int .u8 0] h26 (.int .i64 31) (.int .i64 31) = some (.slice h26.next 0 31 1, h30) := by
      have hb0 : bitCells k 0 = repCells [.int .u8 0] 31 := rfl
      have hlen : (repCells [.int .u8 0] 31).length = 31 * 1 := rfl
      rw [hb0, newI_eq, if_pos (show allScalar (repCells [.int .u8 0] 31) = true from rfl), hlen] at e30
      injection e30 with e30
      injection e30 with _ e30
      have hn : (31 : Int).toNat = 31 := rfl
      simp only [mksK, hn]
      rw [if_pos (by omega), e30]
    have sc30 := sc26.keep x30
    have hlt26 := sc26.cell.lt l26.gd.wf
    obtain ⟨h40, l40, sc40, x40, hloop⟩ := loop3n (h₀ := h) (nm := sv nm) (n := k) (a5 := .ptr h.next 0) (L := [(h.next, cs)]) hlt26 31 0 h30 (Nat.zero_add 31) l30 sc30
    have hb31 : bitCells k 31 = bcells (bitsB k 31) := by simp [bitCells]
    rw [hb31] at l40
    have hvl := bitsB_len k 31
    have hvn := bits_number (show 0 ≤ k by omega) (show k < 2147483648 by omega)
    generalize bitsB k 31 = v at l40 hvl hvn
    have ld40 : I.ldA 6 h40 (.ptr h.next 0) = some (.agg cs) := l40.ldA 1 rfl hs.2.symm
    obtain ⟨h42, h46, h47, e42, e46, e47, l47, sc47⟩ := evalD l40 sc40 (r.mono l40.ex.ext _)
    obtain ⟨pT, mT, h53, e53, sc53, l53, hmT⟩ := new10 l47
    have ld50 : I.ldA 6 h47 (.ptr h.next 0) = some (.agg cs) := l47.ldA 2 rfl hs.2.symm
    have ld54 : I.ldA 6 h53 (.ptr h.next 0) = some (.agg cs) := l53.ldA 2 rfl hs.2.symm
    have cv47 : cvS h47 (.slice h26.next 0 31 1) = some (sv (v)) := by
      have hc : Cs h47 h26.next true false (bcells (v)) := l47.cs (h26.next, bcells (v)) (List.mem_cons_of_mem _ (List.mem_cons_self ..))
      have := cvS_of (es := 1) hc
      rw [hvl] at this; exact this
    have cv53 : cvS h53 (.slice h26.next 0 31 1) = some (sv (v)) := by
      have hc : Cs h53 h26.next true false (bcells (v)) := l53.cs (h26.next, bcells (v)) (List.mem_cons_of_mem _ (List.mem_cons_self ..))
      have := cvS_of (es := 1) hc
      rw [hvl] at this; exact this
    obtain ⟨c', h61, e13, y61, r61⟩ := placed13 nm (v) m x cs h53 (r.mono l53.ex.ext _) l53.gd hx
    have x61 := y61.ex l53.gd
    obtain ⟨h65, h69, h70, e65, e69, e70, l70, sc70⟩ := evalD (l53.go x61) (sc53.keep x61) r61
    have hpe := put_eval (nm := nm) hvn m x
    rw [← hpe] at e65 e70 l70
    have ld75 := l70.ldA 1 rfl (n := 2) rfl
    have ld76 := l70.ldA 0 rfl (n := 2) rfl
    refine ⟨h70, c3 step2 rfl rfl g ?_ (by simp)⟩
    have hl := hloop (.ok (.bool true) h70) (by simp) (e3_1 (by
      have dg1 : ∀ d : Int × Int, (dg d)[1]? = some (.int .i64 d.2) := fun _ => rfl
      have h31 : ¬ (31 : Int) < 31 := by omega
      simp only [t3_1, W, decide_eq_true_eq, Bool.not_eq_true', decide_eq_false_iff_not, Bool.false_eq_true, Bool.not_true, Bool.not_false, decide_true, decide_false, not_true_eq_false, not_false_eq_true, and_true, true_and, and_false, false_and, ne_eq, Nat.zero_add, Nat.add_zero, cond_true, cond_false, ↓reduceIte, reduceCtorEq, Nat.reduceAdd, Int.reduceEq, Int.reduceNe, Int.reduceLT, Int.reduceLE, Int.reduceAdd, Int.reduceSub, Int.reduceMul, Int.reduceNeg, Nat.reduceMul, List.getElem?_cons_zero, List.getElem?_cons_succ, h31, ld40, e42, ans, e46, e47, e53, ld50, ld54, cv47, cv53, e13, e65, e69, e70, ld75, ld76, dg_eql, call9, List.getElem?_cons_zero, List.getElem?_cons_succ, decide_true, cond_true]) (by simp))
    simp only [t3_0, IV.cells, e2, W, decide_eq_true_eq, Bool.not_eq_true', decide_eq_false_iff_not, Bool.false_eq_true, Bool.not_true, Bool.not_false, decide_true, decide_false, not_true_eq_false, not_false_eq_true, and_true, true_and, and_false, false_and, ne_eq, Nat.zero_add, Nat.add_zero, cond_true, cond_false, ↓reduceIte, reduceCtorEq, Nat.reduceAdd, Int.reduceEq, Int.reduceNe, Int.reduceLT, Int.reduceLE, Int.reduceAdd, Int.reduceSub, Int.reduceMul, Int.reduceNeg, Nat.reduceMul, List.getElem?_cons_zero, List.getElem?_cons_succ, hk0, hk1, ld2, e8, e10, e11, emk]
    exact hl

end Go.Proofs.YtblgpcijbdbeiaaDoor
