/- M6: Law06: ConstsNames: a number in a name's place: the plain law. Law06: ConstsNames: calls that leave all that was there exactly as it was; a list that grows. Law06: ConstsNames: placed puts a number in a name's place. Law06: ConstsNames: the run returns true. Law06: ConstsScopes: setting, finding and cloning of names, here and in the document's way. Law06: ConstsScopes: the document's Set and Get. Law06: ConstsScopes: a scope made of names; a step of either side. Law06: ConstsScopes: the run returns true. Law06: a list of names that was read. -/
import Derived.Test.YtblgpcijbdbeiaaDoorM5
namespace Go.Proofs.YtblgpcijbdbeiaaDoor
open Go I
set_option maxRecDepth 100000
set_option linter.unusedVariables false
set_option linter.unusedSimpArgs false

mutual
def putE (nm v : Bs) : E → E
  | .mk op n val pl kids a => if op = 2 ∧ n = nm then .mk 1 [] v false [] a else .mk op n val pl (putEs nm v kids) a
def putEs (nm v : Bs) : List E → List E
  | [] => []
  | x :: l => putE nm v x :: putEs nm v l
end
theorem putEs_len (nm v : Bs) : ∀ l : List E, (putEs nm v l).length = l.length
  | [] => rfl
  | x :: l => by simp only [putEs, List.length_cons, putEs_len nm v l]
theorem putEs_get (nm v : Bs) : ∀ (l : List E) (i : Nat), (putEs nm v l)[i]? = (l[i]?).map (putE nm v)
  | [], i => by simp [putEs]
  | x :: l, 0 => by simp [putEs]
  | x :: l, i + 1 => by simp only [putEs, List.getElem?_cons_succ, putEs_get nm v l i]
theorem put_eval {nm v : Bs} {k : Int} (hv : numberM v = (k, 0)) : ∀ (n : Nat) (x : E), evalF [(nm, k)] n x = evalF [] n (putE nm v x) := by
  intro n
  induction n with
  | zero => intro x; rfl
  | succ n ih =>
    intro x
    obtain ⟨op, n1, val, pl, kids, a⟩ := x
    have kid : ∀ i, kidF (evalF [(nm, k)] n) kids i = kidF (evalF [] n) (putEs nm v kids) i := by
      intro i
      unfold kidF
      rw [putEs_get]
      cases kids[i]? with
      | none => rfl
      | some y => exact ih y
    by_cases h2 : op = 2
    · subst h2
      by_cases hn : n1 = nm
      · subst hn
        simp [putE, evalF, getM, hv]
      · have h1 : (nm == n1) = false := by simpa using fun h => hn h.symm
        simp [putE, hn, evalF, getM, h1]
    · have hp : putE nm v (.mk op n1 val pl kids a) = .mk op n1 val pl (putEs nm v kids) a := by simp [putE, h2]
      rw [hp]
      simp only [evalF, h2, if_false, kid, putEs_len]

end Go.Proofs.YtblgpcijbdbeiaaDoor

namespace Go.Proofs.YtblgpcijbdbeiaaDoor
open Go I
set_option maxRecDepth 100000
set_option linter.unusedVariables false
set_option linter.unusedSimpArgs false

/-- all that was there is exactly as it was -/
structure Ey (h₀ h : H) : Prop where
  gd : Gd h
  next : h₀.next ≤ h.next
  low : ∀ b, b < h₀.next → h.get b = h₀.get b
theorem Ey.refl {h : H} (g : Gd h) : Ey h h := ⟨g, Nat.le_refl _, fun _ _ => rfl⟩
theorem Ey.trans {a b c : H} (x : Ey a b) (y : Ey b c) : Ey a c := ⟨y.gd, Nat.le_trans x.next y.next, fun k hk => (y.low k (Nat.lt_of_lt_of_le hk x.next)).trans (x.low k hk)⟩
theorem Ey.gr {h₀ h : H} (g : Gd h₀) (x : Ey h₀ h) : Gr h₀ h := fun b o hb => by
  have hlt : b < h₀.next := by
    rcases Nat.lt_or_ge b h₀.next with hl | hl
    · exact hl
    · rw [g.wf b hl] at hb; cases hb
  exact (x.low b hlt).trans hb
theorem Ey.push {h₀ h : H} (x : Ey h₀ h) (o : I.Obj) : Ey h₀ (h.push o) :=
  ⟨⟨(Step.push h o x.gd.wf).1, x.gd.pol⟩, Nat.le_succ_of_le x.next, fun b hb => by rw [H.get_push, if_neg (by have := x.next; omega)]; exact x.low b hb⟩
theorem Ey.newI {h₀ h : H} (x : Ey h₀ h) {cs : List IV} (hs : allScalar cs = true) : ∃ h', I.newI h cs = some (.ptr h.next 0, h') ∧ Ey h₀ h' ∧ Cs h' h.next true false cs ∧ Ey h h' :=
  ⟨_, by rw [newI_eq]; rw [if_pos hs], x.push _, .push cs, (Ey.refl x.gd).push _⟩
theorem Ey.put {h₀ h : H} (x : Ey h₀ h) {b : Nat} {q o : I.Obj} (hb : h₀.next ≤ b) (hq : h.get b = some q) (ho : ∀ fz size cs, q = .cells false fz size cs → ∃ fz', o = .cells false fz' size cs) : Ey h₀ (h.put b o) :=
  ⟨⟨(Step.put hq ho x.gd.wf).1, x.gd.pol⟩, x.next, fun k hk => by rw [H.get_put, if_neg (by omega)]; exact x.low k hk⟩

/-- a list that grows, made behind h₀ -/
def GLo (h₀ h : H) (es : Nat) (cs : List IV) (s : IV) : Prop := (cs = [] ∧ s = .nilSlice) ∨ ∃ b k, s = .slice b 0 k es ∧ Cs h b false true cs ∧ k * es = cs.length ∧ h₀.next ≤ b
theorem GLo.ey {h₀ h h' : H} {es : Nat} {cs : List IV} {s : IV} (gl : GLo h₀ h es cs s) (w : WF h) (x : Ey h h') : GLo h₀ h' es cs s := by
  rcases gl with h1 | ⟨b, k, h1, c, h3, h4⟩
  · exact .inl h1
  · exact .inr ⟨b, k, h1, Cs_same c (x.low b (c.lt w)), h3, h4⟩
theorem GLo.scalar {h₀ h : H} {es : Nat} {cs : List IV} {s : IV} (gl : GLo h₀ h es cs s) : s.scalar = true := by
  rcases gl with ⟨_, rfl⟩ | ⟨b, k, rfl, _⟩ <;> rfl
theorem Ey.app {h₀ h : H} (x : Ey h₀ h) {es bytes : Nat} {cs new : List IV} {s y : IV} {n : Nat} (gl : GLo h₀ h es cs s) (hs : sourceI h es y = some (new, n)) (hl : new.length = n * es) (hsc : allScalar new = true) (hn : n ≠ 0)
    (hroom : (2 * (cs.length + n) + 2000) * bytes ≤ 2 ^ 46) (hes : es ≠ 0) : ∃ s' h', appK es bytes h s y = some (s', h') ∧ Ey h₀ h' ∧ GLo h₀ h' es (cs ++ new) s' := by
  have g := x.gd
  rcases gl with ⟨rfl, rfl⟩ | ⟨b, k, rfl, ⟨t, h1, h2⟩, h3, h4⟩
  · refine ⟨_, _, ?_, x.push (.cells (!h.pol) h.pol new.length (setList .leaf 0 new)), .inr ⟨h.next, n, rfl, ?_, by simpa using hl.symm, x.next⟩⟩
    · simp only [appK, hs, hsc, Bool.true_eq_false, if_false, if_neg hn]
      rw [if_pos (by simpa using hroom)]
    · rw [g.pol]; simpa using Cs.push (h := h) (rw := false) (fz := true) new
  · have hk : k ≤ cs.length := by
      rw [← h3]; exact Nat.le_mul_of_pos_right _ (Nat.pos_of_ne_zero hes)
    have hroom' : (2 * (k + n) + 2000) * bytes ≤ 2 ^ 46 := Nat.le_trans (Nat.mul_le_mul_right _ (by omega)) hroom
    have x1 := x.put (o := .cells false false cs.length t) h4 h1 (fun fz size cs' hc => by injection hc with _ _ q3 q4; exact ⟨false, by rw [q3, q4]⟩)
    refine ⟨_, _, ?_, x1.push (.cells false true ((k + n) * es) (setList t (k * es) new)), .inr ⟨h.next, k + n, rfl, ⟨setList t (k * es) new, ?_, fun i hi => ?_⟩, by rw [Nat.add_mul, h3, List.length_append, hl], x.next⟩⟩
    · simp only [appK, hs, hsc, Bool.true_eq_false, if_false, if_neg hn, ne_eq, not_true_eq_false, h1]
      rw [if_pos ⟨trivial, h3, hroom'⟩]
    · rw [H.get_push, if_pos (show h.next = (h.put b (.cells false false cs.length t)).next from rfl), List.length_append, hl, Nat.add_mul, h3]
    · rw [List.length_append] at hi
      rw [get_setList, h3]
      by_cases hc : cs.length ≤ i ∧ i < cs.length + new.length
      · rw [if_pos hc, List.getElem?_append_right hc.1]
      · rw [if_neg hc, List.getElem?_append_left (by omega)]; exact h2 i (by omega)

end Go.Proofs.YtblgpcijbdbeiaaDoor

namespace Go.Proofs.YtblgpcijbdbeiaaDoor
open Go I
set_option maxRecDepth 100000
set_option linter.unusedVariables false
set_option linter.unusedSimpArgs false

theorem Ey.ext {h₀ h : H} (g : Gd h₀) (x : Ey h₀ h) : Ext h₀ h := ⟨x.gd.pol.trans g.pol.symm, x.next, fun b fz size cs hb => ⟨fz, x.gr g b _ hb⟩⟩
theorem Ey.stp {h₀ h : H} (x : Ey h₀ h) {b : Nat} {fz : Bool} {cs : List IV} (hb : h₀.next ≤ b) (c : Cs h b true fz cs) {n off : Nat} {v : IV} (hv : v.cells.length = n) (hs : allScalar v.cells = true) (hle : off + n ≤ cs.length) :
    ∃ h', stA n h (.ptr b off) v = some h' ∧ Ey h₀ h' ∧ Cs h' b true fz (placeL cs off v.cells) ∧ (∀ k, k ≠ b → h'.get k = h.get k) ∧ h'.next = h.next := by
  obtain ⟨o, e, c', hne⟩ := c.st hv hs hle
  obtain ⟨t, h1, _⟩ := c
  exact ⟨h.put b o, e, x.put hb h1 (fun fz size cs hc => by cases hc), c', fun k hk => by rw [H.get_put, if_neg hk], rfl⟩

theorem putEs_take (nm v : Bs) : ∀ (l : List E) (i : Nat), putEs nm v (l.take i) = (putEs nm v l).take i
  | [], i => by simp [putEs]
  | x :: l, 0 => by simp [putEs]
  | x :: l, i + 1 => by simp only [List.take_succ_cons, putEs, putEs_take nm v l i]
theorem put_snoc (nm v : Bs) (l : List E) (i : Nat) (x : E) (hx : l[i]? = some x) : putEs nm v (l.take (i + 1)) = putEs nm v (l.take i) ++ [putE nm v x] := by
  rw [putEs_take, putEs_take, List.take_add_one, putEs_get, hx]; rfl
theorem GLo.lr {h₀ h : H} {cells : List IV} {s : IV} (gl : GLo h₀ h 6 cells s) {α : Type} {R : α → List IV → Prop} {l : List α} (hch : Ch R 6 l cells) : LR h 6 R l s := by
  have hl := hch.len
  rcases gl with ⟨rfl, rfl⟩ | ⟨b, k, rfl, c, h3, _⟩
  · have : l = [] := List.eq_nil_of_length_eq_zero (by simp at hl; omega)
    exact .inl ⟨this, .inl rfl⟩
  · have hk : k = l.length := by omega
    subst hk
    refine .inr ⟨b, 0, cells, rfl, ⟨true, c⟩, by omega, ?_⟩
    rw [List.drop_zero, ← hl, List.take_length]
    exact hch
theorem cells_scalar {v : IV} (h : v.scalar = true) : v.cells = [v] := by cases v <;> first | rfl | (simp [IV.scalar] at h)
/-- the parts, one behind the other -/
theorem loop13 {h₀ : H} (g₀ : Gd h₀) {nm v : Bs} {n : Nat} {op a : Int} {n1 val : Bs} {pl : Bool} {kids : List E} {K : IV} (hk : LR h₀ 6 (XR h₀ n) kids K) (hkl : kids.length ≤ 2 ^ 21) {b1 b3 : Nat} (hb1 : h₀.next ≤ b1) (hb3 : h₀.next ≤ b3) (hne : b1 ≠ b3)
    (ih : ∀ (x : E), x ∈ kids → ∀ (cs : List IV) (h : H), XR h n x cs → Gd h → ∃ c' h', CL tab2 13 [.agg cs, sv nm, sv v] h = .ok (.agg c') h' ∧ Ey h h' ∧ XR h' n (putE nm v x) c') :
    ∀ (k i : Nat) (h : H) (acc : IV) (cells z3 : List IV), i + k = kids.length → Ey h₀ h → Cs h b1 true false (ecells op n1 val pl K a) → Cs h b3 true false z3 → z3.length = 6 → GLo h₀ h 6 cells acc → Ch (XR h n) 6 (putEs nm v (kids.take i)) cells →
      ∃ c' h', J13 tab2 1 [sv nm, sv v, .ptr b1 0, .ptr b3 0, acc, .int .i64 i] h = .ok (.agg c') h' ∧ Ey h₀ h' ∧ XR h' (n + 1) (.mk op n1 val pl (putEs nm v kids) a) c' := by
  intro k
  induction k with
  | zero =>
    intro i h acc cells z3 hi x c1 c3 hz gl hch
    have hacc := gl.scalar
    have hcl := cells_scalar hacc
    obtain ⟨h36, e36, x36, c36, o36, n36⟩ := x.stp (n := 1) (off := 4) (v := acc) hb1 c1 (by rw [hcl]; rfl) (by rw [hcl]; simp [allScalar, hacc]) (by show 4 + 1 ≤ 6; omega)
    have hpl : placeL (ecells op n1 val pl K a) 4 acc.cells = ecells op n1 val pl acc a := by rw [hcl]; rfl
    rw [hpl] at c36
    have e37 := c36.ldAll (n := 6) rfl
    have c3' : Cs h36 b3 true false z3 := Cs_same c3 (o36 b3 (Ne.symm hne))
    obtain ⟨h38, e38, x38, c38, o38, n38⟩ := x36.stp (n := 6) (off := 0) (v := .agg (ecells op n1 val pl acc a)) hb3 c3' rfl (ecells_scalar hacc) (by omega)
    have hpl3 : placeL z3 0 (IV.agg (ecells op n1 val pl acc a)).cells = ecells op n1 val pl acc a := by
      obtain ⟨y0, y1, y2, y3, y4, y5, rfl⟩ : ∃ a b c d e f, z3 = [a, b, c, d, e, f] := by
        match z3, hz with
        | [a, b, c, d, e, f], _ => exact ⟨a, b, c, d, e, f, rfl⟩
      rfl
    rw [hpl3] at c38
    have e39 := c38.ldAll (n := 6) rfl
    have hgl : GLo h₀ h38 6 cells acc := by
      rcases gl with g1 | ⟨b, k, q1, q2, q3, q4⟩
      · exact .inl g1
      · have hb1' : b ≠ b1 := by
          rintro rfl
          obtain ⟨t1, u1, _⟩ := q2
          obtain ⟨t2, u2, _⟩ := c1
          rw [u1] at u2; cases u2
        have hb3' : b ≠ b3 := by
          rintro rfl
          obtain ⟨t1, u1, _⟩ := q2
          obtain ⟨t2, u2, _⟩ := c3
          rw [u1] at u2; cases u2
        exact .inr ⟨b, k, q1, Cs_same q2 ((o38 b hb3').trans (o36 b hb1')), q3, q4⟩
    have ext : Ext h h38 := ⟨by rw [x38.gd.pol, x.gd.pol], by omega, fun b fz size cs hb => ⟨fz, by
      have m1 : b ≠ b1 := by
        rintro rfl
        obtain ⟨t, u, _⟩ := c1
        rw [u] at hb; cases hb
      have m3 : b ≠ b3 := by
        rintro rfl
        obtain ⟨t, u, _⟩ := c3
        rw [u] at hb; cases hb
      rw [o38 b m3, o36 b m1]; exact hb⟩⟩
    have hxr : ∀ (y : E) (c : List IV), XR h n y c → XR h38 n y c := fun y c r => r.mono ext n
    have hi' : kids.take i = kids := List.take_of_length_le (by omega)
    rw [hi'] at hch
    refine ⟨_, h38, e13_1 ?_ (by simp), x38, acc, rfl, hgl.lr (hch.mono hxr)⟩
    have hlt : ¬ (i : Int) < (kids.length : Nat) := by omega
    have e21 := c1.ld0 4
    simp only [t13_1, fadK, W, decide_eq_true_eq, Bool.not_eq_true', decide_eq_false_iff_not, Bool.false_eq_true, Bool.not_true, Bool.not_false, decide_true, decide_false, not_true_eq_false, not_false_eq_true, and_true, true_and, and_false, false_and, ne_eq, Nat.zero_add, Nat.add_zero, cond_true, cond_false, ↓reduceIte, reduceCtorEq, Nat.reduceAdd, Int.reduceEq, Int.reduceNe, Int.reduceLT, Int.reduceLE, Int.reduceAdd, Int.reduceSub, Int.reduceMul, Int.reduceNeg, Nat.reduceMul, List.getElem?_cons_zero, List.getElem?_cons_succ, e21, EC, hk.len, hlt, e36, e37, e38, e39]
  | succ k ihk =>
    intro i h acc cells z3 hi x c1 c3 hz gl hch
    have hlt : i < kids.length := by omega
    have hx : kids[i]? = some kids[i] := List.getElem?_eq_getElem hlt
    obtain ⟨p, c, q1, q2, q3, q4, _⟩ := (LR.gr (x.gr g₀) (fun y c r => XR.gr (x.gr g₀) n r) hk : LR h 6 (XR h n) kids K).ix hx
    obtain ⟨c', h29, e28, y29, r29⟩ := ih kids[i] (List.getElem_mem hlt) c h q3 x.gd
    have hs29 := r29.scalar
    have hone := bslK_all (w := false) (es := 6) (z := z0) (vs := [.agg c']) rfl (by intro w hw; rcases List.mem_singleton.1 hw with rfl; exact hs29.2) (by show allScalar (c' ++ []) = true; rw [List.append_nil]; exact hs29.1) h29
    rw [y29.gd.pol] at hone
    have hco : cellsOf [IV.agg c'] = c' := by simp [cellsOf, IV.cells]
    rw [hco] at hone
    have x29 := x.trans y29
    generalize hg31 : h29.push (.cells (!(true && !false)) (true && !false) c'.length (setList .leaf 0 c')) = h31 at hone
    have x31 : Ey h₀ h31 := hg31 ▸ x29.push _
    have y31 : Ey h29 h31 := hg31 ▸ (Ey.refl y29.gd).push _
    have cS : Cs h31 h29.next false true c' := hg31 ▸ Cs.push c'
    have hsrc : sourceI h31 6 (.slice h29.next 0 1 6) = some (c', 1) := by
      have := Ci.source (off := 0) (n := 1) (es := 6) ⟨true, cS⟩ (by rw [hs29.2]; omega) (by omega)
      rw [List.drop_zero, show 1 * 6 = c'.length by rw [hs29.2], List.take_length] at this
      exact this
    have hcl : cells.length = i * 6 := by
      rw [hch.len, putEs_len, List.length_take, Nat.min_eq_left (by omega)]
    have y1 := y29.trans y31
    obtain ⟨acc', h33, e32, x33, gl33⟩ := x31.app (bytes := 80) (gl.ey x.gd.wf y1) hsrc (by rw [hs29.2]) hs29.1 (by omega) (by rw [hcl]; omega) (by omega)
    have gl31 : GL h31 6 cells acc := by
      rcases gl.ey x.gd.wf y1 with g1 | ⟨b, k, w1, w2, w3, _⟩
      · exact .inl g1
      · exact .inr ⟨b, k, w1, w2, w3⟩
    obtain ⟨s2, h2, e2, x2, _⟩ := appK_grow x31.gd (bytes := 80) gl31 hsrc (by rw [hs29.2]) hs29.1 (by omega) (by rw [hcl]; omega) (by omega)
    rw [e32] at e2
    injection e2 with e2
    injection e2 with _ e2
    subst e2
    have c1' : Cs h33 b1 true false (ecells op n1 val pl K a) := (Cs_same c1 (y1.low b1 (c1.lt x.gd.wf))).ex x2
    have c3' : Cs h33 b3 true false z3 := (Cs_same c3 (y1.low b3 (c3.lt x.gd.wf))).ex x2
    have e31 := y31.ext y29.gd
    have ch' : Ch (XR h33 n) 6 (putEs nm v (kids.take (i + 1))) (cells ++ c') := by
      rw [put_snoc nm v kids i _ hx]
      exact Ch.snoc hs29.2 ((r29.mono e31 n).mono x2.ext n) (hch.mono fun y d r => (r.mono (y1.ext x.gd) n).mono x2.ext n)
    obtain ⟨cR, hR, eR, xR, rR⟩ := ihk (i + 1) h33 acc' (cells ++ c') z3 (by omega) x33 c1' c3' hz gl33 ch'
    refine ⟨cR, hR, e13_1 ?_ (by simp), xR, rR⟩
    have hlt' : (i : Int) < (kids.length : Nat) := by omega
    have e21 := c1.ld0 4
    have e30 : bslK false 6 z0 1 [(0, .agg c')] h29 = some (.slice h29.next 0 1 6, h31) := hone
    have ei : wr .i64 ((i : Int) + 1) = ((i + 1 : Nat) : Int) := by rw [wr_i64 (by omega) (by omega)]; omega
    simp only [t13_1, fadK, W, decide_eq_true_eq, Bool.not_eq_true', decide_eq_false_iff_not, Bool.false_eq_true, Bool.not_true, Bool.not_false, decide_true, decide_false, not_true_eq_false, not_false_eq_true, and_true, true_and, and_false, false_and, ne_eq, Nat.zero_add, Nat.add_zero, cond_true, cond_false, ↓reduceIte, reduceCtorEq, Nat.reduceAdd, Int.reduceEq, Int.reduceNe, Int.reduceLT, Int.reduceLE, Int.reduceAdd, Int.reduceSub, Int.reduceMul, Int.reduceNeg, Nat.reduceMul, List.getElem?_cons_zero, List.getElem?_cons_succ, e21, EC, hk.len, hlt', q1, q2, e28, e30, e32, ei]
    exact eR

theorem nodes_mem {x : E} : ∀ {l : List E}, x ∈ l → x.nodes ≤ nodesL l
  | [], h => by cases h
  | y :: l, h => by
    simp only [nodesL]
    rcases List.mem_cons.1 h with rfl | h
    · omega
    · have := nodes_mem h; omega
/-- placed -/
theorem placed13 (nm v : Bs) : ∀ (n : Nat) (x : E) (cs : List IV) (h : H), XR h n x cs → Gd h → x.nodes ≤ 2 ^ 21 → ∃ c' h', CL tab2 13 [.agg cs, sv nm, sv v] h = .ok (.agg c') h' ∧ Ey h h' ∧ XR h' n (putE nm v x) c' := by
  intro n
  induction n with
  | zero => intro x cs h r; cases r
  | succ n ih =>
    intro x cs h r g hx
    obtain ⟨op, n1, val, pl, kids, a⟩ := x
    obtain ⟨K, rfl, hk⟩ := r
    simp only [E.nodes] at hx
    have hkl := len_nodes kids
    obtain ⟨h2, e2, x2, c2, y2⟩ := (Ey.refl g).newI (ecells_scalar (op := op) (nm := n1) (v := val) (p := pl) (a := a) hk.scalar)
    obtain ⟨h4, e4, x4, c4, y4⟩ := x2.newI z0s
    have hn2 : h2.next = h.next + 1 := by
      have := e2; rw [newI_eq, if_pos (ecells_scalar hk.scalar)] at this
      injection this with this; injection this with _ this; rw [← this]; rfl
    have c2' : Cs h4 h.next true false (ecells op n1 val pl K a) := Cs_same c2 (y4.low _ (by omega))
    have l0 := c2'.ld0 0
    have l1 := c2'.ld0 1
    have l5 := c2'.ld0 5
    by_cases hh : op = 2 ∧ n1 = nm
    · obtain ⟨rfl, rfl⟩ := hh
      obtain ⟨h18, e18, x18, c18, o18, n18⟩ := x4.stp (n := 6) (off := 0) (v := .agg (ecells 1 [] v false .nilSlice a)) x2.next c4 rfl rfl (by show 0 + 6 ≤ 6; omega)
      have hp3 : placeL z0 0 (IV.agg (ecells 1 [] v false .nilSlice a)).cells = ecells 1 [] v false .nilSlice a := rfl
      rw [hp3] at c18
      have e19 := c18.ldAll (n := 6) rfl
      refine ⟨ecells 1 [] v false .nilSlice a, h18, c13 step2 rfl rfl g ?_ (by simp), x18, ?_⟩
      · have hb : bldK z0 p1 [(0, .int .i64 1), (2, sv v), (5, .int .i64 a)] = some (.agg (ecells 1 [] v false .nilSlice a)) := rfl
        simp only [t13_0, IV.cells, e2, e4, fadK, W, decide_eq_true_eq, Bool.not_eq_true', decide_eq_false_iff_not, Bool.false_eq_true, Bool.not_true, Bool.not_false, decide_true, decide_false, not_true_eq_false, not_false_eq_true, and_true, true_and, and_false, false_and, ne_eq, Nat.zero_add, Nat.add_zero, cond_true, cond_false, ↓reduceIte, reduceCtorEq, Nat.reduceAdd, Int.reduceEq, Int.reduceNe, Int.reduceLT, Int.reduceLE, Int.reduceAdd, Int.reduceSub, Int.reduceMul, Int.reduceNeg, Nat.reduceMul, List.getElem?_cons_zero, List.getElem?_cons_succ, l0, l1, l5, EC, hb, e18]
        simp only [e19, W, decide_eq_true_eq, Bool.not_eq_true', decide_eq_false_iff_not, Bool.false_eq_true, Bool.not_true, Bool.not_false, decide_true, decide_false, not_true_eq_false, not_false_eq_true, and_true, true_and, and_false, false_and, ne_eq, Nat.zero_add, Nat.add_zero, cond_true, cond_false, ↓reduceIte, reduceCtorEq, Nat.reduceAdd, Int.reduceEq, Int.reduceNe, Int.reduceLT, Int.reduceLE, Int.reduceAdd, Int.reduceSub, Int.reduceMul, Int.reduceNeg, Nat.reduceMul, List.getElem?_cons_zero, List.getElem?_cons_succ]
      · simp only [putE, and_self, if_true]
        exact xrLeaf _ _ _ _ _ _
    · obtain ⟨cR, hR, eR, xR, rR⟩ := loop13 g hk (by omega) (Nat.le_refl _) x2.next (by omega) (fun y hy cs h' r' g' => ih y cs h' r' g' (by have := nodes_mem hy; omega)) kids.length 0 h4 .nilSlice [] z0 (by omega) x4 c2' c4 rfl (.inl ⟨rfl, rfl⟩) (by simp [putEs, Ch])
      have hp : putE nm v (.mk op n1 val pl kids a) = .mk op n1 val pl (putEs nm v kids) a := by simp [putE, hh]
      rw [hp]
      refine ⟨cR, hR, c13 step2 rfl rfl g ?_ (by simp), xR, rR⟩
      by_cases ho : op = 2
      · have hn : ¬ n1 = nm := fun e => hh ⟨ho, e⟩
        subst ho
        simp only [t13_0, IV.cells, e2, e4, fadK, W, decide_eq_true_eq, Bool.not_eq_true', decide_eq_false_iff_not, Bool.false_eq_true, Bool.not_true, Bool.not_false, decide_true, decide_false, not_true_eq_false, not_false_eq_true, and_true, true_and, and_false, false_and, ne_eq, Nat.zero_add, Nat.add_zero, cond_true, cond_false, ↓reduceIte, reduceCtorEq, Nat.reduceAdd, Int.reduceEq, Int.reduceNe, Int.reduceLT, Int.reduceLE, Int.reduceAdd, Int.reduceSub, Int.reduceMul, Int.reduceNeg, Nat.reduceMul, List.getElem?_cons_zero, List.getElem?_cons_succ, l0, l1, EC, hn]
        exact eR
      · simp only [t13_0, IV.cells, e2, e4, fadK, W, decide_eq_true_eq, Bool.not_eq_true', decide_eq_false_iff_not, Bool.false_eq_true, Bool.not_true, Bool.not_false, decide_true, decide_false, not_true_eq_false, not_false_eq_true, and_true, true_and, and_false, false_and, ne_eq, Nat.zero_add, Nat.add_zero, cond_true, cond_false, ↓reduceIte, reduceCtorEq, Nat.reduceAdd, Int.reduceEq, Int.reduceNe, Int.reduceLT, Int.reduceLE, Int.reduceAdd, Int.reduceSub, Int.reduceMul, Int.reduceNeg, Nat.reduceMul, List.getElem?_cons_zero, List.getElem?_cons_succ, l0, l1, EC, ho]
        exact eR

end Go.Proofs.YtblgpcijbdbeiaaDoor

namespace Go.Proofs.YtblgpcijbdbeiaaDoor
open Go I
set_option maxRecDepth 100000
set_option linter.unusedVariables false
set_option linter.unusedSimpArgs false

/-! ### the bits of a number, the highest ahead -/
def bitB (n : Int) (i : Nat) : UInt8 := if n / 2 ^ (30 - i) % 2 = 1 then 49 else 48
def bitsB (n : Int) : Nat → Bs
  | 0 => []
  | k + 1 => bitsB n k ++ [bitB n k]
theorem bitsB_len (n : Int) : ∀ k, (bitsB n k).length = k
  | 0 => rfl
  | k + 1 => by simp [bitsB, bitsB_len n k]
theorem bitB_int (n : Int) (i : Nat) : ((bitB n i).toNat : Int) = 48 + n / 2 ^ (30 - i) % 2 := by
  unfold bitB
  split
  · rename_i h; rw [h]; rfl
  · have : n / 2 ^ (30 - i) % 2 = 0 := by omega
    rw [this]; rfl
theorem numF_app (most : Int) : ∀ (a b : Bs) (n : Int), numF most (a ++ b) n = numF most b (numF most a n)
  | [], b, n => rfl
  | c :: a, b, n => by simp only [List.cons_append, numF]; exact numF_app most a b _
theorem bits_num {n : Int} (h0 : 0 ≤ n) (h1 : n < 2147483648) : ∀ k, k ≤ 31 → numF 2147483648 (bitsB n k) 0 = n / 2 ^ (31 - k)
  | 0, _ => by
    show 0 = n / 2 ^ 31
    omega
  | k + 1, hk => by
    rw [bitsB, numF_app, bits_num h0 h1 k (by omega)]
    simp only [numF, bitB_int]
    have e : 31 - k = (30 - k) + 1 := by omega
    have e2 : 31 - (k + 1) = 30 - k := by omega
    rw [e, e2, Int.pow_succ, ← Int.ediv_ediv_of_nonneg (Int.pow_nonneg (by omega))]
    have hq : n / 2 ^ (30 - k) ≤ n := Int.ediv_le_self _ h0
    generalize n / 2 ^ (30 - k) = q at *
    rw [if_neg (by omega)]
    omega
theorem bits_all (n : Int) : ∀ k, (bitsB n k).all (fun c => c == 48 || c == 49) = true
  | 0 => rfl
  | k + 1 => by
    simp only [bitsB, List.all_append, bits_all n k, List.all_cons, List.all_nil, Bool.and_true, Bool.true_and]
    unfold bitB
    split <;> rfl
theorem bits_number {n : Int} (h0 : 0 ≤ n) (h1 : n < 2147483648) : numberM (bitsB n 31) = (n, 0) := by
  have ha := bits_all n 31
  rw [List.all_eq_true] at ha
  have hc : checkM (bitsB n 31) = true := by
    simp only [checkM, bitsB_len, Bool.and_eq_true]
    refine ⟨⟨rfl, rfl⟩, List.all_eq_true.2 fun c hc => ?_⟩
    have := ha c hc
    simp only [Bool.or_eq_true, beq_iff_eq] at this
    rcases this with rfl | rfl <;> rfl
  have hx : (bitsB n 31).any isX = false := by
    rw [List.any_eq_false]
    intro c hc
    have := ha c hc
    simp only [Bool.or_eq_true, beq_iff_eq] at this
    rcases this with rfl | rfl <;> decide
  have hn := bits_num h0 h1 31 (by omega)
  have e : n / 2 ^ (31 - 31) = n := by simp
  rw [e] at hn
  unfold numberM
  rw [if_pos hc, hx, hn]
  simp only [Bool.false_eq_true, if_false]
  rw [if_neg (by omega)]

/-- the loop that writes the bits -/
def bitCells (n : Int) (i : Nat) : List IV := bcells (bitsB n i) ++ List.replicate (31 - i) (.int .u8 0)
theorem bitCells_len (n : Int) {i : Nat} (hi : i ≤ 31) : (bitCells n i).length = 31 := by
  simp only [bitCells, List.length_append, List.length_replicate, bcells, List.length_map, bitsB_len]; omega
theorem bitCells_set (n : Int) {i : Nat} (hi : i < 31) : placeL (bitCells n i) i [.int .u8 ((bitB n i).toNat : Nat)] = bitCells n (i + 1) := by
  have hl : (bcells (bitsB n i)).length = i := by simp [bcells, bitsB_len]
  have hr : List.replicate (31 - i) (IV.int .u8 0) = .int .u8 0 :: List.replicate (31 - (i + 1)) (.int .u8 0) := by
    rw [show 31 - i = (31 - (i + 1)) + 1 by omega, List.replicate_succ]
  have := placeL_mid [.int .u8 ((bitB n i).toNat : Nat)] (bcells (bitsB n i)) (.int .u8 0 :: List.replicate (31 - (i + 1)) (.int .u8 0)) (by simp)
  rw [hl] at this
  unfold bitCells
  rw [hr, this]
  simp [bcells, bitsB]
theorem loop3n {h₀ : H} {nm : IV} {n : Int} {a5 : IV} {p m : Nat} {s : Sc} {L : List (Nat × List IV)} {b : Nat} (hp : p < b) : ∀ (k i : Nat) (h : H), i + k = 31 → Lv h₀ h ((b, bitCells n i) :: L) → ScM h p m s →
    ∃ h', Lv h₀ h' ((b, bitCells n 31) :: L) ∧ ScM h' p m s ∧ Ex h₀ h' ∧ ∀ r : CRes, r ≠ .fail → J3 tab2 1 [nm, .int .i64 n, a5, .ptr p 0, .slice b 0 31 1, .int .i64 31] h' = r → J3 tab2 1 [nm, .int .i64 n, a5, .ptr p 0, .slice b 0 31 1, .int .i64 i] h = r := by
  intro k
  induction k with
  | zero =>
    intro i h hi l sc
    obtain rfl : i = 31 := by omega
    exact ⟨h, l, sc, l.ex, fun r _ e => e⟩
  | succ k ih =>
    intro i h hi l sc
    have hi' : i < 31 := by omega
    obtain ⟨h38, e38, l38⟩ := l.st 0 rfl (n := 1) (off := i) (v := .int .u8 ((bitB n i).toNat : Nat)) rfl rfl (by rw [bitCells_len n (by omega)]; omega)
    simp only [List.set_cons_zero, IV.cells] at l38
    rw [bitCells_set n hi'] at l38
    have sc38 : ScM h38 p m s := sc.st e38 (by omega)
    obtain ⟨h', l', sc', x', hr⟩ := ih (i + 1) h38 (by omega) l38 sc38
    refine ⟨h', l', sc', x', fun r hrf e => e3_1 ?_ hrf⟩
    have hlt : (i : Int) < 31 := by omega
    have e32 : wr .i64 (30 - (i : Int)) = ((30 - i : Nat) : Int) := by rw [wr_i64 (by omega) (by omega)]; omega
    have e33 : binN .shr (.int .i64 n) (.int .i64 ((30 - i : Nat) : Int)) = some (.int .i64 (n / 2 ^ (30 - i))) := by
      rw [binN_shr _ _ _ _ (by omega)]
      have : min ((30 - i : Nat) : Int).toNat IntKind.i64.bits = 30 - i := by
        show min ((30 - i : Nat) : Int).toNat 64 = 30 - i
        omega
      rw [this, Int.fdiv_eq_ediv_of_nonneg _ (Int.pow_nonneg (by omega))]
    have e36 : wr .u8 (wr .i64 (48 + n / 2 ^ (30 - i) % 2)) = ((bitB n i).toNat : Nat) := by
      rw [bitB_int]
      generalize n / 2 ^ (30 - i) = q
      rw [wr_i64 (by omega) (by omega), wr_u8 (by omega) (by omega)]
    have eix : ixS 1 (.slice b 0 31 1) (.int .i64 i) = some (.ptr b i) := by
      simp only [ixS]; rw [if_pos ⟨trivial, by omega, by omega⟩]; simp
    have ei : wr .i64 ((i : Int) + 1) = ((i + 1 : Nat) : Int) := by rw [wr_i64 (by omega) (by omega)]; omega
    simp only [t3_1, W, decide_eq_true_eq, Bool.not_eq_true', decide_eq_false_iff_not, Bool.false_eq_true, Bool.not_true, Bool.not_false, decide_true, decide_false, not_true_eq_false, not_false_eq_true, and_true, true_and, and_false, false_and, ne_eq, Nat.zero_add, Nat.add_zero, cond_true, cond_false, ↓reduceIte, reduceCtorEq, Nat.reduceAdd, Int.reduceEq, Int.reduceNe, Int.reduceLT, Int.reduceLE, Int.reduceAdd, Int.reduceSub, Int.reduceMul, Int.reduceNeg, Nat.reduceMul, List.getElem?_cons_zero, List.getElem?_cons_succ, hlt, e32, e33, binN_and, and1, e36, eix, e38, ei]
    exact hr r hrf e

theorem Ey.ex {h h' : H} (g : Gd h) (x : Ey h h') : Ex h h' := ⟨x.gd, x.ext g, fun b o hb _ => x.gr g b o hb⟩

theorem names {h : H} (g : Gd h) {m : Nat} {x : E} {cs : List IV} (r : XR h m x cs) (hx : x.nodes ≤ 2 ^ 21) (nm : Bs) (k : Int) : ∃ h', CL tab2 3 [sv nm, .int .i64 k, .agg cs] h = .ok (.bool true) h' := by
  have hs := r.scalar
  obtain ⟨h2, e2, l2, x2⟩ := (Lv.start g).newI' hs.1
  have ld2 : I.ldA 6 h2 (.ptr h.next 0) = some (.agg cs) := l2.ldA 0 rfl hs.2.symm
  by_cases hk0 : k < 0
  · refine ⟨h2, c3 step2 rfl rfl g ?_ (by simp)⟩
    simp only [t3_0, IV.cells, e2, W, decide_eq_true_eq, Bool.not_eq_true', decide_eq_false_iff_not, Bool.false_eq_true, Bool.not_true, Bool.not_false, decide_true, decide_false, not_true_eq_false, not_false_eq_true, and_true, true_and, and_false, false_and, ne_eq, Nat.zero_add, Nat.add_zero, cond_true, cond_false, ↓reduceIte, reduceCtorEq, Nat.reduceAdd, Int.reduceEq, Int.reduceNe, Int.reduceLT, Int.reduceLE, Int.reduceAdd, Int.reduceSub, Int.reduceMul, Int.reduceNeg, Nat.reduceMul, List.getElem?_cons_zero, List.getElem?_cons_succ, hk0, call9]
  by_cases hk1 : 2147483647 < k
  · refine ⟨h2, c3 step2 rfl rfl g ?_ (by simp)⟩
    simp only [t3_0, IV.cells, e2, W, decide_eq_true_eq, Bool.not_eq_true', decide_eq_false_iff_not, Bool.false_eq_true, Bool.not_true, Bool.not_false, decide_true, decide_false, not_true_eq_false, not_false_eq_true, and_true, true_and, and_false, false_and, ne_eq, Nat.zero_add, Nat.add_zero, cond_true, cond_false, ↓reduceIte, reduceCtorEq, Nat.reduceAdd, Int.reduceEq, Int.reduceNe, Int.reduceLT, Int.reduceLE, Int.reduceAdd, Int.reduceSub, Int.reduceMul, Int.reduceNeg, Nat.reduceMul, List.getElem?_cons_zero, List.getElem?_cons_succ, hk0, hk1, call9]
  obtain ⟨b8, h12, e8, x12⟩ := small8 l2.gd (r.mono x2.ext _) hx (most := 500) (by omega) (by omega)
  have l12 := l2.go x12
  cases b8 with
  | false =>
    refine ⟨h12, c3 step2 rfl rfl g ?_ (by simp)⟩
    simp only [t3_0, IV.cells, e2, W, decide_eq_true_eq, Bool.not_eq_true', decide_eq_false_iff_not, Bool.false_eq_true, Bool.not_true, Bool.not_false, decide_true, decide_false, not_true_eq_false, not_false_eq_true, and_true, true_and, and_false, false_and, ne_eq, Nat.zero_add, Nat.add_zero, cond_true, cond_false, ↓reduceIte, reduceCtorEq, Nat.reduceAdd, Int.reduceEq, Int.reduceNe, Int.reduceLT, Int.reduceLE, Int.reduceAdd, Int.reduceSub, Int.reduceMul, Int.reduceNeg, Nat.reduceMul, List.getElem?_cons_zero, List.getElem?_cons_succ, hk0, hk1, ld2, e8, call9]
  | true =>
    obtain ⟨pS, mS, h20, e10, sc20, l20, hm⟩ := new10 l12
    obtain ⟨h26, e11, sc26, l26⟩ := set11 l20 sc20 (nm := nm) (n := k) rfl (by omega) hm
    rw [List.nil_append] at sc26
    obtain ⟨h30, e30, l30, x30⟩ := l26.newI' (cs := bitCells k 0) rfl
    have emk : mksK 1 1 [.int .u8 0] h26 (.int .i64 31) (.int .i64 31) = some (.slice h26.next 0 31 1, h30) := by
      have hb0 : bitCells k 0 = repCells [.int .u8 0] 31 := rfl
      have hlen : (repCells [.int .u8 0] 31).length = 31 * 1 := rfl
      rw [hb0, newI_eq, if_pos (show allScalar (repCells [.int .u8 0] 31) = true from rfl), hlen] at e30
      injection e30 with e30
      injection e30 with _ e30
      have hn : (31 : Int).toNat = 31 := rfl
      simp only [mksK, hn]
      rw [if_pos (by omega), e30]
    have sc30 := sc26.keep x30
    have hlt26 := sc26.cell.lt l26.gd.wf
    obtain ⟨h40, l40, sc40, x40, hloop⟩ := loop3n (h₀ := h) (nm := sv nm) (n := k) (a5 := .ptr h.next 0) (L := [(h.next, cs)]) hlt26 31 0 h30 (Nat.zero_add 31) l30 sc30
    have hb31 : bitCells k 31 = bcells (bitsB k 31) := by simp [bitCells]
    rw [hb31] at l40
    have hvl := bitsB_len k 31
    have hvn := bits_number (show 0 ≤ k by omega) (show k < 2147483648 by omega)
    generalize bitsB k 31 = v at l40 hvl hvn
    have ld40 : I.ldA 6 h40 (.ptr h.next 0) = some (.agg cs) := l40.ldA 1 rfl hs.2.symm
    obtain ⟨h42, h46, h47, e42, e46, e47, l47, sc47⟩ := evalD l40 sc40 (r.mono l40.ex.ext _)
    obtain ⟨pT, mT, h53, e53, sc53, l53, hmT⟩ := new10 l47
    have ld50 : I.ldA 6 h47 (.ptr h.next 0) = some (.agg cs) := l47.ldA 2 rfl hs.2.symm
    have ld54 : I.ldA 6 h53 (.ptr h.next 0) = some (.agg cs) := l53.ldA 2 rfl hs.2.symm
    have cv47 : cvS h47 (.slice h26.next 0 31 1) = some (sv (v)) := by
      have hc : Cs h47 h26.next true false (bcells (v)) := l47.cs (h26.next, bcells (v)) (List.mem_cons_of_mem _ (List.mem_cons_self ..))
      have := cvS_of (es := 1) hc
      rw [hvl] at this; exact this
    have cv53 : cvS h53 (.slice h26.next 0 31 1) = some (sv (v)) := by
      have hc : Cs h53 h26.next true false (bcells (v)) := l53.cs (h26.next, bcells (v)) (List.mem_cons_of_mem _ (List.mem_cons_self ..))
      have := cvS_of (es := 1) hc
      rw [hvl] at this; exact this
    obtain ⟨c', h61, e13, y61, r61⟩ := placed13 nm (v) m x cs h53 (r.mono l53.ex.ext _) l53.gd hx
    have x61 := y61.ex l53.gd
    obtain ⟨h65, h69, h70, e65, e69, e70, l70, sc70⟩ := evalD (l53.go x61) (sc53.keep x61) r61
    have hpe := put_eval (nm := nm) hvn m x
    rw [← hpe] at e65 e70 l70
    have ld75 := l70.ldA 1 rfl (n := 2) rfl
    have ld76 := l70.ldA 0 rfl (n := 2) rfl
    refine ⟨h70, c3 step2 rfl rfl g ?_ (by simp)⟩
    have hl := hloop (.ok (.bool true) h70) (by simp) (e3_1 (by
      have dg1 : ∀ d : Int × Int, (dg d)[1]? = some (.int .i64 d.2) := fun _ => rfl
      have h31 : ¬ (31 : Int) < 31 := by omega
      simp only [t3_1, W, decide_eq_true_eq, Bool.not_eq_true', decide_eq_false_iff_not, Bool.false_eq_true, Bool.not_true, Bool.not_false, decide_true, decide_false, not_true_eq_false, not_false_eq_true, and_true, true_and, and_false, false_and, ne_eq, Nat.zero_add, Nat.add_zero, cond_true, cond_false, ↓reduceIte, reduceCtorEq, Nat.reduceAdd, Int.reduceEq, Int.reduceNe, Int.reduceLT, Int.reduceLE, Int.reduceAdd, Int.reduceSub, Int.reduceMul, Int.reduceNeg, Nat.reduceMul, List.getElem?_cons_zero, List.getElem?_cons_succ, h31, ld40, e42, ans, e46, e47, e53, ld50, ld54, cv47, cv53, e13, e65, e69, e70, ld75, ld76, dg_eql, call9, List.getElem?_cons_zero, List.getElem?_cons_succ, decide_true, cond_true]) (by simp))
    simp only [t3_0, IV.cells, e2, W, decide_eq_true_eq, Bool.not_eq_true', decide_eq_false_iff_not, Bool.false_eq_true, Bool.not_true, Bool.not_false, decide_true, decide_false, not_true_eq_false, not_false_eq_true, and_true, true_and, and_false, false_and, ne_eq, Nat.zero_add, Nat.add_zero, cond_true, cond_false, ↓reduceIte, reduceCtorEq, Nat.reduceAdd, Int.reduceEq, Int.reduceNe, Int.reduceLT, Int.reduceLE, Int.reduceAdd, Int.reduceSub, Int.reduceMul, Int.reduceNeg, Nat.reduceMul, List.getElem?_cons_zero, List.getElem?_cons_succ, hk0, hk1, ld2, e8, e10, e11, emk]
    exact hl

end Go.Proofs.YtblgpcijbdbeiaaDoor

namespace Go.Proofs.YtblgpcijbdbeiaaDoor
open Go I
set_option maxRecDepth 100000
set_option linter.unusedVariables false
set_option linter.unusedSimpArgs false

/-! ### plain lists -/
def inB (n : Int) : Prop := -2147483647 ≤ n ∧ n ≤ 2147483647
instance (n : Int) : Decidable (inB n) := inferInstanceAs (Decidable (_ ∧ _))
/-- what is found last -/
def lastM (q : Sc) (x : Bs) : Option Int := getM q.reverse x
theorem getM_cons (p : Bs × Int) (s : Sc) (x : Bs) : getM (p :: s) x = if p.1 = x then some p.2 else getM s x := by
  unfold getM
  rw [List.find?_cons]
  by_cases h : p.1 = x
  · subst h; simp
  · have : (p.1 == x) = false := by simpa using h
    simp [this, h]
theorem getM_app (s : Sc) (p : Bs × Int) (x : Bs) : getM (s ++ [p]) x = match getM s x with | some v => some v | none => if p.1 = x then some p.2 else none := by
  induction s with
  | nil => simp only [List.nil_append, getM_cons]; rfl
  | cons a s ih =>
    rw [List.cons_append, getM_cons, getM_cons, ih]
    by_cases h : a.1 = x <;> simp [h]
theorem lastM_app (q : Sc) (p : Bs × Int) (x : Bs) : lastM (q ++ [p]) x = if p.1 = x then some p.2 else lastM q x := by
  unfold lastM
  rw [List.reverse_append]
  simp only [List.reverse_cons, List.reverse_nil, List.nil_append, List.singleton_append, getM_cons]
/-- a name's first entry is written -/
def modM (s : Sc) (nm : Bs) (n : Int) : Sc := s.modify (s.findIdx fun p => p.1 == nm) fun _ => (nm, n)
theorem modM_get (nm : Bs) (n : Int) (x : Bs) : ∀ (s : Sc), getM s nm ≠ none → getM (modM s nm n) x = if nm = x then some n else getM s x
  | [], h => absurd rfl h
  | p :: s, h => by
    unfold modM
    rw [List.findIdx_cons]
    by_cases hp : p.1 = nm
    · have : (p.1 == nm) = true := by simpa using hp
      simp only [this, cond_true, List.modify_zero_cons, getM_cons]
      subst hp
      by_cases hx : p.1 = x <;> simp [hx]
    · have : (p.1 == nm) = false := by simpa using hp
      simp only [this, cond_false, List.modify_succ_cons, getM_cons]
      rw [getM_cons, if_neg hp] at h
      have ih := modM_get nm n x s h
      unfold modM at ih
      rw [ih]
      by_cases hx : p.1 = x
      · have : nm ≠ x := fun e => hp (hx.trans e.symm)
        simp [hx, this]
      · simp [hx]
theorem modM_mem (nm : Bs) (n : Int) (s : Sc) : ∀ y ∈ modM s nm n, y ∈ s ∨ y = (nm, n) := by
  intro y hy
  unfold modM at hy
  generalize s.findIdx (fun p => p.1 == nm) = i at hy
  obtain ⟨k, hk⟩ := List.mem_iff_getElem?.1 hy
  rw [List.getElem?_modify] at hk
  cases hs : s[k]? with
  | none => rw [hs] at hk; cases hk
  | some z =>
    rw [hs] at hk
    simp only [Option.map_eq_map, Option.map_some, Option.some.injEq] at hk
    split at hk
    · exact .inr hk.symm
    · exact .inl (hk ▸ List.mem_of_getElem? hs)
theorem EsR_mod {nm : Bs} {n : Int} : ∀ {es : List (IV × IV × Nat)} {s : Sc} (i : Nat), EsR es s → EsR (es.modify i fun e => (sv nm, .int .i64 n, e.2.2)) (s.modify i fun _ => (nm, n))
  | [], s, i, h => by simp only [EsR] at h; subst h; cases i <;> simp [EsR]
  | (k, v, st) :: es, s, i, h => by
    obtain ⟨p, q, rfl, rfl, rfl, h4⟩ := h
    cases i with
    | zero => simp only [List.modify_zero_cons]; exact ⟨(nm, n), q, rfl, rfl, rfl, h4⟩
    | succ i => simp only [List.modify_succ_cons]; exact ⟨p, _, rfl, rfl, rfl, EsR_mod i h4⟩
theorem EsR_app {nm : Bs} {n : Int} {c : Nat} : ∀ {es : List (IV × IV × Nat)} {s : Sc}, EsR es s → EsR (es ++ [(sv nm, .int .i64 n, c)]) (s ++ [(nm, n)])
  | [], s, h => by simp only [EsR] at h; subst h; exact ⟨(nm, n), [], rfl, rfl, rfl, rfl⟩
  | (k, v, st) :: es, s, h => by
    obtain ⟨p, q, rfl, rfl, rfl, h4⟩ := h
    exact ⟨p, q ++ [(nm, n)], rfl, rfl, rfl, EsR_app h4⟩

/-! ### Set -/
theorem ScM.pm {h : H} {p m : Nat} {s : Sc} (c : ScM h p m s) {b : Nat} {fz rw : Bool} {cs : List IV} (hb : Cs h b rw fz cs) : b ≠ m := by
  rintro rfl
  obtain ⟨_, ⟨es, clock, h2, _⟩, _⟩ := c
  obtain ⟨t, q, _⟩ := hb
  rw [q] at h2; cases h2
/-- Set, in memory: what else lies there stays -/
theorem setG {h₀ h : H} {L : List (Nat × List IV)} (l : Lv h₀ h L) {p m : Nat} {s : Sc} (sc : ScM h p m s) (nm : Bs) (n : Int) (hm : h₀.next ≤ m) :
    ∃ h' s', CL tab2 11 [.ptr p 0, sv nm, .int .i64 n] h = .ok (.int .i64 (if inB n then 0 else 1)) h' ∧ ScM h' p m s' ∧ Lv h₀ h' L ∧ Ext h h' ∧ (∀ p' m' t, m' ≠ m → ScM h p' m' t → ScM h' p' m' t) ∧
      (∀ x, getM s' x = if inB n ∧ nm = x then some n else getM s x) := by
  have e20 := given20 sc.r l.gd
  have e21 := may21 n l.gd
  have g := l.gd
  by_cases hb : inB n
  · have sc0 := sc
    obtain ⟨h1, ⟨es, clock, h2, h3⟩, h4⟩ := sc
    have hfi := findI_get nm 0 h3
    have key : ∀ (es' : List (IV × IV × Nat)) (c' : Nat) (s' : Sc), mupK true h (.map m) (sv nm) (.int .i64 n) = some (h.put m (.map es' c')) → EsR es' s' → (∀ y ∈ s', y ∈ s ∨ y = (nm, n)) → (∀ x, getM s' x = if nm = x then some n else getM s x) →
        ∃ h' s', CL tab2 11 [.ptr p 0, sv nm, .int .i64 n] h = .ok (.int .i64 (if inB n then 0 else 1)) h' ∧ ScM h' p m s' ∧ Lv h₀ h' L ∧ Ext h h' ∧ (∀ p' m' t, m' ≠ m → ScM h p' m' t → ScM h' p' m' t) ∧
          (∀ x, getM s' x = if inB n ∧ nm = x then some n else getM s x) := by
      intro es' c' s' hmu hes hmem hget
      refine ⟨h.put m (.map es' c'), s', c11 step2 rfl rfl g ?_ (by simp), ⟨h1.of_put (sc0.pm h1), ⟨_, _, by rw [H.get_put, if_pos rfl], hes⟩, fun x hx => ?_⟩, l.putMap h2 hm, (Step.put h2 (fun fz size cs hh => by cases hh) g.wf).2, ?_, fun x => by rw [hget]; simp [hb]⟩
      · have hb' : -2147483647 ≤ n ∧ n ≤ 2147483647 := hb
        simp only [t11_0, W, decide_eq_true_eq, Bool.not_eq_true', decide_eq_false_iff_not, Bool.false_eq_true, Bool.not_true, Bool.not_false, decide_true, decide_false, not_true_eq_false, not_false_eq_true, and_true, true_and, and_false, false_and, ne_eq, Nat.zero_add, Nat.add_zero, cond_true, cond_false, ↓reduceIte, reduceCtorEq, Nat.reduceAdd, Int.reduceEq, Int.reduceNe, Int.reduceLT, Int.reduceLE, Int.reduceAdd, Int.reduceSub, Int.reduceMul, Int.reduceNeg, Nat.reduceMul, List.getElem?_cons_zero, List.getElem?_cons_succ, e20, e21, hb', and_self, h1.ld0, hmu, hb, if_true]
      · rcases hmem x hx with hx | rfl
        · exact h4 x hx
        · exact hb
      · rintro p' m' t hne ⟨c1, ⟨es2, k2, c2, c3⟩, c4⟩
        exact ⟨c1.of_put (sc0.pm c1), ⟨es2, k2, by rw [H.get_put, if_neg hne]; exact c2, c3⟩, c4⟩
    have hk : keyK true (sv nm) = true := rfl
    cases hgm : getM s nm with
    | none =>
      rw [hgm] at hfi
      refine key (es ++ [(sv nm, .int .i64 n, clock)]) (clock + 1) (s ++ [(nm, n)]) (by simp only [mupK, hk, cond_true, h2, hfi]) (EsR_app h3) (fun y hy => ?_) (fun x => ?_)
      · rcases List.mem_append.1 hy with hy | hy
        · exact .inl hy
        · exact .inr (List.mem_singleton.1 hy)
      · rw [getM_app]
        by_cases hx : nm = x
        · subst hx; rw [hgm]
        · simp only [hx, if_false]; cases getM s x <;> rfl
    | some v =>
      rw [hgm] at hfi
      simp only [Nat.zero_add] at hfi
      refine key (es.modify (s.findIdx fun p => p.1 == nm) fun e => (sv nm, .int .i64 n, e.2.2)) clock (modM s nm n) (by simp only [mupK, hk, cond_true, h2, hfi]) (EsR_mod _ h3) (modM_mem nm n s) (fun x => modM_get nm n x s (by rw [hgm]; simp))
  · refine ⟨h, s, c11 step2 rfl rfl g ?_ (by simp), sc, l, .refl h, fun _ _ _ _ c => c, fun x => by simp [hb]⟩
    have hb' : ¬ (-2147483647 ≤ n ∧ n ≤ 2147483647) := hb
    simp only [t11_0, W, decide_eq_true_eq, Bool.not_eq_true', decide_eq_false_iff_not, Bool.false_eq_true, Bool.not_true, Bool.not_false, decide_true, decide_false, not_true_eq_false, not_false_eq_true, and_true, true_and, and_false, false_and, ne_eq, Nat.zero_add, Nat.add_zero, cond_true, cond_false, ↓reduceIte, reduceCtorEq, Nat.reduceAdd, Int.reduceEq, Int.reduceNe, Int.reduceLT, Int.reduceLE, Int.reduceAdd, Int.reduceSub, Int.reduceMul, Int.reduceNeg, Nat.reduceMul, List.getElem?_cons_zero, List.getElem?_cons_succ, e20, e21, hb', hb, if_false]

/-! ### Get -/
def gotI : Option Int → IV
  | some n => .tup [.int .i64 n, .bool true]
  | none => .tup [.int .i64 0, .bool false]
theorem get18 {h : H} (g : Gd h) {p m : Nat} {s : Sc} (sc : ScM h p m s) (nm : Bs) : CL tab2 18 [.ptr p 0, sv nm] h = .ok (gotI (getM s nm)) h := by
  have e20 := given20 sc.r g
  obtain ⟨h1, ⟨es, clock, h2, h3⟩, h4⟩ := sc
  have e := look_get h2 h3 nm
  refine c18 step2 rfl rfl g ?_ (by simp)
  simp only [t18_0, W, decide_eq_true_eq, Bool.not_eq_true', decide_eq_false_iff_not, Bool.false_eq_true, Bool.not_true, Bool.not_false, decide_true, decide_false, not_true_eq_false, not_false_eq_true, and_true, true_and, and_false, false_and, ne_eq, Nat.zero_add, Nat.add_zero, cond_true, cond_false, ↓reduceIte, reduceCtorEq, Nat.reduceAdd, Int.reduceEq, Int.reduceNe, Int.reduceLT, Int.reduceLE, Int.reduceAdd, Int.reduceSub, Int.reduceMul, Int.reduceNeg, Nat.reduceMul, List.getElem?_cons_zero, List.getElem?_cons_succ, e20, h1.ld0, List.getElem?_cons_zero, e]
  cases getM s nm <;> simp only [W, decide_eq_true_eq, Bool.not_eq_true', decide_eq_false_iff_not, Bool.false_eq_true, Bool.not_true, Bool.not_false, decide_true, decide_false, not_true_eq_false, not_false_eq_true, and_true, true_and, and_false, false_and, ne_eq, Nat.zero_add, Nat.add_zero, cond_true, cond_false, ↓reduceIte, reduceCtorEq, Nat.reduceAdd, Int.reduceEq, Int.reduceNe, Int.reduceLT, Int.reduceLE, Int.reduceAdd, Int.reduceSub, Int.reduceMul, Int.reduceNeg, Nat.reduceMul, List.getElem?_cons_zero, List.getElem?_cons_succ, gotI, List.getElem?_cons_zero, List.getElem?_cons_succ]

/-! ### Within -/
theorem within16 {h₀ h : H} {L : List (Nat × List IV)} (l : Lv h₀ h L) {p m : Nat} {s : Sc} (sc : ScM h p m s) :
    ∃ p' m' h', CL tab2 16 [.ptr p 0] h = .ok (.ptr p' 0) h' ∧ ScM h' p' m' s ∧ Lv h₀ h' L ∧ Ex h h' ∧ h.next ≤ m' := by
  have g := l.gd
  have e20 := given20 sc.r g
  have sc0 := sc
  obtain ⟨h1, ⟨es, clock, h2, h3⟩, h4⟩ := sc
  have x1 := Ex.push g (.map es clock)
  have e30 : CL tab2 30 [.iface 57 (.map m)] h = .ok (.iface 57 (.map h.next)) (h.push (.map es clock)) := call_tab (T := tab2) (g := cloneI) rfl (by simp only [cloneI, h2]) (by simp)
  have e24 : CL tab2 24 [.map m] h = .ok (.map h.next) (h.push (.map es clock)) := by
    refine c24 step2 rfl rfl g ?_ (by simp)
    have ha : assertI 57 false (some .nilMap) (.iface 57 (.map h.next)) = some (.map h.next) := rfl
    simp only [t24_0, W, decide_eq_true_eq, Bool.not_eq_true', decide_eq_false_iff_not, Bool.false_eq_true, Bool.not_true, Bool.not_false, decide_true, decide_false, not_true_eq_false, not_false_eq_true, and_true, true_and, and_false, false_and, ne_eq, Nat.zero_add, Nat.add_zero, cond_true, cond_false, ↓reduceIte, reduceCtorEq, Nat.reduceAdd, Int.reduceEq, Int.reduceNe, Int.reduceLT, Int.reduceLE, Int.reduceAdd, Int.reduceSub, Int.reduceMul, Int.reduceNeg, Nat.reduceMul, List.getElem?_cons_zero, List.getElem?_cons_succ, e30, ha]
  obtain ⟨h', e, x2, c⟩ := newI_ex x1.gd (cs := [.map h.next]) rfl
  refine ⟨(h.push (.map es clock)).next, h.next, h', c16 step2 rfl rfl g ?_ (by simp), ⟨c, ⟨es, clock, x2.kp _ _ (by rw [H.get_push, if_pos rfl]) rfl, h3⟩, h4⟩, l.go (x1.trans x2), x1.trans x2, Nat.le_refl _⟩
  have hb : bldK [.nilMap] [(0, 1)] [(0, IV.map h.next)] = some (.agg [.map h.next]) := rfl
  simp only [t16_0, W, decide_eq_true_eq, Bool.not_eq_true', decide_eq_false_iff_not, Bool.false_eq_true, Bool.not_true, Bool.not_false, decide_true, decide_false, not_true_eq_false, not_false_eq_true, and_true, true_and, and_false, false_and, ne_eq, Nat.zero_add, Nat.add_zero, cond_true, cond_false, ↓reduceIte, reduceCtorEq, Nat.reduceAdd, Int.reduceEq, Int.reduceNe, Int.reduceLT, Int.reduceLE, Int.reduceAdd, Int.reduceSub, Int.reduceMul, Int.reduceNeg, Nat.reduceMul, List.getElem?_cons_zero, List.getElem?_cons_succ, e20, h1.ld0, List.getElem?_cons_zero, e24, hb, IV.cells, e]

end Go.Proofs.YtblgpcijbdbeiaaDoor

namespace Go.Proofs.YtblgpcijbdbeiaaDoor
open Go I
set_option maxRecDepth 100000
set_option linter.unusedVariables false
set_option linter.unusedSimpArgs false

theorem Cs.source {h : H} {b off n es : Nat} {rw fz : Bool} {cs : List IV} (c : Cs h b rw fz cs) (hle : off + n * es ≤ cs.length) (hn : n ≠ 0) : sourceI h es (.slice b off n es) = some ((cs.drop off).take (n * es), n) := by
  obtain ⟨t, h1, h2⟩ := c
  simp only [sourceI, if_neg hn, h1]
  rw [if_pos ⟨trivial, hle⟩, getList_of h2 _ _ hle]
theorem Cs.source1 {h : H} {b es : Nat} {rw fz : Bool} {cs : List IV} (c : Cs h b rw fz cs) (hl : cs.length = es) : sourceI h es (.slice b 0 1 es) = some (cs, 1) := by
  have := Cs.source (off := 0) (n := 1) (es := es) c (by omega) (by omega)
  rw [List.drop_zero, Nat.one_mul, ← hl, List.take_length] at this
  rw [← hl]; exact this
/-- an append: what else lies there is exactly as it was -/
theorem Ey.app2 {h₀ h : H} (x : Ey h₀ h) {es bytes : Nat} {cs new : List IV} {s y : IV} {n : Nat} (gl : GLo h₀ h es cs s) (hs : sourceI h es y = some (new, n)) (hl : new.length = n * es) (hsc : allScalar new = true) (hn : n ≠ 0)
    (hroom : (2 * (cs.length + n) + 2000) * bytes ≤ 2 ^ 46) (hes : es ≠ 0) : ∃ s' h', appK es bytes h s y = some (s', h') ∧ Ey h₀ h' ∧ GLo h h' es (cs ++ new) s' ∧ Ext h h' ∧ (∀ k, k < h.next → (∀ o n e, s ≠ .slice k o n e) → h'.get k = h.get k) := by
  have g := x.gd
  rcases gl with ⟨rfl, rfl⟩ | ⟨b, k, rfl, ⟨t, h1, h2⟩, h3, h4⟩
  · have y1 := (Ey.refl g).push (.cells (!h.pol) h.pol new.length (setList .leaf 0 new))
    refine ⟨_, _, ?_, x.trans y1, .inr ⟨h.next, n, rfl, ?_, by simpa using hl.symm, Nat.le_refl _⟩, y1.ext g, fun k hk _ => y1.low k hk⟩
    · simp only [appK, hs, hsc, Bool.true_eq_false, if_false, if_neg hn]
      rw [if_pos (by simpa using hroom)]
    · rw [g.pol]; simpa using Cs.push (h := h) (rw := false) (fz := true) new
  · have hk : k ≤ cs.length := by
      rw [← h3]; exact Nat.le_mul_of_pos_right _ (Nat.pos_of_ne_zero hes)
    have hroom' : (2 * (k + n) + 2000) * bytes ≤ 2 ^ 46 := Nat.le_trans (Nat.mul_le_mul_right _ (by omega)) hroom
    have x1 := x.put (o := .cells false false cs.length t) h4 h1 (fun fz size cs' hc => by injection hc with _ _ q3 q4; exact ⟨false, by rw [q3, q4]⟩)
    have st := (Step.put (o := .cells false false cs.length t) h1 (fun fz size cs' hc => by injection hc with _ _ q3 q4; exact ⟨false, by rw [q3, q4]⟩) g.wf).2
    have y1 := (Ey.refl x1.gd).push (.cells false true ((k + n) * es) (setList t (k * es) new))
    refine ⟨_, _, ?_, x1.trans y1, .inr ⟨h.next, k + n, rfl, ⟨setList t (k * es) new, ?_, fun i hi => ?_⟩, by rw [Nat.add_mul, h3, List.length_append, hl], Nat.le_refl _⟩, st.trans (y1.ext x1.gd), fun j hj hne => ?_⟩
    · simp only [appK, hs, hsc, Bool.true_eq_false, if_false, if_neg hn, ne_eq, not_true_eq_false, h1]
      rw [if_pos ⟨trivial, h3, hroom'⟩]
    · rw [H.get_push, if_pos (show h.next = (h.put b (.cells false false cs.length t)).next from rfl), List.length_append, hl, Nat.add_mul, h3]
    · rw [List.length_append] at hi
      rw [get_setList, h3]
      by_cases hc : cs.length ≤ i ∧ i < cs.length + new.length
      · rw [if_pos hc, List.getElem?_append_right hc.1]
      · rw [if_neg hc, List.getElem?_append_left (by omega)]; exact h2 i (by omega)
    · have hne' : j ≠ b := by rintro rfl; exact hne _ _ _ rfl
      rw [y1.low j (by exact hj), H.get_put, if_neg hne']
/-- a copy of a list, which grows -/
theorem copyL {α : Type} {h : H} (g : Gd h) {es bytes : Nat} {R : α → List IV → Prop} (hR : ∀ x c, R x c → allScalar c = true) {l : List α} {v : IV} (r : LR h es R l v) (hroom : (2 * l.length + 2000) * bytes ≤ 2 ^ 46) (hes : es ≠ 0) :
    ∃ s h' cells, appK es bytes h .nilSlice v = some (s, h') ∧ Ey h h' ∧ GLo h h' es cells s ∧ Ch R es l cells := by
  obtain ⟨new, h1, h2, h3⟩ := r.source
  cases l with
  | nil =>
    have : new = [] := List.eq_nil_of_length_eq_zero (by simpa using h3)
    subst this
    exact ⟨.nilSlice, h, [], by simp only [appK, h1, allScalar, Bool.true_eq_false, if_false, List.length_nil, if_true], .refl g, .inl ⟨rfl, rfl⟩, rfl⟩
  | cons a l =>
    obtain ⟨s, h', e, x, gl, _⟩ := (Ey.refl g).app2 (bytes := bytes) (.inl ⟨rfl, rfl⟩) h1 h3 (h2.scalar hR) (by simp) (by simpa using hroom) hes
    exact ⟨s, h', new, e, x, by simpa using gl, h2⟩

/-! ### the document's scopes -/
def Rs (x : Bs) (c : List IV) : Prop := c = [sv x]
def Rn (n : Int) (c : List IV) : Prop := c = [.int .i64 n]
theorem Rs_sc (x : Bs) (c : List IV) (h : Rs x c) : allScalar c = true := by rw [h]; rfl
theorem Rn_sc (x : Int) (c : List IV) (h : Rn x c) : allScalar c = true := by rw [h]; rfl
structure SR (h : H) (q : Sc) (N V : IV) : Prop where
  ns : LR h 1 Rs (q.map (·.1)) N
  vs : LR h 1 Rn (q.map (·.2)) V
theorem SR.ext {h h' : H} {q : Sc} {N V : IV} (r : SR h q N V) (x : Ext h h') : SR h' q N V := ⟨r.ns.mono x fun _ _ h => h, r.vs.mono x fun _ _ h => h⟩
theorem SR.sc {h : H} {q : Sc} {N V : IV} (r : SR h q N V) : allScalar [N, V] = true := by simp [allScalar, r.ns.scalar, r.vs.scalar]
theorem SR.nil (h : H) : SR h [] .nilSlice .nilSlice := ⟨.inl ⟨rfl, .inl rfl⟩, .inl ⟨rfl, .inl rfl⟩⟩
theorem pl2 (a b c d : IV) : placeL [a, b] 0 (IV.agg [c, d]).cells = [c, d] := rfl

theorem ref17 {h : H} (g : Gd h) {q : Sc} {N V : IV} (r : SR h q N V) (hq : q.length ≤ 2 ^ 30) (nm : Bs) (n : Int) :
    ∃ h' N' V', CL tab2 17 [.agg [N, V], sv nm, .int .i64 n] h = .ok (.tup [.agg [N', V'], .int .i64 (if inB n then 0 else 1)]) h' ∧ Ey h h' ∧ SR h' (if inB n then q ++ [(nm, n)] else q) N' V' := by
  obtain ⟨h2, e2, x2, c2, y2⟩ := (Ey.refl g).newI r.sc
  obtain ⟨h4, e4, x4, c4, y4⟩ := x2.newI (cs := [.nilSlice, .nilSlice]) rfl
  have hlt2 := c2.lt x2.gd.wf
  have c2' : Cs h4 h.next true false [N, V] := Cs_same c2 (y4.low _ hlt2)
  have hn2 : h.next ≤ h2.next := x2.next
  by_cases hb : inB n
  · have hb1 : ¬ 2147483647 < n := by unfold inB at hb; omega
    have hb2 : ¬ n < -2147483647 := by unfold inB at hb; omega
    have r4 := r.ext (x4.ext g)
    obtain ⟨sN, h17, cN, e16, x17, g17, k17⟩ := copyL (bytes := 16) x4.gd Rs_sc r4.ns (by simp only [List.length_map]; omega) (by omega)
    obtain ⟨sV, h21, cV, e20, x21, g21, k21⟩ := copyL (bytes := 8) x17.gd Rn_sc (r4.vs.mono (x17.ext x4.gd) fun _ _ h => h) (by simp only [List.length_map]; omega) (by omega)
    have hlN := k17.len
    have hlV := k21.len
    simp only [List.length_map, Nat.mul_one] at hlN hlV
    -- the name
    have el := bslK_all (w := false) (es := 1) (z := [.str ⟨0, 0⟩]) (vs := [sv nm]) rfl (by intro w hw; rcases List.mem_singleton.1 hw with rfl; rfl) rfl h21
    have hg21 := x21.gd
    generalize hg23 : h21.push (.cells (!(h21.pol && !false)) (h21.pol && !false) (cellsOf [sv nm]).length (setList .leaf 0 (cellsOf [sv nm]))) = h23 at el
    have y23 : Ey h21 h23 := hg23 ▸ (Ey.refl hg21).push _
    have c23 : Cs h23 h21.next false true [sv nm] := by
      rw [← hg23, hg21.pol]; exact Cs.push [sv nm]
    have x1723 : Ey h17 h23 := x21.trans y23
    have gl23 : GLo h4 h23 1 cN sN := g17.ey x17.gd.wf x1723
    obtain ⟨sN', h25, e24, x25, g25, t25, o25⟩ := (x17.trans x1723).app2 (bytes := 16) gl23 (Cs.source1 c23 rfl) rfl rfl (by omega) (by omega) (by omega)
    -- the number
    have el2 := bslK_all (w := true) (es := 1) (z := [.int .i64 0]) (vs := [.int .i64 n]) rfl (by intro w hw; rcases List.mem_singleton.1 hw with rfl; rfl) rfl h25
    generalize hg27 : h25.push (.cells (!(h25.pol && !true)) (h25.pol && !true) (cellsOf [IV.int .i64 n]).length (setList .leaf 0 (cellsOf [IV.int .i64 n]))) = h27 at el2
    have y27 : Ey h25 h27 := hg27 ▸ (Ey.refl x25.gd).push _
    have c27 : Cs h27 h25.next true false [.int .i64 n] := by
      rw [← hg27, Bool.not_true, Bool.and_false, Bool.not_false]; exact Cs.push [IV.int .i64 n]
    have gV25 : GLo h4 h27 1 cV sV := by
      rcases g21 with q1 | ⟨b, k, q1, q2, q3, q4⟩
      · exact .inl q1
      · have hb21 := q2.lt x21.gd.wf
        have hb23 : b < h23.next := Nat.lt_of_lt_of_le hb21 y23.next
        have q5 : Cs h23 b false true cV := Cs_same q2 (y23.low b hb21)
        have q6 : h25.get b = h23.get b := o25 b hb23 fun o n e he => by
          rcases g17 with ⟨_, p1⟩ | ⟨b', k', p1, p2, _⟩
          · rw [p1] at he; cases he
          · rw [p1] at he; injection he with he; subst he
            have := p2.lt x17.gd.wf
            omega
        have q7 : Cs h25 b false true cV := Cs_same q5 q6
        exact .inr ⟨b, k, q1, Cs_same q7 (y27.low b (q7.lt x25.gd.wf)), q3, Nat.le_trans x17.next q4⟩
    obtain ⟨sV', h29, e28, x29, g29, t29, o29⟩ := (x25.trans y27).app2 (bytes := 8) gV25 (Cs.source1 c27 rfl) rfl rfl (by omega) (by omega) (by omega)
    have hN : LR h29 1 Rs ((q ++ [(nm, n)]).map (·.1)) sN' := by
      have gl : GL h25 1 (cN ++ [sv nm]) sN' := by
        rcases g25 with q1 | ⟨b, k, q1, q2, q3, _⟩
        · exact .inl q1
        · exact .inr ⟨b, k, q1, q2, q3⟩
      have := gl.LR (by omega) (k17.snoc (x := nm) (c := [sv nm]) rfl rfl)
      rw [List.map_append]
      exact this.mono ((y27.ext x25.gd).trans t29) fun _ _ h => h
    have hV : LR h29 1 Rn ((q ++ [(nm, n)]).map (·.2)) sV' := by
      have gl : GL h29 1 (cV ++ [.int .i64 n]) sV' := by
        rcases g29 with q1 | ⟨b, k, q1, q2, q3, _⟩
        · exact .inl q1
        · exact .inr ⟨b, k, q1, q2, q3⟩
      have := gl.LR (by omega) (k21.snoc (x := n) (c := [.int .i64 n]) rfl rfl)
      rw [List.map_append]
      exact this
    have c4' : Cs h29 h2.next true false [.nilSlice, .nilSlice] := Cs_same c4 (x29.low _ (c4.lt x4.gd.wf))
    have hsr : SR h29 (q ++ [(nm, n)]) sN' sV' := ⟨hN, hV⟩
    obtain ⟨h31, e31, x31, c31, o31, n31⟩ := (x4.trans x29).stp (n := 2) (off := 0) (v := .agg [sN', sV']) hn2 c4' rfl hsr.sc (by show 0 + 2 ≤ 2; omega)
    rw [pl2] at c31
    have x31b : Ext h29 h31 := by
      obtain ⟨t, q1, q2⟩ := c4'
      refine ⟨by rw [x31.gd.pol, x29.gd.pol], by omega, fun b fz size cs hb => ⟨fz, ?_⟩⟩
      have : b ≠ h2.next := by rintro rfl; rw [q1] at hb; cases hb
      rw [o31 b this]; exact hb
    refine ⟨h31, sN', sV', c17 step2 rfl rfl g ?_ (by simp), x31, by rw [if_pos hb]; exact hsr.ext x31b⟩
    have l14 : I.ld0 h4 (.ptr h.next 0) = some N := c2'.ld0 0
    have l19 : I.ld0 h17 (.ptr h.next 1) = some V := (Cs_same c2' (x17.low _ (c2'.lt x4.gd.wf))).ld0 1
    have l32 := c31.ldAll (n := 2) rfl
    have el' : bslK false 1 [.str ⟨0, 0⟩] 1 [(0, sv nm)] h21 = some (.slice h21.next 0 1 1, h23) := el
    have el2' : bslK true 1 [.int .i64 0] 1 [(0, .int .i64 n)] h25 = some (.slice h25.next 0 1 1, h27) := el2
    have hb30 : bldK [.nilSlice, .nilSlice] [(0, 1), (1, 1)] [(0, sN'), (1, sV')] = some (.agg [sN', sV']) := by
      have a1 : sN'.cells = [sN'] := cells_scalar hN.scalar
      have a2 : sV'.cells = [sV'] := cells_scalar hV.scalar
      simp [bldK, fillI, a1, a2, placeL]
    simp only [t17_0, IV.cells, e2, e4, W, decide_eq_true_eq, Bool.not_eq_true', decide_eq_false_iff_not, Bool.false_eq_true, Bool.not_true, Bool.not_false, decide_true, decide_false, not_true_eq_false, not_false_eq_true, and_true, true_and, and_false, false_and, ne_eq, Nat.zero_add, Nat.add_zero, cond_true, cond_false, ↓reduceIte, reduceCtorEq, Nat.reduceAdd, Int.reduceEq, Int.reduceNe, Int.reduceLT, Int.reduceLE, Int.reduceAdd, Int.reduceSub, Int.reduceMul, Int.reduceNeg, Nat.reduceMul, List.getElem?_cons_zero, List.getElem?_cons_succ, hb1, hb2, hb, if_true, Nat.add_zero, l14, e16, l19, e20, el', e24, el2', e28, hb30, e31, l32]
  · have l11 := c2'.ldAll (n := 2) rfl
    obtain ⟨h12, e12, x12, c12, o12, n12⟩ := x4.stp (n := 2) (off := 0) (v := .agg [N, V]) hn2 c4 rfl r.sc (by show 0 + 2 ≤ 2; omega)
    rw [pl2] at c12
    have l13 := c12.ldAll (n := 2) rfl
    refine ⟨h12, N, V, c17 step2 rfl rfl g ?_ (by simp), x12, by rw [if_neg hb]; exact r.ext (x12.ext g)⟩
    by_cases h1 : 2147483647 < n
    · simp only [t17_0, IV.cells, e2, e4, W, decide_eq_true_eq, Bool.not_eq_true', decide_eq_false_iff_not, Bool.false_eq_true, Bool.not_true, Bool.not_false, decide_true, decide_false, not_true_eq_false, not_false_eq_true, and_true, true_and, and_false, false_and, ne_eq, Nat.zero_add, Nat.add_zero, cond_true, cond_false, ↓reduceIte, reduceCtorEq, Nat.reduceAdd, Int.reduceEq, Int.reduceNe, Int.reduceLT, Int.reduceLE, Int.reduceAdd, Int.reduceSub, Int.reduceMul, Int.reduceNeg, Nat.reduceMul, List.getElem?_cons_zero, List.getElem?_cons_succ, h1, hb, if_false, l11, e12, l13]
    · have h2' : n < -2147483647 := by unfold inB at hb; omega
      simp only [t17_0, IV.cells, e2, e4, W, decide_eq_true_eq, Bool.not_eq_true', decide_eq_false_iff_not, Bool.false_eq_true, Bool.not_true, Bool.not_false, decide_true, decide_false, not_true_eq_false, not_false_eq_true, and_true, true_and, and_false, false_and, ne_eq, Nat.zero_add, Nat.add_zero, cond_true, cond_false, ↓reduceIte, reduceCtorEq, Nat.reduceAdd, Int.reduceEq, Int.reduceNe, Int.reduceLT, Int.reduceLE, Int.reduceAdd, Int.reduceSub, Int.reduceMul, Int.reduceNeg, Nat.reduceMul, List.getElem?_cons_zero, List.getElem?_cons_succ, h1, h2', hb, if_false, l11, e12, l13]

/-! ### the document's Get -/
theorem ld_at {α : Type} {h : H} {R : α → List IV → Prop} {l : List α} {v : IV} (r : LR h 1 R l v) {i : Nat} {x : α} (hx : l[i]? = some x) : ∃ p, ixS 1 v (.int .i64 (i : Nat)) = some p ∧ ∃ c, R x [c] ∧ I.ld0 h p = some c := by
  obtain ⟨p, c, h1, h2, h3, h4, h5, b, off, rfl⟩ := r.ix hx
  obtain ⟨c0, rfl⟩ := List.length_eq_one_iff.1 h4
  exact ⟨_, h1 .i64, c0, h3, by simpa using h5 0 (by omega) b off rfl⟩
theorem loop19 {h : H} {q : Sc} {N V : IV} (r : SR h q N V) {b : Nat} (c : Cs h b true false [N, V]) (nm : Bs) (hq : q.length ≤ 2 ^ 30) : ∀ (k : Nat), k ≤ q.length → J19 tab2 1 [sv nm, .ptr b 0, .int .i64 ((k : Int) - 1)] h = .ok (gotI (lastM (q.take k) nm)) h := by
  intro k
  induction k with
  | zero =>
    intro _
    refine e19_1 ?_ (by simp)
    have : ¬ (0 : Int) ≤ ((0 : Nat) : Int) - 1 := by omega
    simp only [t19_1, W, decide_eq_true_eq, Bool.not_eq_true', decide_eq_false_iff_not, Bool.false_eq_true, Bool.not_true, Bool.not_false, decide_true, decide_false, not_true_eq_false, not_false_eq_true, and_true, true_and, and_false, false_and, ne_eq, Nat.zero_add, Nat.add_zero, cond_true, cond_false, ↓reduceIte, reduceCtorEq, Nat.reduceAdd, Int.reduceEq, Int.reduceNe, Int.reduceLT, Int.reduceLE, Int.reduceAdd, Int.reduceSub, Int.reduceMul, Int.reduceNeg, Nat.reduceMul, List.getElem?_cons_zero, List.getElem?_cons_succ, this]
    rfl
  | succ k ih =>
    intro hk
    have hlt : k < q.length := by omega
    have e1 : ((k + 1 : Nat) : Int) - 1 = (k : Nat) := by omega
    rw [e1]
    have hx : q[k]? = some q[k] := List.getElem?_eq_getElem hlt
    obtain ⟨p, p1, c0, p2, p3⟩ := ld_at r.ns (i := k) (x := q[k].1) (by rw [List.getElem?_map, hx]; rfl)
    obtain ⟨p', p1', c0', p2', p3'⟩ := ld_at r.vs (i := k) (x := q[k].2) (by rw [List.getElem?_map, hx]; rfl)
    have q2 : c0 = sv q[k].1 := by have : [c0] = [sv q[k].1] := p2; injection this
    have q2' : c0' = .int .i64 q[k].2 := by have : [c0'] = [IV.int .i64 q[k].2] := p2'; injection this
    subst q2; subst q2'
    have h0 : (0 : Int) ≤ (k : Nat) := by omega
    have l8 : I.ld0 h (.ptr b 0) = some N := c.ld0 0
    have l14 : I.ld0 h (.ptr b 1) = some V := c.ld0 1
    have ht : q.take (k + 1) = q.take k ++ [q[k]] := by rw [List.take_add_one, hx]; rfl
    refine e19_1 ?_ (by rw [gotI.eq_def]; split <;> simp)
    rw [ht, lastM_app]
    have esub : wr .i64 ((k : Int) - 1) = (k : Int) - 1 := wr_i64 (by omega) (by omega)
    by_cases hn : q[k].1 = nm
    · simp only [t19_1, W, decide_eq_true_eq, Bool.not_eq_true', decide_eq_false_iff_not, Bool.false_eq_true, Bool.not_true, Bool.not_false, decide_true, decide_false, not_true_eq_false, not_false_eq_true, and_true, true_and, and_false, false_and, ne_eq, Nat.zero_add, Nat.add_zero, cond_true, cond_false, ↓reduceIte, reduceCtorEq, Nat.reduceAdd, Int.reduceEq, Int.reduceNe, Int.reduceLT, Int.reduceLE, Int.reduceAdd, Int.reduceSub, Int.reduceMul, Int.reduceNeg, Nat.reduceMul, List.getElem?_cons_zero, List.getElem?_cons_succ, h0, Nat.zero_add, l8, p1, p3, hn, l14, p1', p3', if_true, gotI]
    · simp only [t19_1, W, decide_eq_true_eq, Bool.not_eq_true', decide_eq_false_iff_not, Bool.false_eq_true, Bool.not_true, Bool.not_false, decide_true, decide_false, not_true_eq_false, not_false_eq_true, and_true, true_and, and_false, false_and, ne_eq, Nat.zero_add, Nat.add_zero, cond_true, cond_false, ↓reduceIte, reduceCtorEq, Nat.reduceAdd, Int.reduceEq, Int.reduceNe, Int.reduceLT, Int.reduceLE, Int.reduceAdd, Int.reduceSub, Int.reduceMul, Int.reduceNeg, Nat.reduceMul, List.getElem?_cons_zero, List.getElem?_cons_succ, h0, Nat.zero_add, l8, p1, p3, hn, if_false, esub]
      exact ih (by omega)
theorem ref19 {h : H} (g : Gd h) {q : Sc} {N V : IV} (r : SR h q N V) (hq : q.length ≤ 2 ^ 30) (nm : Bs) : ∃ h', CL tab2 19 [.agg [N, V], sv nm] h = .ok (gotI (lastM q nm)) h' ∧ Ey h h' := by
  obtain ⟨h2, e2, x2, c2, y2⟩ := (Ey.refl g).newI r.sc
  refine ⟨h2, c19 step2 rfl rfl g ?_ (by rw [gotI.eq_def]; split <;> simp), x2⟩
  have l3 : I.ld0 h2 (.ptr h.next 0) = some N := c2.ld0 0
  have := loop19 (r.ext (x2.ext g)) c2 nm hq q.length (Nat.le_refl _)
  rw [List.take_length] at this
  have hl := r.ns.len
  simp only [List.length_map] at hl
  have esub : wr .i64 ((q.length : Int) - 1) = (q.length : Int) - 1 := wr_i64 (by omega) (by omega)
  simp only [t19_0, IV.cells, e2, W, decide_eq_true_eq, Bool.not_eq_true', decide_eq_false_iff_not, Bool.false_eq_true, Bool.not_true, Bool.not_false, decide_true, decide_false, not_true_eq_false, not_false_eq_true, and_true, true_and, and_false, false_and, ne_eq, Nat.zero_add, Nat.add_zero, cond_true, cond_false, ↓reduceIte, reduceCtorEq, Nat.reduceAdd, Int.reduceEq, Int.reduceNe, Int.reduceLT, Int.reduceLE, Int.reduceAdd, Int.reduceSub, Int.reduceMul, Int.reduceNeg, Nat.reduceMul, List.getElem?_cons_zero, List.getElem?_cons_succ, Nat.zero_add, l3, hl, esub]
  exact this

end Go.Proofs.YtblgpcijbdbeiaaDoor

namespace Go.Proofs.YtblgpcijbdbeiaaDoor
open Go I
set_option maxRecDepth 100000
set_option linter.unusedVariables false
set_option linter.unusedSimpArgs false

theorem stA_ext {n : Nat} {h h' : H} (g : Gd h) {b off : Nat} {v : IV} (e : stA n h (.ptr b off) v = some h') : Ext h h' := by
  rw [stA_eq] at e
  unfold stA0 at e
  simp only at e
  split at e
  · rename_i fz size t hb
    split at e
    · injection e with e; subst e
      exact (Step.put hb (fun _ _ _ hh => by cases hh) g.wf).2
    · cases e
  · cases e
/-- a name with its number -/
def Rm (x : Bs × Int) (c : List IV) : Prop := c = [sv x.1, .int .i64 x.2]
theorem Rm_sc (x : Bs × Int) (c : List IV) (h : Rm x c) : allScalar c = true := by rw [h]; rfl
theorem name_at {h : H} {l : Sc} {v : IV} (r : LR h 2 Rm l v) {i : Nat} {x : Bs × Int} (hx : l[i]? = some x) : ∃ b off, ixS 2 v (.int .i64 (i : Nat)) = some (.ptr b off) ∧ ∀ h', Ext h h' → I.ld0 h' (.ptr b off) = some (sv x.1) ∧ I.ld0 h' (.ptr b (off + 1)) = some (.int .i64 x.2) := by
  obtain ⟨p, c, h1, h2, h3, h4, h5, b, off, rfl⟩ := r.ix hx
  refine ⟨b, off, h1 .i64, fun h' e => ?_⟩
  obtain ⟨p', c', k1, k2, k3, k4, k5, b', off', hp⟩ := (r.mono e fun _ _ h => h : LR h' 2 Rm l v).ix hx
  have := (h1 .i64).symm.trans (k1 .i64)
  injection this with this
  subst this
  have k3' : c' = [sv x.1, .int .i64 x.2] := k3
  subst k3'
  exact ⟨k5 0 (by omega) b off rfl, k5 1 (by omega) b off rfl⟩

def Agree (s q : Sc) : Prop := ∀ x, getM s x = lastM q x
theorem Agree.step {s q s' : Sc} (a : Agree s q) {nm : Bs} {n : Int} (hs : ∀ x, getM s' x = if inB n ∧ nm = x then some n else getM s x) : Agree s' (if inB n then q ++ [(nm, n)] else q) := by
  intro x
  rw [hs]
  by_cases hb : inB n
  · rw [if_pos hb, lastM_app, ← a]
    by_cases hx : nm = x <;> simp [hb, hx]
  · simp only [hb, false_and, if_false]; exact a x
theorem two_ne_one {h : H} {p b m : Nat} {s : Sc} (c : ScM h p m s) {rw fz : Bool} {N V : IV} (hb : Cs h b rw fz [N, V]) : b ≠ p := by
  rintro rfl
  obtain ⟨t, h1, _⟩ := c.cell
  obtain ⟨t', h2, _⟩ := hb
  rw [h1] at h2
  injection h2 with h2
  injection h2 with _ _ h2
  cases h2

/-- a name is set on both sides: first there, then here -/
theorem stepRS {h₀ h : H} {L : List (Nat × List IV)} (l : Lv h₀ h L) {p m : Nat} {s : Sc} (sc : ScM h p m s) (hm : h₀.next ≤ m) {q : Sc} {N V : IV} (r : SR h q N V) (a : Agree s q) (hq : q.length ≤ 2 ^ 30) {j b : Nat} (hj : L[j]? = some (b, [N, V])) (nm : Bs) (n : Int) :
    ∃ h25 h32 h42 N' V' s' q' e, CL tab2 17 [.agg [N, V], sv nm, .int .i64 n] h = .ok (.tup [.agg [N', V'], .int .i64 e]) h25 ∧ stA 2 h25 (.ptr b 0) (.agg [N', V']) = some h32 ∧ CL tab2 11 [.ptr p 0, sv nm, .int .i64 n] h32 = .ok (.int .i64 e) h42 ∧
      Lv h₀ h42 (L.set j (b, [N', V'])) ∧ ScM h42 p m s' ∧ SR h42 q' N' V' ∧ Agree s' q' ∧ q'.length ≤ q.length + 1 ∧ Ext h h32 ∧ Ext h h42 ∧ (∀ p' m' t, m' ≠ m → ScM h p' m' t → ScM h42 p' m' t) := by
  obtain ⟨h25, N', V', e17, y25, r25⟩ := ref17 l.gd r hq nm n
  have l25 := l.go (y25.ex l.gd)
  have hv2 : (IV.agg [N', V']).cells.length = 2 := rfl
  obtain ⟨h32, e32, l32⟩ := l25.set j hj (n := 2) (v := .agg [N', V']) rfl r25.sc rfl
  have hb25 := l25.cs _ (List.mem_of_getElem? hj)
  have st32 : ∀ p' m' t, ScM h p' m' t → ScM h32 p' m' t := fun p' m' t c => by
    have c25 := c.keep (y25.ex l.gd)
    exact c25.st e32 (two_ne_one c25 hb25)
  have x2532 := stA_ext l25.gd e32
  obtain ⟨h42, s', e11, sc42, l42, x42, o42, a42⟩ := setG l32 (st32 _ _ _ sc) nm n hm
  have xa := (y25.ext l.gd).trans x2532
  refine ⟨h25, h32, h42, N', V', s', _, _, e17, e32, e11, l42, sc42, (r25.ext x2532).ext x42, a.step a42, ?_, xa, xa.trans x42, fun p' m' t hne c => o42 p' m' t hne (st32 p' m' t c)⟩
  split <;> simp

/-! ### made -/
theorem loop15 {h₀ : H} {l : Sc} {a0 : IV} (ra : LR h₀ 2 Rm l a0) (hl : l.length ≤ 2 ^ 21) {b1 b6 p m : Nat} {z : List IV} (hz : z.length = 2) (hm : h₀.next ≤ m) : ∀ (k i : Nat) (h : H) (N V : IV) (s q : Sc), i + k = l.length → Lv h₀ h [(b6, [N, V]), (b1, z)] → ScM h p m s → SR h q N V → Agree s q → q.length ≤ i →
    ∃ h' s' q' N' V', J15 tab2 1 [a0, .ptr b1 0, .ptr p 0, .ptr b6 0, .int .i64 i] h = .ok (.tup [.ptr p 0, .agg [N', V'], .bool true]) h' ∧ Ex h₀ h' ∧ ScM h' p m s' ∧ SR h' q' N' V' ∧ Agree s' q' ∧ q'.length ≤ l.length := by
  intro k
  induction k with
  | zero =>
    intro i h N V s q hi lv sc r a hq
    have ld48 : I.ldA 2 h (.ptr b6 0) = some (.agg [N, V]) := lv.ldA 0 rfl rfl
    obtain ⟨h49, e49, l49⟩ := lv.set 1 rfl (n := 2) (v := .agg [N, V]) rfl r.sc (by omega)
    have ld50 : I.ldA 2 h49 (.ptr b1 0) = some (.agg [N, V]) := l49.ldA 1 rfl rfl
    have hb1 := lv.cs (b1, z) (by simp)
    have hne : b1 ≠ p := by
      rintro rfl
      obtain ⟨t, h1, _⟩ := sc.cell
      obtain ⟨t', h2, _⟩ := hb1
      rw [h1] at h2
      injection h2 with h2
      injection h2 with _ _ h2
      rw [hz] at h2; cases h2
    refine ⟨h49, s, q, N, V, e15_1 ?_ (by simp), l49.ex, sc.st e49 hne, r.ext (stA_ext lv.gd e49), a, by omega⟩
    have hlt : ¬ (i : Int) < (l.length : Nat) := by omega
    simp only [t15_1, ra.len, W, decide_eq_true_eq, Bool.not_eq_true', decide_eq_false_iff_not, Bool.false_eq_true, Bool.not_true, Bool.not_false, decide_true, decide_false, not_true_eq_false, not_false_eq_true, and_true, true_and, and_false, false_and, ne_eq, Nat.zero_add, Nat.add_zero, cond_true, cond_false, ↓reduceIte, reduceCtorEq, Nat.reduceAdd, Int.reduceEq, Int.reduceNe, Int.reduceLT, Int.reduceLE, Int.reduceAdd, Int.reduceSub, Int.reduceMul, Int.reduceNeg, Nat.reduceMul, List.getElem?_cons_zero, List.getElem?_cons_succ, hlt, ld48, e49, ld50]
  | succ k ih =>
    intro i h N V s q hi lv sc r a hq
    have hlt : i < l.length := by omega
    have hx : l[i]? = some l[i] := List.getElem?_eq_getElem hlt
    obtain ⟨bN, oN, eix, eld⟩ := name_at ra hx
    have ld15 : I.ldA 2 h (.ptr b6 0) = some (.agg [N, V]) := lv.ldA 0 rfl rfl
    obtain ⟨ld18, ld21⟩ := eld h lv.ex.ext
    obtain ⟨h25, N', V', e17, y25, r25⟩ := ref17 lv.gd r (by omega) l[i].1 l[i].2
    have l25 := lv.go (y25.ex lv.gd)
    obtain ⟨h29, e29, l29, x29⟩ := l25.newI' (cs := [.nilSlice, .nilSlice]) rfl
    obtain ⟨h30, e30, l30⟩ := l29.set 0 rfl (n := 2) (v := .agg [N', V']) rfl r25.sc rfl
    simp only [List.set_cons_zero, IV.cells] at l30
    have c25 := sc.keep (y25.ex lv.gd)
    have c29 := c25.keep x29
    have c30 : ScM h30 p m s := c29.st e30 (two_ne_one c29 (l29.cs (h25.next, [.nilSlice, .nilSlice]) (by simp)))
    obtain ⟨ld33, ld36⟩ := eld h30 l30.ex.ext
    obtain ⟨h40, s', e11, sc40, l40, x40, o40, a40⟩ := setG l30 c30 l[i].1 l[i].2 hm
    have ld45 : I.ldA 2 h40 (.ptr h25.next 0) = some (.agg [N', V']) := l40.ldA 0 rfl rfl
    obtain ⟨h46, e46, l46⟩ := l40.set 1 rfl (n := 2) (v := .agg [N', V']) rfl r25.sc rfl
    simp only [List.set_cons_zero, List.set_cons_succ, IV.cells] at l46
    have c46 : ScM h46 p m s' := sc40.st e46 (two_ne_one sc40 (l40.cs (b6, [N, V]) (by simp)))
    have xr : Ext h25 h46 := ((x29.ext.trans (stA_ext l29.gd e30)).trans x40).trans (stA_ext l40.gd e46)
    have ei : wr .i64 ((i : Int) + 1) = ((i + 1 : Nat) : Int) := by rw [wr_i64 (by omega) (by omega)]; omega
    have hq' : (if inB l[i].2 then q ++ [(l[i].1, l[i].2)] else q).length ≤ i + 1 := by
      split
      · rw [List.length_append]; simp only [List.length_cons, List.length_nil]; omega
      · omega
    obtain ⟨h', s2, q2, N2, V2, ej, w1, w2, w3, w4, w5⟩ := ih (i + 1) h46 N' V' s' _ (by omega) l46.drop1 c46 (r25.ext xr) (a.step a40) hq'
    refine ⟨h', s2, q2, N2, V2, e15_1 ?_ (by simp), w1, w2, w3, w4, w5⟩
    have hlt' : (i : Int) < (l.length : Nat) := by omega
    simp only [t15_1, ra.len, W, decide_eq_true_eq, Bool.not_eq_true', decide_eq_false_iff_not, Bool.false_eq_true, Bool.not_true, Bool.not_false, decide_true, decide_false, not_true_eq_false, not_false_eq_true, and_true, true_and, and_false, false_and, ne_eq, Nat.zero_add, Nat.add_zero, cond_true, cond_false, ↓reduceIte, reduceCtorEq, Nat.reduceAdd, Int.reduceEq, Int.reduceNe, Int.reduceLT, Int.reduceLE, Int.reduceAdd, Int.reduceSub, Int.reduceMul, Int.reduceNeg, Nat.reduceMul, List.getElem?_cons_zero, List.getElem?_cons_succ, hlt', ld15, eix, ld18, ld21, e17, List.getElem?_cons_zero, List.getElem?_cons_succ, e29, e30, ld33, ld36, e11, ld45, e46, ei]
    exact ej
theorem made15 {h : H} (g : Gd h) {l : Sc} {a0 : IV} (ra : LR h 2 Rm l a0) (hl : l.length ≤ 2 ^ 21) : ∃ p m h' s q N V, CL tab2 15 [a0] h = .ok (.tup [.ptr p 0, .agg [N, V], .bool true]) h' ∧ Ex h h' ∧ ScM h' p m s ∧ SR h' q N V ∧ Agree s q ∧ q.length ≤ l.length ∧ h.next ≤ m := by
  obtain ⟨h2, e2, l2, x2⟩ := (Lv.start g).newI' (cs := [.nilSlice, .nilSlice]) rfl
  obtain ⟨p, m, h4, e10, sc4, l4, hm⟩ := new10 l2
  obtain ⟨h7, e7, l7, x7⟩ := l4.newI' (cs := [.nilSlice, .nilSlice]) rfl
  obtain ⟨h8, e8, l8⟩ := l7.set 0 rfl (n := 2) (v := .agg [.nilSlice, .nilSlice]) rfl rfl rfl
  simp only [List.set_cons_zero, IV.cells] at l8
  have c7 := sc4.keep x7
  have c8 : ScM h8 p m [] := c7.st e8 (two_ne_one c7 (l7.cs (h4.next, [.nilSlice, .nilSlice]) (by simp)))
  obtain ⟨h', s', q', N', V', ej, w1, w2, w3, w4, w5⟩ := loop15 ra hl (z := [.nilSlice, .nilSlice]) rfl hm l.length 0 h8 .nilSlice .nilSlice [] [] (by omega) l8 c8 (SR.nil h8) (fun x => rfl) (by simp)
  refine ⟨p, m, h', s', q', N', V', c15 step2 rfl rfl g ?_ (by simp), w1, w2, w3, w4, w5, hm⟩
  have hb5 : bldK [.nilSlice, .nilSlice] [(0, 1), (1, 1)] [] = some (.agg [.nilSlice, .nilSlice]) := rfl
  simp only [t15_0, e2, W, decide_eq_true_eq, Bool.not_eq_true', decide_eq_false_iff_not, Bool.false_eq_true, Bool.not_true, Bool.not_false, decide_true, decide_false, not_true_eq_false, not_false_eq_true, and_true, true_and, and_false, false_and, ne_eq, Nat.zero_add, Nat.add_zero, cond_true, cond_false, ↓reduceIte, reduceCtorEq, Nat.reduceAdd, Int.reduceEq, Int.reduceNe, Int.reduceLT, Int.reduceLE, Int.reduceAdd, Int.reduceSub, Int.reduceMul, Int.reduceNeg, Nat.reduceMul, List.getElem?_cons_zero, List.getElem?_cons_succ, e10, hb5, e7, e8]
  exact ej

end Go.Proofs.YtblgpcijbdbeiaaDoor

namespace Go.Proofs.YtblgpcijbdbeiaaDoor
open Go I
set_option maxRecDepth 100000
set_option linter.unusedVariables false
set_option linter.unusedSimpArgs false

/-- an append of a list that was read -/
theorem appL {α : Type} {h : H} (g : Gd h) {es bytes : Nat} {R : α → List IV → Prop} (hR : ∀ x c, R x c → allScalar c = true) {l l2 : List α} {cells : List IV} {s y : IV} (gl : GL h es cells s) (c : Ch R es l cells) (r : LR h es R l2 y)
    (hroom : (2 * (l.length * es + l2.length) + 2000) * bytes ≤ 2 ^ 46) (hes : es ≠ 0) :
    ∃ s' h' cells', appK es bytes h s y = some (s', h') ∧ Ex h h' ∧ GL h' es cells' s' ∧ Ch R es (l ++ l2) cells' := by
  obtain ⟨new, h1, h2, h3⟩ := r.source
  cases l2 with
  | nil =>
    have : new = [] := List.eq_nil_of_length_eq_zero (by simpa using h3)
    subst this
    rw [List.append_nil]
    refine ⟨s, h, cells, ?_, .refl g, gl, c⟩
    rcases gl with ⟨_, rfl⟩ | ⟨b, k, rfl, _⟩
    · simp only [appK, h1, allScalar, Bool.true_eq_false, if_false, List.length_nil, if_true]
    · exact app_none h1
  | cons a l2 =>
    obtain ⟨s', h', e, x, gl'⟩ := appK_grow g gl h1 h3 (h2.scalar hR) (by simp) (by rw [c.len]; exact hroom) hes
    exact ⟨s', h', _, e, x, gl', h2.app c⟩

/-! ### the two loops that set -/
structure St (h₀ h : H) (b6 b13 pS mS pT mT : Nat) (N V M U : IV) (s q t r : Sc) (k k' : Nat) : Prop where
  lv : Lv h₀ h [(b13, [M, U]), (b6, [N, V])]
  sS : ScM h pS mS s
  sT : ScM h pT mT t
  nS : h₀.next ≤ mS
  nT : h₀.next ≤ mT
  ne : mS ≠ mT
  rS : SR h q N V
  rT : SR h r M U
  aS : Agree s q
  aT : Agree t r
  kS : q.length ≤ k
  kT : r.length ≤ k'
theorem loopS {h₀ : H} {l : Sc} {a0 a1 a2 : IV} (ra : LR h₀ 2 Rm l a1) {b6 b13 pS mS pT mT K K' : Nat} (hl : K + l.length ≤ 2 ^ 30) : ∀ (k i : Nat) (h : H) (N V M U : IV) (s q t r : Sc), i + k = l.length → St h₀ h b6 b13 pS mS pT mT N V M U s q t r (K + i) K' →
    ∃ h' N' V' s' q', St h₀ h' b6 b13 pS mS pT mT N' V' M U s' q' t r (K + l.length) K' ∧ ∀ x : CRes, x ≠ .fail → J6 tab2 2 [a0, a1, a2, .ptr pS 0, .ptr b6 0, .ptr pT 0, .ptr b13 0, .int .i64 0] h' = x → J6 tab2 1 [a0, a1, a2, .ptr pS 0, .ptr b6 0, .ptr pT 0, .ptr b13 0, .int .i64 i] h = x := by
  intro k
  induction k with
  | zero =>
    intro i h N V M U s q t r hi st
    obtain rfl : i = l.length := by omega
    refine ⟨h, N, V, s, q, st, fun x hx e => e6_1 ?_ hx⟩
    have hlt : ¬ ((l.length : Nat) : Int) < (l.length : Nat) := by omega
    simp only [t6_1, ra.len, W, decide_eq_true_eq, Bool.not_eq_true', decide_eq_false_iff_not, Bool.false_eq_true, Bool.not_true, Bool.not_false, decide_true, decide_false, not_true_eq_false, not_false_eq_true, and_true, true_and, and_false, false_and, ne_eq, Nat.zero_add, Nat.add_zero, cond_true, cond_false, ↓reduceIte, reduceCtorEq, Nat.reduceAdd, Int.reduceEq, Int.reduceNe, Int.reduceLT, Int.reduceLE, Int.reduceAdd, Int.reduceSub, Int.reduceMul, Int.reduceNeg, Nat.reduceMul, List.getElem?_cons_zero, List.getElem?_cons_succ, hlt]
    exact e
  | succ k ih =>
    intro i h N V M U s q t r hi st
    have hlt : i < l.length := by omega
    have hx : l[i]? = some l[i] := List.getElem?_eq_getElem hlt
    obtain ⟨bN, oN, eix, eld⟩ := name_at ra hx
    have ld15 : I.ldA 2 h (.ptr b6 0) = some (.agg [N, V]) := st.lv.ldA 1 rfl rfl
    obtain ⟨ld18, ld21⟩ := eld h st.lv.ex.ext
    obtain ⟨h25, h32, h42, N', V', s', q', e, e17, e32, e11, l42, c42, r42, a42, k42, x32, x42, o42⟩ := stepRS st.lv st.sS st.nS st.rS st.aS (by have := st.kS; omega) (j := 1) rfl l[i].1 l[i].2
    obtain ⟨ld33, ld36⟩ := eld h32 (st.lv.ex.ext.trans x32)
    obtain ⟨h', N2, V2, s2, q2, st2, hr⟩ := ih (i + 1) h42 N' V' M U s' q' t r (by omega) ⟨l42, c42, o42 _ _ _ (Ne.symm st.ne) st.sT, st.nS, st.nT, st.ne, r42, st.rT.ext x42, a42, st.aT, by have := st.kS; omega, st.kT⟩
    refine ⟨h', N2, V2, s2, q2, st2, fun x hxf ej => e6_1 ?_ hxf⟩
    have hlt' : (i : Int) < (l.length : Nat) := by omega
    have ei : wr .i64 ((i : Int) + 1) = ((i + 1 : Nat) : Int) := by rw [wr_i64 (by omega) (by omega)]; omega
    simp only [t6_1, ra.len, W, decide_eq_true_eq, Bool.not_eq_true', decide_eq_false_iff_not, Bool.false_eq_true, Bool.not_true, Bool.not_false, decide_true, decide_false, not_true_eq_false, not_false_eq_true, and_true, true_and, and_false, false_and, ne_eq, Nat.zero_add, Nat.add_zero, cond_true, cond_false, ↓reduceIte, reduceCtorEq, Nat.reduceAdd, Int.reduceEq, Int.reduceNe, Int.reduceLT, Int.reduceLE, Int.reduceAdd, Int.reduceSub, Int.reduceMul, Int.reduceNeg, Nat.reduceMul, List.getElem?_cons_zero, List.getElem?_cons_succ, hlt', ld15, eix, ld18, ld21, e17, List.getElem?_cons_zero, List.getElem?_cons_succ, e32, ld33, ld36, e11, ei]
    exact hr x hxf ej
theorem loopT {h₀ : H} {l : Sc} {a0 a1 a2 : IV} (ra : LR h₀ 2 Rm l a2) {b6 b13 pS mS pT mT K K' : Nat} (hl : K' + l.length ≤ 2 ^ 30) : ∀ (k i : Nat) (h : H) (N V M U : IV) (s q t r : Sc), i + k = l.length → St h₀ h b6 b13 pS mS pT mT N V M U s q t r K (K' + i) →
    ∃ h' M' U' t' r', St h₀ h' b6 b13 pS mS pT mT N V M' U' s q t' r' K (K' + l.length) ∧ ∀ x : CRes, x ≠ .fail → J6 tab2 2 [a0, a1, a2, .ptr pS 0, .ptr b6 0, .ptr pT 0, .ptr b13 0, .int .i64 l.length] h' = x → J6 tab2 2 [a0, a1, a2, .ptr pS 0, .ptr b6 0, .ptr pT 0, .ptr b13 0, .int .i64 i] h = x := by
  intro k
  induction k with
  | zero =>
    intro i h N V M U s q t r hi st
    obtain rfl : i = l.length := by omega
    exact ⟨h, M, U, t, r, st, fun x hx e => e⟩
  | succ k ih =>
    intro i h N V M U s q t r hi st
    have hlt : i < l.length := by omega
    have hx : l[i]? = some l[i] := List.getElem?_eq_getElem hlt
    obtain ⟨bN, oN, eix, eld⟩ := name_at ra hx
    have ld15 : I.ldA 2 h (.ptr b13 0) = some (.agg [M, U]) := st.lv.ldA 0 rfl rfl
    obtain ⟨ld18, ld21⟩ := eld h st.lv.ex.ext
    obtain ⟨h25, h32, h42, M', U', t', r', e, e17, e32, e11, l42, c42, r42, a42, k42, x32, x42, o42⟩ := stepRS st.lv st.sT st.nT st.rT st.aT (by have := st.kT; omega) (j := 0) rfl l[i].1 l[i].2
    obtain ⟨ld33, ld36⟩ := eld h32 (st.lv.ex.ext.trans x32)
    obtain ⟨h', M2, U2, t2, r2, st2, hr⟩ := ih (i + 1) h42 N V M' U' s q t' r' (by omega) ⟨l42, o42 _ _ _ st.ne st.sS, c42, st.nS, st.nT, st.ne, st.rS.ext x42, r42, st.aS, a42, st.kS, by have := st.kT; omega⟩
    refine ⟨h', M2, U2, t2, r2, st2, fun x hxf ej => e6_2 ?_ hxf⟩
    have hlt' : (i : Int) < (l.length : Nat) := by omega
    have ei : wr .i64 ((i : Int) + 1) = ((i + 1 : Nat) : Int) := by rw [wr_i64 (by omega) (by omega)]; omega
    simp only [t6_2, ra.len, W, decide_eq_true_eq, Bool.not_eq_true', decide_eq_false_iff_not, Bool.false_eq_true, Bool.not_true, Bool.not_false, decide_true, decide_false, not_true_eq_false, not_false_eq_true, and_true, true_and, and_false, false_and, ne_eq, Nat.zero_add, Nat.add_zero, cond_true, cond_false, ↓reduceIte, reduceCtorEq, Nat.reduceAdd, Int.reduceEq, Int.reduceNe, Int.reduceLT, Int.reduceLE, Int.reduceAdd, Int.reduceSub, Int.reduceMul, Int.reduceNeg, Nat.reduceMul, List.getElem?_cons_zero, List.getElem?_cons_succ, hlt', ld15, eix, ld18, ld21, e17, List.getElem?_cons_zero, List.getElem?_cons_succ, e32, ld33, ld36, e11, ei]
    exact hr x hxf ej

/-! ### the loop that asks -/
theorem St.ex {h₀ h h' : H} {b6 b13 pS mS pT mT : Nat} {N V M U : IV} {s q t r : Sc} {k k' : Nat} (st : St h₀ h b6 b13 pS mS pT mT N V M U s q t r k k') (x : Ex h h') : St h₀ h' b6 b13 pS mS pT mT N V M U s q t r k k' :=
  ⟨st.lv.go x, st.sS.keep x, st.sT.keep x, st.nS, st.nT, st.ne, st.rS.ext x.ext, st.rT.ext x.ext, st.aS, st.aT, st.kS, st.kT⟩
def gotN : Option Int → Int
  | some n => n
  | none => 0
theorem gotI_eq (o : Option Int) : gotI o = .tup [.int .i64 (gotN o), .bool o.isSome] := by cases o <;> rfl
theorem loopG {h₀ : H} {l : Sc} {a14 : IV} {b6 b13 pS mS pT mT K K' : Nat} {N V M U : IV} {s q t r : Sc} (hK : K ≤ 2 ^ 30) (hK' : K' ≤ 2 ^ 30) (hl : l.length ≤ 2 ^ 60) : ∀ (k i : Nat) (h : H), i + k = l.length → LR h 2 Rm l a14 → St h₀ h b6 b13 pS mS pT mT N V M U s q t r K K' →
    ∃ h', J6 tab2 3 [.ptr pS 0, .ptr b6 0, .ptr pT 0, .ptr b13 0, a14, .int .i64 i] h = .ok (.bool true) h' := by
  intro k
  induction k with
  | zero =>
    intro i h hi ra st
    obtain rfl : i = l.length := by omega
    refine ⟨h, e6_3 ?_ (by simp)⟩
    have hlt : ¬ ((l.length : Nat) : Int) < (l.length : Nat) := by omega
    simp only [t6_3, ra.len, W, decide_eq_true_eq, Bool.not_eq_true', decide_eq_false_iff_not, Bool.false_eq_true, Bool.not_true, Bool.not_false, decide_true, decide_false, not_true_eq_false, not_false_eq_true, and_true, true_and, and_false, false_and, ne_eq, Nat.zero_add, Nat.add_zero, cond_true, cond_false, ↓reduceIte, reduceCtorEq, Nat.reduceAdd, Int.reduceEq, Int.reduceNe, Int.reduceLT, Int.reduceLE, Int.reduceAdd, Int.reduceSub, Int.reduceMul, Int.reduceNeg, Nat.reduceMul, List.getElem?_cons_zero, List.getElem?_cons_succ, hlt, call9]
  | succ k ih =>
    intro i h hi ra st
    have hlt : i < l.length := by omega
    have hx : l[i]? = some l[i] := List.getElem?_eq_getElem hlt
    obtain ⟨bN, oN, eix, eld⟩ := name_at ra hx
    obtain ⟨ld86, _⟩ := eld h (.refl h)
    have e87 := get18 st.lv.gd st.sS l[i].1
    have ld91 : I.ldA 2 h (.ptr b6 0) = some (.agg [N, V]) := st.lv.ldA 1 rfl rfl
    obtain ⟨h98, e97, y98⟩ := ref19 st.lv.gd st.rS (by have := st.kS; omega) l[i].1
    have x98 := y98.ex st.lv.gd
    have st98 := st.ex x98
    obtain ⟨ld103, _⟩ := eld h98 x98.ext
    have e104 := get18 st98.lv.gd st98.sT l[i].1
    have ld108 : I.ldA 2 h98 (.ptr b13 0) = some (.agg [M, U]) := st98.lv.ldA 0 rfl rfl
    obtain ⟨h115, e114, y115⟩ := ref19 st98.lv.gd st98.rT (by have := st.kT; omega) l[i].1
    have x115 := y115.ex st98.lv.gd
    obtain ⟨h', ej⟩ := ih (i + 1) h115 (by omega) (ra.mono (x98.ext.trans x115.ext) fun _ _ h => h) (st98.ex x115)
    refine ⟨h', e6_3 ?_ (by simp)⟩
    have hlt' : (i : Int) < (l.length : Nat) := by omega
    have ei : wr .i64 ((i : Int) + 1) = ((i + 1 : Nat) : Int) := by rw [wr_i64 (by omega) (by omega)]; omega
    rw [st.aS, gotI_eq] at e87
    rw [st.aT, gotI_eq] at e104
    rw [gotI_eq] at e97 e114
    simp only [t6_3, ra.len, W, decide_eq_true_eq, Bool.not_eq_true', decide_eq_false_iff_not, Bool.false_eq_true, Bool.not_true, Bool.not_false, decide_true, decide_false, not_true_eq_false, not_false_eq_true, and_true, true_and, and_false, false_and, ne_eq, Nat.zero_add, Nat.add_zero, cond_true, cond_false, ↓reduceIte, reduceCtorEq, Nat.reduceAdd, Int.reduceEq, Int.reduceNe, Int.reduceLT, Int.reduceLE, Int.reduceAdd, Int.reduceSub, Int.reduceMul, Int.reduceNeg, Nat.reduceMul, List.getElem?_cons_zero, List.getElem?_cons_succ, hlt', eix, ld86, e87, List.getElem?_cons_zero, List.getElem?_cons_succ, ld91, e97, ld103, e104, ld108, e114, beq_self_eq_true, decide_true, Bool.not_true, Bool.false_eq_true, if_false, ei]
    exact ej

theorem none13 : IV.str ⟨13, 8037757784846205064033113894766⟩ = sv [110, 111, 110, 101, 32, 111, 102, 32, 116, 104, 101, 115, 101] := by rfl
/-- ConstsScopes -/
theorem scopes {h : H} (g : Gd h) {la lb lc : Sc} {a0 a1 a2 : IV} (ra : LR h 2 Rm la a0) (rb : LR h 2 Rm lb a1) (rc : LR h 2 Rm lc a2) (ha : la.length ≤ 2 ^ 21) (hb : lb.length ≤ 2 ^ 21) (hc : lc.length ≤ 2 ^ 21) :
    ∃ h', CL tab2 6 [a0, a1, a2] h = .ok (.bool true) h' := by
  obtain ⟨pS, mS, h2, s, q, N, V, e15, x2, sc2, r2, a2', k2, hm2⟩ := made15 g ra ha
  have l2 := (Lv.start g).go x2
  obtain ⟨h7, e7, l7, x7⟩ := l2.newI' (cs := [.nilSlice, .nilSlice]) rfl
  have c7 := sc2.keep x7
  obtain ⟨h8, e8, l8⟩ := l7.set 0 rfl (n := 2) (v := .agg [N, V]) rfl r2.sc rfl
  simp only [List.set_cons_zero, IV.cells] at l8
  have c8 : ScM h8 pS mS s := c7.st e8 (two_ne_one c7 (l7.cs (h2.next, [.nilSlice, .nilSlice]) (by simp)))
  have x28 : Ext h2 h8 := x7.ext.trans (stA_ext l7.gd e8)
  obtain ⟨pT, mT, h11, e16, sT11, l11, x11, hT⟩ := within16 l8 c8
  have ld12 : I.ldA 2 h11 (.ptr h2.next 0) = some (.agg [N, V]) := l11.ldA 0 rfl rfl
  have c11 := c8.keep x11
  obtain ⟨h14, e14, l14, x14⟩ := l11.newI' (cs := [.nilSlice, .nilSlice]) rfl
  obtain ⟨h15, e15', l15⟩ := l14.set 0 rfl (n := 2) (v := .agg [N, V]) rfl r2.sc rfl
  simp only [List.set_cons_zero, IV.cells] at l15
  have cc := l14.cs (h11.next, [.nilSlice, .nilSlice]) (by simp)
  have c15 : ScM h15 pS mS s := (c11.keep x14).st e15' (two_ne_one (c11.keep x14) cc)
  have t15 : ScM h15 pT mT s := (sT11.keep x14).st e15' (two_ne_one (sT11.keep x14) cc)
  have x215 : Ext h2 h15 := ((x28.trans x11.ext).trans x14.ext).trans (stA_ext l14.gd e15')
  have hmS : mS < h8.next := by
    obtain ⟨_, ⟨es, clock, q1, _⟩, _⟩ := c8
    rcases Nat.lt_or_ge mS h8.next with hl | hl
    · exact hl
    · rw [l8.gd.wf _ hl] at q1; cases q1
  have st : St h h15 h2.next h11.next pS mS pT mT N V N V s q s q (la.length + 0) la.length :=
    ⟨l15, c15, t15, hm2, Nat.le_trans l8.ex.ext.next hT, by omega, r2.ext x215, r2.ext x215, a2', a2', k2, k2⟩
  obtain ⟨h16, N', V', s', q', st16, hr1⟩ := loopS (a0 := a0) (a2 := a2) rb (K := la.length) (by omega) lb.length 0 h15 N V N V s q s q (by omega) st
  obtain ⟨h17, M', U', t', r', st17, hr2⟩ := loopT (a0 := a0) (a1 := a1) rc (K' := la.length) (by omega) lc.length 0 h16 N' V' N V s' q' s q (by omega) st16
  have x17 := st17.lv.ex.ext
  -- all names
  obtain ⟨s71, h72, cl71, e71, x72, gl72, ch72⟩ := appL (bytes := 24) (l := []) st17.lv.gd Rm_sc (.inl ⟨rfl, rfl⟩) rfl (ra.mono x17 fun _ _ h => h) (by simp only [List.length_nil]; omega) (by omega)
  obtain ⟨s73, h74, cl73, e73, x74, gl74, ch74⟩ := appL (bytes := 24) x72.gd Rm_sc gl72 ch72 (rb.mono (x17.trans x72.ext) fun _ _ h => h) (by simp only [List.nil_append]; omega) (by omega)
  obtain ⟨s75, h76, cl75, e75, x76, gl76, ch76⟩ := appL (bytes := 24) x74.gd Rm_sc gl74 ch74 (rc.mono ((x17.trans x72.ext).trans x74.ext) fun _ _ h => h) (by simp only [List.nil_append, List.length_append]; omega) (by omega)
  have el := bslK_all (w := false) (es := 2) (z := [.str ⟨0, 0⟩, .int .i64 0]) (vs := [.agg [sv [110, 111, 110, 101, 32, 111, 102, 32, 116, 104, 101, 115, 101], .int .i64 0]]) rfl (by intro w hw; rcases List.mem_singleton.1 hw with rfl; rfl) rfl h76
  have hco : cellsOf [.agg [sv [110, 111, 110, 101, 32, 111, 102, 32, 116, 104, 101, 115, 101], .int .i64 0]] = [sv [110, 111, 110, 101, 32, 111, 102, 32, 116, 104, 101, 115, 101], .int .i64 0] := rfl
  rw [hco] at el
  generalize hg79 : h76.push _ = h79 at el
  have y79 : Ey h76 h79 := hg79 ▸ (Ey.refl x76.gd).push _
  have c79 : Cs h79 h76.next false true [sv [110, 111, 110, 101, 32, 111, 102, 32, 116, 104, 101, 115, 101], .int .i64 0] := by
    rw [← hg79, x76.gd.pol]; exact Cs.push _
  have r79 : LR h79 2 Rm [([110, 111, 110, 101, 32, 111, 102, 32, 116, 104, 101, 115, 101], 0)] (.slice h76.next 0 1 2) := .inr ⟨h76.next, 0, _, rfl, ⟨true, c79⟩, by simp, by
    simp only [List.drop_zero, List.length_cons, List.length_nil]
    exact ⟨[sv [110, 111, 110, 101, 32, 111, 102, 32, 116, 104, 101, 115, 101], .int .i64 0], [], rfl, rfl, rfl, rfl⟩⟩
  have gl79 : GL h79 2 cl75 s75 := by
    rcases gl76 with q1 | ⟨b, k, q1, q2, q3⟩
    · exact .inl q1
    · exact .inr ⟨b, k, q1, Cs_same q2 (y79.low b (q2.lt x76.gd.wf)), q3⟩
  obtain ⟨s80, h81, cl80, e80, x81, gl81, ch81⟩ := appL (bytes := 24) y79.gd Rm_sc gl79 ch76 r79 (by simp only [List.nil_append, List.length_append, List.length_cons, List.length_nil]; omega) (by omega)
  have st81 := st17.ex ((((x72.trans x74).trans x76).trans (y79.ex x76.gd)).trans x81)
  obtain ⟨h', ej⟩ := loopG (K := la.length + lb.length) (K' := la.length + lc.length) (by omega) (by omega) (by simp only [List.nil_append, List.length_append, List.length_cons, List.length_nil]; omega) _ 0 h81 (Nat.zero_add _) (gl81.LR (by omega) ch81) st81
  have e6 : J6 tab2 2 [a0, a1, a2, .ptr pS 0, .ptr h2.next 0, .ptr pT 0, .ptr h11.next 0, .int .i64 lc.length] h17 = .ok (.bool true) h' := by
    refine e6_2 ?_ (by simp)
    have hlt : ¬ ((lc.length : Nat) : Int) < (lc.length : Nat) := by omega
    have hb77 : bldK [.str ⟨0, 0⟩, .int .i64 0] [(0, 1), (1, 1)] [(0, sv [110, 111, 110, 101, 32, 111, 102, 32, 116, 104, 101, 115, 101])] = some (.agg [sv [110, 111, 110, 101, 32, 111, 102, 32, 116, 104, 101, 115, 101], .int .i64 0]) := rfl
    have el' : bslK false 2 [.str ⟨0, 0⟩, .int .i64 0] 1 [(0, .agg [sv [110, 111, 110, 101, 32, 111, 102, 32, 116, 104, 101, 115, 101], .int .i64 0])] h76 = some (.slice h76.next 0 1 2, h79) := el
    simp only [t6_2, rc.len, W, decide_eq_true_eq, Bool.not_eq_true', decide_eq_false_iff_not, Bool.false_eq_true, Bool.not_true, Bool.not_false, decide_true, decide_false, not_true_eq_false, not_false_eq_true, and_true, true_and, and_false, false_and, ne_eq, Nat.zero_add, Nat.add_zero, cond_true, cond_false, ↓reduceIte, reduceCtorEq, Nat.reduceAdd, Int.reduceEq, Int.reduceNe, Int.reduceLT, Int.reduceLE, Int.reduceAdd, Int.reduceSub, Int.reduceMul, Int.reduceNeg, Nat.reduceMul, List.getElem?_cons_zero, List.getElem?_cons_succ, hlt, e71, e73, e75, none13, hb77, el', e80]
    exact ej
  refine ⟨h', c6 step2 rfl rfl g ?_ (by simp)⟩
  simp only [t6_0, e15, W, decide_eq_true_eq, Bool.not_eq_true', decide_eq_false_iff_not, Bool.false_eq_true, Bool.not_true, Bool.not_false, decide_true, decide_false, not_true_eq_false, not_false_eq_true, and_true, true_and, and_false, false_and, ne_eq, Nat.zero_add, Nat.add_zero, cond_true, cond_false, ↓reduceIte, reduceCtorEq, Nat.reduceAdd, Int.reduceEq, Int.reduceNe, Int.reduceLT, Int.reduceLE, Int.reduceAdd, Int.reduceSub, Int.reduceMul, Int.reduceNeg, Nat.reduceMul, List.getElem?_cons_zero, List.getElem?_cons_succ, List.getElem?_cons_zero, List.getElem?_cons_succ, e7, e8, e16, ld12, e14, e15']
  exact hr1 _ (by simp) (hr2 _ (by simp) e6)

end Go.Proofs.YtblgpcijbdbeiaaDoor

namespace Go.Proofs.YtblgpcijbdbeiaaDoor
open Go I
set_option maxRecDepth 100000
set_option linter.unusedVariables false
set_option linter.unusedSimpArgs false

theorem closN : closT Tryd.prog [43, 52, 9, 3] = true := by kernel_rfl
theorem utS : Tryd.prog.underlying 43 = some (.slice 52) := by kernel_rfl
theorem ut52 : ∃ fs : Array Field, Tryd.prog.underlying 52 = some (.struct fs) ∧ (fs.toList.map fun f => (f.offset, f.type)) = [(0, 9), (1, 3)] := ⟨_, rfl, by kernel_rfl⟩
theorem ce52 : Tryd.prog.cellsOf 52 = 2 := by kernel_rfl
theorem ceS : Tryd.prog.cellsOf 43 = 1 := by kernel_rfl
variable {Q : Type} {h : H}
theorem DR_name {d : DataW Q} {xs : List IV} (r : DR Tryd.prog h 52 d xs) : ∃ x, Rm x xs := by
  obtain ⟨fs0, hu, hfs⟩ := ut52
  generalize ht : (52 : TypeId) = t at r
  rw [ht] at hu
  cases r with
  | bool u => rw [hu] at u; cases u
  | int u => rw [hu] at u; cases u
  | str u => rw [hu] at u; cases u
  | nil u => rw [hu] at u; cases u
  | slice u => rw [hu] at u; cases u
  | struct u hl hp hd =>
    rename_i fs parts xss
    rw [hu] at u
    have he : fs0 = fs := by injection u with u; injection u
    subst he
    have hlen : fs0.size = 2 := by
      have := congrArg List.length hfs
      simpa using this
    rw [hlen] at hl hp
    obtain ⟨x0, x1, rfl⟩ : ∃ a b, xss = [a, b] := by
      match xss, hl with
      | [a, b], _ => exact ⟨a, b, rfl⟩
    obtain ⟨d0, d1, rfl⟩ : ∃ a b, parts = [a, b] := by
      match parts, hp with
      | [a, b], _ => exact ⟨a, b, rfl⟩
    have hf : ∀ (i : Nat) (o : Nat) (t : TypeId), ([(0, 9), (1, 3)] : List (Nat × TypeId))[i]? = some (o, t) → ∃ f : Field, fs0[i]? = some f ∧ f.type = t := by
      intro i o t hi
      rw [← hfs, List.getElem?_map] at hi
      cases hg : fs0.toList[i]? with
      | none => rw [hg] at hi; cases hi
      | some f =>
        rw [hg] at hi
        injection hi with hi
        injection hi with _ hi
        exact ⟨f, by rw [← Array.getElem?_toList]; exact hg, hi⟩
    obtain ⟨f0, a0, b0⟩ := hf 0 0 9 rfl
    obtain ⟨f1, a1, b1⟩ := hf 1 1 3 rfl
    obtain ⟨nm, rfl⟩ := DR_str (b0 ▸ hd 0 f0 d0 x0 a0 rfl rfl)
    obtain ⟨n, rfl⟩ := DR_int (b1 ▸ hd 1 f1 d1 x1 a1 rfl rfl)
    exact ⟨(nm, n), rfl⟩
theorem bulkAll_len : ∀ (ds : List (DataW Q)), ds.length ≤ Rows.uptoBulkAll ds
  | [] => by simp
  | d :: ds => by
    have := bulk_pos d
    have := bulkAll_len ds
    simp only [Rows.uptoBulkAll, List.length_cons]; omega
theorem DR_names {d : DataW Q} {x : IV} (r : DR Tryd.prog h 43 d [x]) : ∃ l : Sc, LR h 2 Rm l x ∧ l.length ≤ Rows.uptoBulk d := by
  have hu := utS
  generalize ht : (43 : TypeId) = t at r
  rw [ht] at hu
  generalize hxs : [x] = xs at r
  cases r with
  | bool u => rw [hu] at u; cases u
  | int u => rw [hu] at u; cases u
  | str u => rw [hu] at u; cases u
  | struct u => rw [hu] at u; cases u
  | nil u =>
    injection hxs with hx _; subst hx
    exact ⟨[], .inl ⟨rfl, .inl rfl⟩, by simp⟩
  | slice u gl gm hw hc gd =>
    rename_i e' b elems rest css
    rw [hu] at u
    have he : 52 = e' := by injection u with u; injection u
    subst he
    injection hxs with hx _; subst hx
    rw [ce52] at hw ⊢
    have key : ∀ (ds : List (DataW Q)) (cs : List (List IV)), cs.length = ds.length → (∀ c ∈ cs, c.length = 2) → (∀ (i : Nat) (d : DataW Q) (c : List IV), ds[i]? = some d → cs[i]? = some c → DR Tryd.prog h 52 d c) →
        ∃ l : Sc, l.length = ds.length ∧ Ch Rm 2 l cs.flatten := by
      intro ds
      induction ds with
      | nil =>
        intro cs hl _ _
        have : cs = [] := List.eq_nil_of_length_eq_zero (by simpa using hl)
        subst this
        exact ⟨[], rfl, by simp [Ch]⟩
      | cons d ds ih2 =>
        intro cs hl hw hd
        cases cs with
        | nil => simp at hl
        | cons c cs =>
          obtain ⟨l, q1, q2⟩ := ih2 cs (by simpa using hl) (fun c hc => hw c (List.mem_cons_of_mem _ hc)) (fun i d c hd' hc' => hd (i + 1) d c hd' hc')
          obtain ⟨e, p1⟩ := DR_name (hd 0 d c rfl rfl)
          refine ⟨e :: l, by simp [q1], ?_⟩
          rw [List.flatten_cons]
          exact ⟨c, _, rfl, hw c (List.mem_cons_self ..), p1, q2⟩
    obtain ⟨l, q1, q2⟩ := key elems css gl hw gd
    have hb := bulkAll_len elems
    refine ⟨l, ?_, by simp only [Rows.uptoBulk]; omega⟩
    rcases Nat.eq_zero_or_pos elems.length with h0 | h0
    · rw [h0] at q1 ⊢
      exact .inl ⟨List.eq_nil_of_length_eq_zero q1, .inr ⟨b, 0, rfl⟩⟩
    · have hne : elems ≠ [] := by rintro rfl; simp at h0
      have hfl := q2.len
      refine .inr ⟨b, 0, css.flatten, by rw [q1], ⟨false, hc hne⟩, by rw [hfl]; omega, ?_⟩
      rw [List.drop_zero, ← hfl, List.take_length]
      exact q2

end Go.Proofs.YtblgpcijbdbeiaaDoor
