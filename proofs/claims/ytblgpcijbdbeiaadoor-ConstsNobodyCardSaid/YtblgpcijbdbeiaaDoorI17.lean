/- The ideal machine: whatever the order that is drawn, the end is the evaluator's. -/
import Derived.Test.YtblgpcijbdbeiaaDoorI16
namespace Go.Proofs.YtblgpcijbdbeiaaDoor.I
open Go
set_option linter.unusedVariables false
set_option linter.unusedSimpArgs false

/-! ### memory that lies in the world, and not yet in the ideal memory -/
/-- one outlook gives way to an elder one -/
structure Wk (w₀ : World) (S : Sc) (w₁ : World) (S₁ : Sc) : Prop where
  size : w₀.heap.size ≤ w₁.heap.size
  keep : ∀ k, k < w₀.heap.size → ¬ S.wr k → ¬ S₁.wr k ∧ w₁.heap[k]? = w₀.heap[k]?
  wr : ∀ k, S₁.wr k → S.wr k ∨ w₀.heap.size ≤ k
  vis : ∀ k, S₁.vis k → S.vis k ∨ w₀.heap.size ≤ k
  os : w₁.os = w₀.os
  tape : w₁.tape = w₀.tape
  output : w₁.output = w₀.output
theorem Wk.refl (w₀ : World) (S : Sc) : Wk w₀ S w₀ S := ⟨Nat.le_refl _, fun _ _ h => ⟨h, rfl⟩, fun _ h => .inl h, fun _ h => .inl h, rfl, rfl, rfl⟩
theorem Wk.rel {w₀ w₁ : World} {S S₁ : Sc} (k : Wk w₀ S w₁ S₁) {μ : Mu} {h : H} {w : World} (r : Rel w₁ S₁ μ h w) : Rel w₀ S μ h w :=
  { obj := fun b o hb => by
      obtain ⟨blk, base, lim, h1, h2, h3⟩ := r.obj b o hb
      refine ⟨blk, base, lim, h1, h2, fun hrw => ?_⟩
      rcases h3 hrw with h | h
      · exact k.wr _ h
      · exact .inr (Nat.le_trans k.size h)
    sep := r.sep, lt := r.lt, new := r.new
    vis := fun b x hx => by
      rcases r.vis b x hx with h | h
      · exact k.vis _ h
      · exact .inr (Nat.le_trans k.size h)
    keep := fun j hj hs => by
      obtain ⟨h1, h2⟩ := k.keep j hj hs
      rw [r.keep j (Nat.lt_of_lt_of_le hj k.size) h1, h2]
    size := Nat.le_trans k.size r.size
    os := r.os.trans k.os, tape := r.tape.trans k.tape, output := r.output.trans k.output }

def Sc.less (S : Sc) (n b : Nat) : Sc := ⟨fun k => (S.wr k ∨ n ≤ k) ∧ k ≠ b, fun k => (S.vis k ∨ n ≤ k) ∧ k ≠ b⟩
def Sc.more (S : Sc) (b : Nat) : Sc := ⟨fun k => S.wr k ∨ k = b, fun k => S.vis k ∨ k = b⟩

/-- a block that the ideal memory does not know of yet -/
theorem Rel.pend {w₁ : World} {S₁ : Sc} {μ : Mu} {h : H} {w : World} (r : Rel w₁ S₁ μ h w) (g : _root_.Go.Obj) :
    Rel { w with heap := w.heap.push g } (S₁.less w₁.heap.size w.heap.size) μ h { w with heap := w.heap.push g } := by
  have hsame : ∀ k, k < w.heap.size → (w.heap.push g)[k]? = w.heap[k]? := fun k hk => by rw [Array.getElem?_push, if_neg (by omega)]
  refine { obj := ?_, sep := r.sep, lt := ?_, new := r.new, vis := ?_, keep := fun _ _ _ => rfl, size := Nat.le_refl _, os := rfl, tape := rfl, output := rfl }
  · intro b o hb
    obtain ⟨blk, base, lim, h1, h2, h3⟩ := r.obj b o hb
    have hlt := r.lt _ _ h1
    refine ⟨blk, base, lim, h1, OR.same (w := w) (hsame _ hlt) h2, fun hrw => .inl ⟨h3 hrw, ?_⟩⟩
    simp only at hlt; omega
  · intro b x hx
    have := r.lt _ _ hx
    simp only [Array.size_push]; omega
  · intro b x hx
    have := r.lt _ _ hx
    exact .inl ⟨r.vis _ _ hx, by omega⟩
theorem Wk.pend {w₀ w₁ : World} {S S₁ : Sc} (k : Wk w₀ S w₁ S₁) {μ : Mu} {h : H} {w : World} (r : Rel w₁ S₁ μ h w) (g : _root_.Go.Obj) :
    Wk w₀ S { w with heap := w.heap.push g } (S₁.less w₁.heap.size w.heap.size) := by
  have hsize := r.size
  refine ⟨?_, ?_, ?_, ?_, r.os.trans k.os, r.tape.trans k.tape, r.output.trans k.output⟩
  · have := k.size; simp only [Array.size_push]; omega
  · intro j hj hs
    obtain ⟨h1, h2⟩ := k.keep j hj hs
    have hk := k.size
    refine ⟨fun hh => ?_, ?_⟩
    · rcases hh.1 with h | h
      · exact h1 h
      · omega
    · simp only
      rw [Array.getElem?_push, if_neg (by omega), r.keep j (by omega) h1, h2]
  · intro j hj
    rcases hj.1 with h | h
    · exact k.wr j h
    · exact .inr (Nat.le_trans k.size h)
  · intro j hj
    rcases hj.1 with h | h
    · exact k.vis j h
    · exact .inr (Nat.le_trans k.size h)
/-- the ideal memory comes to know of it -/
theorem Rel.absorb {w₁ : World} {S₁ : Sc} {μ : Mu} {h : H} {w : World} (r : Rel w₁ S₁ μ h w) {b : Nat} {xs : List IV} {c : Array Value} {t : TypeId} (hb : b < w₁.heap.size) (hnw : ¬ S₁.wr b) (hnv : ¬ S₁.vis b)
    (hg : w₁.heap[b]? = some (.cells c t)) (hs : allScalar xs = true) (hx : ∀ ν, VRs ν xs c.toList) :
    Rel w₁ (S₁.more b) (μ.push h.next (b, 0, c.size)) (h.push (.cells true false xs.length (setList .leaf 0 xs))) w := by
  have hn := r.new h.next (Nat.le_refl _)
  have hle := Mu.le_push (x := (b, 0, c.size)) hn
  have hw : w.heap[b]? = some (.cells c t) := by rw [r.keep b hb hnw, hg]
  have hne : ∀ d x, μ d = some x → x.1 ≠ b := fun d x hd => by
    rcases r.vis d x hd with h | h
    · intro e; rw [e] at h; exact hnv h
    · omega
  have hsz := r.size
  refine { obj := ?_, sep := ?_, lt := ?_, new := ?_, vis := ?_, keep := ?_, size := r.size, os := r.os, tape := r.tape, output := r.output }
  · intro d o hd
    rw [H.get_push] at hd
    by_cases e : d = h.next
    · subst e
      rw [if_pos rfl] at hd; injection hd with hd; subst hd
      refine ⟨_, _, _, Mu.push_same _ _ _, ?_, fun _ => .inl (.inr rfl)⟩
      have hlen := (hx (μ.push h.next (b, 0, c.size))).length
      refine ⟨by simp at hlen ⊢; omega, fun i x hi hgx => ?_, fun _ => ⟨rfl, c, t, (0, 0), hw, rfl, fun _ => rfl, fun j _ => by simp⟩⟩
      rw [get_setList_leaf] at hgx
      obtain ⟨u, hu, hr⟩ := (hx (μ.push h.next (b, 0, c.size))).get _ _ hgx
      refine ⟨allScalar_get hs hgx, u, ?_, hr⟩
      simp only [World.cell?, hw, Nat.zero_add]
      have : c[i]? = some u := by rw [← Array.getElem?_toList]; exact hu
      simp [this]
    · rw [if_neg e] at hd
      obtain ⟨blk, base, lim, h1, h2, h3⟩ := r.obj d o hd
      exact ⟨blk, base, lim, hle _ _ h1, h2.mono hle, fun hrw => (h3 hrw).imp .inl id⟩
  · intro d e p q x y hde hd he hrw hxx hyy
    rw [H.get_push] at hd he
    simp only [Mu.push] at hxx hyy
    by_cases e1 : d = h.next
    · subst e1
      rw [if_pos rfl] at hxx; injection hxx with hxx; subst hxx
      rw [if_neg (Ne.symm hde)] at hyy
      exact (hne _ _ hyy).symm
    · by_cases e2 : e = h.next
      · subst e2
        rw [if_pos rfl] at hyy; injection hyy with hyy; subst hyy
        rw [if_neg hde] at hxx
        exact hne _ _ hxx
      · rw [if_neg e1] at hd hxx
        rw [if_neg e2] at he hyy
        exact r.sep d e p q x y hde hd he hrw hxx hyy
  · intro d x hd
    simp only [Mu.push] at hd
    by_cases e : d = h.next
    · rw [if_pos e] at hd; injection hd with hd; subst hd; exact Nat.lt_of_lt_of_le hb hsz
    · rw [if_neg e] at hd; exact r.lt _ _ hd
  · intro d hd
    simp only [H.push] at hd
    simp only [Mu.push]
    rw [if_neg (by omega)]
    exact r.new d (by omega)
  · intro d x hd
    simp only [Mu.push] at hd
    by_cases e : d = h.next
    · rw [if_pos e] at hd; injection hd with hd; subst hd; exact .inl (.inr rfl)
    · rw [if_neg e] at hd; exact (r.vis _ _ hd).imp .inl id
  · intro j hj hn
    exact r.keep j hj fun h => hn (.inl h)
theorem Wk.absorb {w₀ w₁ : World} {S S₁ : Sc} (k : Wk w₀ S w₁ S₁) {b : Nat} (hb : w₀.heap.size ≤ b) : Wk w₀ S w₁ (S₁.more b) := by
  refine ⟨k.size, ?_, ?_, ?_, k.os, k.tape, k.output⟩
  · intro j hj hs
    obtain ⟨h1, h2⟩ := k.keep j hj hs
    refine ⟨fun hh => ?_, h2⟩
    rcases hh with h | h
    · exact h1 h
    · omega
  · intro j hj
    rcases hj with h | h
    · exact k.wr j h
    · exact .inr (by omega)
  · intro j hj
    rcases hj with h | h
    · exact k.vis j h
    · exact .inr (by omega)

end Go.Proofs.YtblgpcijbdbeiaaDoor.I
