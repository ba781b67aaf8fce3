import Derived.Test.YtelhoddamlkfhaaGreatDoorM4
import Derived.Test.YtelhoddamlkfhaaGreatDoorM3
import Derived.Shelf.Strings.Search2
import Derived.Test.YtelhoddamlkfhaaGreatDoorM5
import Derived.Test.YtelhoddamlkfhaaGreatDoorRows
set_option maxRecDepth 100000
set_option linter.unusedVariables false
set_option linter.unusedSimpArgs false
namespace Go.Proofs.YtelhoddamlkfhaaGreatDoor
open Go I
open Go.RowKit (Below)
abbrev gMax : Nat := lay219_ren.g 1
structure EP (w : World) (S : Sc) : Prop where
  max : ∃ m, w.cell? ⟨gMax, 0, none⟩ = some (.int .i64 m)
  n1 : ¬ S.wr gMax
theorem cell_keep {w w' : World} {k : Nat} {v : Value} (hc : w.cell? ⟨k, 0, none⟩ = some v) (h : k < w.heap.size → w'.heap[k]? = w.heap[k]?) : w'.cell? ⟨k, 0, none⟩ = some v := by
  have hk : k < w.heap.size := by
    rcases Nat.lt_or_ge k w.heap.size with h | h
    · exact h
    · simp only [World.cell?, Array.getElem?_eq_none h] at hc; cases hc
  rw [← hc]
  simp only [World.cell?, h hk]
theorem envK : EnvK EP := by
  rintro w₀ S w₁ S₁ k ⟨⟨m, h1⟩, n1⟩
  have lt : gMax < w₀.heap.size := by
    rcases Nat.lt_or_ge gMax w₀.heap.size with h | h
    · exact h
    · simp only [World.cell?, Array.getElem?_eq_none h] at h1; cases h1
  exact ⟨⟨m, cell_keep h1 fun hk => (k.keep _ hk n1).2⟩, (k.keep _ lt n1).1⟩
def idxF (a b : Bs) : Option IV := if a.length < 4294967281 then some (.int .i64 (Lib.index a b)) else none
theorem idx_S (w₀ : World) (S : Sc) (es : EP w₀ S) (args : List IV) (h : H) (μ : Mu) (w : World) (cargs : Array Value) (r : Rel w₀ S μ h w) (hv : VRs μ args cargs.toList) : CallR Tryz.prog w₀ S μ 161 cargs w (pureF (fn2 dS dS idxF) args h) := by
  refine pureF_C noNum Tryz.func161 rfl (fun args v e => ?_) (fun args v w cargs e k hv => ?_) args h μ w cargs r hv
  · obtain ⟨l, n, rfl, e2⟩ := fn2_inv e
    unfold idxF at e2
    split at e2
    · injection e2 with e2; subst e2; exact ⟨rfl, rfl⟩
    · cases e2
  · obtain ⟨l, n, rfl, e2⟩ := fn2_inv e
    unfold idxF at e2
    split at e2
    · rename_i hc
      injection e2 with e2; subst e2
      obtain ⟨v1, vs, e1, q1, v2, vs2, rfl, q2, q3⟩ := hv
      simp only [VRs] at q3; subst q3
      obtain ⟨b, rfl, rfl⟩ := VR_sv q1
      obtain ⟨c, rfl, rfl⟩ := VR_sv q2
      obtain rfl : cargs = #[.string b, .string c] := Array.toList_inj.1 e1
      have hb : b.data.toList.length = b.size := by rw [Array.length_toList]; rfl
      obtain ⟨m, hm⟩ := (envK _ _ _ _ k es).max
      refine (Any.stringslite_Index { lay219 with } b c m w (by omega) hm).mono ?_
      rintro e w' ⟨rfl, rfl⟩
      exact ⟨_, rfl, rfl, Below.refl _ _⟩
    · cases e2
def pol (f : FuncId) : Bool := true
noncomputable def tab0 : Tab := (((Tab.none pol).add 193 indexByteI).add 157 noEscapeI).add 161 (pureF (fn2 dS dS idxF))
theorem good0 : GoodT Tryz.prog EP tab0 :=
  (((GoodT.none pol).put (fun w₀ S _ args h μ w cargs r hv => indexByte_S Tryz.func193 (by kernel_rfl) (by kernel_rfl) (by kernel_rfl) (by kernel_rfl) args h μ w cargs r hv) indexByteI_step).put
    (fun w₀ S _ args h μ w cargs r hv => noEscape_S Tryz.func157 (by kernel_rfl) (by kernel_rfl) (by kernel_rfl) (by kernel_rfl) args h μ w cargs r hv) noEscapeI_step).put
    (fun w₀ S => idx_S w₀ S) (pureF_step _)
theorem mixed : Tryz.prog.follows .mixedOrders = true := Tryz.checked.mixed
theorem gd0 : Gd H0 := ⟨fun b _ => rfl, rfl⟩
theorem no0 : ∀ f, tabB f = false → tab0.ov f = none := by
  intro f h
  simp only [tabB, List.any_cons, List.any_nil, Bool.or_false, Bool.or_eq_false_iff] at h
  simp only [tab0, Tab.add, Tab.none, h, cond_false]
theorem awake_run : (CN tab0 60 12 [] H0).val = some (.bool true) := by kernel_rfl
theorem tAwake : PureT Tryz.prog (CL tab0) 12 (fn0 (.bool true)) := pure0 Tryz.func12 rfl rfl (CN_val no0 awake_run)
noncomputable def tab1 : Tab := tab0.add 12 (pureF (fn0 (.bool true)))
theorem good1 : GoodT Tryz.prog EP tab1 := good0.also envK mixed noNum good0 tAwake
theorem no1 : ∀ f, tabB f = false → tab1.ov f = none := by
  intro f h
  simp only [tabB, List.any_cons, List.any_nil, Bool.or_false, Bool.or_eq_false_iff] at h
  simp only [tab1, tab0, Tab.add, Tab.none, h, cond_false]
noncomputable def runB (p q : Int) (s : Bool) : Option IV := (t7_0 (CN tab1 60) (recN (b7 (CN tab1 60)) 1000000) (.int .i64 p) (.int .i64 q) (.bool s) H0).val
theorem of_runB {p q : Int} {s : Bool} (e : runB p q s = some (.bool true)) : ∃ h', t7_0 (CL tab1) (J7 tab1) (.int .i64 p) (.int .i64 q) (.bool s) H0 = .ok (.bool true) h' := by
  obtain ⟨h', e'⟩ := CRes.of_val e
  refine ⟨h', ?_⟩
  have := (m7 (CN_le no1 60) (r7 (CN_le no1 60) 1000000)).1 (.int .i64 p) (.int .i64 q) (.bool s) H0 (by rw [e']; simp)
  rw [e'] at this; exact this
theorem mask16 (q : Int) : binN .and (.int .i64 q) (.int .i64 65535) = some (.int .i64 (q % 65536)) := by
  rw [binN_and]
  have e : (BitVec.ofInt 64 q &&& BitVec.ofInt 64 65535).toNat = (q % 65536).toNat := by
    rw [BitVec.toNat_and]
    have h7 : (BitVec.ofInt 64 65535).toNat = 2 ^ 16 - 1 := by decide
    rw [h7, Nat.and_two_pow_sub_one_eq_mod]
    rw [BitVec.toNat_ofInt]
    omega
  show some (IV.int .i64 (IntKind.i64.wrap (BitVec.ofInt 64 q &&& BitVec.ofInt 64 65535).toNat)) = _
  rw [e]
  have : 0 ≤ q % 65536 ∧ q % 65536 < 65536 := by omega
  rw [← wr_eq, wr_i64] <;> congr 2 <;> omega
theorem sameB (cf : CallF) (R : Rec) (a b : Int) (s : Bool) (h : H) : t7_0 cf R (.int .i64 a) (.int .i64 b) (.bool s) h = t7_0 cf R (.int .i64 (a % 65536 % 15)) (.int .i64 (b % 65536 % 15)) (.bool s) h := by
  have h15 : (15 : Int) ≠ 0 := by omega
  have ta : ∀ a : Int, (a % 65536).tmod 15 = a % 65536 % 15 := fun a => by rw [Int.tmod_eq_emod_of_nonneg (by omega)]
  have ra : ∀ a : Int, a % 65536 % 15 % 65536 % 15 = a % 65536 % 15 := fun a => by omega
  unfold t7_0
  simp only [mask16, obind_some, binN_rem _ _ _ h15, ta, ra]
theorem brackets (hall : ∀ p q : Nat, p < 15 → q < 15 → ∀ s, runB (p : Nat) (q : Nat) s = some (.bool true)) (a b : Int) (s : Bool) : ∃ h', CL tab1 7 [.int .i64 a, .int .i64 b, .bool s] H0 = .ok (.bool true) h' := by
  obtain ⟨h', e⟩ := of_runB (hall (a % 65536 % 15).toNat (b % 65536 % 15).toNat (by omega) (by omega) s)
  have e1 : (((a % 65536 % 15).toNat : Nat) : Int) = a % 65536 % 15 := by omega
  have e2 : (((b % 65536 % 15).toNat : Nat) : Int) = b % 65536 % 15 := by omega
  rw [e1, e2] at e
  refine ⟨h', c7 good1.step rfl rfl gd0 ?_ (by simp)⟩
  rw [sameB]
  exact e
end Go.Proofs.YtelhoddamlkfhaaGreatDoor
namespace Go.Proofs.YtelhoddamlkfhaaGreatDoor
open Go
theorem ep_of {W : World} (hs : W.ShapedOpen Tryz.prog) {S : I.Sc} (hS : ∀ k, ¬ S.wr k) : EP W S := ⟨lay219.s1_3 W hs, hS _⟩
end Go.Proofs.YtelhoddamlkfhaaGreatDoor
