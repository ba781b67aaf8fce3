/- SemaWays: whatever the input, the law returns true. -/
import Derived.Test.YtgmajopnflfcdaaM7
import Derived.Test.YtgmajopnflfcdaaM8
import Derived.Test.YtgmajopnflfcdaaM9
import Derived.Test.YtgmajopnflfcdaaM10
import Derived.Test.YtgmajopnflfcdaaM1
import Derived.Test.YtgmajopnflfcdaaRows
import Derived.ProofKit
import Derived.OpenShut
import Derived.LaidMore
import Derived.Lay
import Derived.SevenTiedAt
import Derived.Stop.Joined
namespace Go.Proofs.Ytgmajopnflfcdaa
open Go I
set_option maxRecDepth 100000

theorem wa1 : ∀ k : Nat, k ≤ 1 → run6 1 (k : Nat) = some (.bool true)
  | 0, _ => w1_0
  | 1, _ => w1_1
  | k + 2, h => absurd h (by omega)
theorem wa2 : ∀ k : Nat, k ≤ 2 → run6 2 (k : Nat) = some (.bool true)
  | 0, _ => w2_0
  | 1, _ => w2_1
  | 2, _ => w2_2
  | k + 3, h => absurd h (by omega)
theorem wa3 : ∀ k : Nat, k ≤ 3 → run6 3 (k : Nat) = some (.bool true)
  | 0, _ => w3_0
  | 1, _ => w3_1
  | 2, _ => w3_2
  | 3, _ => w3_3
  | k + 4, h => absurd h (by omega)
theorem wa4 : ∀ k : Nat, k ≤ 4 → run6 4 (k : Nat) = some (.bool true)
  | 0, _ => w4_0
  | 1, _ => w4_1
  | 2, _ => w4_2
  | 3, _ => w4_3
  | 4, _ => w4_4
  | k + 5, h => absurd h (by omega)
theorem wa5 : ∀ k : Nat, k ≤ 5 → run6 5 (k : Nat) = some (.bool true)
  | 0, _ => w5_0
  | 1, _ => w5_1
  | 2, _ => w5_2
  | 3, _ => w5_3
  | 4, _ => w5_4
  | 5, _ => w5_5
  | k + 6, h => absurd h (by omega)
theorem wa6 : ∀ k : Nat, k ≤ 6 → run6 6 (k : Nat) = some (.bool true)
  | 0, _ => w6_0
  | 1, _ => w6_1
  | 2, _ => w6_2
  | 3, _ => w6_3
  | 4, _ => w6_4
  | 5, _ => w6_5
  | 6, _ => w6_6
  | k + 7, h => absurd h (by omega)
theorem wa7 : ∀ k : Nat, k ≤ 7 → run6 7 (k : Nat) = some (.bool true)
  | 0, _ => w7_0
  | 1, _ => w7_1
  | 2, _ => w7_2
  | 3, _ => w7_3
  | 4, _ => w7_4
  | 5, _ => w7_5
  | 6, _ => w7_6
  | 7, _ => w7_7
  | k + 8, h => absurd h (by omega)
theorem wa8 : ∀ k : Nat, k ≤ 8 → run6 8 (k : Nat) = some (.bool true)
  | 0, _ => w8_0
  | 1, _ => w8_1
  | 2, _ => w8_2
  | 3, _ => w8_3
  | 4, _ => w8_4
  | 5, _ => w8_5
  | 6, _ => w8_6
  | 7, _ => w8_7
  | 8, _ => w8_8
  | k + 9, h => absurd h (by omega)
theorem wa9 : ∀ k : Nat, k ≤ 9 → run6 9 (k : Nat) = some (.bool true)
  | 0, _ => w9_0
  | 1, _ => w9_1
  | 2, _ => w9_2
  | 3, _ => w9_3
  | 4, _ => w9_4
  | 5, _ => w9_5
  | 6, _ => w9_6
  | 7, _ => w9_7
  | 8, _ => w9_8
  | 9, _ => w9_9
  | k + 10, h => absurd h (by omega)
theorem wa10 : ∀ k : Nat, k ≤ 10 → run6 10 (k : Nat) = some (.bool true)
  | 0, _ => w10_0
  | 1, _ => w10_1
  | 2, _ => w10_2
  | 3, _ => w10_3
  | 4, _ => w10_4
  | 5, _ => w10_5
  | 6, _ => w10_6
  | 7, _ => w10_7
  | 8, _ => w10_8
  | 9, _ => w10_9
  | 10, _ => w10_10
  | k + 11, h => absurd h (by omega)
theorem wa11 : ∀ k : Nat, k ≤ 11 → run6 11 (k : Nat) = some (.bool true)
  | 0, _ => w11_0
  | 1, _ => w11_1
  | 2, _ => w11_2
  | 3, _ => w11_3
  | 4, _ => w11_4
  | 5, _ => w11_5
  | 6, _ => w11_6
  | 7, _ => w11_7
  | 8, _ => w11_8
  | 9, _ => w11_9
  | 10, _ => w11_10
  | 11, _ => w11_11
  | k + 12, h => absurd h (by omega)
theorem wa12 : ∀ k : Nat, k ≤ 12 → run6 12 (k : Nat) = some (.bool true)
  | 0, _ => w12_0
  | 1, _ => w12_1
  | 2, _ => w12_2
  | 3, _ => w12_3
  | 4, _ => w12_4
  | 5, _ => w12_5
  | 6, _ => w12_6
  | 7, _ => w12_7
  | 8, _ => w12_8
  | 9, _ => w12_9
  | 10, _ => w12_10
  | 11, _ => w12_11
  | 12, _ => w12_12
  | k + 13, h => absurd h (by omega)
theorem wa13 : ∀ k : Nat, k ≤ 13 → run6 13 (k : Nat) = some (.bool true)
  | 0, _ => w13_0
  | 1, _ => w13_1
  | 2, _ => w13_2
  | 3, _ => w13_3
  | 4, _ => w13_4
  | 5, _ => w13_5
  | 6, _ => w13_6
  | 7, _ => w13_7
  | 8, _ => w13_8
  | 9, _ => w13_9
  | 10, _ => w13_10
  | 11, _ => w13_11
  | 12, _ => w13_12
  | 13, _ => w13_13
  | k + 14, h => absurd h (by omega)
theorem wa14 : ∀ k : Nat, k ≤ 14 → run6 14 (k : Nat) = some (.bool true)
  | 0, _ => w14_0
  | 1, _ => w14_1
  | 2, _ => w14_2
  | 3, _ => w14_3
  | 4, _ => w14_4
  | 5, _ => w14_5
  | 6, _ => w14_6
  | 7, _ => w14_7
  | 8, _ => w14_8
  | 9, _ => w14_9
  | 10, _ => w14_10
  | 11, _ => w14_11
  | 12, _ => w14_12
  | 13, _ => w14_13
  | 14, _ => w14_14
  | k + 15, h => absurd h (by omega)
theorem all6 : ∀ n k : Nat, 1 ≤ n → n ≤ 14 → k ≤ n → run6 (n : Nat) (k : Nat) = some (.bool true)
  | 0, k, h, _, _ => absurd h (by omega)
  | 1, k, _, _, h => wa1 k h
  | 2, k, _, _, h => wa2 k h
  | 3, k, _, _, h => wa3 k h
  | 4, k, _, _, h => wa4 k h
  | 5, k, _, _, h => wa5 k h
  | 6, k, _, _, h => wa6 k h
  | 7, k, _, _, h => wa7 k h
  | 8, k, _, _, h => wa8 k h
  | 9, k, _, _, h => wa9 k h
  | 10, k, _, _, h => wa10 k h
  | 11, k, _, _, h => wa11 k h
  | 12, k, _, _, h => wa12 k h
  | 13, k, _, _, h => wa13 k h
  | 14, k, _, _, h => wa14 k h
  | n + 15, k, _, h, _ => absurd h (by omega)

end Go.Proofs.Ytgmajopnflfcdaa

namespace Go.Proofs.Ytgmajopnflfcdaa
open Go Go.ChangeShapes Go.WideShapes Go.ChangeAt Go.RowKit
open Go.ChangeMaps (open_string shut_string)
open I (Str H IV CRes pack VRs VR sv H0 calls_of Rel)

theorem sv_pack_str (b : ByteArray) : (⟨b.data.toList.length, I.packL b.data.toList⟩ : Str) = pack b := by unfold pack; congr 1
theorem run_calls (n0 : Int) (n1 : Int)  (w : World) : Calls Try.prog 6 #[.int .i64 n0, .int .i64 n1] w fun e w' => e = .returned (.bool true) ∧ Below w.heap.size w w' := by
  obtain ⟨h', e⟩ := (ways6 all6) n0 n1
  refine (calls_of sound1 noNum (Rel.empty w true) Try.func6 rfl (args := [.int .i64 n0, .int .i64 n1]) (cargs := #[.int .i64 n0, .int .i64 n1]) (by exact ⟨_, _, rfl, rfl, ⟨_, _, rfl, rfl, rfl⟩⟩) e).mono ?_
  rintro x w' ⟨cv, ν, rfl, _, hr, hv⟩
  exact ⟨by rw [show cv = .bool true from hv], hr.isBelow fun _ => id⟩
theorem ownKnobs : ownKnob Try.prog.godebug = none := by kernel_rfl

set_option maxRecDepth 100000 in
theorem lifted (os : Os) (started : os.Started) (H : Type) (enc : TypeId × Value → H) :
    ReturnsInHanded {} Try.checked os 6 .any (Rows.semaWaysSpec.pre6 enc Try.prog Try.f6 Rows.semaWaysRow.domain false)
      (Rows.semaWaysSpec.post enc Try.prog Try.f6 false true false false) := by
  refine returnsInHanded_of_change (C := Try.checked) ownKnobs started (by kernel_rfl) Try.func6 ?_ ?_
  · obtain ⟨w, tape, i, h1, h2, h3, h4, h5, h6⟩ := ChangeSpec.witness_shaped (enc := enc) (C := Try.checked) (f := 6) (fn := Try.f6) (s := Rows.semaWaysSpec) (conds := Rows.semaWaysRow.domain) (apart := false) (os := os) (X := fun _ _ => True) false (World.laidAll Try.prog os []) #[.int .i64 0, .int .i64 0] 8 (World.laidAll_os _ _ _)
      (World.shaped_of_ZipB (by kernel_rfl) (by kernel_rfl)) (by kernel_rfl) (by kernel_rfl) (by kernel_rfl) trivial
    exact ⟨w, tape, i, h1, h2, h3, h4, ⟨h5.1.1, h5.2⟩, h6⟩
  intro W base args ds gs before hval0 hW hc _
  have hval : ∀ (j : Nat) t v, Try.f6.params[j]? = some t → args[j]? = some v → Value.okWide Try.prog W .any base t v := hval0
  have hW' := hW
  obtain ⟨p, q, hA0, hV, rfl, hfz, hnd⟩ := hW
  have hA : DataW.TrodAll enc Try.prog W 0 (fun _ => true) true Try.f6.params.toList args.toList ds p := hA0
  rw [Try.params6] at hA hval
  obtain ⟨v0, v1, d0, d1, p0, p1, rfl, rfl, rfl, h0, h1⟩ := trodAll_two hA
  obtain ⟨rfl, rfl⟩ := trodVars_none hV
  obtain ⟨n0, rfl, rfl, rfl, w0⟩ := open_int Try.underlying3 (hval 0 3 v0 rfl rfl) h0
  obtain ⟨n1, rfl, rfl, rfl, w1⟩ := open_int Try.underlying3 (hval 1 3 v1 rfl rfl) h1
  simp only [List.append_nil] at hW'
  refine (run_calls n0 n1 W).mono fun e W' ⟨he, hw⟩ => ?_
  subst he
  exact ⟨_, rfl, I.post_of_below (pa := []) (pv := []) hW' (fun _ _ _ => trodAll_mk1 (shut_bool Try.underlying4 _)) (fun sp _ => trodAll_mk2 (shut_int Try.underlying3 w0) (shut_int Try.underlying3 w1)) (fun _ _ => rfl) rfl
    hw⟩

theorem said_holds : Rows.SemaWaysSaid :=
  OpenClaim.holds_of_wide 6 Try.f6 rfl rfl rfl rfl rfl rfl rfl ⟨rfl, rfl, rfl, rfl, rfl⟩ rfl rfl rfl rfl rfl (by kernel_rfl) Try.func6 (by kernel_rfl)
    (of_decide_eq_true (by kernel_rfl)) (by unfold Func.isWrapper; first | (rw [if_pos (by decide +kernel)]; kernel_rfl) | (rw [if_neg (by decide +kernel)]; exact ⟨rfl, rfl⟩))
    (fun os started H enc _ => lifted os started H enc)
#print axioms said_holds
end Go.Proofs.Ytgmajopnflfcdaa
