/- SyntaxLevels: whatever the input, the law returns true; the tied card. -/
import Derived.Test.YtomgclpeimipoaaGreatDoorM7
import Derived.Test.YtomgclpeimipoaaGreatDoorM8
import Derived.Test.YtomgclpeimipoaaGreatDoorM9
import Derived.Test.YtomgclpeimipoaaGreatDoorM10
import Derived.Test.YtomgclpeimipoaaGreatDoorM11
import Derived.Test.YtomgclpeimipoaaGreatDoorCards
import Derived.Test.YtomgclpeimipoaaGreatDoorTie
import Derived.Test.YtomgclpeimipoaaGreatDoorM1
import Derived.ProofKit
import Derived.OpenShut
import Derived.LaidMore
import Derived.Lay
import Derived.SevenTiedAt
import Derived.Stop.Joined
namespace Go.Proofs.YtomgclpeimipoaaGreatDoor
open Go I
set_option maxRecDepth 100000

theorem all5 : ∀ p q : Nat, p < 15 → q < 15 → run5 (p : Nat) (q : Nat) = some (.bool true)
  | 0, q, _, h => ra0 q h
  | 1, q, _, h => ra1 q h
  | 2, q, _, h => ra2 q h
  | 3, q, _, h => ra3 q h
  | 4, q, _, h => ra4 q h
  | 5, q, _, h => ra5 q h
  | 6, q, _, h => ra6 q h
  | 7, q, _, h => ra7 q h
  | 8, q, _, h => ra8 q h
  | 9, q, _, h => ra9 q h
  | 10, q, _, h => ra10 q h
  | 11, q, _, h => ra11 q h
  | 12, q, _, h => ra12 q h
  | 13, q, _, h => ra13 q h
  | 14, q, _, h => ra14 q h
  | p + 15, q, h, _ => absurd h (by omega)

end Go.Proofs.YtomgclpeimipoaaGreatDoor

namespace Go.Proofs.YtomgclpeimipoaaGreatDoor
open Go Go.ChangeShapes Go.WideShapes Go.ChangeAt Go.RowKit
open Go.ChangeMaps (open_string shut_string)
open I (Str H IV CRes pack VRs VR sv H0 calls_of Rel)

theorem sv_pack_str (b : ByteArray) : (⟨b.data.toList.length, I.packL b.data.toList⟩ : Str) = pack b := by unfold pack; congr 1
theorem run_calls (n0 : Int) (n1 : Int)  (w : World) : Calls Tryz.prog 5 #[.int .i64 n0, .int .i64 n1] w fun e w' => e = .returned (.bool true) ∧ Below w.heap.size w w' := by
  obtain ⟨h', e⟩ := (levels5 all5) n0 n1
  refine (calls_of sound1 noNum (Rel.empty w true) Tryz.func5 rfl (args := [.int .i64 n0, .int .i64 n1]) (cargs := #[.int .i64 n0, .int .i64 n1]) (by exact ⟨_, _, rfl, rfl, ⟨_, _, rfl, rfl, rfl⟩⟩) e).mono ?_
  rintro x w' ⟨cv, ν, rfl, _, hr, hv⟩
  exact ⟨by rw [show cv = .bool true from hv], hr.isBelow fun _ => id⟩
theorem ownKnobs : ownKnob Tryz.prog.godebug = none := by kernel_rfl

set_option maxRecDepth 100000 in
theorem lifted (os : Os) (started : os.Started) (H : Type) (enc : TypeId × Value → H) :
    ReturnsInHanded {} Tryz.checked os 5 .any (fun w args => (Rows.syntaxLevelsSpec.pre enc Tryz.prog Tryz.f5 Rows.syntaxLevelsRow.domain false w args ∧ laidMetH Tryz.prog Rows.syntaxLevelsRow.laid w) ∧ sizedMet enc Tryz.prog Tryz.f5 (OpenSpec.ofChange Rows.syntaxLevelsSpec) false w args)
      (Rows.syntaxLevelsSpec.post enc Tryz.prog Tryz.f5 false true false false) := by
  refine returnsInHanded_of_change_and (C := Tryz.checked) (X := fun w _ => laidMetH Tryz.prog Rows.syntaxLevelsRow.laid w) (fun _ _ _ hh h => h.of_heap hh) ownKnobs started (by kernel_rfl) Tryz.func5
    (ChangeSpec.witness_shaped (enc := enc) (C := Tryz.checked) (os := os) (X := fun w _ => laidMetH Tryz.prog Rows.syntaxLevelsRow.laid w) false (World.laidAll Tryz.prog os Rows.syntaxLevelsRow.laid) #[.int .i64 0, .int .i64 0] 8 (World.laidAll_os _ _ _)
      (World.shaped_of_ZipB (by kernel_rfl) (by kernel_rfl)) (by kernel_rfl) (by kernel_rfl) (by kernel_rfl)
      (by rw [MakeChecks.laidMetH_plain _ _ _ (by kernel_rfl)]; exact laidMet_laidAll _ (by kernel_rfl) (by kernel_rfl))) ?_
  intro W base args ds gs before hval0 hW hc _ hL _
  have hval : ∀ (j : Nat) t v, Tryz.f5.params[j]? = some t → args[j]? = some v → Value.okWide Tryz.prog W .any base t v := hval0
  have hW' := hW
  obtain ⟨p, q, hA0, hV, rfl, hfz, hnd⟩ := hW
  have hA : DataW.TrodAll enc Tryz.prog W 0 (fun _ => true) true Tryz.f5.params.toList args.toList ds p := hA0
  rw [Tryz.params5] at hA hval
  obtain ⟨v0, v1, d0, d1, p0, p1, rfl, rfl, rfl, h0, h1⟩ := trodAll_two hA
  obtain ⟨rfl, rfl⟩ := trodVars_none hV
  obtain ⟨n0, rfl, rfl, rfl, w0⟩ := open_int Tryz.underlying3 (hval 0 3 v0 rfl rfl) h0
  obtain ⟨n1, rfl, rfl, rfl, w1⟩ := open_int Tryz.underlying3 (hval 1 3 v1 rfl rfl) h1
  simp only [List.append_nil] at hW'
  refine (run_calls n0 n1 W).mono fun e W' ⟨he, hw⟩ => ?_
  subst he
  exact ⟨_, rfl, I.post_of_below (pa := []) (pv := []) hW' (fun _ _ _ => trodAll_mk1 (shut_bool Tryz.underlying4 _)) (fun sp _ => trodAll_mk2 (shut_int Tryz.underlying3 w0) (shut_int Tryz.underlying3 w1)) (fun _ _ => rfl) rfl
    hw⟩

theorem said_holds : Rows.SyntaxLevelsSaid :=
  OpenClaim.holds_of_wide 5 Tryz.f5 rfl rfl rfl rfl rfl rfl rfl ⟨rfl, rfl, rfl, rfl, rfl⟩ rfl rfl rfl rfl rfl (by kernel_rfl) Tryz.func5 (by kernel_rfl)
    (of_decide_eq_true (by kernel_rfl)) (by unfold Func.isWrapper; first | (rw [if_pos (by decide +kernel)]; kernel_rfl) | (rw [if_neg (by decide +kernel)]; exact ⟨rfl, rfl⟩))
    (fun os started H enc _ => lifted os started H enc)
theorem said_card : Rows.SyntaxLevelsCardSaid :=
  Claim7.holds_tied_plain_at .later [] [.data, .data, .data, .data, .sentinel, .sentinel, .pinned] true (true, "225aa3b8d3908f33ecf3d1aba164003614a879dbfe009cba89f42f7842194b44") true said_holds (fun _ h => by cases h) (by kernel_rfl) (fun _ h => by cases h) syntaxLevels_row_tie rfl ⟨rfl, rfl⟩ (by kernel_rfl) rfl
    (fun f fn hf hfn => by
      obtain rfl : f = 5 := Option.some.inj ((show Tryz.prog.funcNamed "silkworm/silkwormlaw04.SyntaxLevels" = some 5 by kernel_rfl).symm.trans hf) |>.symm
      obtain rfl : fn = Tryz.f5 := (Option.some.inj (Tryz.func5.symm.trans hfn)).symm
      exact ⟨by kernel_rfl, fun j t ht => by
        rw [Tryz.params5] at ht
        have hm : t ∈ [3, 3] := by simpa using Array.mem_of_getElem? ht
        have hall : ([3, 3].all fun u => !Tryz.prog.wantsStandIn u) = true := by kernel_rfl
        exact (show Tryz.prog.wantsStandIn t = false by simpa using List.all_eq_true.1 hall t hm)⟩)
    (by kernel_rfl)
#print axioms said_card
end Go.Proofs.YtomgclpeimipoaaGreatDoor
