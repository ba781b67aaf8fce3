/- ElabNests: whatever the input, the law returns true; the tied card. -/
import Derived.Test.YtimjkkcondljeaaGreatDoorM13
import Derived.Test.YtimjkkcondljeaaGreatDoorM14
import Derived.Test.YtimjkkcondljeaaGreatDoorM15
import Derived.Test.YtimjkkcondljeaaGreatDoorM16
import Derived.Test.YtimjkkcondljeaaGreatDoorM17
import Derived.Test.YtimjkkcondljeaaGreatDoorM12
import Derived.Test.YtimjkkcondljeaaGreatDoorM11
import Derived.Test.YtimjkkcondljeaaGreatDoorM10
import Derived.Test.YtimjkkcondljeaaGreatDoorM9
import Derived.Test.YtimjkkcondljeaaGreatDoorM8
import Derived.Test.YtimjkkcondljeaaGreatDoorM7
import Derived.Test.YtimjkkcondljeaaGreatDoorCards
import Derived.Test.YtimjkkcondljeaaGreatDoorTie
import Derived.Test.YtimjkkcondljeaaGreatDoorM1
import Derived.ProofKit
import Derived.OpenShut
import Derived.LaidMore
import Derived.Lay
import Derived.SevenTiedAt
import Derived.Stop.Joined
namespace Go.Proofs.YtimjkkcondljeaaGreatDoor
open Go I
set_option maxRecDepth 100000

theorem all3 : ∀ n : Nat, n < 20 → run3 (n : Nat) = some (.bool true)
  | 0, _ => v0
  | 1, _ => v1
  | 2, _ => v2
  | 3, _ => v3
  | 4, _ => v4
  | 5, _ => v5
  | 6, _ => v6
  | 7, _ => v7
  | 8, _ => v8
  | 9, _ => v9
  | 10, _ => v10
  | 11, _ => v11
  | 12, _ => v12
  | 13, _ => v13
  | 14, _ => v14
  | 15, _ => v15
  | 16, _ => v16
  | 17, _ => v17
  | 18, _ => v18
  | 19, _ => v19
  | n + 20, h => absurd h (by omega)

end Go.Proofs.YtimjkkcondljeaaGreatDoor

namespace Go.Proofs.YtimjkkcondljeaaGreatDoor
open Go Go.ChangeShapes Go.WideShapes Go.ChangeAt Go.RowKit
open Go.ChangeMaps (open_string shut_string)
open I (Str H IV CRes pack VRs VR sv H0 calls_of Rel)

theorem sv_pack_str (b : ByteArray) : (⟨b.data.toList.length, I.packL b.data.toList⟩ : Str) = pack b := by unfold pack; congr 1
theorem run_calls (n0 : Int)  (w : World) : Calls Tryz.prog 3 #[.int .i64 n0] w fun e w' => e = .returned (.bool true) ∧ Below w.heap.size w w' := by
  obtain ⟨h', e⟩ := (nests3 all3) n0
  refine (calls_of sound1 noNum (Rel.empty w true) Tryz.func3 rfl (args := [.int .i64 n0]) (cargs := #[.int .i64 n0]) (by exact ⟨_, _, rfl, rfl, rfl⟩) e).mono ?_
  rintro x w' ⟨cv, ν, rfl, _, hr, hv⟩
  exact ⟨by rw [show cv = .bool true from hv], hr.isBelow fun _ => id⟩
theorem ownKnobs : ownKnob Tryz.prog.godebug = none := by kernel_rfl

set_option maxRecDepth 100000 in
theorem lifted (os : Os) (started : os.Started) (H : Type) (enc : TypeId × Value → H) :
    ReturnsInHanded {} Tryz.checked os 3 .any (fun w args => (Rows.elabNestsSpec.pre enc Tryz.prog Tryz.f3 Rows.elabNestsRow.domain false w args ∧ laidMetH Tryz.prog Rows.elabNestsRow.laid w) ∧ sizedMet enc Tryz.prog Tryz.f3 (OpenSpec.ofChange Rows.elabNestsSpec) false w args)
      (Rows.elabNestsSpec.post enc Tryz.prog Tryz.f3 false true false false) := by
  refine returnsInHanded_of_change_and (C := Tryz.checked) (X := fun w _ => laidMetH Tryz.prog Rows.elabNestsRow.laid w) (fun _ _ _ hh h => h.of_heap hh) ownKnobs started (by kernel_rfl) Tryz.func3
    (ChangeSpec.witness_shaped (enc := enc) (C := Tryz.checked) (os := os) (X := fun w _ => laidMetH Tryz.prog Rows.elabNestsRow.laid w) false (World.laidAll Tryz.prog os Rows.elabNestsRow.laid) #[.int .i64 0] 8 (World.laidAll_os _ _ _)
      (World.shaped_of_ZipB (by kernel_rfl) (by kernel_rfl)) (by kernel_rfl) (by kernel_rfl) (by kernel_rfl)
      (by rw [MakeChecks.laidMetH_plain _ _ _ (by kernel_rfl)]; exact laidMet_laidAll _ (by kernel_rfl) (by kernel_rfl))) ?_
  intro W base args ds gs before hval0 hW hc _ hL _
  have hval : ∀ (j : Nat) t v, Tryz.f3.params[j]? = some t → args[j]? = some v → Value.okWide Tryz.prog W .any base t v := hval0
  have hW' := hW
  obtain ⟨p, q, hA0, hV, rfl, hfz, hnd⟩ := hW
  have hA : DataW.TrodAll enc Tryz.prog W 0 (fun _ => true) true Tryz.f3.params.toList args.toList ds p := hA0
  rw [Tryz.params3] at hA hval
  obtain ⟨v0, d0, rfl, rfl, h0⟩ := trodAll_one hA
  obtain ⟨rfl, rfl⟩ := trodVars_none hV
  obtain ⟨n0, rfl, rfl, rfl, w0⟩ := open_int Tryz.underlying3 (hval 0 3 v0 rfl rfl) h0
  simp only [List.append_nil] at hW'
  refine (run_calls n0 W).mono fun e W' ⟨he, hw⟩ => ?_
  subst he
  exact ⟨_, rfl, I.post_of_below (pa := []) (pv := []) hW' (fun _ _ _ => trodAll_mk1 (shut_bool Tryz.underlying4 _)) (fun sp _ => trodAll_mk1 (shut_int Tryz.underlying3 w0)) (fun _ _ => rfl) rfl
    hw⟩

theorem said_holds : Rows.ElabNestsSaid :=
  OpenClaim.holds_of_wide 3 Tryz.f3 rfl rfl rfl rfl rfl rfl rfl ⟨rfl, rfl, rfl, rfl, rfl⟩ rfl rfl rfl rfl rfl (by kernel_rfl) Tryz.func3 (by kernel_rfl)
    (of_decide_eq_true (by kernel_rfl)) (by unfold Func.isWrapper; first | (rw [if_pos (by decide +kernel)]; kernel_rfl) | (rw [if_neg (by decide +kernel)]; exact ⟨rfl, rfl⟩))
    (fun os started H enc _ => lifted os started H enc)
theorem said_card : Rows.ElabNestsCardSaid :=
  Claim7.holds_tied_plain_at .later [] [.data, .data, .data, .data, .pinned] true (true, "7f3d000b20481c2382178fba7a2242ba97cc7cc38289d3a722ef59504013691c") true said_holds (fun _ h => by cases h) (by kernel_rfl) (fun _ h => by cases h) elabNests_row_tie rfl ⟨rfl, rfl⟩ (by kernel_rfl) rfl
    (fun f fn hf hfn => by
      obtain rfl : f = 3 := Option.some.inj ((show Tryz.prog.funcNamed "silkworm/silkwormlaw08.ElabNests" = some 3 by kernel_rfl).symm.trans hf) |>.symm
      obtain rfl : fn = Tryz.f3 := (Option.some.inj (Tryz.func3.symm.trans hfn)).symm
      exact ⟨by kernel_rfl, fun j t ht => by
        rw [Tryz.params3] at ht
        have hm : t ∈ [3] := by simpa using Array.mem_of_getElem? ht
        have hall : ([3].all fun u => !Tryz.prog.wantsStandIn u) = true := by kernel_rfl
        exact (show Tryz.prog.wantsStandIn t = false by simpa using List.all_eq_true.1 hall t hm)⟩)
    (by kernel_rfl)
#print axioms said_card
end Go.Proofs.YtimjkkcondljeaaGreatDoor
