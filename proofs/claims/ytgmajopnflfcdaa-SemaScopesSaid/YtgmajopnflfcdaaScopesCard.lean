/- SemaScopes: whatever the input, the law returns true. -/
import Derived.Test.YtgmajopnflfcdaaM13
import Derived.Test.YtgmajopnflfcdaaM14
import Derived.Test.YtgmajopnflfcdaaM15
import Derived.Test.YtgmajopnflfcdaaM16
import Derived.Test.YtgmajopnflfcdaaM17
import Derived.Test.YtgmajopnflfcdaaM12
import Derived.Test.YtgmajopnflfcdaaM11
import Derived.Test.YtgmajopnflfcdaaM10
import Derived.Test.YtgmajopnflfcdaaM9
import Derived.Test.YtgmajopnflfcdaaM8
import Derived.Test.YtgmajopnflfcdaaM7
import Derived.Test.YtgmajopnflfcdaaM1
import Derived.Test.YtgmajopnflfcdaaRows
import Derived.ProofKit
import Derived.OpenShut
import Derived.LaidMore
import Derived.Lay
import Derived.SevenTiedAt
import Derived.Stop.Joined
namespace Go.Proofs.Ytgmajopnflfcdaa
open Go I
set_option maxRecDepth 100000

theorem all5 : ∀ n : Nat, n < 20 → run5 (n : Nat) = some (.bool true)
  | 0, _ => v0
  | 1, _ => v1
  | 2, _ => v2
  | 3, _ => v3
  | 4, _ => v4
  | 5, _ => v5
  | 6, _ => v6
  | 7, _ => v7
  | 8, _ => v8
  | 9, _ => v9
  | 10, _ => v10
  | 11, _ => v11
  | 12, _ => v12
  | 13, _ => v13
  | 14, _ => v14
  | 15, _ => v15
  | 16, _ => v16
  | 17, _ => v17
  | 18, _ => v18
  | 19, _ => v19
  | n + 20, h => absurd h (by omega)

end Go.Proofs.Ytgmajopnflfcdaa

namespace Go.Proofs.Ytgmajopnflfcdaa
open Go Go.ChangeShapes Go.WideShapes Go.ChangeAt Go.RowKit
open Go.ChangeMaps (open_string shut_string)
open I (Str H IV CRes pack VRs VR sv H0 calls_of Rel)

theorem sv_pack_str (b : ByteArray) : (⟨b.data.toList.length, I.packL b.data.toList⟩ : Str) = pack b := by unfold pack; congr 1
theorem run_calls (n0 : Int)  (w : World) : Calls Try.prog 5 #[.int .i64 n0] w fun e w' => e = .returned (.bool true) ∧ Below w.heap.size w w' := by
  obtain ⟨h', e⟩ := (scopes5 all5) n0
  refine (calls_of sound1 noNum (Rel.empty w true) Try.func5 rfl (args := [.int .i64 n0]) (cargs := #[.int .i64 n0]) (by exact ⟨_, _, rfl, rfl, rfl⟩) e).mono ?_
  rintro x w' ⟨cv, ν, rfl, _, hr, hv⟩
  exact ⟨by rw [show cv = .bool true from hv], hr.isBelow fun _ => id⟩
theorem ownKnobs : ownKnob Try.prog.godebug = none := by kernel_rfl

set_option maxRecDepth 100000 in
theorem lifted (os : Os) (started : os.Started) (H : Type) (enc : TypeId × Value → H) :
    ReturnsInHanded {} Try.checked os 5 .any (Rows.semaScopesSpec.pre6 enc Try.prog Try.f5 Rows.semaScopesRow.domain false)
      (Rows.semaScopesSpec.post enc Try.prog Try.f5 false true false false) := by
  refine returnsInHanded_of_change (C := Try.checked) ownKnobs started (by kernel_rfl) Try.func5 ?_ ?_
  · obtain ⟨w, tape, i, h1, h2, h3, h4, h5, h6⟩ := ChangeSpec.witness_shaped (enc := enc) (C := Try.checked) (f := 5) (fn := Try.f5) (s := Rows.semaScopesSpec) (conds := Rows.semaScopesRow.domain) (apart := false) (os := os) (X := fun _ _ => True) false (World.laidAll Try.prog os []) #[.int .i64 0] 8 (World.laidAll_os _ _ _)
      (World.shaped_of_ZipB (by kernel_rfl) (by kernel_rfl)) (by kernel_rfl) (by kernel_rfl) (by kernel_rfl) trivial
    exact ⟨w, tape, i, h1, h2, h3, h4, ⟨h5.1.1, h5.2⟩, h6⟩
  intro W base args ds gs before hval0 hW hc _
  have hval : ∀ (j : Nat) t v, Try.f5.params[j]? = some t → args[j]? = some v → Value.okWide Try.prog W .any base t v := hval0
  have hW' := hW
  obtain ⟨p, q, hA0, hV, rfl, hfz, hnd⟩ := hW
  have hA : DataW.TrodAll enc Try.prog W 0 (fun _ => true) true Try.f5.params.toList args.toList ds p := hA0
  rw [Try.params5] at hA hval
  obtain ⟨v0, d0, rfl, rfl, h0⟩ := trodAll_one hA
  obtain ⟨rfl, rfl⟩ := trodVars_none hV
  obtain ⟨n0, rfl, rfl, rfl, w0⟩ := open_int Try.underlying3 (hval 0 3 v0 rfl rfl) h0
  simp only [List.append_nil] at hW'
  refine (run_calls n0 W).mono fun e W' ⟨he, hw⟩ => ?_
  subst he
  exact ⟨_, rfl, I.post_of_below (pa := []) (pv := []) hW' (fun _ _ _ => trodAll_mk1 (shut_bool Try.underlying4 _)) (fun sp _ => trodAll_mk1 (shut_int Try.underlying3 w0)) (fun _ _ => rfl) rfl
    hw⟩

theorem said_holds : Rows.SemaScopesSaid :=
  OpenClaim.holds_of_wide 5 Try.f5 rfl rfl rfl rfl rfl rfl rfl ⟨rfl, rfl, rfl, rfl, rfl⟩ rfl rfl rfl rfl rfl (by kernel_rfl) Try.func5 (by kernel_rfl)
    (of_decide_eq_true (by kernel_rfl)) (by unfold Func.isWrapper; first | (rw [if_pos (by decide +kernel)]; kernel_rfl) | (rw [if_neg (by decide +kernel)]; exact ⟨rfl, rfl⟩))
    (fun os started H enc _ => lifted os started H enc)
#print axioms said_holds
end Go.Proofs.Ytgmajopnflfcdaa
