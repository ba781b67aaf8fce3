/- VcdCodes, where what it reads is of bulk at most 1048576: whatever the arguments, the law returns true, and they read as they did; the tied card of the second form. -/
import Derived.Test.YtdccdfmbakbikaaDoorM6
import Derived.Test.YtdccdfmbakbikaaDoorCards
import Derived.Test.YtdccdfmbakbikaaDoorTie
import Derived.Test.YtdccdfmbakbikaaDoorM1
import Derived.ProofKit
import Derived.OpenShut
import Derived.Carry
import Derived.LaidMore
import Derived.Lay
import Derived.SevenTiedAt
import Derived.Stop.Joined
import Derived.Deep.DeepHandedRow
namespace Go.Proofs.YtdccdfmbakbikaaDoor
open Go Go.ChangeShapes Go.WideShapes Go.ChangeAt Go.RowKit
open Go.ChangeMaps (open_string shut_string)
open I (Str H IV CRes pack VRs VR sv H0 calls_ofE Rel)
set_option maxRecDepth 100000

theorem sv_pack_str (b : ByteArray) : (⟨b.data.toList.length, I.packL b.data.toList⟩ : Str) = pack b := by unfold pack; congr 1
theorem ownKnobs : ownKnob Tryd.prog.godebug = none := by kernel_rfl
theorem run_calls (n0 : Int) (n1 : Int)  (w : World) (ep : EP w I.S0) : Calls Tryd.prog 4 #[.int .i64 n0, .int .i64 n1] w fun e w' => e = .returned (.bool true) ∧ Below w.heap.size w w' := by
  obtain ⟨h', e⟩ := vcdCodes n0 n1
  refine (calls_ofE (sound1 w I.S0 ep) noNum (Rel.empty w true) Tryd.func4 rfl (args := [.int .i64 n0, .int .i64 n1]) (cargs := #[.int .i64 n0, .int .i64 n1]) (by exact ⟨_, _, rfl, rfl, ⟨_, _, rfl, rfl, rfl⟩⟩) e).mono ?_
  rintro x w' ⟨cv, ν, rfl, _, hr, hv⟩
  exact ⟨by rw [show cv = .bool true from hv], hr.isBelow fun _ => id⟩
theorem contractW (Hn : Type) (enc : TypeId × Value → Hn) (W : World) (base : Nat) (args : Array Value) (ds gs : List (DataW Hn)) (before : List MemPlace)
    (hval : ∀ (j : Nat) t v, Tryd.f4.params[j]? = some t → args[j]? = some v → Value.okWide Tryd.prog W .any base t v)
    (hW : DataW.Whole enc Tryd.prog Tryd.f4.params.toList Rows.vcdCodesSpec.vars false W args.toList ds gs before) (ep : EP W I.S0) :
    Calls Tryd.prog 4 args W fun e W' => ∃ v, e = .returned v ∧ Rows.vcdCodesSpec.post enc Tryd.prog Tryd.f4 false true false false W args v W' := by
  have hW' := hW
  obtain ⟨p, q, hA0, hV, rfl, hfz, hnd⟩ := hW
  have hA : DataW.TrodAll enc Tryd.prog W 0 (fun _ => true) true Tryd.f4.params.toList args.toList ds p := hA0
  rw [Tryd.params4] at hA hval
  obtain ⟨v0, v1, d0, d1, p0, p1, rfl, rfl, rfl, h0, h1⟩ := trodAll_two hA
  obtain ⟨rfl, rfl⟩ := trodVars_none hV
  obtain ⟨n0, rfl, rfl, rfl, w0⟩ := open_int Tryd.underlying3 (hval 0 3 v0 rfl rfl) h0
  obtain ⟨n1, rfl, rfl, rfl, w1⟩ := open_int Tryd.underlying3 (hval 1 3 v1 rfl rfl) h1
  simp only [List.append_nil] at hW'
  refine (run_calls n0 n1 W ep).mono fun e W' ⟨he, hw⟩ => ?_
  subst he
  exact ⟨_, rfl, I.post_of_below (pa := []) (pv := []) hW' (fun _ _ _ => trodAll_mk1 (shut_bool Tryd.underlying4 _)) (fun sp _ => trodAll_mk2 (shut_int Tryd.underlying3 w0) (shut_int Tryd.underlying3 w1)) (fun _ _ => rfl) rfl hw⟩

theorem liftedW (os : Os) (started : os.Started) (Hn : Type) (enc : TypeId × Value → Hn) (F : Stop.Interp) :
    ReturnsInHanded {} Tryd.checked os 4 .any ((OpenSpec.ofChange Rows.vcdCodesSpec).preRow enc Tryd.prog Tryd.f4 Rows.vcdCodesRow.domain false Rows.vcdCodesRow.laid) (((OpenSpec.ofChange Rows.vcdCodesSpec).at F).post enc Tryd.prog Tryd.f4 false true false false) := by
  let args : Array Value := #[.int .i64 0, .int .i64 0]
  let w0 := World.laidAll Tryd.prog os Rows.vcdCodesRow.laid
  refine returnsInHanded_of_row (C := Tryd.checked) (s := OpenSpec.ofChange Rows.vcdCodesSpec) ownKnobs started (by kernel_rfl) Tryd.func4
    ⟨w0, fun _ _ => 0, ⟨#[], args, []⟩, World.laidAll_os _ _ _, World.shaped_of_ZipB (by kernel_rfl) (by kernel_rfl), rfl, ?_, ?_, ?_⟩ ?_
  · exact (Input.okWide_of_okWideB (base := _) (by kernel_rfl)).2
  · exact OpenSpec.preRow_of_cond 8 (x := ([.lit (.int .i64 0), .lit (.int .i64 0)], [], [])) (by kernel_rfl) (by kernel_rfl) (fun k hk => by cases hk) (by kernel_rfl)
      (by rw [MakeChecks.laidMetH_plain _ _ _ (by kernel_rfl)]; exact laidMet_laidAll _ (by kernel_rfl) (by kernel_rfl))
  · simp only [Assume.holds]
    exact ⟨by simp, by simp, fun _ => Modest.zero, by simp, by simp⟩
  · intro W base args ds gs before hval hW _ hcond _ hl hs _
    exact contractW Hn enc W base args ds gs before hval hW (ep_of (laid := Rows.vcdCodesRow.laid) (by simp [Rows.vcdCodesRow]) (by simp [Rows.vcdCodesRow]) (by kernel_rfl) hs hl fun _ h => h)

theorem saidW : Rows.VcdCodesSaid :=
  OpenClaim.holds_of_cond 4 Tryd.f4 rfl rfl rfl rfl rfl rfl rfl ⟨rfl, rfl, rfl, rfl, rfl⟩ rfl rfl rfl rfl rfl (by kernel_rfl) Tryd.func4 (by kernel_rfl)
    (of_decide_eq_true (by kernel_rfl)) (by unfold Func.isWrapper; first | (rw [if_pos (by decide +kernel)]; kernel_rfl) | (rw [if_neg (by decide +kernel)]; exact ⟨rfl, rfl⟩))
    (fun os started H enc _ F => by rw [OpenClaim.pre_eq_preRow]; exact liftedW os started H enc F)
theorem upto_card : Rows.VcdCodesCardSaid :=
  Claim7.holds_tied_plain_at .later [] _ _ _ _ saidW (fun _ h => by cases h) (by kernel_rfl) (fun _ h => by cases h) vcdCodes_row_tie rfl ⟨rfl, rfl⟩ (by kernel_rfl) rfl
    (fun f fn hf hfn => by
      obtain rfl : f = 4 := Option.some.inj ((show Tryd.prog.funcNamed "silkworm/silkwormlaw19.VcdCodes" = some 4 by kernel_rfl).symm.trans hf) |>.symm
      obtain rfl : fn = Tryd.f4 := (Option.some.inj (Tryd.func4.symm.trans hfn)).symm
      exact ⟨by kernel_rfl, fun j t ht => by
        rw [Tryd.params4] at ht
        have hm : t ∈ [3, 3] := by simpa using Array.mem_of_getElem? ht
        have hall : ([3, 3].all fun u => !Tryd.prog.wantsStandIn u) = true := by kernel_rfl
        exact (show Tryd.prog.wantsStandIn t = false by simpa using List.all_eq_true.1 hall t hm)⟩)
    (by kernel_rfl)
#print axioms upto_card
end Go.Proofs.YtdccdfmbakbikaaDoor
