/- VcdTimes: whatever the arguments, the law returns true, and they read as they did; the tied card of the first form. -/
import Derived.Test.YtdccdfmbakbikaaDoorM6
import Derived.Test.YtdccdfmbakbikaaDoorCards
import Derived.Test.YtdccdfmbakbikaaDoorTie
import Derived.Test.YtdccdfmbakbikaaDoorM1
import Derived.ProofKit
import Derived.OpenShut
import Derived.Carry
import Derived.LaidMore
import Derived.Lay
import Derived.SevenTiedAt
import Derived.Stop.Joined
import Derived.Deep.DeepHandedRow
namespace Go.Proofs.YtdccdfmbakbikaaDoor
open Go Go.WideElems Go.ChangeShapes Go.WideShapes Go.ChangeAt Go.RowKit
open Go.ChangeMaps (open_string shut_string)
open I (Str H IV CRes pack VRs VR sv H0 calls_ofE Rel)
set_option maxRecDepth 100000

theorem sv_pack_str (b : ByteArray) : (⟨b.data.toList.length, I.packL b.data.toList⟩ : Str) = pack b := by unfold pack; congr 1
theorem ownKnobs : ownKnob Tryd.prog.godebug = none := by kernel_rfl
theorem laidOutW : laidOutB Tryd.prog = true := by kernel_rfl
theorem contractW (Hn : Type) (enc : TypeId × Value → Hn) (W : World) (base : Nat) (args : Array Value) (ds gs : List (DataW Hn)) (before : List MemPlace)
    (hval : ∀ (j : Nat) t v, Tryd.f6.params[j]? = some t → args[j]? = some v → Value.okWide Tryd.prog W .any base t v)
    (hW : DataW.Whole enc Tryd.prog Tryd.f6.params.toList Rows.vcdTimesSpec.vars false W args.toList ds gs before) (ep : EP W I.SV) :
    Calls Tryd.prog 6 args W fun e W' => ∃ v, e = .returned v ∧ Rows.vcdTimesSpec.post enc Tryd.prog Tryd.f6 false true false false W args v W' := by
  have hW' := hW
  obtain ⟨p, q, hA0, hV, rfl, hfz, hnd⟩ := hW
  have hA : DataW.TrodAll enc Tryd.prog W 0 (fun _ => true) true Tryd.f6.params.toList args.toList ds p := hA0
  rw [Tryd.params6] at hA hval
  obtain ⟨v0, d0, rfl, rfl, h0⟩ := trodAll_one hA
  obtain ⟨rfl, rfl⟩ := trodVars_none hV
  obtain ⟨fs, hu, _⟩ := utW
  obtain ⟨μ, h, xs, l, vr, dr, _, _⟩ := I.load_struct closW hu (by simp) (hval 0 tyW v0 rfl rfl) h0 (I.noMem W true).1 (I.noMem W true).2
  obtain ⟨xn, xw, xf, xl, w, rfl, r, hl⟩ := wave_of dr
  obtain ⟨h', er⟩ := vcdTimes (l.gd rfl) r (Nat.le_trans hl (by decide)) 
  refine (calls_ofE (sound3 W I.SV ep) noNum l.rel Tryd.func6 rfl (args := [.agg [xn, xw, xf, xl]]) (cargs := #[v0]) (by exact ⟨_, _, rfl, vr, rfl⟩) er).mono ?_
  rintro e W' ⟨cv, ν, rfl, _, hr, hv⟩
  have hcv : cv = .bool true := hv
  subst hcv
  have hbl := hr.isBelow fun _ => id
  exact ⟨_, rfl, I.post_of_below (pa := _) (pv := []) hW' (fun _ _ _ => trodAll_mk1 (shut_bool Tryd.underlying4 _)) (fun sp hsp => trodAll_mk1 (WideElems.Trod_stays laidOutW (by kernel_rfl) (by decide +kernel) h0 (fun x hx => hbl.same (hW'.lt x (by simp [hx]))) (fun x hx => hsp x (by simp [hx])))) (fun _ _ => rfl) rfl hbl⟩

theorem liftedW (os : Os) (started : os.Started) (Hn : Type) (enc : TypeId × Value → Hn) (F : Stop.Interp) :
    ReturnsInHanded {} Tryd.checked os 6 .any ((OpenSpec.ofChange Rows.vcdTimesSpec).preRow enc Tryd.prog Tryd.f6 Rows.vcdTimesRow.domain false Rows.vcdTimesRow.laid) (((OpenSpec.ofChange Rows.vcdTimesSpec).at F).post enc Tryd.prog Tryd.f6 false true false false) := by
  let args : Array Value := #[.agg #[.slice none 0 0, .slice none 0 0, .slice none 0 0, .slice none 0 0]]
  let w0 := World.laidAll Tryd.prog os Rows.vcdTimesRow.laid
  refine returnsInHanded_of_row (C := Tryd.checked) (s := OpenSpec.ofChange Rows.vcdTimesSpec) ownKnobs started (by kernel_rfl) Tryd.func6
    ⟨w0, fun _ _ => 0, ⟨#[], args, []⟩, World.laidAll_os _ _ _, World.shaped_of_ZipB (by kernel_rfl) (by kernel_rfl), rfl, ?_, ?_, ?_⟩ ?_
  · exact (Input.okWide_of_okWideB (base := _) (by kernel_rfl)).2
  · exact OpenSpec.preRow_of_cond 8 (x := ([.agg [.nil, .nil, .nil, .nil]], [], [])) (by kernel_rfl) (by kernel_rfl) (fun k hk => by cases hk) (by kernel_rfl)
      (by rw [MakeChecks.laidMetH_plain _ _ _ (by kernel_rfl)]; exact laidMet_laidAll _ (by kernel_rfl) (by kernel_rfl))
  · simp only [Assume.holds]
    exact ⟨by simp, by simp, fun _ => Modest.zero, by simp, by simp⟩
  · intro W base args ds gs before hval hW _ hcond _ hl hs _
    exact contractW Hn enc W base args ds gs before hval hW (ep_of (laid := Rows.vcdTimesRow.laid) (by simp [Rows.vcdTimesRow]) (by simp [Rows.vcdTimesRow]) (by kernel_rfl) hs hl fun _ h => h)

theorem saidW : Rows.VcdTimesSaid :=
  OpenClaim.holds_of_cond 6 Tryd.f6 rfl rfl rfl rfl rfl rfl rfl ⟨rfl, rfl, rfl, rfl, rfl⟩ rfl rfl rfl rfl rfl (by kernel_rfl) Tryd.func6 (by kernel_rfl)
    (of_decide_eq_true (by kernel_rfl)) (by unfold Func.isWrapper; first | (rw [if_pos (by decide +kernel)]; kernel_rfl) | (rw [if_neg (by decide +kernel)]; exact ⟨rfl, rfl⟩))
    (fun os started H enc _ F => by rw [OpenClaim.pre_eq_preRow]; exact liftedW os started H enc F)
theorem upto_card : Rows.VcdTimesCardSaid :=
  Claim7.holds_tied_plain_at .later [] _ _ _ _ saidW (fun _ h => by cases h) (by kernel_rfl) (fun _ h => by cases h) vcdTimes_row_tie rfl ⟨rfl, rfl⟩ (by kernel_rfl) rfl
    (fun f fn hf hfn => by
      obtain rfl : f = 6 := Option.some.inj ((show Tryd.prog.funcNamed "silkworm/silkwormlaw19.VcdTimes" = some 6 by kernel_rfl).symm.trans hf) |>.symm
      obtain rfl : fn = Tryd.f6 := (Option.some.inj (Tryd.func6.symm.trans hfn)).symm
      exact ⟨by kernel_rfl, fun j t ht => by
        rw [Tryd.params6] at ht
        have hm : t ∈ [tyW] := by simpa using Array.mem_of_getElem? ht
        have hall : ([tyW].all fun u => !Tryd.prog.wantsStandIn u) = true := by kernel_rfl
        exact (show Tryd.prog.wantsStandIn t = false by simpa using List.all_eq_true.1 hall t hm)⟩)
    (by kernel_rfl)
#print axioms upto_card
end Go.Proofs.YtdccdfmbakbikaaDoor
