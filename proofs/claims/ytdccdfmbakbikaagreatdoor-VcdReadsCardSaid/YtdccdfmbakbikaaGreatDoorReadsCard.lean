/- VcdReads, where what it reads is of bulk at most 1048576: whatever the arguments, the law returns true, and they read as they did; the tied card of the second form. -/
import Derived.Test.YtdccdfmbakbikaaGreatDoorM7
import Derived.Test.YtdccdfmbakbikaaGreatDoorCards
import Derived.Test.YtdccdfmbakbikaaGreatDoorTie
import Derived.Test.YtdccdfmbakbikaaGreatDoorM1
import Derived.ProofKit
import Derived.OpenShut
import Derived.Carry
import Derived.LaidMore
import Derived.Lay
import Derived.SevenTiedAt
import Derived.Stop.Joined
import Derived.Deep.DeepHandedRow
namespace Go.Proofs.YtdccdfmbakbikaaGreatDoor
open Go Go.ChangeShapes Go.WideShapes Go.ChangeAt Go.RowKit
open Go.ChangeMaps (open_string shut_string)
open I (Str H IV CRes pack VRs VR sv H0 calls_ofE Rel)
set_option maxRecDepth 100000

theorem sv_pack_str (b : ByteArray) : (⟨b.data.toList.length, I.packL b.data.toList⟩ : Str) = pack b := by unfold pack; congr 1
theorem ownKnobs : ownKnob Tryz.prog.godebug = none := by kernel_rfl
theorem run_calls (s0 : ByteArray) (ws0 : s0.data.toList.length ≤ 9223372036854775807) (w : World) (ep : EP w I.S0) : Calls Tryz.prog 4 #[.string s0] w fun e w' => e = .returned (.bool true) ∧ Below w.heap.size w w' := by
  obtain ⟨h', e⟩ := vcdReadsB s0.data.toList ws0
  refine (calls_ofE (sound5 w I.S0 ep) noNum (Rel.empty w true) Tryz.func4 rfl (args := [sv s0.data.toList]) (cargs := #[.string s0]) (by exact ⟨_, _, rfl, ⟨s0, rfl, (by rw [sv_pack_str])⟩, rfl⟩) e).mono ?_
  rintro x w' ⟨cv, ν, rfl, _, hr, hv⟩
  exact ⟨by rw [show cv = .bool true from hv], hr.isBelow fun _ => id⟩
theorem contractW (Hn : Type) (enc : TypeId × Value → Hn) (W : World) (base : Nat) (args : Array Value) (ds gs : List (DataW Hn)) (before : List MemPlace)
    (hval : ∀ (j : Nat) t v, Tryz.f4.params[j]? = some t → args[j]? = some v → Value.okWide Tryz.prog W .any base t v)
    (hW : DataW.Whole enc Tryz.prog Tryz.f4.params.toList Rows.vcdReadsSpec.vars false W args.toList ds gs before) (ep : EP W I.S0) :
    Calls Tryz.prog 4 args W fun e W' => ∃ v, e = .returned v ∧ Rows.vcdReadsSpec.post enc Tryz.prog Tryz.f4 false true false false W args v W' := by
  have hW' := hW
  obtain ⟨p, q, hA0, hV, rfl, hfz, hnd⟩ := hW
  have hA : DataW.TrodAll enc Tryz.prog W 0 (fun _ => true) true Tryz.f4.params.toList args.toList ds p := hA0
  rw [Tryz.params4] at hA hval
  obtain ⟨v0, d0, rfl, rfl, h0⟩ := trodAll_one hA
  obtain ⟨rfl, rfl⟩ := trodVars_none hV
  obtain ⟨s0, rfl, rfl, rfl, w0⟩ := open_string Tryz.underlying9 (hval 0 9 v0 rfl rfl) h0
  simp only [List.append_nil] at hW'
  have bs0 : s0.data.toList.length ≤ 9223372036854775807 := by have h1 : s0.data.toList.length = s0.size := (by rw [Array.length_toList]; rfl); have h2 : s0.size ≤ maxLen := w0; have h3 : maxLen ≤ 9223372036854775807 := (by decide); omega
  refine (run_calls s0 bs0 W ep).mono fun e W' ⟨he, hw⟩ => ?_
  subst he
  exact ⟨_, rfl, I.post_of_below (pa := []) (pv := []) hW' (fun _ _ _ => trodAll_mk1 (shut_bool Tryz.underlying4 _)) (fun sp _ => trodAll_mk1 (shut_string Tryz.underlying9 w0)) (fun _ _ => rfl) rfl hw⟩

theorem liftedW (os : Os) (started : os.Started) (Hn : Type) (enc : TypeId × Value → Hn) (F : Stop.Interp) :
    ReturnsInHanded {} Tryz.checked os 4 .any ((OpenSpec.ofChange Rows.vcdReadsSpec).preRow enc Tryz.prog Tryz.f4 Rows.vcdReadsRow.domain false Rows.vcdReadsRow.laid) (((OpenSpec.ofChange Rows.vcdReadsSpec).at F).post enc Tryz.prog Tryz.f4 false true false false) := by
  let args : Array Value := #[.string .empty]
  let w0 := World.laidAll Tryz.prog os Rows.vcdReadsRow.laid
  refine returnsInHanded_of_row (C := Tryz.checked) (s := OpenSpec.ofChange Rows.vcdReadsSpec) ownKnobs started (by kernel_rfl) Tryz.func4
    ⟨w0, fun _ _ => 0, ⟨#[], args, []⟩, World.laidAll_os _ _ _, World.shaped_of_ZipB (by kernel_rfl) (by kernel_rfl), rfl, ?_, ?_, ?_⟩ ?_
  · exact (Input.okWide_of_okWideB (base := _) (by kernel_rfl)).2
  · exact OpenSpec.preRow_of_cond 8 (x := ([.lit (.string [])], [], [])) (by kernel_rfl) (by kernel_rfl) (fun k hk => by cases hk) (by kernel_rfl)
      (by rw [MakeChecks.laidMetH_plain _ _ _ (by kernel_rfl)]; exact laidMet_laidAll _ (by kernel_rfl) (by kernel_rfl))
  · simp only [Assume.holds]
    exact ⟨by simp, by simp, fun _ => Modest.zero, by simp, by simp⟩
  · intro W base args ds gs before hval hW _ hcond _ hl hs _
    exact contractW Hn enc W base args ds gs before hval hW (ep_of (laid := Rows.vcdReadsRow.laid) (by simp [Rows.vcdReadsRow]) (by simp [Rows.vcdReadsRow]) (by kernel_rfl) (by simp [Rows.vcdReadsRow]) hs hl fun _ h => h)

theorem saidW : Rows.VcdReadsSaid :=
  OpenClaim.holds_of_cond 4 Tryz.f4 rfl rfl rfl rfl rfl rfl rfl ⟨rfl, rfl, rfl, rfl, rfl⟩ rfl rfl rfl rfl rfl (by kernel_rfl) Tryz.func4 (by kernel_rfl)
    (of_decide_eq_true (by kernel_rfl)) (by unfold Func.isWrapper; first | (rw [if_pos (by decide +kernel)]; kernel_rfl) | (rw [if_neg (by decide +kernel)]; exact ⟨rfl, rfl⟩))
    (fun os started H enc _ F => by rw [OpenClaim.pre_eq_preRow]; exact liftedW os started H enc F)
theorem upto_card : Rows.VcdReadsCardSaid :=
  Claim7.holds_tied_plain_at .later [] _ _ _ _ saidW (fun _ h => by cases h) (by kernel_rfl) (fun _ h => by cases h) vcdReads_row_tie rfl ⟨rfl, rfl⟩ (by kernel_rfl) rfl
    (fun f fn hf hfn => by
      obtain rfl : f = 4 := Option.some.inj ((show Tryz.prog.funcNamed "silkworm/silkwormlaw19.VcdReads" = some 4 by kernel_rfl).symm.trans hf) |>.symm
      obtain rfl : fn = Tryz.f4 := (Option.some.inj (Tryz.func4.symm.trans hfn)).symm
      exact ⟨by kernel_rfl, fun j t ht => by
        rw [Tryz.params4] at ht
        have hm : t ∈ [9] := by simpa using Array.mem_of_getElem? ht
        have hall : ([9].all fun u => !Tryz.prog.wantsStandIn u) = true := by kernel_rfl
        exact (show Tryz.prog.wantsStandIn t = false by simpa using List.all_eq_true.1 hall t hm)⟩)
    (by kernel_rfl)
#print axioms upto_card
end Go.Proofs.YtdccdfmbakbikaaGreatDoor
