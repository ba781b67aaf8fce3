/- VcdWrites: whatever the arguments, the law returns true, and they read as they did; the tied card of the first form. -/
import Derived.Test.YtdccdfmbakbikaaGreatDoorM6
import Derived.Test.YtdccdfmbakbikaaGreatDoorCards
import Derived.Test.YtdccdfmbakbikaaGreatDoorTie
import Derived.Test.YtdccdfmbakbikaaGreatDoorM1
import Derived.ProofKit
import Derived.OpenShut
import Derived.Carry
import Derived.LaidMore
import Derived.Lay
import Derived.SevenTiedAt
import Derived.Stop.Joined
import Derived.Deep.DeepHandedRow
namespace Go.Proofs.YtdccdfmbakbikaaGreatDoor
open Go Go.WideElems Go.ChangeShapes Go.WideShapes Go.ChangeAt Go.RowKit
open Go.ChangeMaps (open_string shut_string)
open I (Str H IV CRes pack VRs VR sv H0 calls_ofE Rel)
set_option maxRecDepth 100000

theorem sv_pack_str (b : ByteArray) : (⟨b.data.toList.length, I.packL b.data.toList⟩ : Str) = pack b := by unfold pack; congr 1
theorem ownKnobs : ownKnob Tryz.prog.godebug = none := by kernel_rfl
theorem laidOutW : laidOutB Tryz.prog = true := by kernel_rfl
theorem contractW (Hn : Type) (enc : TypeId × Value → Hn) (W : World) (base : Nat) (args : Array Value) (ds gs : List (DataW Hn)) (before : List MemPlace)
    (hval : ∀ (j : Nat) t v, Tryz.f3.params[j]? = some t → args[j]? = some v → Value.okWide Tryz.prog W .any base t v)
    (hW : DataW.Whole enc Tryz.prog Tryz.f3.params.toList Rows.vcdWritesSpec.vars false W args.toList ds gs before) (hk : Rows.uptoSmall Hn (ds ++ gs) = true) (ep : EP W I.SV) :
    Calls Tryz.prog 3 args W fun e W' => ∃ v, e = .returned v ∧ Rows.vcdWritesSpec.post enc Tryz.prog Tryz.f3 false true false false W args v W' := by
  have hW' := hW
  obtain ⟨p, q, hA0, hV, rfl, hfz, hnd⟩ := hW
  have hA : DataW.TrodAll enc Tryz.prog W 0 (fun _ => true) true Tryz.f3.params.toList args.toList ds p := hA0
  rw [Tryz.params3] at hA hval
  obtain ⟨v0, d0, rfl, rfl, h0⟩ := trodAll_one hA
  obtain ⟨rfl, rfl⟩ := trodVars_none hV
  obtain ⟨fs, hu, _⟩ := utW
  obtain ⟨μ, h, xs, l, vr, dr, _, _⟩ := I.load_struct closW hu (by simp) (hval 0 tyW v0 rfl rfl) h0 (I.noMem W true).1 (I.noMem W true).2
  have hb : Rows.uptoBulk d0 ≤ 1048576 := by
    have := of_decide_eq_true hk
    simp only [List.append_nil, Rows.uptoBulkAll] at this
    omega
  obtain ⟨xn, xw, xf, xl, w, rfl, r, ok, hl⟩ := wave_of2 hb dr
  obtain ⟨h', er⟩ := vcdWrites (l.gd rfl) r ok hl 
  refine (calls_ofE (sound5 W I.SV ep) noNum l.rel Tryz.func3 rfl (args := [.agg [xn, xw, xf, xl]]) (cargs := #[v0]) (by exact ⟨_, _, rfl, vr, rfl⟩) er).mono ?_
  rintro e W' ⟨cv, ν, rfl, _, hr, hv⟩
  have hcv : cv = .bool true := hv
  subst hcv
  have hbl := hr.isBelow fun _ => id
  exact ⟨_, rfl, I.post_of_below (pa := _) (pv := []) hW' (fun _ _ _ => trodAll_mk1 (shut_bool Tryz.underlying4 _)) (fun sp hsp => trodAll_mk1 (WideElems.Trod_stays laidOutW (by kernel_rfl) (by decide +kernel) h0 (fun x hx => hbl.same (hW'.lt x (by simp [hx]))) (fun x hx => hsp x (by simp [hx])))) (fun _ _ => rfl) rfl hbl⟩

theorem liftedW (os : Os) (started : os.Started) (Hn : Type) (enc : TypeId × Value → Hn) (F : Stop.Interp) :
    ReturnsInHanded {} Tryz.checked os 3 .any ((Rows.OpenSpec.upto Rows.vcdWritesSpec).preRow enc Tryz.prog Tryz.f3 Rows.vcdWritesUptoRow.domain false Rows.vcdWritesUptoRow.laid) (((Rows.OpenSpec.upto Rows.vcdWritesSpec).at F).post enc Tryz.prog Tryz.f3 false true false false) := by
  let args : Array Value := #[.agg #[.slice none 0 0, .slice none 0 0, .slice none 0 0, .slice none 0 0]]
  let w0 := World.laidAll Tryz.prog os Rows.vcdWritesUptoRow.laid
  refine returnsInHanded_of_row (C := Tryz.checked) (s := Rows.OpenSpec.upto Rows.vcdWritesSpec) ownKnobs started (by kernel_rfl) Tryz.func3
    ⟨w0, fun _ _ => 0, ⟨#[], args, []⟩, World.laidAll_os _ _ _, World.shaped_of_ZipB (by kernel_rfl) (by kernel_rfl), rfl, ?_, ?_, ?_⟩ ?_
  · exact (Input.okWide_of_okWideB (base := _) (by kernel_rfl)).2
  · exact OpenSpec.preRow_of_cond 8 (x := ([.agg [.nil, .nil, .nil, .nil]], [], [])) (by kernel_rfl) (by kernel_rfl) (fun k hk => by cases hk; kernel_rfl) (by kernel_rfl)
      (by rw [MakeChecks.laidMetH_plain _ _ _ (by kernel_rfl)]; exact laidMet_laidAll _ (by kernel_rfl) (by kernel_rfl))
  · simp only [Assume.holds]
    exact ⟨by simp, by simp, fun _ => Modest.zero, by simp, by simp⟩
  · intro W base args ds gs before hval hW _ hcond _ hl hs _
    exact contractW Hn enc W base args ds gs before hval hW (hcond _ rfl) (ep_of (laid := Rows.vcdWritesUptoRow.laid) (by simp [Rows.vcdWritesUptoRow]) (by simp [Rows.vcdWritesUptoRow]) (by kernel_rfl) hs hl fun _ h => h)

theorem saidW : Rows.VcdWritesUptoSaid :=
  OpenClaim.holds_of_cond 3 Tryz.f3 rfl rfl rfl rfl rfl rfl rfl ⟨rfl, rfl, rfl, rfl, rfl⟩ rfl rfl rfl rfl rfl (by kernel_rfl) Tryz.func3 (by kernel_rfl)
    (of_decide_eq_true (by kernel_rfl)) (by unfold Func.isWrapper; first | (rw [if_pos (by decide +kernel)]; kernel_rfl) | (rw [if_neg (by decide +kernel)]; exact ⟨rfl, rfl⟩))
    (fun os started H enc _ F => by rw [OpenClaim.pre_eq_preRow]; exact liftedW os started H enc F)
theorem upto_card : Rows.VcdWritesUptoCardSaid :=
  Claim7.holds_tied_plain_at .later [] _ _ _ _ saidW (fun _ h => by cases h) (by kernel_rfl) (fun _ h => by cases h) vcdWritesUpto_row_tie rfl ⟨rfl, rfl⟩ (by kernel_rfl) rfl
    (fun f fn hf hfn => by
      obtain rfl : f = 3 := Option.some.inj ((show Tryz.prog.funcNamed "silkworm/silkwormlaw19.VcdWrites" = some 3 by kernel_rfl).symm.trans hf) |>.symm
      obtain rfl : fn = Tryz.f3 := (Option.some.inj (Tryz.func3.symm.trans hfn)).symm
      exact ⟨by kernel_rfl, fun j t ht => by
        rw [Tryz.params3] at ht
        have hm : t ∈ [tyW] := by simpa using Array.mem_of_getElem? ht
        have hall : ([tyW].all fun u => !Tryz.prog.wantsStandIn u) = true := by kernel_rfl
        exact (show Tryz.prog.wantsStandIn t = false by simpa using List.all_eq_true.1 hall t hm)⟩)
    (by kernel_rfl)
#print axioms upto_card
end Go.Proofs.YtdccdfmbakbikaaGreatDoor
