/- VcdBack: whatever the arguments, the law returns true, and they read as they did; the tied card of the first form. -/
import Derived.Test.YtdccdfmbakbikaaDoorM7
import Derived.Test.YtdccdfmbakbikaaDoorCards
import Derived.Test.YtdccdfmbakbikaaDoorTie
import Derived.Test.YtdccdfmbakbikaaDoorM1
import Derived.ProofKit
import Derived.OpenShut
import Derived.Carry
import Derived.LaidMore
import Derived.Lay
import Derived.SevenTiedAt
import Derived.Stop.Joined
import Derived.Deep.DeepHandedRow
namespace Go.Proofs.YtdccdfmbakbikaaDoor
open Go Go.WideElems Go.ChangeShapes Go.WideShapes Go.ChangeAt Go.RowKit
open Go.ChangeMaps (open_string shut_string)
open I (Str H IV CRes pack VRs VR sv H0 calls_ofE Rel)
set_option maxRecDepth 100000

theorem sv_pack_str (b : ByteArray) : (⟨b.data.toList.length, I.packL b.data.toList⟩ : Str) = pack b := by unfold pack; congr 1
theorem ownKnobs : ownKnob Tryd.prog.godebug = none := by kernel_rfl
theorem laidOutW : laidOutB Tryd.prog = true := by kernel_rfl
theorem contractW (Hn : Type) (enc : TypeId × Value → Hn) (W : World) (base : Nat) (args : Array Value) (ds gs : List (DataW Hn)) (before : List MemPlace)
    (hval : ∀ (j : Nat) t v, Tryd.f3.params[j]? = some t → args[j]? = some v → Value.okWide Tryd.prog W .any base t v)
    (hW : DataW.Whole enc Tryd.prog Tryd.f3.params.toList Rows.vcdBackSpec.vars false W args.toList ds gs before) (ep : EP W I.SV) :
    Calls Tryd.prog 3 args W fun e W' => ∃ v, e = .returned v ∧ Rows.vcdBackSpec.post enc Tryd.prog Tryd.f3 false true false false W args v W' := by
  have hW' := hW
  obtain ⟨p, q, hA0, hV, rfl, hfz, hnd⟩ := hW
  have hA : DataW.TrodAll enc Tryd.prog W 0 (fun _ => true) true Tryd.f3.params.toList args.toList ds p := hA0
  rw [Tryd.params3] at hA hval
  obtain ⟨v0, v1, d0, d1, p0, p1, rfl, rfl, rfl, h0, h1⟩ := trodAll_two hA
  obtain ⟨rfl, rfl⟩ := trodVars_none hV
  obtain ⟨s1, rfl, rfl, rfl, w1⟩ := open_string Tryd.underlying9 (hval 1 9 v1 rfl rfl) h1
  have b1 : s1.data.toList.length ≤ 9223372036854775807 := by have h1 : s1.data.toList.length = s1.size := (by rw [Array.length_toList]; rfl); have h2 : s1.size ≤ maxLen := w1; have h3 : maxLen ≤ 9223372036854775807 := (by decide); omega
  obtain ⟨fs, hu, _⟩ := utW
  obtain ⟨μ, h, xs, l, vr, dr, _, _⟩ := I.load_struct closW hu (by simp) (hval 0 tyW v0 rfl rfl) h0 (I.noMem W true).1 (I.noMem W true).2
  obtain ⟨xn, xw, xf, xl, w, rfl, r, ok, hl, hn⟩ := wave_ofL dr
  obtain ⟨h', er⟩ := vcdBack (l.gd rfl) r ok hl hn s1.data.toList
  refine (calls_ofE (good3.sound envK mixed noNum W I.SV ep) noNum l.rel Tryd.func3 rfl (args := [.agg [xn, xw, xf, xl], sv s1.data.toList]) (cargs := #[v0, .string s1]) (by exact ⟨_, _, rfl, vr, ⟨_, _, rfl, ⟨s1, rfl, (by rw [sv_pack_str])⟩, rfl⟩⟩) er).mono ?_
  rintro e W' ⟨cv, ν, rfl, _, hr, hv⟩
  have hcv : cv = .bool true := hv
  subst hcv
  have hbl := hr.isBelow fun _ => id
  exact ⟨_, rfl, I.post_of_below (pa := _) (pv := []) hW' (fun _ _ _ => trodAll_mk1 (shut_bool Tryd.underlying4 _)) (fun sp hsp => trodAll_mk2 (WideElems.Trod_stays laidOutW (by kernel_rfl) (by decide +kernel) h0 (fun x hx => hbl.same (hW'.lt x (by simp [hx]))) (fun x hx => hsp x (by simp [hx]))) (shut_string Tryd.underlying9 w1)) (fun _ _ => rfl) rfl hbl⟩

theorem liftedW (os : Os) (started : os.Started) (Hn : Type) (enc : TypeId × Value → Hn) (F : Stop.Interp) :
    ReturnsInHanded {} Tryd.checked os 3 .any ((OpenSpec.ofChange Rows.vcdBackSpec).preRow enc Tryd.prog Tryd.f3 Rows.vcdBackRow.domain false Rows.vcdBackRow.laid) (((OpenSpec.ofChange Rows.vcdBackSpec).at F).post enc Tryd.prog Tryd.f3 false true false false) := by
  let args : Array Value := #[.agg #[.slice none 0 0, .slice none 0 0, .slice none 0 0, .slice none 0 0], .string .empty]
  let w0 := World.laidAll Tryd.prog os Rows.vcdBackRow.laid
  refine returnsInHanded_of_row (C := Tryd.checked) (s := OpenSpec.ofChange Rows.vcdBackSpec) ownKnobs started (by kernel_rfl) Tryd.func3
    ⟨w0, fun _ _ => 0, ⟨#[], args, []⟩, World.laidAll_os _ _ _, World.shaped_of_ZipB (by kernel_rfl) (by kernel_rfl), rfl, ?_, ?_, ?_⟩ ?_
  · exact (Input.okWide_of_okWideB (base := _) (by kernel_rfl)).2
  · exact OpenSpec.preRow_of_cond 8 (x := ([.agg [.nil, .nil, .nil, .nil], .lit (.string [])], [], [])) (by kernel_rfl) (by kernel_rfl) (fun k hk => by cases hk) (by kernel_rfl)
      (by rw [MakeChecks.laidMetH_plain _ _ _ (by kernel_rfl)]; exact laidMet_laidAll _ (by kernel_rfl) (by kernel_rfl))
  · simp only [Assume.holds]
    exact ⟨by simp, by simp, fun _ => Modest.zero, by simp, by simp⟩
  · intro W base args ds gs before hval hW _ hcond _ hl hs _
    exact contractW Hn enc W base args ds gs before hval hW (ep_of (laid := Rows.vcdBackRow.laid) (by simp [Rows.vcdBackRow]) (by simp [Rows.vcdBackRow]) (by kernel_rfl) (by simp [Rows.vcdBackRow]) hs hl fun _ h => h)

theorem saidW : Rows.VcdBackSaid :=
  OpenClaim.holds_of_cond 3 Tryd.f3 rfl rfl rfl rfl rfl rfl rfl ⟨rfl, rfl, rfl, rfl, rfl⟩ rfl rfl rfl rfl rfl (by kernel_rfl) Tryd.func3 (by kernel_rfl)
    (of_decide_eq_true (by kernel_rfl)) (by unfold Func.isWrapper; first | (rw [if_pos (by decide +kernel)]; kernel_rfl) | (rw [if_neg (by decide +kernel)]; exact ⟨rfl, rfl⟩))
    (fun os started H enc _ F => by rw [OpenClaim.pre_eq_preRow]; exact liftedW os started H enc F)
theorem upto_card : Rows.VcdBackCardSaid :=
  Claim7.holds_tied_plain_at .later [] _ _ _ _ saidW (fun _ h => by cases h) (by kernel_rfl) (fun _ h => by cases h) vcdBack_row_tie rfl ⟨rfl, rfl⟩ (by kernel_rfl) rfl
    (fun f fn hf hfn => by
      obtain rfl : f = 3 := Option.some.inj ((show Tryd.prog.funcNamed "silkworm/silkwormlaw19.VcdBack" = some 3 by kernel_rfl).symm.trans hf) |>.symm
      obtain rfl : fn = Tryd.f3 := (Option.some.inj (Tryd.func3.symm.trans hfn)).symm
      exact ⟨by kernel_rfl, fun j t ht => by
        rw [Tryd.params3] at ht
        have hm : t ∈ [tyW, 9] := by simpa using Array.mem_of_getElem? ht
        have hall : ([tyW, 9].all fun u => !Tryd.prog.wantsStandIn u) = true := by kernel_rfl
        exact (show Tryd.prog.wantsStandIn t = false by simpa using List.all_eq_true.1 hall t hm)⟩)
    (by kernel_rfl)
#print axioms upto_card
end Go.Proofs.YtdccdfmbakbikaaDoor
