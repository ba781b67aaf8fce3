/- PrinterBrackets, where what it reads is of bulk at most 1048576: whatever the arguments, the law returns true, and they read as they did; the tied card of the second form. -/
import Derived.Test.YtelhoddamlkfhaaGreatDoorM7
import Derived.Test.YtelhoddamlkfhaaGreatDoorM8
import Derived.Test.YtelhoddamlkfhaaGreatDoorM9
import Derived.Test.YtelhoddamlkfhaaGreatDoorM10
import Derived.Test.YtelhoddamlkfhaaGreatDoorM11
import Derived.Test.YtelhoddamlkfhaaGreatDoorM12
import Derived.Test.YtelhoddamlkfhaaGreatDoorM13
import Derived.Test.YtelhoddamlkfhaaGreatDoorM14
import Derived.Test.YtelhoddamlkfhaaGreatDoorM6
import Derived.Test.YtelhoddamlkfhaaGreatDoorCards
import Derived.Test.YtelhoddamlkfhaaGreatDoorTie
import Derived.Test.YtelhoddamlkfhaaGreatDoorM1
import Derived.ProofKit
import Derived.OpenShut
import Derived.Carry
import Derived.LaidMore
import Derived.Lay
import Derived.SevenTiedAt
import Derived.Stop.Joined
import Derived.Deep.DeepHandedRow
namespace Go.Proofs.YtelhoddamlkfhaaGreatDoor
open Go I
set_option maxRecDepth 100000

theorem allB : ∀ p q : Nat, p < 15 → q < 15 → ∀ s, runB (p : Nat) (q : Nat) s = some (.bool true)
  | 0, q, _, h => ra0 q h
  | 1, q, _, h => ra1 q h
  | 2, q, _, h => ra2 q h
  | 3, q, _, h => ra3 q h
  | 4, q, _, h => ra4 q h
  | 5, q, _, h => ra5 q h
  | 6, q, _, h => ra6 q h
  | 7, q, _, h => ra7 q h
  | 8, q, _, h => ra8 q h
  | 9, q, _, h => ra9 q h
  | 10, q, _, h => ra10 q h
  | 11, q, _, h => ra11 q h
  | 12, q, _, h => ra12 q h
  | 13, q, _, h => ra13 q h
  | 14, q, _, h => ra14 q h
  | p + 15, q, h, _ => absurd h (by omega)

end Go.Proofs.YtelhoddamlkfhaaGreatDoor

namespace Go.Proofs.YtelhoddamlkfhaaGreatDoor
open Go Go.ChangeShapes Go.WideShapes Go.ChangeAt Go.RowKit
open Go.ChangeMaps (open_string shut_string)
open I (Str H IV CRes pack VRs VR sv H0 calls_ofE Rel)
set_option maxRecDepth 100000

theorem sv_pack_str (b : ByteArray) : (⟨b.data.toList.length, I.packL b.data.toList⟩ : Str) = pack b := by unfold pack; congr 1
theorem ownKnobs : ownKnob Tryz.prog.godebug = none := by kernel_rfl
theorem run_calls (n0 : Int) (n1 : Int) (b2 : Bool)  (w : World) (ep : EP w I.S0) : Calls Tryz.prog 7 #[.int .i64 n0, .int .i64 n1, .bool b2] w fun e w' => e = .returned (.bool true) ∧ Below w.heap.size w w' := by
  obtain ⟨h', e⟩ := (brackets allB) n0 n1 b2
  refine (calls_ofE ((good1.sound envK mixed noNum) w I.S0 ep) noNum (Rel.empty w true) Tryz.func7 rfl (args := [.int .i64 n0, .int .i64 n1, .bool b2]) (cargs := #[.int .i64 n0, .int .i64 n1, .bool b2]) (by exact ⟨_, _, rfl, rfl, ⟨_, _, rfl, rfl, ⟨_, _, rfl, rfl, rfl⟩⟩⟩) e).mono ?_
  rintro x w' ⟨cv, ν, rfl, _, hr, hv⟩
  exact ⟨by rw [show cv = .bool true from hv], hr.isBelow fun _ => id⟩
theorem contractW (Hn : Type) (enc : TypeId × Value → Hn) (W : World) (base : Nat) (args : Array Value) (ds gs : List (DataW Hn)) (before : List MemPlace)
    (hval : ∀ (j : Nat) t v, Tryz.f7.params[j]? = some t → args[j]? = some v → Value.okWide Tryz.prog W .any base t v)
    (hW : DataW.Whole enc Tryz.prog Tryz.f7.params.toList Rows.printerBracketsSpec.vars false W args.toList ds gs before) (ep : EP W I.S0) :
    Calls Tryz.prog 7 args W fun e W' => ∃ v, e = .returned v ∧ Rows.printerBracketsSpec.post enc Tryz.prog Tryz.f7 false true false false W args v W' := by
  have hW' := hW
  obtain ⟨p, q, hA0, hV, rfl, hfz, hnd⟩ := hW
  have hA : DataW.TrodAll enc Tryz.prog W 0 (fun _ => true) true Tryz.f7.params.toList args.toList ds p := hA0
  rw [Tryz.params7] at hA hval
  obtain ⟨v0, v1, v2, d0, d1, d2, p0, p1, p2, rfl, rfl, rfl, h0, h1, h2⟩ := trodAll_three hA
  obtain ⟨rfl, rfl⟩ := trodVars_none hV
  obtain ⟨n0, rfl, rfl, rfl, w0⟩ := open_int Tryz.underlying3 (hval 0 3 v0 rfl rfl) h0
  obtain ⟨n1, rfl, rfl, rfl, w1⟩ := open_int Tryz.underlying3 (hval 1 3 v1 rfl rfl) h1
  obtain ⟨b2, rfl, rfl, rfl⟩ := open_bool Tryz.underlying4 (hval 2 4 v2 rfl rfl) h2
  simp only [List.append_nil] at hW'
  refine (run_calls n0 n1 b2 W ep).mono fun e W' ⟨he, hw⟩ => ?_
  subst he
  exact ⟨_, rfl, I.post_of_below (pa := []) (pv := []) hW' (fun _ _ _ => trodAll_mk1 (shut_bool Tryz.underlying4 _)) (fun sp _ => trodAll_mk3 (shut_int Tryz.underlying3 w0) (shut_int Tryz.underlying3 w1) (shut_bool Tryz.underlying4 _)) (fun _ _ => rfl) rfl hw⟩

theorem liftedW (os : Os) (started : os.Started) (Hn : Type) (enc : TypeId × Value → Hn) (F : Stop.Interp) :
    ReturnsInHanded {} Tryz.checked os 7 .any ((OpenSpec.ofChange Rows.printerBracketsSpec).preRow enc Tryz.prog Tryz.f7 Rows.printerBracketsRow.domain false Rows.printerBracketsRow.laid) (((OpenSpec.ofChange Rows.printerBracketsSpec).at F).post enc Tryz.prog Tryz.f7 false true false false) := by
  let args : Array Value := #[.int .i64 0, .int .i64 0, .bool false]
  let w0 := World.laidAll Tryz.prog os Rows.printerBracketsRow.laid
  refine returnsInHanded_of_row (C := Tryz.checked) (s := OpenSpec.ofChange Rows.printerBracketsSpec) ownKnobs started (by kernel_rfl) Tryz.func7
    ⟨w0, fun _ _ => 0, ⟨#[], args, []⟩, World.laidAll_os _ _ _, World.shaped_of_ZipB (by kernel_rfl) (by kernel_rfl), rfl, ?_, ?_, ?_⟩ ?_
  · exact (Input.okWide_of_okWideB (base := _) (by kernel_rfl)).2
  · exact OpenSpec.preRow_of_cond 8 (x := ([.lit (.int .i64 0), .lit (.int .i64 0), .lit (.bool false)], [], [])) (by kernel_rfl) (by kernel_rfl) (fun k hk => by cases hk) (by kernel_rfl)
      (by rw [MakeChecks.laidMetH_plain _ _ _ (by kernel_rfl)]; exact laidMet_laidAll _ (by kernel_rfl) (by kernel_rfl))
  · simp only [Assume.holds]
    exact ⟨by simp, by simp, fun _ => Modest.zero, by simp, by simp⟩
  · intro W base args ds gs before hval hW _ hcond _ hl hs _
    exact contractW Hn enc W base args ds gs before hval hW (ep_of hs fun _ h => h)

theorem saidW : Rows.PrinterBracketsSaid :=
  OpenClaim.holds_of_cond 7 Tryz.f7 rfl rfl rfl rfl rfl rfl rfl ⟨rfl, rfl, rfl, rfl, rfl⟩ rfl rfl rfl rfl rfl (by kernel_rfl) Tryz.func7 (by kernel_rfl)
    (of_decide_eq_true (by kernel_rfl)) (by unfold Func.isWrapper; first | (rw [if_pos (by decide +kernel)]; kernel_rfl) | (rw [if_neg (by decide +kernel)]; exact ⟨rfl, rfl⟩))
    (fun os started H enc _ F => by rw [OpenClaim.pre_eq_preRow]; exact liftedW os started H enc F)
theorem upto_card : Rows.PrinterBracketsCardSaid :=
  Claim7.holds_tied_plain_at .later [] _ _ _ _ saidW (fun _ h => by cases h) (by kernel_rfl) (fun _ h => by cases h) printerBrackets_row_tie rfl ⟨rfl, rfl⟩ (by kernel_rfl) rfl
    (fun f fn hf hfn => by
      obtain rfl : f = 7 := Option.some.inj ((show Tryz.prog.funcNamed "silkworm/silkwormlaw05.PrinterBrackets" = some 7 by kernel_rfl).symm.trans hf) |>.symm
      obtain rfl : fn = Tryz.f7 := (Option.some.inj (Tryz.func7.symm.trans hfn)).symm
      exact ⟨by kernel_rfl, fun j t ht => by
        rw [Tryz.params7] at ht
        have hm : t ∈ [3, 3, 4] := by simpa using Array.mem_of_getElem? ht
        have hall : ([3, 3, 4].all fun u => !Tryz.prog.wantsStandIn u) = true := by kernel_rfl
        exact (show Tryz.prog.wantsStandIn t = false by simpa using List.all_eq_true.1 hall t hm)⟩)
    (by kernel_rfl)
#print axioms upto_card
end Go.Proofs.YtelhoddamlkfhaaGreatDoor
