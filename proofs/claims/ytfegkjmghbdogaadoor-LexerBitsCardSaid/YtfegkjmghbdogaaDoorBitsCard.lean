/- LexerBits, where what it reads is of bulk at most 1048576: whatever the arguments, the law returns true, and they read as they did; the tied card of the second form. -/
import Derived.Test.YtfegkjmghbdogaaDoorM6
import Derived.Test.YtfegkjmghbdogaaDoorM5
import Derived.Test.YtfegkjmghbdogaaDoorCards
import Derived.Test.YtfegkjmghbdogaaDoorTie
import Derived.Test.YtfegkjmghbdogaaDoorM1
import Derived.ProofKit
import Derived.OpenShut
import Derived.Carry
import Derived.LaidMore
import Derived.Lay
import Derived.SevenTiedAt
import Derived.Stop.Joined
import Derived.Deep.DeepHandedRow
namespace Go.Proofs.YtfegkjmghbdogaaDoor
open Go Go.ChangeShapes Go.WideShapes Go.ChangeAt Go.RowKit
open Go.ChangeMaps (open_string shut_string)
open I (Str H IV CRes pack VRs VR sv H0 calls_ofE Rel)
set_option maxRecDepth 100000

theorem sv_pack_str (b : ByteArray) : (⟨b.data.toList.length, I.packL b.data.toList⟩ : Str) = pack b := by unfold pack; congr 1
theorem ownKnobs : ownKnob Tryd.prog.godebug = none := by kernel_rfl
theorem run_calls (s0 : ByteArray) (n1 : Int) (n2 : Int) (ws0 : s0.data.toList.length ≤ 9223372036854775807) (w : World) (ep : EP w I.S0) : Calls Tryd.prog 6 #[.string s0, .int .i64 n1, .int .i64 n2] w fun e w' => e = .returned (.bool true) ∧ Below w.heap.size w w' := by
  obtain ⟨h', e⟩ := lexerBits s0.data.toList n1 n2 ws0
  refine (calls_ofE (sound9 w I.S0 ep) noNum (Rel.empty w true) Tryd.func6 rfl (args := [sv s0.data.toList, .int .i64 n1, .int .i64 n2]) (cargs := #[.string s0, .int .i64 n1, .int .i64 n2]) (by exact ⟨_, _, rfl, ⟨s0, rfl, (by rw [sv_pack_str])⟩, ⟨_, _, rfl, rfl, ⟨_, _, rfl, rfl, rfl⟩⟩⟩) e).mono ?_
  rintro x w' ⟨cv, ν, rfl, _, hr, hv⟩
  exact ⟨by rw [show cv = .bool true from hv], hr.isBelow fun _ => id⟩
theorem contractW (Hn : Type) (enc : TypeId × Value → Hn) (W : World) (base : Nat) (args : Array Value) (ds gs : List (DataW Hn)) (before : List MemPlace)
    (hval : ∀ (j : Nat) t v, Tryd.f6.params[j]? = some t → args[j]? = some v → Value.okWide Tryd.prog W .any base t v)
    (hW : DataW.Whole enc Tryd.prog Tryd.f6.params.toList Rows.lexerBitsSpec.vars false W args.toList ds gs before) (ep : EP W I.S0) :
    Calls Tryd.prog 6 args W fun e W' => ∃ v, e = .returned v ∧ Rows.lexerBitsSpec.post enc Tryd.prog Tryd.f6 false true false false W args v W' := by
  have hW' := hW
  obtain ⟨p, q, hA0, hV, rfl, hfz, hnd⟩ := hW
  have hA : DataW.TrodAll enc Tryd.prog W 0 (fun _ => true) true Tryd.f6.params.toList args.toList ds p := hA0
  rw [Tryd.params6] at hA hval
  obtain ⟨v0, v1, v2, d0, d1, d2, p0, p1, p2, rfl, rfl, rfl, h0, h1, h2⟩ := trodAll_three hA
  obtain ⟨rfl, rfl⟩ := trodVars_none hV
  obtain ⟨s0, rfl, rfl, rfl, w0⟩ := open_string Tryd.underlying9 (hval 0 9 v0 rfl rfl) h0
  obtain ⟨n1, rfl, rfl, rfl, w1⟩ := open_int Tryd.underlying3 (hval 1 3 v1 rfl rfl) h1
  obtain ⟨n2, rfl, rfl, rfl, w2⟩ := open_int Tryd.underlying3 (hval 2 3 v2 rfl rfl) h2
  simp only [List.append_nil] at hW'
  have bs0 : s0.data.toList.length ≤ 9223372036854775807 := by have h1 : s0.data.toList.length = s0.size := (by rw [Array.length_toList]; rfl); have h2 : s0.size ≤ maxLen := w0; have h3 : maxLen ≤ 9223372036854775807 := (by decide); omega
  refine (run_calls s0 n1 n2 bs0 W ep).mono fun e W' ⟨he, hw⟩ => ?_
  subst he
  exact ⟨_, rfl, I.post_of_below (pa := []) (pv := []) hW' (fun _ _ _ => trodAll_mk1 (shut_bool Tryd.underlying4 _)) (fun sp _ => trodAll_mk3 (shut_string Tryd.underlying9 w0) (shut_int Tryd.underlying3 w1) (shut_int Tryd.underlying3 w2)) (fun _ _ => rfl) rfl hw⟩

theorem liftedW (os : Os) (started : os.Started) (Hn : Type) (enc : TypeId × Value → Hn) (F : Stop.Interp) :
    ReturnsInHanded {} Tryd.checked os 6 .any ((OpenSpec.ofChange Rows.lexerBitsSpec).preRow enc Tryd.prog Tryd.f6 Rows.lexerBitsRow.domain false Rows.lexerBitsRow.laid) (((OpenSpec.ofChange Rows.lexerBitsSpec).at F).post enc Tryd.prog Tryd.f6 false true false false) := by
  let args : Array Value := #[.string .empty, .int .i64 0, .int .i64 0]
  let w0 := World.laidAll Tryd.prog os Rows.lexerBitsRow.laid
  refine returnsInHanded_of_row (C := Tryd.checked) (s := OpenSpec.ofChange Rows.lexerBitsSpec) ownKnobs started (by kernel_rfl) Tryd.func6
    ⟨w0, fun _ _ => 0, ⟨#[], args, []⟩, World.laidAll_os _ _ _, World.shaped_of_ZipB (by kernel_rfl) (by kernel_rfl), rfl, ?_, ?_, ?_⟩ ?_
  · exact (Input.okWide_of_okWideB (base := _) (by kernel_rfl)).2
  · exact OpenSpec.preRow_of_cond 8 (x := ([.lit (.string []), .lit (.int .i64 0), .lit (.int .i64 0)], [], [])) (by kernel_rfl) (by kernel_rfl) (fun k hk => by cases hk) (by kernel_rfl)
      (by rw [MakeChecks.laidMetH_plain _ _ _ (by kernel_rfl)]; exact laidMet_laidAll _ (by kernel_rfl) (by kernel_rfl))
  · simp only [Assume.holds]
    exact ⟨by simp, by simp, fun _ => Modest.zero, by simp, by simp⟩
  · intro W base args ds gs before hval hW _ hcond _ hl hs _
    exact contractW Hn enc W base args ds gs before hval hW (ep_of (laid := Rows.lexerBitsRow.laid) (by simp [Rows.lexerBitsRow]) (by simp [Rows.lexerBitsRow]) (by kernel_rfl) hs hl fun _ h => h)

theorem saidW : Rows.LexerBitsSaid :=
  OpenClaim.holds_of_cond 6 Tryd.f6 rfl rfl rfl rfl rfl rfl rfl ⟨rfl, rfl, rfl, rfl, rfl⟩ rfl rfl rfl rfl rfl (by kernel_rfl) Tryd.func6 (by kernel_rfl)
    (of_decide_eq_true (by kernel_rfl)) (by unfold Func.isWrapper; first | (rw [if_pos (by decide +kernel)]; kernel_rfl) | (rw [if_neg (by decide +kernel)]; exact ⟨rfl, rfl⟩))
    (fun os started H enc _ F => by rw [OpenClaim.pre_eq_preRow]; exact liftedW os started H enc F)
theorem upto_card : Rows.LexerBitsCardSaid :=
  Claim7.holds_tied_plain_at .later [] _ _ _ _ saidW (fun _ h => by cases h) (by kernel_rfl) (fun _ h => by cases h) lexerBits_row_tie rfl ⟨rfl, rfl⟩ (by kernel_rfl) rfl
    (fun f fn hf hfn => by
      obtain rfl : f = 6 := Option.some.inj ((show Tryd.prog.funcNamed "silkworm/silkwormlaw02.LexerBits" = some 6 by kernel_rfl).symm.trans hf) |>.symm
      obtain rfl : fn = Tryd.f6 := (Option.some.inj (Tryd.func6.symm.trans hfn)).symm
      exact ⟨by kernel_rfl, fun j t ht => by
        rw [Tryd.params6] at ht
        have hm : t ∈ [9, 3, 3] := by simpa using Array.mem_of_getElem? ht
        have hall : ([9, 3, 3].all fun u => !Tryd.prog.wantsStandIn u) = true := by kernel_rfl
        exact (show Tryd.prog.wantsStandIn t = false by simpa using List.all_eq_true.1 hall t hm)⟩)
    (by kernel_rfl)
#print axioms upto_card
end Go.Proofs.YtfegkjmghbdogaaDoor
