/- ConstsNames, where what it reads is of bulk at most 1048576: whatever the name, the number and the expression, the law returns true, and the arguments read as they did; the tied card of the second form. -/
import Derived.Test.YtblgpcijbdbeiaaDoorM6
import Derived.Test.YtblgpcijbdbeiaaDoorCards
import Derived.Test.YtblgpcijbdbeiaaDoorTie
import Derived.Test.YtblgpcijbdbeiaaDoorM1
import Derived.ProofKit
import Derived.OpenShut
import Derived.Carry
import Derived.LaidMore
import Derived.Lay
import Derived.SevenTiedAt
import Derived.Stop.Joined
import Derived.Deep.DeepHandedRow
namespace Go.Proofs.YtblgpcijbdbeiaaDoor
open Go.ChangeMaps (open_string shut_string)
open Go Go.WideElems Go.ChangeShapes Go.WideShapes Go.ChangeAt Go.RowKit
open I (Str H IV CRes pack VRs VR sv H0 calls_of Rel)

theorem sv_pack_str (b : ByteArray) : (⟨b.data.toList.length, I.packL b.data.toList⟩ : Str) = pack b := by unfold pack; congr 1
theorem ownKnobsW : ownKnob Tryd.prog.godebug = none := by kernel_rfl
theorem laidOutW : laidOutB Tryd.prog = true := by kernel_rfl

theorem contractW (Hn : Type) (enc : TypeId × Value → Hn) (W : World) (base : Nat) (args : Array Value) (ds gs : List (DataW Hn)) (before : List MemPlace)
    (hval : ∀ (j : Nat) t v, Tryd.f3.params[j]? = some t → args[j]? = some v → Value.okWide Tryd.prog W .any base t v)
    (hW : DataW.Whole enc Tryd.prog Tryd.f3.params.toList Rows.constsNamesSpec.vars false W args.toList ds gs before) (hk : Rows.uptoSmall Hn (ds ++ gs) = true) :
    Calls Tryd.prog 3 args W fun e W' => ∃ v, e = .returned v ∧ Rows.constsNamesSpec.post enc Tryd.prog Tryd.f3 false true false false W args v W' := by
  have hW' := hW
  obtain ⟨p, q, hA0, hV, rfl, hfz, hnd⟩ := hW
  have hA : DataW.TrodAll enc Tryd.prog W 0 (fun _ => true) true Tryd.f3.params.toList args.toList ds p := hA0
  rw [Tryd.params3] at hA hval
  obtain ⟨v0, v1, v2, d0, d1, d2, p0, p1, p2, rfl, rfl, rfl, h0, h1, h2⟩ := trodAll_three hA
  obtain ⟨rfl, rfl⟩ := trodVars_none hV
  obtain ⟨s0, rfl, rfl, rfl, w0⟩ := open_string Tryd.underlying9 (hval 0 9 v0 rfl rfl) h0
  obtain ⟨n0, rfl, rfl, rfl, w1⟩ := open_int Tryd.underlying3 (hval 1 3 v1 rfl rfl) h1
  have hb : Rows.uptoBulk d2 ≤ 2 ^ 21 := by
    have := of_decide_eq_true hk
    simp only [List.append_nil, Rows.uptoBulkAll] at this
    omega
  obtain ⟨fs, hu, _⟩ := ut24
  obtain ⟨μ, h, xs, l, vr, dr, _, _⟩ := I.load_struct closE hu (by simp) (hval 2 24 v2 rfl rfl) h2 (I.noMem W true).1 (I.noMem W true).2
  obtain ⟨n, e, r, hn⟩ := tree _ d2 xs (Nat.le_refl _) dr
  obtain ⟨h', er⟩ := names (l.gd rfl) r (Nat.le_trans hn hb) s0.data.toList n0
  refine (calls_of sound2 noNum l.rel Tryd.func3 rfl (args := [sv s0.data.toList, .int .i64 n0, .agg xs]) (cargs := #[.string s0, .int .i64 n0, v2]) (by exact ⟨_, _, rfl, ⟨s0, rfl, (by rw [sv_pack_str])⟩, ⟨_, _, rfl, rfl, ⟨_, _, rfl, vr, rfl⟩⟩⟩) er).mono ?_
  rintro x W' ⟨cv, ν, rfl, _, hr, hv⟩
  have hcv : cv = .bool true := hv
  subst hcv
  have hbl := hr.isBelow fun _ => id
  refine ⟨_, rfl, I.post_of_below (pa := _) (pv := []) hW' (fun _ _ _ => trodAll_mk1 (shut_bool Tryd.underlying4 _)) (fun sp hsp => trodAll_mk3 (shut_string Tryd.underlying9 w0) (shut_int Tryd.underlying3 w1) (WideElems.Trod_stays laidOutW (by kernel_rfl) (by decide +kernel) h2 (fun x hx => hbl.same (hW'.lt x (by simp [hx]))) (fun x hx => hsp x (by simp [hx])))) (fun _ _ => rfl) rfl hbl⟩

set_option maxRecDepth 100000 in
theorem liftedW (os : Os) (started : os.Started) (Hn : Type) (enc : TypeId × Value → Hn) (F : Stop.Interp) :
    ReturnsInHanded {} Tryd.checked os 3 .any ((Rows.OpenSpec.upto Rows.constsNamesSpec).preRow enc Tryd.prog Tryd.f3 Rows.constsNamesUptoRow.domain false Rows.constsNamesUptoRow.laid) (((Rows.OpenSpec.upto Rows.constsNamesSpec).at F).post enc Tryd.prog Tryd.f3 false true false false) := by
  let z : Value := .agg #[.int .i64 0, .string ⟨#[]⟩, .string ⟨#[]⟩, .bool false, .slice none 0 0, .int .i64 0]
  let args : Array Value := #[.string .empty, .int .i64 0, z]
  let w0 := World.laidAll Tryd.prog os Rows.constsNamesUptoRow.laid
  refine returnsInHanded_of_row (C := Tryd.checked) (s := Rows.OpenSpec.upto Rows.constsNamesSpec) ownKnobsW started (by kernel_rfl) Tryd.func3
    ⟨w0, fun _ _ => 0, ⟨#[], args, []⟩, World.laidAll_os _ _ _, World.shaped_of_ZipB (by kernel_rfl) (by kernel_rfl), rfl, ?_, ?_, ?_⟩ ?_
  · exact (Input.okWide_of_okWideB (base := _) (by kernel_rfl)).2
  · exact OpenSpec.preRow_of_cond 8 (x := ([.lit (.string []), .lit (.int .i64 0), .agg [.lit (.int .i64 0), .lit (.string []), .lit (.string []), .lit (.bool false), .nil, .lit (.int .i64 0)]], [], [])) (by kernel_rfl) (by kernel_rfl) (fun k hk => by cases hk; kernel_rfl) (by kernel_rfl)
      (by rw [MakeChecks.laidMetH_plain _ _ _ (by kernel_rfl)]; exact laidMet_laidAll _ (by kernel_rfl) (by kernel_rfl))
  · simp only [Assume.holds]
    exact ⟨by simp, by simp, fun _ => Modest.zero, by simp, by simp⟩
  · intro W base args ds gs before hval hW _ hcond _ _ _ _
    exact contractW Hn enc W base args ds gs before hval hW (hcond _ rfl)

theorem saidW : Rows.ConstsNamesUptoSaid :=
  OpenClaim.holds_of_cond 3 Tryd.f3 rfl rfl rfl rfl rfl rfl rfl ⟨rfl, rfl, rfl, rfl, rfl⟩ rfl rfl rfl rfl rfl (by kernel_rfl) Tryd.func3 (by kernel_rfl)
    (of_decide_eq_true (by kernel_rfl)) (by unfold Func.isWrapper; first | (rw [if_pos (by decide +kernel)]; kernel_rfl) | (rw [if_neg (by decide +kernel)]; exact ⟨rfl, rfl⟩))
    (fun os started H enc _ F => by rw [OpenClaim.pre_eq_preRow]; exact liftedW os started H enc F)
theorem namesUpto_card : Rows.ConstsNamesUptoCardSaid :=
  Claim7.holds_tied_plain_at .later [] _ _ _ _ saidW (fun _ h => by cases h) (by kernel_rfl) (fun _ h => by cases h) constsNamesUpto_row_tie rfl ⟨rfl, rfl⟩ (by kernel_rfl) rfl
    (fun f fn hf hfn => by
      obtain rfl : f = 3 := Option.some.inj ((show Tryd.prog.funcNamed "silkworm/silkwormlaw06.ConstsNames" = some 3 by kernel_rfl).symm.trans hf) |>.symm
      obtain rfl : fn = Tryd.f3 := (Option.some.inj (Tryd.func3.symm.trans hfn)).symm
      exact ⟨by kernel_rfl, fun j t ht => by
        rw [Tryd.params3] at ht
        have hm : t ∈ [9, 3, 24] := by simpa using Array.mem_of_getElem? ht
        have hall : ([9, 3, 24].all fun u => !Tryd.prog.wantsStandIn u) = true := by kernel_rfl
        exact (show Tryd.prog.wantsStandIn t = false by simpa using List.all_eq_true.1 hall t hm)⟩)
    (by kernel_rfl)
#print axioms namesUpto_card
end Go.Proofs.YtblgpcijbdbeiaaDoor
