/- LexerHex, where what it reads is of bulk at most 1048576: whatever the arguments, the law returns true, and they read as they did; the tied card of the second form. -/
import Derived.Test.YtfegkjmghbdogaaDoorM6
import Derived.Test.YtfegkjmghbdogaaDoorM5
import Derived.Test.YtfegkjmghbdogaaDoorCards
import Derived.Test.YtfegkjmghbdogaaDoorTie
import Derived.Test.YtfegkjmghbdogaaDoorM1
import Derived.ProofKit
import Derived.OpenShut
import Derived.Carry
import Derived.LaidMore
import Derived.Lay
import Derived.SevenTiedAt
import Derived.Stop.Joined
import Derived.Deep.DeepHandedRow
namespace Go.Proofs.YtfegkjmghbdogaaDoor
open Go Go.WideElems Go.ChangeShapes Go.WideShapes Go.ChangeAt Go.RowKit
open Go.ChangeMaps (open_string shut_string)
open I (Str H IV CRes pack VRs VR sv H0 calls_ofE Rel)
set_option maxRecDepth 100000

theorem sv_pack_str (b : ByteArray) : (⟨b.data.toList.length, I.packL b.data.toList⟩ : Str) = pack b := by unfold pack; congr 1
theorem ownKnobs : ownKnob Tryd.prog.godebug = none := by kernel_rfl
theorem laidOutW : laidOutB Tryd.prog = true := by kernel_rfl
theorem closH : I.closT Tryd.prog [40, 3] = true := by kernel_rfl
theorem contractW (Hn : Type) (enc : TypeId × Value → Hn) (W : World) (base : Nat) (args : Array Value) (ds gs : List (DataW Hn)) (before : List MemPlace)
    (hval : ∀ (j : Nat) t v, Tryd.f7.params[j]? = some t → args[j]? = some v → Value.okWide Tryd.prog W .any base t v)
    (hW : DataW.Whole enc Tryd.prog Tryd.f7.params.toList Rows.lexerHexSpec.vars false W args.toList ds gs before) (ep : EP W I.SV) :
    Calls Tryd.prog 7 args W fun e W' => ∃ v, e = .returned v ∧ Rows.lexerHexSpec.post enc Tryd.prog Tryd.f7 false true false false W args v W' := by
  have hW' := hW
  obtain ⟨p, q, hA0, hV, rfl, hfz, hnd⟩ := hW
  have hA : DataW.TrodAll enc Tryd.prog W 0 (fun _ => true) true Tryd.f7.params.toList args.toList ds p := hA0
  rw [Tryd.params7] at hA hval
  obtain ⟨v0, v1, d0, d1, p0, p1, rfl, rfl, rfl, h0, h1⟩ := trodAll_two hA
  obtain ⟨rfl, rfl⟩ := trodVars_none hV
  obtain ⟨n1, rfl, rfl, rfl, w1⟩ := open_int Tryd.underlying3 (hval 1 3 v1 rfl rfl) h1
  obtain ⟨μ, h, x, l, vr, dr, _⟩ := I.load_slice closH Tryd.underlying40 (by kernel_rfl) (by simp) (hval 0 40 v0 rfl rfl) h0 (I.noMem W true).1 (I.noMem W true).2
  obtain ⟨m, hm, lr⟩ := dr.list Tryd.underlying40 (R := RI) (fun d c r _ => by
    generalize ht : (3 : TypeId) = t at r
    cases r with
    | int u wf => subst ht; rw [Tryd.underlying3] at u; injection u with u; injection u with u; subst u; exact ⟨_, rfl⟩
    | bool u => subst ht; rw [Tryd.underlying3] at u; cases u
    | str u => subst ht; rw [Tryd.underlying3] at u; cases u
    | nil u => subst ht; rw [Tryd.underlying3] at u; cases u
    | slice u => subst ht; rw [Tryd.underlying3] at u; cases u
    | struct u => subst ht; rw [Tryd.underlying3] at u; cases u)
  have c1 : Tryd.prog.cellsOf 3 = 1 := by kernel_rfl
  rw [c1] at lr
  obtain ⟨h', er⟩ := lexerHex (l.gd rfl) m lr (Nat.le_trans hm (by decide)) n1
  refine (calls_ofE (sound9 W I.SV ep) noNum l.rel Tryd.func7 rfl (args := [x, .int .i64 n1]) (cargs := #[v0, .int .i64 n1]) (by exact ⟨_, _, rfl, vr, ⟨_, _, rfl, rfl, rfl⟩⟩) er).mono ?_
  rintro e W' ⟨cv, ν, rfl, _, hr, hv⟩
  have hcv : cv = .bool true := hv
  subst hcv
  have hbl := hr.isBelow fun _ => id
  exact ⟨_, rfl, I.post_of_below (pa := _) (pv := []) hW' (fun _ _ _ => trodAll_mk1 (shut_bool Tryd.underlying4 _)) (fun sp hsp => trodAll_mk2 (WideElems.Trod_stays laidOutW (by kernel_rfl) (by decide +kernel) h0 (fun x hx => hbl.same (hW'.lt x (by simp [hx]))) (fun x hx => hsp x (by simp [hx]))) (shut_int Tryd.underlying3 w1)) (fun _ _ => rfl) rfl hbl⟩

theorem liftedW (os : Os) (started : os.Started) (Hn : Type) (enc : TypeId × Value → Hn) (F : Stop.Interp) :
    ReturnsInHanded {} Tryd.checked os 7 .any ((OpenSpec.ofChange Rows.lexerHexSpec).preRow enc Tryd.prog Tryd.f7 Rows.lexerHexRow.domain false Rows.lexerHexRow.laid) (((OpenSpec.ofChange Rows.lexerHexSpec).at F).post enc Tryd.prog Tryd.f7 false true false false) := by
  let args : Array Value := #[.slice none 0 0, .int .i64 0]
  let w0 := World.laidAll Tryd.prog os Rows.lexerHexRow.laid
  refine returnsInHanded_of_row (C := Tryd.checked) (s := OpenSpec.ofChange Rows.lexerHexSpec) ownKnobs started (by kernel_rfl) Tryd.func7
    ⟨w0, fun _ _ => 0, ⟨#[], args, []⟩, World.laidAll_os _ _ _, World.shaped_of_ZipB (by kernel_rfl) (by kernel_rfl), rfl, ?_, ?_, ?_⟩ ?_
  · exact (Input.okWide_of_okWideB (base := _) (by kernel_rfl)).2
  · exact OpenSpec.preRow_of_cond 8 (x := ([.nil, .lit (.int .i64 0)], [], [])) (by kernel_rfl) (by kernel_rfl) (fun k hk => by cases hk) (by kernel_rfl)
      (by rw [MakeChecks.laidMetH_plain _ _ _ (by kernel_rfl)]; exact laidMet_laidAll _ (by kernel_rfl) (by kernel_rfl))
  · simp only [Assume.holds]
    exact ⟨by simp, by simp, fun _ => Modest.zero, by simp, by simp⟩
  · intro W base args ds gs before hval hW _ hcond _ hl hs _
    exact contractW Hn enc W base args ds gs before hval hW (ep_of (laid := Rows.lexerHexRow.laid) (by simp [Rows.lexerHexRow]) (by simp [Rows.lexerHexRow]) (by kernel_rfl) hs hl fun _ h => h)

theorem saidW : Rows.LexerHexSaid :=
  OpenClaim.holds_of_cond 7 Tryd.f7 rfl rfl rfl rfl rfl rfl rfl ⟨rfl, rfl, rfl, rfl, rfl⟩ rfl rfl rfl rfl rfl (by kernel_rfl) Tryd.func7 (by kernel_rfl)
    (of_decide_eq_true (by kernel_rfl)) (by unfold Func.isWrapper; first | (rw [if_pos (by decide +kernel)]; kernel_rfl) | (rw [if_neg (by decide +kernel)]; exact ⟨rfl, rfl⟩))
    (fun os started H enc _ F => by rw [OpenClaim.pre_eq_preRow]; exact liftedW os started H enc F)
theorem upto_card : Rows.LexerHexCardSaid :=
  Claim7.holds_tied_plain_at .later [] _ _ _ _ saidW (fun _ h => by cases h) (by kernel_rfl) (fun _ h => by cases h) lexerHex_row_tie rfl ⟨rfl, rfl⟩ (by kernel_rfl) rfl
    (fun f fn hf hfn => by
      obtain rfl : f = 7 := Option.some.inj ((show Tryd.prog.funcNamed "silkworm/silkwormlaw02.LexerHex" = some 7 by kernel_rfl).symm.trans hf) |>.symm
      obtain rfl : fn = Tryd.f7 := (Option.some.inj (Tryd.func7.symm.trans hfn)).symm
      exact ⟨by kernel_rfl, fun j t ht => by
        rw [Tryd.params7] at ht
        have hm : t ∈ [40, 3] := by simpa using Array.mem_of_getElem? ht
        have hall : ([40, 3].all fun u => !Tryd.prog.wantsStandIn u) = true := by kernel_rfl
        exact (show Tryd.prog.wantsStandIn t = false by simpa using List.all_eq_true.1 hall t hm)⟩)
    (by kernel_rfl)
#print axioms upto_card
end Go.Proofs.YtfegkjmghbdogaaDoor
