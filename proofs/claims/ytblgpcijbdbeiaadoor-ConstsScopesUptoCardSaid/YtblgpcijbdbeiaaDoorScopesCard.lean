/- ConstsScopes, where what it reads is of bulk at most 1048576: whatever the names, there and here, the law returns true, and the arguments read as they did; the tied card of the second form. -/
import Derived.Test.YtblgpcijbdbeiaaDoorM6
import Derived.Test.YtblgpcijbdbeiaaDoorCards
import Derived.Test.YtblgpcijbdbeiaaDoorTie
import Derived.Test.YtblgpcijbdbeiaaDoorM1
import Derived.ProofKit
import Derived.OpenShut
import Derived.Carry
import Derived.LaidMore
import Derived.Lay
import Derived.SevenTiedAt
import Derived.Stop.Joined
import Derived.Deep.DeepHandedRow
namespace Go.Proofs.YtblgpcijbdbeiaaDoor
open Go Go.WideElems Go.ChangeShapes Go.WideShapes Go.ChangeAt Go.RowKit
open I (Str H IV CRes pack VRs VR sv H0 calls_of Rel)

theorem ownKnobsW : ownKnob Tryd.prog.godebug = none := by kernel_rfl
theorem laidOutW : laidOutB Tryd.prog = true := by kernel_rfl

theorem contractW (Hn : Type) (enc : TypeId × Value → Hn) (W : World) (base : Nat) (args : Array Value) (ds gs : List (DataW Hn)) (before : List MemPlace)
    (hval : ∀ (j : Nat) t v, Tryd.f6.params[j]? = some t → args[j]? = some v → Value.okWide Tryd.prog W .any base t v)
    (hW : DataW.Whole enc Tryd.prog Tryd.f6.params.toList Rows.constsScopesSpec.vars false W args.toList ds gs before) (hk : Rows.uptoSmall Hn (ds ++ gs) = true) :
    Calls Tryd.prog 6 args W fun e W' => ∃ v, e = .returned v ∧ Rows.constsScopesSpec.post enc Tryd.prog Tryd.f6 false true false false W args v W' := by
  have hW' := hW
  obtain ⟨p, q, hA0, hV, rfl, hfz, hnd⟩ := hW
  have hA : DataW.TrodAll enc Tryd.prog W 0 (fun _ => true) true Tryd.f6.params.toList args.toList ds p := hA0
  rw [Tryd.params6] at hA hval
  obtain ⟨v0, v1, v2, d0, d1, d2, p0, p1, p2, rfl, rfl, rfl, h0, h1, h2⟩ := trodAll_three hA
  obtain ⟨rfl, rfl⟩ := trodVars_none hV
  have hb : Rows.uptoBulk d0 + Rows.uptoBulk d1 + Rows.uptoBulk d2 ≤ 2 ^ 21 := by
    have := of_decide_eq_true hk
    simp only [List.append_nil, Rows.uptoBulkAll] at this
    omega
  obtain ⟨μ1, g1, x0, l1, vr0, dr0, _⟩ := I.load_slice closN utS ceS (by simp) (hval 0 43 v0 rfl rfl) h0 (I.noMem W true).1 (I.noMem W true).2
  obtain ⟨μ2, g2, x1, l2, vr1, dr1, _⟩ := I.load_slice closN utS ceS (by simp) (hval 1 43 v1 rfl rfl) h1 l1.rel l1.ro
  obtain ⟨μ3, g3, x2, l3, vr2, dr2, _⟩ := I.load_slice closN utS ceS (by simp) (hval 2 43 v2 rfl rfl) h2 l2.rel l2.ro
  obtain ⟨la, ra, ka⟩ := DR_names ((dr0.mono l2.gr).mono l3.gr)
  obtain ⟨lb, rb, kb⟩ := DR_names (dr1.mono l3.gr)
  obtain ⟨lc, rc, kc⟩ := DR_names dr2
  obtain ⟨h', er⟩ := scopes (((l1.trans l2).trans l3).gd rfl) ra rb rc (by omega) (by omega) (by omega)
  refine (calls_of sound2 noNum l3.rel Tryd.func6 rfl (args := [x0, x1, x2]) (cargs := #[v0, v1, v2]) (by exact ⟨_, _, rfl, (vr0.mono l2.le _ _).mono l3.le _ _, ⟨_, _, rfl, vr1.mono l3.le _ _, ⟨_, _, rfl, vr2, rfl⟩⟩⟩) er).mono ?_
  rintro x W' ⟨cv, ν, rfl, _, hr, hv⟩
  have hcv : cv = .bool true := hv
  subst hcv
  have hbl := hr.isBelow fun _ => id
  rw [List.append_nil, List.append_assoc p0 p1 p2] at hW'
  have stay : ∀ (sp : Nat → Bool) (t : TypeId) (v : Value) (d : DataW Hn) (p : List MemPlace), t = 43 → DataW.Trod enc Tryd.prog W 0 (fun _ => true) true t v d p → (∀ x ∈ p, x ∈ p0 ++ (p1 ++ p2)) → (∀ x ∈ p0 ++ (p1 ++ p2), sp x.block = true) → DataW.Trod enc Tryd.prog W' 0 sp true t v d p := by
    rintro sp t v d p rfl hh hm hsp
    exact WideElems.Trod_stays laidOutW (by kernel_rfl) (by decide +kernel) hh (fun x hx => hbl.same (hW'.lt x (by simpa using hm x hx))) (fun x hx => hsp x (hm x hx))
  refine ⟨_, rfl, I.post_of_below (pa := _) (pv := []) hW' (fun _ _ _ => trodAll_mk1 (shut_bool Tryd.underlying4 _)) (fun sp hsp => trodAll_mk3 (stay sp 43 v0 d0 p0 rfl h0 (by simp +contextual) (by simpa using hsp)) (stay sp 43 v1 d1 p1 rfl h1 (by simp +contextual) (by simpa using hsp)) (stay sp 43 v2 d2 p2 rfl h2 (by simp +contextual) (by simpa using hsp))) (fun _ _ => rfl) (List.append_nil _).symm hbl⟩

set_option maxRecDepth 100000 in
theorem liftedW (os : Os) (started : os.Started) (Hn : Type) (enc : TypeId × Value → Hn) (F : Stop.Interp) :
    ReturnsInHanded {} Tryd.checked os 6 .any ((Rows.OpenSpec.upto Rows.constsScopesSpec).preRow enc Tryd.prog Tryd.f6 Rows.constsScopesUptoRow.domain false Rows.constsScopesUptoRow.laid) (((Rows.OpenSpec.upto Rows.constsScopesSpec).at F).post enc Tryd.prog Tryd.f6 false true false false) := by
  let args : Array Value := #[.slice none 0 0, .slice none 0 0, .slice none 0 0]
  let w0 := World.laidAll Tryd.prog os Rows.constsScopesUptoRow.laid
  refine returnsInHanded_of_row (C := Tryd.checked) (s := Rows.OpenSpec.upto Rows.constsScopesSpec) ownKnobsW started (by kernel_rfl) Tryd.func6
    ⟨w0, fun _ _ => 0, ⟨#[], args, []⟩, World.laidAll_os _ _ _, World.shaped_of_ZipB (by kernel_rfl) (by kernel_rfl), rfl, ?_, ?_, ?_⟩ ?_
  · exact (Input.okWide_of_okWideB (base := _) (by kernel_rfl)).2
  · exact OpenSpec.preRow_of_cond 8 (x := ([.nil, .nil, .nil], [], [])) (by kernel_rfl) (by kernel_rfl) (fun k hk => by cases hk; kernel_rfl) (by kernel_rfl)
      (by rw [MakeChecks.laidMetH_plain _ _ _ (by kernel_rfl)]; exact laidMet_laidAll _ (by kernel_rfl) (by kernel_rfl))
  · simp only [Assume.holds]
    exact ⟨by simp, by simp, fun _ => Modest.zero, by simp, by simp⟩
  · intro W base args ds gs before hval hW _ hcond _ _ _ _
    exact contractW Hn enc W base args ds gs before hval hW (hcond _ rfl)

theorem saidW : Rows.ConstsScopesUptoSaid :=
  OpenClaim.holds_of_cond 6 Tryd.f6 rfl rfl rfl rfl rfl rfl rfl ⟨rfl, rfl, rfl, rfl, rfl⟩ rfl rfl rfl rfl rfl (by kernel_rfl) Tryd.func6 (by kernel_rfl)
    (of_decide_eq_true (by kernel_rfl)) (by unfold Func.isWrapper; first | (rw [if_pos (by decide +kernel)]; kernel_rfl) | (rw [if_neg (by decide +kernel)]; exact ⟨rfl, rfl⟩))
    (fun os started H enc _ F => by rw [OpenClaim.pre_eq_preRow]; exact liftedW os started H enc F)
theorem scopesUpto_card : Rows.ConstsScopesUptoCardSaid :=
  Claim7.holds_tied_plain_at .later [] _ _ _ _ saidW (fun _ h => by cases h) (by kernel_rfl) (fun _ h => by cases h) constsScopesUpto_row_tie rfl ⟨rfl, rfl⟩ (by kernel_rfl) rfl
    (fun f fn hf hfn => by
      obtain rfl : f = 6 := Option.some.inj ((show Tryd.prog.funcNamed "silkworm/silkwormlaw06.ConstsScopes" = some 6 by kernel_rfl).symm.trans hf) |>.symm
      obtain rfl : fn = Tryd.f6 := (Option.some.inj (Tryd.func6.symm.trans hfn)).symm
      exact ⟨by kernel_rfl, fun j t ht => by
        rw [Tryd.params6] at ht
        have hm : t ∈ [43, 43, 43] := by simpa using Array.mem_of_getElem? ht
        have hall : ([43, 43, 43].all fun u => !Tryd.prog.wantsStandIn u) = true := by kernel_rfl
        exact (show Tryd.prog.wantsStandIn t = false by simpa using List.all_eq_true.1 hall t hm)⟩)
    (by kernel_rfl)
#print axioms scopesUpto_card
end Go.Proofs.YtblgpcijbdbeiaaDoor
