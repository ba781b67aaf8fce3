import Derived.Test.YtdccdfmbakbikaaDoorM6
import Derived.Test.YtdccdfmbakbikaaDoorM5
import Derived.Test.YtdccdfmbakbikaaDoorM3
import Derived.Test.YtdccdfmbakbikaaDoorM1
import Derived.Test.YtdccdfmbakbikaaDoorRows
import Derived.Lib.LaidU8
import Derived.LaidLaws
import Derived.MakeChecks
set_option maxRecDepth 100000
set_option linter.unusedVariables false
set_option linter.unusedSimpArgs false
namespace Go.Proofs.YtdccdfmbakbikaaDoor
open Go I
theorem split_ln (c : UInt8) : ∀ (ln rest : Bs), (∀ x ∈ ln, x ≠ c) → splitL c (ln ++ c :: rest) = ln :: splitL c rest
  | [], rest, _ => by
    show (if c = c then [] :: splitL c rest else _) = _
    rw [if_pos rfl]
  | x :: ln, rest, h => by
    have ih := split_ln c ln rest (fun y hy => h y (List.mem_cons_of_mem _ hy))
    show (if x = c then [] :: splitL c (ln ++ c :: rest) else match splitL c (ln ++ c :: rest) with
      | [] => [[x]]
      | p :: r => (x :: p) :: r) = _
    rw [if_neg (h x (List.mem_cons_self ..)), ih]
theorem split_end (c : UInt8) : ∀ ln : Bs, (∀ x ∈ ln, x ≠ c) → splitL c ln = [ln]
  | [], _ => rfl
  | x :: ln, h => by
    have ih := split_end c ln (fun y hy => h y (List.mem_cons_of_mem _ hy))
    unfold splitL
    rw [if_neg (h x (List.mem_cons_self ..)), ih]
theorem cut_ln (c : UInt8) : ∀ (a b : Bs), (∀ x ∈ a, x ≠ c) → cutL c (a ++ c :: b) = (a, b, true)
  | [], b, _ => by
    show (if c = c then _ else _) = _
    rw [if_pos rfl]
  | x :: a, b, h => by
    have ih := cut_ln c a b (fun y hy => h y (List.mem_cons_of_mem _ hy))
    rw [List.cons_append]
    unfold cutL
    rw [if_neg (h x (List.mem_cons_self ..)), ih]
def Pr (l : Bs) : Prop := ∀ c ∈ l, 33 ≤ c.toNat
theorem Pr.ne {l : Bs} (h : Pr l) (c : UInt8) (hc : c.toNat < 33) : ∀ x ∈ l, x ≠ c := by
  rintro x hx rfl
  have := h x hx
  omega
theorem dg_toNat (n : Nat) (hn : n < 10) : (UInt8.ofNat (48 + n)).toNat = 48 + n := UInt8.toNat_ofNat_of_lt' (by show 48 + n < 256; omega)
theorem digU_digs : ∀ (f u : Nat), ∀ d ∈ digU f u, 48 ≤ d.toNat ∧ d.toNat ≤ 57
  | 0, u, d, hd => by cases hd
  | f + 1, u, d, hd => by
    simp only [digU] at hd
    split at hd
    · simp only [List.mem_singleton] at hd
      subst hd
      rw [dg_toNat u (by omega)]; omega
    · rcases List.mem_append.1 hd with hd | hd
      · exact digU_digs f _ d hd
      · simp only [List.mem_singleton] at hd
        subst hd
        rw [dg_toNat (u % 10) (by omega)]; omega
theorem digU_nil (f u : Nat) : digU (f + 1) u ≠ [] := by
  simp only [digU]
  split <;> simp
theorem itoaF_pr (n : Int) : Pr (itoaF n) := by
  intro c hc
  unfold itoaF at hc
  split at hc
  · rcases List.mem_cons.1 hc with rfl | hc
    · decide
    · have := digU_digs _ _ c hc; omega
  · have := digU_digs _ _ c hc; omega
theorem codeF_pr (n : Nat) (h : n < 8836) : Pr (codeF n) := by
  intro c hc
  unfold codeF at hc
  split at hc
  · simp only [List.mem_singleton] at hc
    subst hc
    rw [chr_nat n (by omega)]; omega
  · simp only [List.mem_cons, List.not_mem_nil, or_false] at hc
    rcases hc with rfl | rfl
    · rw [chr_nat _ (Nat.mod_lt _ (by decide))]; omega
    · rw [chr_nat _ (by omega)]; omega
theorem codeF_one {n m : Nat} (hn : n < 8836) (hm : m < 8836) (h : codeF n = codeF m) : n = m := by
  unfold codeF at h
  have key : ∀ a b : Nat, a < 94 → b < 94 → chr a = chr b → a = b := fun a b ha hb e => by
    have := congrArg UInt8.toNat e
    rw [chr_nat a ha, chr_nat b hb] at this; omega
  split at h <;> split at h
  · injection h with h _
    exact key _ _ (by omega) (by omega) h
  · have := congrArg List.length h; simp at this
  · have := congrArg List.length h; simp at this
  · injection h with h1 h
    injection h with h2 _
    have e1 := key _ _ (Nat.mod_lt _ (by decide)) (Nat.mod_lt _ (by decide)) h1
    have e2 := key _ _ (by omega) (by omega) h2
    omega
theorem isV_pr {c : UInt8} (h : isV c = true) : 33 ≤ c.toNat ∧ c ≠ 98 ∧ c ≠ 35 := by
  rw [isV_nat] at h
  refine ⟨by omega, ?_, ?_⟩
  · rintro rfl
    have : (98 : UInt8).toNat = 98 := rfl
    omega
  · rintro rfl
    have : (35 : UInt8).toNat = 35 := rfl
    omega
theorem checkM_pr {v : Bs} (h : checkM v = true) : v ≠ [] ∧ ∀ c ∈ v, isV c = true := by
  simp only [checkM, Bool.and_eq_true, decide_eq_true_eq] at h
  obtain ⟨⟨h1, h2⟩, h3⟩ := h
  exact ⟨fun e => by rw [e] at h1; simp at h1, fun c hc => List.all_eq_true.1 h3 c hc⟩
theorem parse_app : ∀ (l m : Bs) (acc : Nat), Lib.parseUint10 acc (l ++ m) = match Lib.parseUint10 acc l with | .ok a => Lib.parseUint10 a m | e => e
  | [], m, acc => rfl
  | c :: l, m, acc => by
    simp only [List.cons_append, Lib.parseUint10]
    split
    · split
      · rfl
      · split
        · rfl
        · exact parse_app l m _
    · rfl
theorem parse_one (acc d : Nat) (hd : d < 10) (h : acc * 10 + d < 18446744073709551616) : Lib.parseUint10 acc [UInt8.ofNat (48 + d)] = .ok (acc * 10 + d) := by
  simp only [Lib.parseUint10, dg_toNat d hd]
  rw [if_pos (by omega), if_neg (by omega), if_neg (by omega)]
  congr 1
  omega
theorem parse_digU : ∀ (f u : Nat), u < 10 ^ f → 0 < f → u < 18446744073709551616 → Lib.parseUint10 0 (digU f u) = .ok u
  | 0, u, _, h0, _ => by omega
  | f + 1, u, h, _, hu => by
    simp only [digU]
    by_cases h10 : u < 10
    · rw [if_pos h10, parse_one 0 u h10 (by omega)]
      congr 1; omega
    · have h2 : u / 10 < 10 ^ f := by rw [Nat.pow_succ] at h; omega
      have h3 : 0 < f := by
        rcases Nat.eq_zero_or_pos f with rfl | h
        · simp at h; omega
        · exact h
      rw [if_neg h10, parse_app, parse_digU f (u / 10) h2 h3 (by omega)]
      simp only
      rw [parse_one _ _ (by omega) (by omega)]
      congr 1; omega
theorem numP_itoa {n : Int} (h0 : 0 ≤ n) (h1 : n ≤ 9223372036854775807) : numP (itoaF n) = some n := by
  obtain ⟨u, rfl⟩ := Int.eq_ofNat_of_zero_le h0
  have hi : itoaF ((u : Nat) : Int) = digU 20 u := by
    unfold itoaF
    rw [if_neg (by omega)]; rfl
  have ha : Lib.atoiAll (digU 20 u) = .ok ((u : Nat) : Int) := by
    have hp := parse_digU 20 u (Nat.lt_of_le_of_lt (show u ≤ 9223372036854775807 by omega) (by decide)) (by decide) (by omega)
    have hd := digU_digs 20 u
    have hne : digU 20 u ≠ [] := digU_nil 19 u
    generalize digU 20 u = l at hp hd hne
    cases l with
    | nil => exact absurd rfl hne
    | cons c r =>
      have hc := hd c (List.mem_cons_self ..)
      simp only [Lib.atoiAll]
      rw [if_neg (show ¬ (c.toNat = 43 ∨ c.toNat = 45) by omega)]
      simp only [Lib.parseMag, List.cons_ne_nil, if_false, hp]
      rw [if_neg (by omega), if_neg (by omega), if_neg (by omega)]
  unfold numP
  rw [hi, ha]
  simp only
  rw [if_pos hi]
theorem getM_cons (p : Bs × Int) (s : Sc) (x : Bs) : getM (p :: s) x = if p.1 = x then some p.2 else getM s x := by
  unfold getM
  rw [List.find?_cons]
  by_cases h : p.1 = x
  · subst h; simp
  · have : (p.1 == x) = false := by simpa using h
    simp [this, h]
theorem getM_app (s : Sc) (p : Bs × Int) (x : Bs) : getM (s ++ [p]) x = match getM s x with | some v => some v | none => if p.1 = x then some p.2 else none := by
  induction s with
  | nil => simp only [List.nil_append, getM_cons]; rfl
  | cons a s ih =>
    rw [List.cons_append, getM_cons, getM_cons, ih]
    by_cases h : a.1 = x <;> simp [h]
structure SMap (s : Sc) (n : Nat) : Prop where
  has : ∀ i, i < n → getM s (codeF i) = some (i : Int)
  only : ∀ c x, getM s c = some x → ∃ i, i < n ∧ c = codeF i
theorem SMap.step {s : Sc} {n : Nat} (h : SMap s n) (hn : n < 8836) : SMap (setM s (codeF n) n) (n + 1) := by
  have hnone : getM s (codeF n) = none := by
    cases hg : getM s (codeF n) with
    | none => rfl
    | some x =>
      obtain ⟨i, hi, e⟩ := h.only _ _ hg
      have := codeF_one hn (by omega) e
      omega
  have he : setM s (codeF n) n = s ++ [(codeF n, (n : Int))] := by
    unfold setM
    rw [hnone]
  rw [he]
  refine ⟨fun i hi => ?_, fun c x hc => ?_⟩
  · rw [getM_app]
    by_cases hin : i = n
    · subst hin
      rw [hnone]; simp
    · rw [h.has i (by omega)]
  · rw [getM_app] at hc
    cases hg : getM s c with
    | some y =>
      obtain ⟨i, hi, e⟩ := h.only _ _ hg
      exact ⟨i, by omega, e⟩
    | none =>
      rw [hg] at hc
      simp only at hc
      split at hc
      · rename_i e
        exact ⟨n, by omega, e.symm⟩
      · cases hc
def varLn (k : Nat) (w : Int) (n : Bs) : Bs := dvar ++ 32 :: (dwire ++ 32 :: (itoaF w ++ 32 :: (codeF k ++ 32 :: (nameF n ++ 32 :: dend))))
theorem varF_ln (k : Nat) (w : Int) (n R : Bs) : varF k w n ++ R = varLn k w n ++ 10 :: R := by
  simp only [varF, varLn, varW, endW, dvar, dwire, dend, List.append_assoc, List.cons_append, List.nil_append, List.singleton_append]
theorem nameF_pr {n : Bs} {w : Int} {f : Bs} (h : netF n w f = true) : Pr (nameF n) := by
  have hn : n.all okC = true := by
    simp only [netF, Bool.and_eq_true] at h
    exact h.1.1.2
  intro c hc
  unfold nameF at hc
  split at hc
  · simp only [List.mem_singleton] at hc
    subst hc; decide
  · have := List.all_eq_true.1 hn c hc
    simp only [okC, Bool.and_eq_true, decide_eq_true_eq] at this
    exact this.1
theorem varLn_nl {n : Bs} {w : Int} {f : Bs} (h : netF n w f = true) {k : Nat} (hk : k < 8836) : ∀ c ∈ varLn k w n, c ≠ 10 := by
  intro c hc
  simp only [varLn, List.mem_append, List.mem_cons] at hc
  rcases hc with hc | rfl | hc | rfl | hc | rfl | hc | rfl | hc | rfl | hc
  · revert c; decide
  · decide
  · revert c; decide
  · decide
  · exact (itoaF_pr w).ne 10 (by decide) c hc
  · decide
  · exact (codeF_pr k hk).ne 10 (by decide) c hc
  · decide
  · exact (nameF_pr h).ne 10 (by decide) c hc
  · decide
  · revert c; decide
theorem varP_ln {n : Bs} {w : Int} {f : Bs} (h : netF n w f = true) {k : Nat} (hk : k < 8836) (h95 : n ≠ [95]) : varP (varLn k w n) = some (codeF k, n, w) := by
  have hw : 0 ≤ w ∧ w ≤ 256 := by
    have h' := h
    simp only [netF, Bool.and_eq_true, decide_eq_true_eq] at h'
    have := h'.1.2
    simp only [checkM, Bool.and_eq_true, decide_eq_true_eq] at this
    omega
  have hs : splitL 32 (varLn k w n) = [dvar, dwire, itoaF w, codeF k, nameF n, dend] := by
    unfold varLn
    rw [split_ln _ _ _ (by decide), split_ln _ _ _ (by decide), split_ln _ _ _ ((itoaF_pr w).ne 32 (by decide)), split_ln _ _ _ ((codeF_pr k hk).ne 32 (by decide)), split_ln _ _ _ ((nameF_pr h).ne 32 (by decide)), split_end _ _ (by decide)]
  unfold varP
  rw [hs]
  simp only
  rw [if_pos ⟨trivial, trivial, trivial⟩, numP_itoa hw.1 (by omega)]
  simp only [Option.map_some]
  congr 2
  congr 1
  unfold nameF
  by_cases hn : n = []
  · subst hn; rfl
  · rw [if_neg hn, if_neg h95]
theorem mid_split (R : Bs) : splitL 10 (midF ++ R) = upW :: edW :: dvW :: splitL 10 R := by
  have e : midF ++ R = upW ++ 10 :: (edW ++ 10 :: (dvW ++ 10 :: R)) := by
    rw [show midF = upW ++ 10 :: (edW ++ 10 :: (dvW ++ [10])) by decide]
    simp only [List.append_assoc, List.cons_append, List.nil_append]
  rw [e, split_ln _ _ _ (by decide), split_ln _ _ _ (by decide), split_ln _ _ _ (by decide)]
theorem vars_back : ∀ {ns : List Bs} {ws : List Int} {fs : List Bs} {k : Nat} {v : Bs} {s : Sc} {nm : List Bs} {wd : List Int} (R : Bs), netsF ns ws fs = true → k + ns.length ≤ 8836 → varsF k ns ws = some v → nm.length = k → SMap s k →
    ∃ s', varsP (splitL 10 (v ++ (midF ++ R))) s nm wd = some (splitL 10 R, s', nm ++ ns, wd ++ ws) ∧ SMap s' (k + ns.length)
  | [], [], [], k, v, s, nm, wd, R, _, _, h, _, sm => by
    simp only [varsF, Option.some.injEq] at h
    subst h
    refine ⟨s, ?_, sm⟩
    rw [List.nil_append, mid_split]
    unfold varsP
    rw [if_pos rfl]
    show (if edW = edW ∧ dvW = dvW then some (splitL 10 R, s, nm, wd) else none) = _
    rw [if_pos ⟨rfl, rfl⟩, List.append_nil, List.append_nil]
  | n :: ns, w :: ws, f :: fs, k, v, s, nm, wd, R, hn, hk, h, hl, sm => by
    simp only [netsF, Bool.and_eq_true] at hn
    rw [List.length_cons] at hk
    simp only [varsF] at h
    split at h
    · cases h
    · rename_i h95
      obtain ⟨v', hv', rfl⟩ := Option.map_eq_some_iff.1 h
      obtain ⟨s', e, sm'⟩ := vars_back (nm := nm ++ [n]) (wd := wd ++ [w]) R hn.2 (k := k + 1) (by omega) hv' (by simp; omega) (sm.step (by omega))
      refine ⟨s', ?_, by rw [List.length_cons, show k + (ns.length + 1) = k + 1 + ns.length by omega]; exact sm'⟩
      rw [List.append_assoc, varF_ln, split_ln _ _ _ (varLn_nl hn.1 (by omega))]
      unfold varsP
      have hup : varLn k w n ≠ upW := fun hh => by
        have := congrArg (fun l : Bs => l[1]?) hh
        simp only [varLn, dvar, List.cons_append, List.getElem?_cons_succ, List.getElem?_cons_zero] at this
        revert this; decide
      rw [if_neg hup, varP_ln hn.1 (by omega) h95]
      simp only
      rw [hl, e, List.append_assoc, List.append_assoc]; rfl
  | [], _ :: _, _, _, _, _, _, _, _, h, _, _, _, _ => by simp [netsF] at h
  | [], [], _ :: _, _, _, _, _, _, _, h, _, _, _, _ => by simp [netsF] at h
  | _ :: _, [], _, _, _, _, _, _, _, h, _, _, _, _ => by simp [netsF] at h
  | _ :: _, _ :: _, [], _, _, _, _, _, _, h, _, _, _, _ => by simp [netsF] at h
def valLn (v : Bs) (k : Nat) : Bs := if v.length = 1 then v ++ codeF k else 98 :: (v ++ 32 :: codeF k)
theorem valueF_ln (v : Bs) (k : Nat) (R : Bs) : valueF v k ++ R = valLn v k ++ 10 :: R := by
  unfold valueF valLn
  split <;> simp only [List.append_assoc, List.cons_append, List.nil_append, List.singleton_append]
theorem valLn_nl {v : Bs} (h : checkM v = true) {k : Nat} (hk : k < 8836) : ∀ c ∈ valLn v k, c ≠ 10 := by
  obtain ⟨_, hv⟩ := checkM_pr h
  have pv : Pr v := fun c hc => (isV_pr (hv c hc)).1
  intro c hc
  unfold valLn at hc
  split at hc
  · rcases List.mem_append.1 hc with hc | hc
    · exact pv.ne 10 (by decide) c hc
    · exact (codeF_pr k hk).ne 10 (by decide) c hc
  · simp only [List.mem_cons, List.mem_append] at hc
    rcases hc with rfl | hc | rfl | hc
    · decide
    · exact pv.ne 10 (by decide) c hc
    · decide
    · exact (codeF_pr k hk).ne 10 (by decide) c hc
theorem valP_ln {v : Bs} (h : checkM v = true) {k : Nat} {s : Sc} (hs : getM s (codeF k) = some (k : Int)) : valP s (valLn v k) = some ((k : Int), v) ∧ valLn v k ≠ [] ∧ (valLn v k).head? ≠ some 35 := by
  obtain ⟨hne, hv⟩ := checkM_pr h
  have pv : Pr v := fun c hc => (isV_pr (hv c hc)).1
  unfold valLn
  by_cases h1 : v.length = 1
  · rw [if_pos h1]
    match v, h1 with
    | [x], _ =>
      obtain ⟨_, h98, h35⟩ := isV_pr (hv x (by simp))
      refine ⟨?_, by simp, by simpa using h35⟩
      show (if x = 98 then (getM s (cutL 32 (codeF k)).2.1).map (fun n => (n, (cutL 32 (codeF k)).1)) else (getM s (codeF k)).map fun n => (n, [x])) = _
      rw [if_neg h98, hs]; rfl
  · rw [if_neg h1]
    refine ⟨?_, by simp, by simp⟩
    show (if (98 : UInt8) = 98 then (getM s (cutL 32 (v ++ 32 :: codeF k)).2.1).map (fun n => (n, (cutL 32 (v ++ 32 :: codeF k)).1)) else (getM s (v ++ 32 :: codeF k)).map fun n => (n, [98])) = _
    rw [if_pos rfl, cut_ln _ _ _ (pv.ne 32 (by decide)), hs]; rfl
theorem first_back {s : Sc} {N : Nat} (hN : N ≤ 8836) (sm : SMap s N) (w : Wv) : ∀ (vs fs : List Bs) (k : Nat) (R : Bs), (∀ v ∈ vs, checkM v = true) → k + vs.length ≤ N → firstP s w vs.length fs (splitL 10 (valsF k vs ++ R)) = endP s { w with first := fs ++ vs } (splitL 10 R)
  | [], fs, k, R, _, _ => by
    rw [List.append_nil]; rfl
  | v :: vs, fs, k, R, h, hk => by
    rw [List.length_cons] at hk
    have hv := h v (List.mem_cons_self ..)
    have ih := first_back hN sm w vs (fs ++ [v]) (k + 1) R (fun x hx => h x (List.mem_cons_of_mem _ hx)) (by omega)
    simp only [valsF, List.append_assoc]
    rw [valueF_ln, split_ln _ _ _ (valLn_nl hv (by omega))]
    show (match valP s (valLn v k) with | none => none | some p => firstP s w vs.length (fs ++ [p.2]) (splitL 10 (valsF (k + 1) vs ++ R))) = _
    rw [(valP_ln hv (sm.has k (by omega))).1]
    simp only
    rw [ih, List.append_assoc]; rfl
def timeOf : Option Chg → Int
  | none => -1
  | some c => c.time
theorem chg_back {s : Sc} {N : Nat} (hN : N ≤ 8836) (sm : SMap s N) {wides : List Int} : ∀ (l : List Chg) (p : Option Chg) (now : List Bs) (cs : List Chg), listF N wides now p l = true → chgP (timeOf p) (splitL 10 (chgsF p l)) s cs = some (cs ++ l)
  | [], p, now, cs, _ => by
    show (if ([] : Bs) = [] then some cs else _) = _
    rw [if_pos rfl, List.append_nil]
  | c :: l, p, now, cs, h => by
    simp only [listF, Bool.and_eq_true] at h
    obtain ⟨hp, hv, hl⟩ := h
    have ih := chg_back hN sm l (some c) _ (cs ++ [c]) hl
    simp only [placeF, Bool.and_eq_true, decide_eq_true_eq] at hp
    obtain ⟨⟨⟨⟨n0, n1⟩, t0⟩, t1⟩, _⟩ := hp
    have hck : checkM c.val = true := by
      simp only [valF, Bool.and_eq_true] at hv
      exact hv.1.1
    have hk : c.net.toNat < N := by omega
    have hnn : ((c.net.toNat : Nat) : Int) = c.net := by omega
    obtain ⟨q1, q2, q3⟩ := valP_ln hck (sm.has _ hk)
    rw [hnn] at q1
    have value : chgP c.time (splitL 10 (valueF c.val c.net.toNat ++ chgsF (some c) l)) s cs = some (cs ++ c :: l) := by
      rw [valueF_ln, split_ln _ _ _ (valLn_nl hck (by omega))]
      unfold chgP
      rw [if_neg q2, if_neg q3, q1]
      show chgP c.time _ s (cs ++ [⟨c.time, c.net, c.val⟩]) = _
      have : timeOf (some c) = c.time := rfl
      rw [this] at ih
      rw [ih, List.append_assoc]; rfl
    simp only [chgsF, chgF, List.append_assoc]
    unfold timeF
    by_cases ht : p.map (·.time) = some c.time
    · rw [if_pos ht, List.nil_append]
      have : timeOf p = c.time := by
        cases p with
        | none => cases ht
        | some q => injection ht
      rw [this]; exact value
    · rw [if_neg ht]
      have e : [35] ++ itoaF c.time ++ [10] ++ (valueF c.val c.net.toNat ++ chgsF (some c) l) = (35 :: itoaF c.time) ++ 10 :: (valueF c.val c.net.toNat ++ chgsF (some c) l) := by simp
      rw [e, split_ln _ _ _ (fun x hx => by
        rcases List.mem_cons.1 hx with rfl | hx
        · decide
        · exact (itoaF_pr _).ne 10 (by decide) x hx)]
      unfold chgP
      rw [if_neg (List.cons_ne_nil _ _), if_pos (show (35 :: itoaF c.time).head? = some 35 from rfl), List.tail_cons, numP_itoa t0 (by omega)]
      exact value
theorem checks_of : ∀ {a : List Bs} {b : List Int} {c : List Bs}, netsF a b c = true → ∀ v ∈ c, checkM v = true
  | [], [], [], _, v, hv => by cases hv
  | n :: ns, w :: ws, f :: fs, h, v, hv => by
    simp only [netsF, netF, Bool.and_eq_true] at h
    rcases List.mem_cons.1 hv with rfl | hv
    · exact h.1.1.2
    · exact checks_of h.2 v hv
  | [], _ :: _, _, h, _, _ => by simp [netsF] at h
  | [], [], _ :: _, h, _, _ => by simp [netsF] at h
  | _ :: _, [], _, h, _, _ => by simp [netsF] at h
  | _ :: _, _ :: _, [], h, _, _ => by simp [netsF] at h
theorem write_parts {w : Wv} {t : Bs} (h : writeF w = (t, 0)) : ∃ v, w.names.length ≤ 4096 ∧ netsF w.names w.wides w.first = true ∧ listF w.names.length w.wides w.first none w.list = true ∧ varsF 0 w.names w.wides = some v ∧ t = headF ++ (v ++ (midF ++ (valsF 0 w.first ++ (endF ++ chgsF none w.list)))) ∧ t.length ≤ 1048576 := by
  unfold writeF at h
  split at h
  · rename_i hF
    simp only [waveF, Bool.and_eq_true, decide_eq_true_eq] at hF
    split at h
    · simp at h
    · rename_i v hv
      split at h
      · simp at h
      · rename_i hle
        injection h with h _
        subst h
        exact ⟨v, hF.1.1, hF.1.2, hF.2, hv, by simp only [baseF, List.append_assoc], by omega⟩
  · simp at h
theorem read_back {w : Wv} {t : Bs} (h : writeF w = (t, 0)) : readP t = some w := by
  obtain ⟨v, h1, h2, h3, h4, rfl, _⟩ := write_parts h
  obtain ⟨l1, l2⟩ := netsF_len h2
  have hh : ∀ R : Bs, splitL 10 (headF ++ R) = tsW :: scW :: splitL 10 R := by
    intro R
    have e : headF ++ R = tsW ++ 10 :: (scW ++ 10 :: R) := by
      rw [show headF = tsW ++ 10 :: (scW ++ [10]) by decide]
      simp only [List.append_assoc, List.cons_append, List.nil_append]
    rw [e, split_ln _ _ _ (by decide), split_ln _ _ _ (by decide)]
  obtain ⟨s, ev, sm⟩ := vars_back (s := []) (nm := []) (wd := []) (valsF 0 w.first ++ (endF ++ chgsF none w.list)) h2 (k := 0) (by omega) h4 rfl ⟨fun i hi => by omega, fun c x hc => by cases hc⟩
  rw [Nat.zero_add] at sm
  unfold readP
  rw [hh]
  generalize hX : splitL 10 (v ++ (midF ++ (valsF 0 w.first ++ (endF ++ chgsF none w.list)))) = X at ev
  have hne : X ≠ [] := by rw [← hX]; exact splitL_ne _ _
  obtain ⟨l, ls, rfl⟩ := List.exists_cons_of_ne_nil hne
  have hr : readVarsP (tsW :: scW :: l :: ls) = varsP (l :: ls) [] [] [] := by
    show (if tsW = tsW ∧ scW = scW then varsP (l :: ls) [] [] [] else none) = _
    rw [if_pos ⟨rfl, rfl⟩]
  rw [hr, ev]
  simp only [List.nil_append]
  have fb := first_back (N := w.names.length) (by omega) sm ⟨w.names, w.wides, [], []⟩ w.first [] 0 (endF ++ chgsF none w.list) (checks_of h2) (by omega)
  rw [l2] at fb
  rw [fb]
  have he : splitL 10 (endF ++ chgsF none w.list) = dend :: splitL 10 (chgsF none w.list) := by
    have e : endF ++ chgsF none w.list = dend ++ 10 :: chgsF none w.list := rfl
    rw [e, split_ln _ _ _ (by decide)]
  have cb := chg_back (by omega) sm w.list none w.first [] h3
  rw [he]
  generalize hY : splitL 10 (chgsF none w.list) = Y at cb
  have hne : Y ≠ [] := by rw [← hY]; exact splitL_ne _ _
  obtain ⟨l, ls, rfl⟩ := List.exists_cons_of_ne_nil hne
  show (if dend = dend then (chgP (-1) (l :: ls) s []).map fun c => _ else none) = _
  have cb' : chgP (-1) (l :: ls) s [] = some ([] ++ w.list) := cb
  rw [if_pos rfl, cb']
  rfl
theorem chg_int {h : H} (d : Nat) (n : Int) : ieq Tryd.prog h (d + 1) 3 (.int .i64 n) (.int .i64 n) = some true := by
  simp only [ieq, Tryd.underlying3, if_true, decide_true]
theorem chg_str {h : H} (d : Nat) (l : Bs) : ieq Tryd.prog h (d + 1) 9 (sv l) (sv l) = some true := by
  simp only [ieq, sv, Tryd.underlying9, Str.eq_self]
theorem binK_chg {h : H} (t : Chg) : binK Tryd.prog h .neq 41 false false (.agg (chgC t)) (.agg (chgC t)) = some (.bool false) := by
  have hg : Tryd.prog.eqGuardType Tryd.prog.depth 41 = false := by kernel_rfl
  have hs : Tryd.prog.stoodInHeld 41 = false := by kernel_rfl
  have a3 : isAggT Tryd.prog 3 = some false := by kernel_rfl
  have a9 : isAggT Tryd.prog 9 = some false := by kernel_rfl
  have key : ieq Tryd.prog h 10000 41 (.agg (chgC t)) (.agg (chgC t)) = some true := by
    show ieq Tryd.prog h (9998 + 1 + 1) 41 (.agg (chgC t)) (.agg (chgC t)) = some true
    unfold ieq
    rw [show Tryd.prog.underlying 41 = _ from Tryd.underlying41]
    simp only [hs, Bool.false_eq_true, if_false, ieqL, partI, a3, a9, chgC, List.getElem?_cons_zero, List.getElem?_cons_succ, chg_int, chg_str]
    simp
  simp only [binK, guardEqB, hg, key, Bool.not_false, if_true, Bool.not_true]
section
variable {h : H} {b c : Nat} {n wd f l n' wd' f' l' : IV} {w : Wv}
theorem sw4 (x : WB h b n wd f l w) (y : WB h c n' wd' f' l' w) (hl : w.list.length ≤ 9223372036854775807) : ∀ (k i : Nat), i + k = w.list.length → J9 tab3 4 [.ptr b 0, .ptr c 0, .int .i64 (i : Nat)] h = .ok (.bool true) h := by
  have l3 := x.l3
  have m3 := y.l3
  have n3 := x.wr.list.len
  intro k
  induction k with
  | zero =>
    intro i hi
    have hlt : ¬ ((i : Nat) : Int) < (w.list.length : Nat) := by omega
    refine e9_4 ?_ (by simp)
    simp only [t9_4, W, WW, ↓reduceIte, reduceCtorEq, Nat.reduceAdd, Int.reduceEq, Int.reduceNe, Int.reduceLT, Int.reduceLE, Int.reduceAdd, Int.reduceSub, Int.reduceMul, Int.reduceNeg, Nat.reduceMul, l3, n3, Int.ofNat_eq_natCast, hlt]
  | succ k ih =>
    intro i hi
    have hlt : ((i : Nat) : Int) < (w.list.length : Nat) := by omega
    obtain ⟨v, hv⟩ : ∃ v, w.list[i]? = some v := ⟨_, List.getElem?_eq_getElem (by omega)⟩
    obtain ⟨p, o, q1, q2, -⟩ := LR.chg x.wr.list hv
    obtain ⟨p', o', r1, r2, -⟩ := LR.chg y.wr.list hv
    refine e9_4 ?_ (by simp)
    simp only [t9_4, W, WW, ↓reduceIte, reduceCtorEq, Nat.reduceAdd, Int.reduceEq, Int.reduceNe, Int.reduceLT, Int.reduceLE, Int.reduceAdd, Int.reduceSub, Int.reduceMul, Int.reduceNeg, Nat.reduceMul, l3, n3, Int.ofNat_eq_natCast, hlt, q1, q2, m3, r1, r2, binK_chg, wr_succ (show i < 9223372036854775807 by omega)]
    exact ih (i + 1) (by omega)
theorem sw3 (x : WB h b n wd f l w) (y : WB h c n' wd' f' l' w) (hl : w.list.length ≤ 9223372036854775807) (hn : w.names.length ≤ 4096) : ∀ (k i : Nat), i + k = w.names.length → J9 tab3 3 [.bool true, .ptr b 0, .ptr c 0, .int .i64 (i : Nat)] h = .ok (.bool true) h := by
  have l3 := x.l0
  have m3 := y.l0
  have n3 := x.wr.names.len
  intro k
  induction k with
  | zero =>
    intro i hi
    have hlt : ¬ ((i : Nat) : Int) < (w.names.length : Nat) := by omega
    refine e9_3 ?_ (by simp)
    simp only [t9_3, W, WW, ↓reduceIte, reduceCtorEq, Nat.reduceAdd, Int.reduceEq, Int.reduceNe, Int.reduceLT, Int.reduceLE, Int.reduceAdd, Int.reduceSub, Int.reduceMul, Int.reduceNeg, Nat.reduceMul, l3, n3, Int.ofNat_eq_natCast, hlt]
    exact sw4 x y hl w.list.length 0 (by omega)
  | succ k ih =>
    intro i hi
    have hlt : ((i : Nat) : Int) < (w.names.length : Nat) := by omega
    obtain ⟨v, hv⟩ : ∃ v, w.names[i]? = some v := ⟨_, List.getElem?_eq_getElem (by omega)⟩
    obtain ⟨p, q1, q2⟩ := LR.str x.wr.names hv
    obtain ⟨p', r1, r2⟩ := LR.str y.wr.names hv
    refine e9_3 ?_ (by simp)
    simp only [t9_3, W, WW, ↓reduceIte, reduceCtorEq, Nat.reduceAdd, Int.reduceEq, Int.reduceNe, Int.reduceLT, Int.reduceLE, Int.reduceAdd, Int.reduceSub, Int.reduceMul, Int.reduceNeg, Nat.reduceMul, l3, n3, Int.ofNat_eq_natCast, hlt, q1, q2, m3, r1, r2, wr_succ (show i < 9223372036854775807 by omega)]
    exact ih (i + 1) (by omega)
theorem sw2 (x : WB h b n wd f l w) (y : WB h c n' wd' f' l' w) (hl : w.list.length ≤ 9223372036854775807) (hn : w.names.length ≤ 4096) (hw : w.wides.length ≤ 4096) : ∀ (k i : Nat), i + k = w.wides.length → J9 tab3 2 [.bool true, .ptr b 0, .ptr c 0, .int .i64 (i : Nat)] h = .ok (.bool true) h := by
  have l3 := x.l1
  have m3 := y.l1
  have n3 := x.wr.wides.len
  intro k
  induction k with
  | zero =>
    intro i hi
    have hlt : ¬ ((i : Nat) : Int) < (w.wides.length : Nat) := by omega
    refine e9_2 ?_ (by simp)
    simp only [t9_2, W, WW, ↓reduceIte, reduceCtorEq, Nat.reduceAdd, Int.reduceEq, Int.reduceNe, Int.reduceLT, Int.reduceLE, Int.reduceAdd, Int.reduceSub, Int.reduceMul, Int.reduceNeg, Nat.reduceMul, l3, n3, Int.ofNat_eq_natCast, hlt]
    exact sw3 x y hl hn w.names.length 0 (by omega)
  | succ k ih =>
    intro i hi
    have hlt : ((i : Nat) : Int) < (w.wides.length : Nat) := by omega
    obtain ⟨v, hv⟩ : ∃ v, w.wides[i]? = some v := ⟨_, List.getElem?_eq_getElem (by omega)⟩
    obtain ⟨p, q1, q2⟩ := LW.int x.wr.wides hv
    obtain ⟨p', r1, r2⟩ := LW.int y.wr.wides hv
    refine e9_2 ?_ (by simp)
    simp only [t9_2, W, WW, ↓reduceIte, reduceCtorEq, Nat.reduceAdd, Int.reduceEq, Int.reduceNe, Int.reduceLT, Int.reduceLE, Int.reduceAdd, Int.reduceSub, Int.reduceMul, Int.reduceNeg, Nat.reduceMul, l3, n3, Int.ofNat_eq_natCast, hlt, q1, q2, m3, r1, r2, wr_succ (show i < 9223372036854775807 by omega)]
    exact ih (i + 1) (by omega)
theorem sw1 (x : WB h b n wd f l w) (y : WB h c n' wd' f' l' w) (hl : w.list.length ≤ 9223372036854775807) (hn : w.names.length ≤ 4096) (hw : w.wides.length ≤ 4096) (hf : w.first.length ≤ 4096) : ∀ (k i : Nat), i + k = w.first.length → J9 tab3 1 [.bool true, .ptr b 0, .ptr c 0, .int .i64 (i : Nat)] h = .ok (.bool true) h := by
  have l3 := x.l2
  have m3 := y.l2
  have n3 := x.wr.first.len
  intro k
  induction k with
  | zero =>
    intro i hi
    have hlt : ¬ ((i : Nat) : Int) < (w.first.length : Nat) := by omega
    refine e9_1 ?_ (by simp)
    simp only [t9_1, W, WW, ↓reduceIte, reduceCtorEq, Nat.reduceAdd, Int.reduceEq, Int.reduceNe, Int.reduceLT, Int.reduceLE, Int.reduceAdd, Int.reduceSub, Int.reduceMul, Int.reduceNeg, Nat.reduceMul, l3, n3, Int.ofNat_eq_natCast, hlt]
    exact sw2 x y hl hn hw w.wides.length 0 (by omega)
  | succ k ih =>
    intro i hi
    have hlt : ((i : Nat) : Int) < (w.first.length : Nat) := by omega
    obtain ⟨v, hv⟩ : ∃ v, w.first[i]? = some v := ⟨_, List.getElem?_eq_getElem (by omega)⟩
    obtain ⟨p, q1, q2⟩ := LR.str x.wr.first hv
    obtain ⟨p', r1, r2⟩ := LR.str y.wr.first hv
    refine e9_1 ?_ (by simp)
    simp only [t9_1, W, WW, ↓reduceIte, reduceCtorEq, Nat.reduceAdd, Int.reduceEq, Int.reduceNe, Int.reduceLT, Int.reduceLE, Int.reduceAdd, Int.reduceSub, Int.reduceMul, Int.reduceNeg, Nat.reduceMul, l3, n3, Int.ofNat_eq_natCast, hlt, q1, q2, m3, r1, r2, wr_succ (show i < 9223372036854775807 by omega)]
    exact ih (i + 1) (by omega)
end
theorem same3 {h : H} (g : Gd h) {n wd f l n' wd' f' l' : IV} {w : Wv} (r : WR h n wd f l w) (r' : WR h n' wd' f' l' w) (hl : w.list.length ≤ 9223372036854775807) (hn : w.names.length ≤ 4096) (hw : w.wides.length ≤ 4096) (hf : w.first.length ≤ 4096) :
    ∃ h', CL tab3 9 [.agg [n, wd, f, l], .agg [n', wd', f', l'], .bool true] h = .ok (.bool true) h' ∧ Ky h h' := by
  obtain ⟨h2, s2, k2, d2, -, -⟩ := (Ky.refl g).newI (cs := [n, wd, f, l]) r.scalar
  obtain ⟨h4, s4, k4, d4, k24, -⟩ := k2.newI (cs := [n', wd', f', l']) r'.scalar
  have x : WB h4 h.next n wd f l w := ⟨d2.ky k2.gd.wf k24, r.ky g.wf k4⟩
  have y : WB h4 h2.next n' wd' f' l' w := ⟨d4, r'.ky g.wf k4⟩
  refine ⟨h4, c9 good3.step rfl rfl g ?_ (by simp), k4⟩
  have x0 := x.l0
  have x1 := x.l1
  have x2 := x.l2
  have x3 := x.l3
  have y0 := y.l0
  have y1 := y.l1
  have y2 := y.l2
  have y3 := y.l3
  have a0 := x.wr.names.len
  have a1 := x.wr.wides.len
  have a2 := x.wr.first.len
  have a3 := x.wr.list.len
  have b0 := y.wr.names.len
  have b1 := y.wr.wides.len
  have b2 := y.wr.first.len
  have b3 := y.wr.list.len
  simp only [t9_0, IV.cells, s2, s4, W, WW, ↓reduceIte, reduceCtorEq, Nat.reduceAdd, Int.reduceEq, Int.reduceNe, Int.reduceLT, Int.reduceLE, Int.reduceAdd, Int.reduceSub, Int.reduceMul, Int.reduceNeg, Nat.reduceMul, x0, x1, x2, x3, y0, y1, y2, y3, a0, a1, a2, a3, b0, b1, b2, b3]
  exact sw1 x y hl hn hw hf w.first.length 0 (by omega)
end Go.Proofs.YtdccdfmbakbikaaDoor
namespace Go.Proofs.YtdccdfmbakbikaaDoor
open Go I
theorem rout_good {hS : H} {s0 : Bs} {o : Option Wv} {r : CRes} (x : ROut hS s0 o r) {w : Wv} (hw : writeF w = (s0, 0)) (ho : o = some w) : GoodR hS w r := by
  subst ho
  have x : (if writeF w = (s0, 0) then GoodR hS w r else BadR hS r) := x
  rw [if_pos hw] at x
  exact x
theorem rout_bad {hS : H} {s0 : Bs} {o : Option Wv} {r : CRes} (x : ROut hS s0 o r) (hno : ¬ ∃ w, writeF w = (s0, 0)) : BadR hS r := by
  cases o with
  | none => exact x
  | some w =>
    have x : (if writeF w = (s0, 0) then GoodR hS w r else BadR hS r) := x
    rw [if_neg (fun h => hno ⟨w, h⟩)] at x
    exact x
theorem chgs_len : ∀ (p : Option Chg) (l : List Chg), l.length ≤ (chgsF p l).length
  | _, [] => Nat.le_refl _
  | p, c :: l => by
    have := chgs_len (some c) l
    have hv : 1 ≤ (valueF c.val c.net.toNat).length := by
      unfold valueF
      split <;> simp <;> omega
    simp only [chgsF, chgF, List.length_append, List.length_cons]; omega
theorem write_small {w : Wv} {t : Bs} (h : writeF w = (t, 0)) : w.list.length ≤ 1048576 ∧ w.names.length ≤ 4096 ∧ w.wides.length ≤ 4096 ∧ w.first.length ≤ 4096 ∧ t.length ≤ 1048576 := by
  obtain ⟨v, h1, h2, h3, h4, rfl, h5⟩ := write_parts h
  obtain ⟨l1, l2⟩ := netsF_len h2
  have := chgs_len none w.list
  refine ⟨?_, h1, by omega, by omega, h5⟩
  simp only [List.length_append] at h5
  omega
def w0 : Wv := ⟨[[97]], [1], [[120]], [⟨5, 0, [49]⟩]⟩
theorem w0_ok : writeF w0 = ((writeF w0).1, 0) := by
  have : (writeF w0).2 = 0 := by kernel_rfl
  exact Prod.ext rfl this
theorem w0_len : (12 : Int) < ((writeF w0).1.length : Nat) := by decide +kernel
theorem w0_end : slcStr (sv (writeF w0).1) (some (.int .i64 (wr .i64 (((writeF w0).1.length : Nat) - 6)))) none = some (.str ⟨6, 11137672951075⟩) := by kernel_rfl
theorem awakeS {h : H} (g : Gd h) : ∃ h', CL tab3 12 [] h = .ok (.bool true) h' ∧ Ky h h' := by
  obtain ⟨h2, s2, k2, d2, -⟩ := lit_ky (es := 1) (z := [.str ⟨0, 0⟩]) (vs := [sv [97]]) g rfl (fun v hv => by simp at hv; subst hv; rfl) rfl
  obtain ⟨h4, s4, k4, d4, -⟩ := litW_ky (es := 1) (z := [.int .i64 0]) (vs := [.int .i64 1]) k2.gd rfl (fun v hv => by simp at hv; subst hv; rfl) rfl
  obtain ⟨h6, s6, k6, d6, -⟩ := lit_ky (es := 1) (z := [.str ⟨0, 0⟩]) (vs := [sv [120]]) k4.gd rfl (fun v hv => by simp at hv; subst hv; rfl) rfl
  obtain ⟨h9, s9, k9, d9, -⟩ := lit_ky (es := 3) (z := z1) (vs := [.agg (chgC ⟨5, 0, [49]⟩)]) k6.gd rfl (fun v hv => by simp at hv; subst hv; rfl) rfl
  have k09 := ((k2.trans k4).trans k6).trans k9
  have r1 : LR h9 1 RS [[97]] (.slice h.next 0 1 1) := .inr ⟨_, 0, _, rfl, ⟨_, d2.ky k2.gd.wf ((k4.trans k6).trans k9)⟩, by show 0 + 1 * 1 ≤ 1; omega, ⟨_, _, rfl, rfl, rfl, rfl⟩⟩
  have r2 : LW h9 [1] (.slice h2.next 0 1 1) := .inr ⟨_, _, rfl, d4.ky k4.gd.wf (k6.trans k9)⟩
  have r3 : LR h9 1 RS [[120]] (.slice h4.next 0 1 1) := .inr ⟨_, 0, _, rfl, ⟨_, d6.ky k6.gd.wf k9⟩, by show 0 + 1 * 1 ≤ 1; omega, ⟨_, _, rfl, rfl, rfl, rfl⟩⟩
  have r4 : LR h9 3 RC [⟨5, 0, [49]⟩] (.slice h6.next 0 1 3) := .inr ⟨_, 0, _, rfl, ⟨_, d9⟩, by show 0 + 1 * 3 ≤ 3; omega, ⟨_, _, rfl, rfl, rfl, rfl⟩⟩
  have wr9 : WR h9 (.slice h.next 0 1 1) (.slice h2.next 0 1 1) (.slice h4.next 0 1 1) (.slice h6.next 0 1 3) w0 := ⟨r1, r2, r3, r4⟩
  generalize hX : [IV.slice h.next 0 1 1, .slice h2.next 0 1 1, .slice h4.next 0 1 1, .slice h6.next 0 1 3] = X
  obtain ⟨h12, s12, k12, d12, -, -⟩ := (Ky.refl k9.gd).newI (cs := z0) rfl
  obtain ⟨o, s13, k13, d13⟩ := k12.st d12 (Nat.le_refl _) (n := 4) (off := 0) (v := .agg X) (by rw [← hX]; rfl) (by rw [← hX]; exact wr9.scalar) (by show 0 + 4 ≤ 4; omega)
  have hp : placeL z0 0 (IV.agg X).cells = X := by rw [← hX]; rfl
  rw [hp] at d13
  generalize h12.put h9.next o = h13 at s13 k13 d13
  have lA : I.ldA 4 h13 (.ptr h9.next 0) = some (.agg X) := d13.ldAll (by rw [← hX]; rfl)
  obtain ⟨h16, ew, k16⟩ := write k13.gd (wr9.ky k9.gd.wf k13) (by decide)
  simp only [resI] at ew
  rw [w0_ok, hX] at ew
  dsimp only at ew
  have ho := w0_ok
  obtain ⟨b1, b2, b3, b4, b5⟩ := write_small ho
  have hlen := w0_len
  have hend := w0_end
  generalize (writeF w0).1 = t0 at *
  obtain ⟨n, wd, f, l, h20, er, k20, r20⟩ := rout_good (read3 k16.gd t0 b5) ho (read_back ho)
  obtain ⟨h24, s24, k24, d24, -, -⟩ := (Ky.refl k20.gd).newI (cs := z0) rfl
  obtain ⟨o2, s25, k25, d25⟩ := k24.st d24 (Nat.le_refl _) (n := 4) (off := 0) (v := .agg [n, wd, f, l]) rfl r20.scalar (by show 0 + 4 ≤ 4; omega)
  have hp2 : placeL z0 0 (IV.agg [n, wd, f, l]).cells = [n, wd, f, l] := rfl
  rw [hp2] at d25
  generalize h24.put h20.next o2 = h25 at s25 k25 d25
  have k1325 := (k16.trans k20).trans k25
  have lB : I.ldA 4 h25 (.ptr h9.next 0) = some (.agg X) := (d13.ky k13.gd.wf k1325).ldAll (by rw [← hX]; rfl)
  have lC : I.ldA 4 h25 (.ptr h20.next 0) = some (.agg [n, wd, f, l]) := d25.ldAll rfl
  have ec : CL tab3 13 [.int .i64 94] h25 = .ok (.tup [sv [33, 33], .int .i64 0]) h25 := by
    have e16 : CL tab3 18 [.int .i64 94] h25 = .ok (sv [33, 33]) h25 := code3 (h := h25) 94 (by decide)
    refine c13 good3.step rfl rfl k25.gd ?_ (by simp)
    simp only [t13_0, W, WW, ↓reduceIte, reduceCtorEq, Nat.reduceAdd, Int.reduceEq, Int.reduceNe, Int.reduceLT, Int.reduceLE, Int.reduceAdd, Int.reduceSub, Int.reduceMul, Int.reduceNeg, Nat.reduceMul, e16]
  have wX := wr9.ky k9.gd.wf (k13.trans k1325)
  obtain ⟨h42, es, k42⟩ := same3 k25.gd (r20.ky k20.gd.wf k25) wX (by omega) b2 b3 b4
  rw [hX] at es
  refine ⟨h42, c12 good3.step rfl rfl g ?_ (by simp), (((k09.trans k13).trans k1325)).trans k42⟩
  have s2' : bslK false 1 [.str ⟨0, 0⟩] 1 [(0, .str ⟨1, 97⟩)] h = some (.slice h.next 0 1 1, h2) := s2
  have s4' : bslK true 1 [.int .i64 0] 1 [(0, .int .i64 1)] h2 = some (.slice h2.next 0 1 1, h4) := s4
  have s6' : bslK false 1 [.str ⟨0, 0⟩] 1 [(0, .str ⟨1, 120⟩)] h4 = some (.slice h4.next 0 1 1, h6) := s6
  have s9' : bslK false 3 z1 1 [(0, .agg (chgC ⟨5, 0, [49]⟩))] h6 = some (.slice h6.next 0 1 3, h9) := s9
  have bd : bldK z1 p5 [(0, IV.int .i64 5), (2, .str ⟨1, 49⟩)] = some (.agg (chgC ⟨5, 0, [49]⟩)) := rfl
  have bX : bldK z0 p2 [(0, IV.slice h.next 0 1 1), (1, .slice h2.next 0 1 1), (2, .slice h4.next 0 1 1), (3, .slice h6.next 0 1 3)] = some (.agg X) := by rw [← hX]; rfl
  have c33 : IV.str ⟨2, 8481⟩ = sv [33, 33] := rfl
  have c6 : binS .eql (.str ⟨6, 11137672951075⟩) (.str ⟨6, 11137672951075⟩) = some (.bool true) := by kernel_rfl
  simp only [t12_0, s2', s4', s6', bd, s9', bX, s12, s13, lA, ew, er, s24, s25, ec, lB, lC, es, W, WW, ↓reduceIte, reduceCtorEq, Nat.reduceAdd, Int.reduceEq, Int.reduceNe, Int.reduceLT, Int.reduceLE, Int.reduceAdd, Int.reduceSub, Int.reduceMul, Int.reduceNeg, Nat.reduceMul, c33, hlen, hend, c6]
abbrev tyW : Nat := 26
abbrev tyC : Nat := 41
theorem closW : closT Tryd.prog [tyW, 22, 23, 24, tyC, 3, 9] = true := by kernel_rfl
theorem utW : ∃ fs : Array Field, Tryd.prog.underlying tyW = some (.struct fs) ∧ (fs.toList.map fun f => f.type) = [22, 23, 22, 24] := ⟨_, rfl, by kernel_rfl⟩
theorem utC : ∃ fs : Array Field, Tryd.prog.underlying tyC = some (.struct fs) ∧ (fs.toList.map fun f => f.type) = [3, 3, 9] := ⟨_, rfl, by kernel_rfl⟩
theorem ut3 : Tryd.prog.underlying 3 = some (.int .i64) := by kernel_rfl
theorem ut9 : Tryd.prog.underlying 9 = some .string := by kernel_rfl
theorem ut22 : Tryd.prog.underlying 22 = some (.slice 9) := by kernel_rfl
theorem ut23 : Tryd.prog.underlying 23 = some (.slice 3) := by kernel_rfl
theorem ut24 : Tryd.prog.underlying 24 = some (.slice tyC) := by kernel_rfl
theorem ce3 : Tryd.prog.cellsOf 3 = 1 := by kernel_rfl
theorem ce9 : Tryd.prog.cellsOf 9 = 1 := by kernel_rfl
theorem ceC : Tryd.prog.cellsOf tyC = 3 := by kernel_rfl
variable {Q : Type} {h : H}
theorem DR_int {t : TypeId} (hu : Tryd.prog.underlying t = some (.int .i64)) {d : DataW Q} {c : List IV} (r : DR Tryd.prog h t d c) : ∃ n, c = [.int .i64 n] := by
  cases r with
  | bool u => rw [hu] at u; cases u
  | int u => rw [hu] at u; injection u with u; injection u with u; subst u; exact ⟨_, rfl⟩
  | str u => rw [hu] at u; cases u
  | nil u => rw [hu] at u; cases u
  | struct u => rw [hu] at u; cases u
  | slice u => rw [hu] at u; cases u
theorem DR_slice {t e : TypeId} (hu : Tryd.prog.underlying t = some (.slice e)) {d : DataW Q} {c : List IV} (r : DR Tryd.prog h t d c) : ∃ x, c = [x] := by
  cases r with
  | bool u => rw [hu] at u; cases u
  | int u => rw [hu] at u; cases u
  | str u => rw [hu] at u; cases u
  | nil u => exact ⟨_, rfl⟩
  | struct u => rw [hu] at u; cases u
  | slice u => exact ⟨_, rfl⟩
theorem DR_fields {t : TypeId} {fs : Array Field} {ts : List TypeId} (hu : Tryd.prog.underlying t = some (.struct fs)) (hts : (fs.toList.map fun f => f.type) = ts) {d : DataW Q} {xs : List IV} (r : DR Tryd.prog h t d xs) :
    ∃ xss : List (List IV), xs = xss.flatten ∧ xss.length = ts.length ∧ ∀ (i : Nat) (u : TypeId) (c : List IV), ts[i]? = some u → xss[i]? = some c → ∃ d : DataW Q, DR Tryd.prog h u d c := by
  cases r with
  | bool u => rw [hu] at u; cases u
  | int u => rw [hu] at u; cases u
  | str u => rw [hu] at u; cases u
  | nil u => rw [hu] at u; cases u
  | slice u => rw [hu] at u; cases u
  | struct u hl hp hd =>
    rename_i fs' parts xss
    rw [hu] at u
    injection u with u
    injection u with u
    subst u
    refine ⟨xss, rfl, by rw [hl, ← hts]; simp, fun i u c hi hc => ?_⟩
    rw [← hts, List.getElem?_map] at hi
    cases hf : fs.toList[i]? with
    | none => rw [hf] at hi; cases hi
    | some f =>
      rw [hf] at hi
      injection hi with hi
      subst hi
      have hf' : fs[i]? = some f := by rw [← hf, Array.getElem?_toList]
      have hlt : i < parts.length := by
        rw [hp]
        exact (Array.getElem?_eq_some_iff.1 hf').1
      exact ⟨parts[i], hd i f parts[i] c hf' (List.getElem?_eq_getElem hlt) hc⟩
theorem four {xss : List (List IV)} (h : xss.length = 4) : ∃ a b c d, xss = [a, b, c, d] := by
  match xss, h with
  | [a, b, c, d], _ => exact ⟨a, b, c, d, rfl⟩
theorem three {xss : List (List IV)} (h : xss.length = 3) : ∃ a b c, xss = [a, b, c] := by
  match xss, h with
  | [a, b, c], _ => exact ⟨a, b, c, rfl⟩
end Go.Proofs.YtdccdfmbakbikaaDoor
namespace Go.Proofs.YtdccdfmbakbikaaDoor
open Go I
theorem varsF_none : ∀ {ns : List Bs} {ws : List Int} {k : Nat}, varsF k ns ws = none → [95] ∈ ns
  | [], _, _, h => by simp [varsF] at h
  | _ :: _, [], _, h => by simp [varsF] at h
  | n :: ns, w :: ws, k, h => by
    simp only [varsF] at h
    split at h
    · rename_i e
      rw [e]; exact List.mem_cons_self ..
    · have : varsF (k + 1) ns ws = none := by
        cases hv : varsF (k + 1) ns ws with
        | none => rfl
        | some v => rw [hv] at h; cases h
      exact List.mem_cons_of_mem _ (varsF_none this)
theorem write_bad {w : Wv} (h : (writeF w).2 ≠ 0) : (writeF w).1 = [] ∧ (waveF w = true → (writeF w).2 = 1 → [95] ∈ w.names) := by
  unfold writeF at h ⊢
  split
  · rename_i hF
    rw [if_pos hF] at h
    split
    · rename_i hv
      exact ⟨rfl, fun _ _ => varsF_none hv⟩
    · rename_i v hv
      rw [hv] at h
      simp only at h
      split
      · exact ⟨rfl, fun _ h2 => by cases h2⟩
      · rename_i hle
        rw [if_neg hle] at h
        exact absurd rfl h
  · rename_i hF
    exact ⟨rfl, fun h1 => absurd h1 hF⟩
theorem under_loop {h : H} {b : Nat} {n wd f l : IV} {w : Wv} (x : WB h b n wd f l w) (hn : w.names.length ≤ 9223372036854775807) : ∀ (k i : Nat), i + k = w.names.length → J11 tab3 1 [.ptr b 0, .int .i64 (i : Nat)] h = .ok (.bool (decide ([95] ∈ w.names.drop i))) h := by
  have l0 := x.l0
  have n0 := x.wr.names.len
  have c95 : IV.str ⟨1, 95⟩ = sv [95] := rfl
  intro k
  induction k with
  | zero =>
    intro i hi
    have hlt : ¬ ((i : Nat) : Int) < (w.names.length : Nat) := by omega
    refine e11_1 ?_ (by simp)
    rw [List.drop_of_length_le (by omega)]
    simp only [t11_1, W, WW, ↓reduceIte, reduceCtorEq, Nat.reduceAdd, Int.reduceEq, Int.reduceNe, Int.reduceLT, Int.reduceLE, Int.reduceAdd, Int.reduceSub, Int.reduceMul, Int.reduceNeg, Nat.reduceMul, l0, n0, Int.ofNat_eq_natCast, hlt]
    rfl
  | succ k ih =>
    intro i hi
    have hil : i < w.names.length := by omega
    have hlt : ((i : Nat) : Int) < (w.names.length : Nat) := by omega
    have hx : w.names[i]? = some w.names[i] := List.getElem?_eq_getElem hil
    obtain ⟨p, q1, q2⟩ := LR.str x.wr.names hx
    rw [List.drop_eq_getElem_cons hil]
    generalize w.names[i] = nm at q2
    refine e11_1 ?_ (by simp)
    by_cases h95 : nm = [95]
    · subst h95
      simp only [t11_1, W, WW, ↓reduceIte, reduceCtorEq, Nat.reduceAdd, Int.reduceEq, Int.reduceNe, Int.reduceLT, Int.reduceLE, Int.reduceAdd, Int.reduceSub, Int.reduceMul, Int.reduceNeg, Nat.reduceMul, l0, n0, Int.ofNat_eq_natCast, hlt, q1, q2, c95]
      simp
    · have e : ([95] ∈ nm :: w.names.drop (i + 1)) = ([95] ∈ w.names.drop (i + 1)) := by
        apply propext
        rw [List.mem_cons]
        exact ⟨fun z => z.resolve_left (fun q => h95 q.symm), .inr⟩
      have ih' := ih (i + 1) (by omega)
      simp only [t11_1, W, WW, ↓reduceIte, reduceCtorEq, Nat.reduceAdd, Int.reduceEq, Int.reduceNe, Int.reduceLT, Int.reduceLE, Int.reduceAdd, Int.reduceSub, Int.reduceMul, Int.reduceNeg, Nat.reduceMul, l0, n0, Int.ofNat_eq_natCast, hlt, q1, q2, c95, eq_false h95, wr_succ (show i < 9223372036854775807 by omega)]
      rw [ih']
      simp only [e]
theorem under3 {h : H} (g : Gd h) {n wd f l : IV} {w : Wv} (r : WR h n wd f l w) (hn : w.names.length ≤ 9223372036854775807) : ∃ h', CL tab3 11 [.agg [n, wd, f, l]] h = .ok (.bool (decide ([95] ∈ w.names))) h' ∧ Ky h h' := by
  obtain ⟨h2, s2, k2, d2, -, -⟩ := (Ky.refl g).newI (cs := [n, wd, f, l]) r.scalar
  have x : WB h2 h.next n wd f l w := ⟨d2, r.ky g.wf k2⟩
  refine ⟨h2, c11 good3.step rfl rfl g ?_ (by simp), k2⟩
  have := under_loop x hn w.names.length 0 (by omega)
  rw [List.drop_zero] at this
  simp only [t11_0, IV.cells, s2, W, WW, ↓reduceIte, reduceCtorEq, Nat.reduceAdd, Int.reduceEq, Int.reduceNe, Int.reduceLT, Int.reduceLE, Int.reduceAdd, Int.reduceSub, Int.reduceMul, Int.reduceNeg, Nat.reduceMul]
  exact this
theorem back_bytes {h : H} (g : Gd h) (s : Bs) : ∃ h', J3 tab3 1 [sv s] h = .ok (.bool true) h' := by
  by_cases hbig : 65536 < s.length
  · obtain ⟨h9, ea, -⟩ := awakeS g
    have hlt : (65536 : Int) < (s.length : Nat) := by omega
    exact ⟨h9, e3_1 (by simp only [t3_1, W, WW, ↓reduceIte, reduceCtorEq, Nat.reduceAdd, Int.reduceEq, Int.reduceNe, Int.reduceLT, Int.reduceLE, Int.reduceAdd, Int.reduceSub, Int.reduceMul, Int.reduceNeg, Nat.reduceMul, hlt, ea]) (by simp)⟩
  · have hlt : ¬ (65536 : Int) < (s.length : Nat) := by omega
    have xp := read3 g s (by omega)
    by_cases hw : ∃ w, writeF w = (s, 0)
    · obtain ⟨w, hw⟩ := hw
      obtain ⟨b1, b2, b3, b4, b5⟩ := write_small hw
      obtain ⟨n, wd, f, l, h58, er, k58, r⟩ := rout_good xp hw (read_back hw)
      obtain ⟨h62, s62, k62, d62, -, -⟩ := (Ky.refl k58.gd).newI (cs := z0) rfl
      obtain ⟨o, s63, k63, d63⟩ := k62.st d62 (Nat.le_refl _) (n := 4) (off := 0) (v := .agg [n, wd, f, l]) rfl r.scalar (by show 0 + 4 ≤ 4; omega)
      have hp : placeL z0 0 (IV.agg [n, wd, f, l]).cells = [n, wd, f, l] := rfl
      rw [hp] at d63
      generalize h62.put h58.next o = h63 at s63 k63 d63
      have lA : I.ldA 4 h63 (.ptr h58.next 0) = some (.agg [n, wd, f, l]) := d63.ldAll rfl
      obtain ⟨h81, ew, k81⟩ := write k63.gd (r.ky k58.gd.wf k63) (by omega)
      simp only [resI] at ew
      rw [hw] at ew
      obtain ⟨h9, ea, -⟩ := awakeS k81.gd
      exact ⟨h9, e3_1 (by simp only [t3_1, W, WW, ↓reduceIte, reduceCtorEq, Nat.reduceAdd, Int.reduceEq, Int.reduceNe, Int.reduceLT, Int.reduceLE, Int.reduceAdd, Int.reduceSub, Int.reduceMul, Int.reduceNeg, Nat.reduceMul, hlt, er, s62, s63, lA, ew, ea]) (by simp)⟩
    · obtain ⟨h58, er, k58⟩ := rout_bad xp hw
      obtain ⟨h62, s62, k62, d62, -, -⟩ := (Ky.refl k58.gd).newI (cs := z0) rfl
      obtain ⟨o, s63, k63, d63⟩ := k62.st d62 (Nat.le_refl _) (n := 4) (off := 0) (v := .agg z0) rfl rfl (by show 0 + 4 ≤ 4; omega)
      have hp : placeL z0 0 (IV.agg z0).cells = z0 := rfl
      rw [hp] at d63
      generalize h62.put h58.next o = h63 at s63 k63 d63
      have l0 : I.ld0 h63 (.ptr h58.next 0) = some .nilSlice := by rw [d63.ld0]; rfl
      have l3 : I.ld0 h63 (.ptr h58.next 3) = some .nilSlice := by rw [d63.ld0]; rfl
      have ln : lenS .nilSlice = some (.int .i64 0) := rfl
      have w0' : wr .i64 (0 + 0) = 0 := rfl
      have w0'' : wr .i64 0 = 0 := rfl
      obtain ⟨h9, ea, -⟩ := awakeS k63.gd
      exact ⟨h9, e3_1 (by simp only [t3_1, W, WW, ↓reduceIte, reduceCtorEq, Nat.reduceAdd, Int.reduceEq, Int.reduceNe, Int.reduceLT, Int.reduceLE, Int.reduceAdd, Int.reduceSub, Int.reduceMul, Int.reduceNeg, Nat.reduceMul, hlt, er, s62, s63, l0, l3, ln, w0', w0'', ea]) (by simp)⟩
theorem vcdBack {h : H} (g : Gd h) {n wd f l : IV} {w : Wv} (r : WR h n wd f l w) (ok : WS w) (hl : w.list.length ≤ 9223372036854775807) (hn : w.names.length ≤ 9223372036854775807) (s : Bs) : ∃ h', CL tab3 3 [.agg [n, wd, f, l], sv s] h = .ok (.bool true) h' := by
  obtain ⟨h2, s2, k2, d2, -, -⟩ := (Ky.refl g).newI (cs := [n, wd, f, l]) r.scalar
  have lA : I.ldA 4 h2 (.ptr h.next 0) = some (.agg [n, wd, f, l]) := d2.ldAll rfl
  have r2 := r.ky g.wf k2
  obtain ⟨h5, ew, k5⟩ := write k2.gd r2 hl
  have d5 := d2.ky k2.gd.wf k5
  have r5 := r2.ky k2.gd.wf k5
  have lB : I.ldA 4 h5 (.ptr h.next 0) = some (.agg [n, wd, f, l]) := d5.ldAll rfl
  simp only [resI] at ew
  have s00 : IV.str ⟨0, 0⟩ = sv [] := rfl
  by_cases h0 : (writeF w).2 = 0
  · have hw : writeF w = ((writeF w).1, 0) := Prod.ext rfl h0
    generalize (writeF w).1 = t at hw ew
    obtain ⟨b1, b2, b3, b4, b5⟩ := write_small hw
    obtain ⟨n', wd', f', l', h10, er, k10, r10⟩ := rout_good (read3 k5.gd t b5) hw (read_back hw)
    obtain ⟨h14, s14, k14, d14, -, -⟩ := (Ky.refl k10.gd).newI (cs := z0) rfl
    obtain ⟨o, s15, k15, d15⟩ := k14.st d14 (Nat.le_refl _) (n := 4) (off := 0) (v := .agg [n', wd', f', l']) rfl r10.scalar (by show 0 + 4 ≤ 4; omega)
    have hp : placeL z0 0 (IV.agg [n', wd', f', l']).cells = [n', wd', f', l'] := rfl
    rw [hp] at d15
    generalize h14.put h10.next o = h15 at s15 k15 d15
    have k515 := k10.trans k15
    have lC : I.ldA 4 h15 (.ptr h10.next 0) = some (.agg [n', wd', f', l']) := d15.ldAll rfl
    have lD : I.ldA 4 h15 (.ptr h.next 0) = some (.agg [n, wd, f, l]) := (d5.ky k5.gd.wf k515).ldAll rfl
    obtain ⟨h23, es, k23⟩ := same3 k15.gd (r10.ky k10.gd.wf k15) (r5.ky k5.gd.wf k515) (by omega) b2 b3 b4
    obtain ⟨h9, eb⟩ := back_bytes k23.gd s
    refine ⟨h9, c3 good3.step rfl rfl g ?_ (by simp)⟩
    simp only [t3_0, IV.cells, s2, W, WW, ↓reduceIte, reduceCtorEq, Nat.reduceAdd, Int.reduceEq, Int.reduceNe, Int.reduceLT, Int.reduceLE, Int.reduceAdd, Int.reduceSub, Int.reduceMul, Int.reduceNeg, Nat.reduceMul, lA, ew, eq_true h0, er, s14, s15, lC, lD, es]
    exact eb
  · obtain ⟨ht, hu⟩ := write_bad h0
    rw [ht] at ew
    obtain ⟨h32, em, k32⟩ := wavesMay k5.gd r5 hl ok
    have d32 := d5.ky k5.gd.wf k32
    have lC : I.ldA 4 h32 (.ptr h.next 0) = some (.agg [n, wd, f, l]) := d32.ldAll rfl
    obtain ⟨h46, eu, k46⟩ := under3 k32.gd (r5.ky k5.gd.wf k32) hn
    cases hF : waveF w with
    | false =>
      rw [hF] at em
      obtain ⟨h9, eb⟩ := back_bytes k32.gd s
      refine ⟨h9, c3 good3.step rfl rfl g ?_ (by simp)⟩
      simp only [t3_0, IV.cells, s2, W, WW, ↓reduceIte, reduceCtorEq, Nat.reduceAdd, Int.reduceEq, Int.reduceNe, Int.reduceLT, Int.reduceLE, Int.reduceAdd, Int.reduceSub, Int.reduceMul, Int.reduceNeg, Nat.reduceMul, lA, ew, eq_false h0, s00, lB, em]
      exact eb
    | true =>
      rw [hF] at em
      by_cases h1 : (writeF w).2 = 1
      · rw [decide_eq_true (hu hF h1)] at eu
        obtain ⟨h9, eb⟩ := back_bytes k46.gd s
        refine ⟨h9, c3 good3.step rfl rfl g ?_ (by simp)⟩
        simp only [t3_0, IV.cells, s2, W, WW, ↓reduceIte, reduceCtorEq, Nat.reduceAdd, Int.reduceEq, Int.reduceNe, Int.reduceLT, Int.reduceLE, Int.reduceAdd, Int.reduceSub, Int.reduceMul, Int.reduceNeg, Nat.reduceMul, lA, ew, eq_false h0, s00, lB, em, eq_true h1, lC, eu]
        exact eb
      · obtain ⟨h9, eb⟩ := back_bytes k32.gd s
        refine ⟨h9, c3 good3.step rfl rfl g ?_ (by simp)⟩
        simp only [t3_0, IV.cells, s2, W, WW, ↓reduceIte, reduceCtorEq, Nat.reduceAdd, Int.reduceEq, Int.reduceNe, Int.reduceLT, Int.reduceLE, Int.reduceAdd, Int.reduceSub, Int.reduceMul, Int.reduceNeg, Nat.reduceMul, lA, ew, eq_false h0, s00, lB, em, eq_false h1]
        exact eb
variable {Q : Type} {h : H}
theorem DR_strL {t : TypeId} (hu : Tryd.prog.underlying t = some .string) {d : DataW Q} {c : List IV} (r : DR Tryd.prog h t d c) : ∃ l, c = [sv l] ∧ l.length ≤ maxLen := by
  cases r with
  | bool u => rw [hu] at u; cases u
  | int u => rw [hu] at u; cases u
  | str u hl => exact ⟨_, rfl, hl⟩
  | nil u => rw [hu] at u; cases u
  | struct u => rw [hu] at u; cases u
  | slice u => rw [hu] at u; cases u
theorem chg_ofL {d : DataW Q} {xs : List IV} (r : DR Tryd.prog h tyC d xs) : ∃ x, RC x xs ∧ x.val.length ≤ maxLen := by
  obtain ⟨fs, hu, hts⟩ := utC
  obtain ⟨xss, rfl, hl, hd⟩ := DR_fields hu hts r
  obtain ⟨a, b, c, rfl⟩ := three hl
  obtain ⟨d1, r1⟩ := hd 0 3 a rfl rfl
  obtain ⟨d2, r2⟩ := hd 1 3 b rfl rfl
  obtain ⟨d3, r3⟩ := hd 2 9 c rfl rfl
  obtain ⟨t, rfl⟩ := DR_int ut3 r1
  obtain ⟨n, rfl⟩ := DR_int ut3 r2
  obtain ⟨v, rfl, hv⟩ := DR_strL ut9 r3
  exact ⟨⟨t, n, v⟩, rfl, hv⟩
theorem all_of {α : Type} {R : α → List IV → Prop} {B : α → Prop} (hB : ∀ a c, R a c → B a) {es : Nat} : ∀ {l : List α} {X : List IV}, Ch R es l X → ∀ a ∈ l, B a
  | [], _, _, a, ha => by cases ha
  | x :: l, _, ⟨c, d, _, _, h3, h4⟩, a, ha => by
    rcases List.mem_cons.1 ha with rfl | ha
    · exact hB _ _ h3
    · exact all_of hB h4 a ha
theorem lr_all {α : Type} {R : α → List IV → Prop} {B : α → Prop} (hB : ∀ a c, R a c → B a) {es : Nat} {l : List α} {v : IV} (r : LR h es R l v) : ∀ a ∈ l, B a := by
  rcases r with ⟨rfl, _⟩ | ⟨b, off, cs, _, _, _, h4⟩
  · intro a ha; cases ha
  · exact all_of hB h4
theorem wave_ofL {d : DataW Q} {xs : List IV} (r : DR Tryd.prog h tyW d xs) : ∃ n wd f l w, xs = [n, wd, f, l] ∧ WR h n wd f l w ∧ WS w ∧ w.list.length ≤ 9223372036854775807 ∧ w.names.length ≤ 9223372036854775807 := by
  obtain ⟨fs, hu, hts⟩ := utW
  obtain ⟨xss, rfl, hl, hd⟩ := DR_fields hu hts r
  obtain ⟨a, b, c, e, rfl⟩ := four hl
  obtain ⟨d1, r1⟩ := hd 0 22 a rfl rfl
  obtain ⟨d2, r2⟩ := hd 1 23 b rfl rfl
  obtain ⟨d3, r3⟩ := hd 2 22 c rfl rfl
  obtain ⟨d4, r4⟩ := hd 3 24 e rfl rfl
  obtain ⟨x1, rfl⟩ := DR_slice ut22 r1
  obtain ⟨x2, rfl⟩ := DR_slice ut23 r2
  obtain ⟨x3, rfl⟩ := DR_slice ut22 r3
  obtain ⟨x4, rfl⟩ := DR_slice ut24 r4
  have hm : maxLen ≤ 9223372036854775807 := by decide
  obtain ⟨l1, m1, q1⟩ := r1.list ut22 (R := fun s c => RS s c ∧ s.length ≤ maxLen) (fun d c r _ => by obtain ⟨l, e, hl⟩ := DR_strL ut9 r; exact ⟨l, e, hl⟩)
  obtain ⟨l2, _, q2⟩ := r2.list ut23 (R := RI) (fun d c r _ => DR_int ut3 r)
  obtain ⟨l3, _, q3⟩ := r3.list ut22 (R := fun s c => RS s c ∧ s.length ≤ maxLen) (fun d c r _ => by obtain ⟨l, e, hl⟩ := DR_strL ut9 r; exact ⟨l, e, hl⟩)
  obtain ⟨l4, m4, q4⟩ := r4.list ut24 (R := fun x c => RC x c ∧ x.val.length ≤ maxLen) (fun d c r _ => chg_ofL r)
  rw [ce9] at q1 q3
  rw [ce3] at q2
  rw [ceC] at q4
  exact ⟨x1, x2, x3, x4, ⟨l1, l2, l3, l4⟩, rfl, ⟨q1.mono (.refl h) (fun _ _ h => h.1), .inl q2, q3.mono (.refl h) (fun _ _ h => h.1), q4.mono (.refl h) (fun _ _ h => h.1)⟩,
    ⟨fun s hs => Nat.le_trans (lr_all (B := fun s : Bs => s.length ≤ maxLen) (fun _ _ h => h.2) q1 s hs) hm, fun s hs => Nat.le_trans (lr_all (B := fun s : Bs => s.length ≤ maxLen) (fun _ _ h => h.2) q3 s hs) hm, fun c hc => Nat.le_trans (lr_all (B := fun c : Chg => c.val.length ≤ maxLen) (fun _ _ h => h.2) q4 c hc) hm⟩, Nat.le_trans m4 hm, Nat.le_trans m1 hm⟩
end Go.Proofs.YtdccdfmbakbikaaDoor
namespace Go.Proofs.YtdccdfmbakbikaaDoor
open Go
noncomputable abbrev tPow : Nat := ((Tryd.prog.globals[gPow]?).map (·.type)).getD 0
theorem tab_of {W : World} (h : Lib.VarReads Tryd.prog W "internal/strconv.uint64pow10" Rows.laid_internal_strconv_uint64pow10) : Lib.TabIs Tryd.prog W "internal/strconv.uint64pow10" .u64 Lib.pow10Tab := by
  obtain ⟨g', t, cs, fuel, p, e1, e2, e3, e4⟩ := h
  rw [named_pow] at e1
  injection e1 with e1
  subst e1
  rw [show (Tryd.prog.globals[gPow]?).map (·.type) = some tPow by kernel_rfl] at e2
  injection e2 with e2
  subst e2
  have ed : (Rows.laid_internal_strconv_uint64pow10 : DataW Unit) = Lib.tabData .u64 Lib.pow10Tab := by kernel_rfl
  rw [ed] at e4
  unfold Lib.TabIs
  rw [e3, ← Lib.cells_of_tab (P := Tryd.prog) (t := tPow) (e := lay171_ren.t 53) (n := 20) (by kernel_rfl) (by kernel_rfl) (by kernel_rfl) (by kernel_rfl) e4]
theorem err_of {W : World} {n : String} {d : DataW Unit} {g : Nat} (hm : Tryd.prog.globalNamed n = some g) (ht : (Tryd.prog.globals[g]?).map (·.type) = some 48) {name : String} {d' : DataW Unit} (hd : d = .iface name d') (h : Lib.VarReads Tryd.prog W n d) : ∃ v, W.cell? ⟨g, 0, none⟩ = some v ∧ isErr v := by
  subst hd
  obtain ⟨g', t, cs, fuel, p, e1, e2, e3, e4⟩ := h
  rw [hm] at e1
  injection e1 with e1
  subst e1
  rw [ht] at e2
  injection e2 with e2
  subst e2
  obtain ⟨_, u, v, hc, _⟩ := iface_of_trod Tryd.underlying48 e4
  refine ⟨.iface u v, ?_, .inr ⟨u, v, rfl⟩⟩
  unfold World.var? at e3
  rw [hm] at e3
  simp only [Option.bind_some] at e3
  split at e3
  · rename_i c t' fr hh
    injection e3 with e3
    subst e3
    have h0 : c[0]? = some (.iface u v) := by rw [← Array.getElem?_toList, hc]; rfl
    simp only [World.cell?, hh, h0]
    rfl
  · cases e3
theorem ep_of {laid : List (String × DataW Unit)} (h1 : ("internal/strconv.uint64pow10", Rows.laid_internal_strconv_uint64pow10) ∈ laid) (h2 : ("strconv.ErrRange", Rows.laid_strconv_ErrRange) ∈ laid) (hp : (laid.all fun x => x.2.handleName?.isNone) = true)
    (h3 : ("strconv.ErrSyntax", Rows.laid_strconv_ErrSyntax) ∈ laid)
    {W : World} (hs : W.ShapedOpen Tryd.prog) (hl : laidMetH Tryd.prog laid W) {S : I.Sc} (hS : ∀ k, ¬ S.wr k) : EP W S := by
  rw [MakeChecks.laidMetH_plain _ _ _ hp] at hl
  exact ⟨lay219.s1_3 W hs, tab_of (Lib.laidMet.reads hl h1), hS _, hS _, err_of (g := gSyn) (by kernel_rfl) (by kernel_rfl) rfl (Lib.laidMet.reads hl h3), err_of (g := gRng) (by kernel_rfl) (by kernel_rfl) rfl (Lib.laidMet.reads hl h2), hS _, hS _⟩
end Go.Proofs.YtdccdfmbakbikaaDoor
