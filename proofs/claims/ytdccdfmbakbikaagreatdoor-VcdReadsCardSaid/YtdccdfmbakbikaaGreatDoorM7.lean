import Derived.Test.YtdccdfmbakbikaaGreatDoorM6
import Derived.Test.YtdccdfmbakbikaaGreatDoorM5
import Derived.Test.YtdccdfmbakbikaaGreatDoorRows
import Derived.Lib.LaidU8
import Derived.LaidLaws
import Derived.MakeChecks
set_option maxRecDepth 100000
set_option linter.unusedVariables false
set_option linter.unusedSimpArgs false
namespace Go.Proofs.YtdccdfmbakbikaaGreatDoor
open Go I
theorem split_ln (c : UInt8) : ∀ (ln rest : Bs), (∀ x ∈ ln, x ≠ c) → splitL c (ln ++ c :: rest) = ln :: splitL c rest
  | [], rest, _ => by
    show (if c = c then [] :: splitL c rest else _) = _
    rw [if_pos rfl]
  | x :: ln, rest, h => by
    have ih := split_ln c ln rest (fun y hy => h y (List.mem_cons_of_mem _ hy))
    show (if x = c then [] :: splitL c (ln ++ c :: rest) else match splitL c (ln ++ c :: rest) with
      | [] => [[x]]
      | p :: r => (x :: p) :: r) = _
    rw [if_neg (h x (List.mem_cons_self ..)), ih]
theorem split_end (c : UInt8) : ∀ ln : Bs, (∀ x ∈ ln, x ≠ c) → splitL c ln = [ln]
  | [], _ => rfl
  | x :: ln, h => by
    have ih := split_end c ln (fun y hy => h y (List.mem_cons_of_mem _ hy))
    unfold splitL
    rw [if_neg (h x (List.mem_cons_self ..)), ih]
theorem cut_ln (c : UInt8) : ∀ (a b : Bs), (∀ x ∈ a, x ≠ c) → cutL c (a ++ c :: b) = (a, b, true)
  | [], b, _ => by
    show (if c = c then _ else _) = _
    rw [if_pos rfl]
  | x :: a, b, h => by
    have ih := cut_ln c a b (fun y hy => h y (List.mem_cons_of_mem _ hy))
    rw [List.cons_append]
    unfold cutL
    rw [if_neg (h x (List.mem_cons_self ..)), ih]
def Pr (l : Bs) : Prop := ∀ c ∈ l, 33 ≤ c.toNat
theorem Pr.ne {l : Bs} (h : Pr l) (c : UInt8) (hc : c.toNat < 33) : ∀ x ∈ l, x ≠ c := by
  rintro x hx rfl
  have := h x hx
  omega
theorem dg_toNat (n : Nat) (hn : n < 10) : (UInt8.ofNat (48 + n)).toNat = 48 + n := UInt8.toNat_ofNat_of_lt' (by show 48 + n < 256; omega)
theorem digU_digs : ∀ (f u : Nat), ∀ d ∈ digU f u, 48 ≤ d.toNat ∧ d.toNat ≤ 57
  | 0, u, d, hd => by cases hd
  | f + 1, u, d, hd => by
    simp only [digU] at hd
    split at hd
    · simp only [List.mem_singleton] at hd
      subst hd
      rw [dg_toNat u (by omega)]; omega
    · rcases List.mem_append.1 hd with hd | hd
      · exact digU_digs f _ d hd
      · simp only [List.mem_singleton] at hd
        subst hd
        rw [dg_toNat (u % 10) (by omega)]; omega
theorem digU_nil (f u : Nat) : digU (f + 1) u ≠ [] := by
  simp only [digU]
  split <;> simp
theorem itoaF_pr (n : Int) : Pr (itoaF n) := by
  intro c hc
  unfold itoaF at hc
  split at hc
  · rcases List.mem_cons.1 hc with rfl | hc
    · decide
    · have := digU_digs _ _ c hc; omega
  · have := digU_digs _ _ c hc; omega
theorem codeF_pr (n : Nat) (h : n < 8836) : Pr (codeF n) := by
  intro c hc
  unfold codeF at hc
  split at hc
  · simp only [List.mem_singleton] at hc
    subst hc
    rw [chr_nat n (by omega)]; omega
  · simp only [List.mem_cons, List.not_mem_nil, or_false] at hc
    rcases hc with rfl | rfl
    · rw [chr_nat _ (Nat.mod_lt _ (by decide))]; omega
    · rw [chr_nat _ (by omega)]; omega
theorem codeF_one {n m : Nat} (hn : n < 8836) (hm : m < 8836) (h : codeF n = codeF m) : n = m := by
  unfold codeF at h
  have key : ∀ a b : Nat, a < 94 → b < 94 → chr a = chr b → a = b := fun a b ha hb e => by
    have := congrArg UInt8.toNat e
    rw [chr_nat a ha, chr_nat b hb] at this; omega
  split at h <;> split at h
  · injection h with h _
    exact key _ _ (by omega) (by omega) h
  · have := congrArg List.length h; simp at this
  · have := congrArg List.length h; simp at this
  · injection h with h1 h
    injection h with h2 _
    have e1 := key _ _ (Nat.mod_lt _ (by decide)) (Nat.mod_lt _ (by decide)) h1
    have e2 := key _ _ (by omega) (by omega) h2
    omega
theorem isV_pr {c : UInt8} (h : isV c = true) : 33 ≤ c.toNat ∧ c ≠ 98 ∧ c ≠ 35 := by
  rw [isV_nat] at h
  refine ⟨by omega, ?_, ?_⟩
  · rintro rfl
    have : (98 : UInt8).toNat = 98 := rfl
    omega
  · rintro rfl
    have : (35 : UInt8).toNat = 35 := rfl
    omega
theorem checkM_pr {v : Bs} (h : checkM v = true) : v ≠ [] ∧ ∀ c ∈ v, isV c = true := by
  simp only [checkM, Bool.and_eq_true, decide_eq_true_eq] at h
  obtain ⟨⟨h1, h2⟩, h3⟩ := h
  exact ⟨fun e => by rw [e] at h1; simp at h1, fun c hc => List.all_eq_true.1 h3 c hc⟩
theorem parse_app : ∀ (l m : Bs) (acc : Nat), Lib.parseUint10 acc (l ++ m) = match Lib.parseUint10 acc l with | .ok a => Lib.parseUint10 a m | e => e
  | [], m, acc => rfl
  | c :: l, m, acc => by
    simp only [List.cons_append, Lib.parseUint10]
    split
    · split
      · rfl
      · split
        · rfl
        · exact parse_app l m _
    · rfl
theorem parse_one (acc d : Nat) (hd : d < 10) (h : acc * 10 + d < 18446744073709551616) : Lib.parseUint10 acc [UInt8.ofNat (48 + d)] = .ok (acc * 10 + d) := by
  simp only [Lib.parseUint10, dg_toNat d hd]
  rw [if_pos (by omega), if_neg (by omega), if_neg (by omega)]
  congr 1
  omega
theorem parse_digU : ∀ (f u : Nat), u < 10 ^ f → 0 < f → u < 18446744073709551616 → Lib.parseUint10 0 (digU f u) = .ok u
  | 0, u, _, h0, _ => by omega
  | f + 1, u, h, _, hu => by
    simp only [digU]
    by_cases h10 : u < 10
    · rw [if_pos h10, parse_one 0 u h10 (by omega)]
      congr 1; omega
    · have h2 : u / 10 < 10 ^ f := by rw [Nat.pow_succ] at h; omega
      have h3 : 0 < f := by
        rcases Nat.eq_zero_or_pos f with rfl | h
        · simp at h; omega
        · exact h
      rw [if_neg h10, parse_app, parse_digU f (u / 10) h2 h3 (by omega)]
      simp only
      rw [parse_one _ _ (by omega) (by omega)]
      congr 1; omega
theorem numP_itoa {n : Int} (h0 : 0 ≤ n) (h1 : n ≤ 9223372036854775807) : numP (itoaF n) = some n := by
  obtain ⟨u, rfl⟩ := Int.eq_ofNat_of_zero_le h0
  have hi : itoaF ((u : Nat) : Int) = digU 20 u := by
    unfold itoaF
    rw [if_neg (by omega)]; rfl
  have ha : Lib.atoiAll (digU 20 u) = .ok ((u : Nat) : Int) := by
    have hp := parse_digU 20 u (Nat.lt_of_le_of_lt (show u ≤ 9223372036854775807 by omega) (by decide)) (by decide) (by omega)
    have hd := digU_digs 20 u
    have hne : digU 20 u ≠ [] := digU_nil 19 u
    generalize digU 20 u = l at hp hd hne
    cases l with
    | nil => exact absurd rfl hne
    | cons c r =>
      have hc := hd c (List.mem_cons_self ..)
      simp only [Lib.atoiAll]
      rw [if_neg (show ¬ (c.toNat = 43 ∨ c.toNat = 45) by omega)]
      simp only [Lib.parseMag, List.cons_ne_nil, if_false, hp]
      rw [if_neg (by omega), if_neg (by omega), if_neg (by omega)]
  unfold numP
  rw [hi, ha]
  simp only
  rw [if_pos hi]
theorem getM_cons (p : Bs × Int) (s : Sc) (x : Bs) : getM (p :: s) x = if p.1 = x then some p.2 else getM s x := by
  unfold getM
  rw [List.find?_cons]
  by_cases h : p.1 = x
  · subst h; simp
  · have : (p.1 == x) = false := by simpa using h
    simp [this, h]
theorem getM_app (s : Sc) (p : Bs × Int) (x : Bs) : getM (s ++ [p]) x = match getM s x with | some v => some v | none => if p.1 = x then some p.2 else none := by
  induction s with
  | nil => simp only [List.nil_append, getM_cons]; rfl
  | cons a s ih =>
    rw [List.cons_append, getM_cons, getM_cons, ih]
    by_cases h : a.1 = x <;> simp [h]
structure SMap (s : Sc) (n : Nat) : Prop where
  has : ∀ i, i < n → getM s (codeF i) = some (i : Int)
  only : ∀ c x, getM s c = some x → ∃ i, i < n ∧ c = codeF i
theorem SMap.step {s : Sc} {n : Nat} (h : SMap s n) (hn : n < 8836) : SMap (setM s (codeF n) n) (n + 1) := by
  have hnone : getM s (codeF n) = none := by
    cases hg : getM s (codeF n) with
    | none => rfl
    | some x =>
      obtain ⟨i, hi, e⟩ := h.only _ _ hg
      have := codeF_one hn (by omega) e
      omega
  have he : setM s (codeF n) n = s ++ [(codeF n, (n : Int))] := by
    unfold setM
    rw [hnone]
  rw [he]
  refine ⟨fun i hi => ?_, fun c x hc => ?_⟩
  · rw [getM_app]
    by_cases hin : i = n
    · subst hin
      rw [hnone]; simp
    · rw [h.has i (by omega)]
  · rw [getM_app] at hc
    cases hg : getM s c with
    | some y =>
      obtain ⟨i, hi, e⟩ := h.only _ _ hg
      exact ⟨i, by omega, e⟩
    | none =>
      rw [hg] at hc
      simp only at hc
      split at hc
      · rename_i e
        exact ⟨n, by omega, e.symm⟩
      · cases hc
def varLn (k : Nat) (w : Int) (n : Bs) : Bs := dvar ++ 32 :: (dwire ++ 32 :: (itoaF w ++ 32 :: (codeF k ++ 32 :: (nameF n ++ 32 :: dend))))
theorem varF_ln (k : Nat) (w : Int) (n R : Bs) : varF k w n ++ R = varLn k w n ++ 10 :: R := by
  simp only [varF, varLn, varW, endW, dvar, dwire, dend, List.append_assoc, List.cons_append, List.nil_append, List.singleton_append]
theorem nameF_pr {n : Bs} {w : Int} {f : Bs} (h : netF n w f = true) : Pr (nameF n) := by
  have hn : n.all okC = true := by
    simp only [netF, Bool.and_eq_true] at h
    exact h.1.1.2
  intro c hc
  unfold nameF at hc
  split at hc
  · simp only [List.mem_singleton] at hc
    subst hc; decide
  · have := List.all_eq_true.1 hn c hc
    simp only [okC, Bool.and_eq_true, decide_eq_true_eq] at this
    exact this.1
theorem varLn_nl {n : Bs} {w : Int} {f : Bs} (h : netF n w f = true) {k : Nat} (hk : k < 8836) : ∀ c ∈ varLn k w n, c ≠ 10 := by
  intro c hc
  simp only [varLn, List.mem_append, List.mem_cons] at hc
  rcases hc with hc | rfl | hc | rfl | hc | rfl | hc | rfl | hc | rfl | hc
  · revert c; decide
  · decide
  · revert c; decide
  · decide
  · exact (itoaF_pr w).ne 10 (by decide) c hc
  · decide
  · exact (codeF_pr k hk).ne 10 (by decide) c hc
  · decide
  · exact (nameF_pr h).ne 10 (by decide) c hc
  · decide
  · revert c; decide
theorem varP_ln {n : Bs} {w : Int} {f : Bs} (h : netF n w f = true) {k : Nat} (hk : k < 8836) (h95 : n ≠ [95]) : varP (varLn k w n) = some (codeF k, n, w) := by
  have hw : 0 ≤ w ∧ w ≤ 256 := by
    have h' := h
    simp only [netF, Bool.and_eq_true, decide_eq_true_eq] at h'
    have := h'.1.2
    simp only [checkM, Bool.and_eq_true, decide_eq_true_eq] at this
    omega
  have hs : splitL 32 (varLn k w n) = [dvar, dwire, itoaF w, codeF k, nameF n, dend] := by
    unfold varLn
    rw [split_ln _ _ _ (by decide), split_ln _ _ _ (by decide), split_ln _ _ _ ((itoaF_pr w).ne 32 (by decide)), split_ln _ _ _ ((codeF_pr k hk).ne 32 (by decide)), split_ln _ _ _ ((nameF_pr h).ne 32 (by decide)), split_end _ _ (by decide)]
  unfold varP
  rw [hs]
  simp only
  rw [if_pos ⟨trivial, trivial, trivial⟩, numP_itoa hw.1 (by omega)]
  simp only [Option.map_some]
  congr 2
  congr 1
  unfold nameF
  by_cases hn : n = []
  · subst hn; rfl
  · rw [if_neg hn, if_neg h95]
theorem mid_split (R : Bs) : splitL 10 (midF ++ R) = upW :: edW :: dvW :: splitL 10 R := by
  have e : midF ++ R = upW ++ 10 :: (edW ++ 10 :: (dvW ++ 10 :: R)) := by
    rw [show midF = upW ++ 10 :: (edW ++ 10 :: (dvW ++ [10])) by decide]
    simp only [List.append_assoc, List.cons_append, List.nil_append]
  rw [e, split_ln _ _ _ (by decide), split_ln _ _ _ (by decide), split_ln _ _ _ (by decide)]
theorem vars_back : ∀ {ns : List Bs} {ws : List Int} {fs : List Bs} {k : Nat} {v : Bs} {s : Sc} {nm : List Bs} {wd : List Int} (R : Bs), netsF ns ws fs = true → k + ns.length ≤ 8836 → varsF k ns ws = some v → nm.length = k → SMap s k →
    ∃ s', varsP (splitL 10 (v ++ (midF ++ R))) s nm wd = some (splitL 10 R, s', nm ++ ns, wd ++ ws) ∧ SMap s' (k + ns.length)
  | [], [], [], k, v, s, nm, wd, R, _, _, h, _, sm => by
    simp only [varsF, Option.some.injEq] at h
    subst h
    refine ⟨s, ?_, sm⟩
    rw [List.nil_append, mid_split]
    unfold varsP
    rw [if_pos rfl]
    show (if edW = edW ∧ dvW = dvW then some (splitL 10 R, s, nm, wd) else none) = _
    rw [if_pos ⟨rfl, rfl⟩, List.append_nil, List.append_nil]
  | n :: ns, w :: ws, f :: fs, k, v, s, nm, wd, R, hn, hk, h, hl, sm => by
    simp only [netsF, Bool.and_eq_true] at hn
    rw [List.length_cons] at hk
    simp only [varsF] at h
    split at h
    · cases h
    · rename_i h95
      obtain ⟨v', hv', rfl⟩ := Option.map_eq_some_iff.1 h
      obtain ⟨s', e, sm'⟩ := vars_back (nm := nm ++ [n]) (wd := wd ++ [w]) R hn.2 (k := k + 1) (by omega) hv' (by simp; omega) (sm.step (by omega))
      refine ⟨s', ?_, by rw [List.length_cons, show k + (ns.length + 1) = k + 1 + ns.length by omega]; exact sm'⟩
      rw [List.append_assoc, varF_ln, split_ln _ _ _ (varLn_nl hn.1 (by omega))]
      unfold varsP
      have hup : varLn k w n ≠ upW := fun hh => by
        have := congrArg (fun l : Bs => l[1]?) hh
        simp only [varLn, dvar, List.cons_append, List.getElem?_cons_succ, List.getElem?_cons_zero] at this
        revert this; decide
      rw [if_neg hup, varP_ln hn.1 (by omega) h95]
      simp only
      rw [hl, e, List.append_assoc, List.append_assoc]; rfl
  | [], _ :: _, _, _, _, _, _, _, _, h, _, _, _, _ => by simp [netsF] at h
  | [], [], _ :: _, _, _, _, _, _, _, h, _, _, _, _ => by simp [netsF] at h
  | _ :: _, [], _, _, _, _, _, _, _, h, _, _, _, _ => by simp [netsF] at h
  | _ :: _, _ :: _, [], _, _, _, _, _, _, h, _, _, _, _ => by simp [netsF] at h
def valLn (v : Bs) (k : Nat) : Bs := if v.length = 1 then v ++ codeF k else 98 :: (v ++ 32 :: codeF k)
theorem valueF_ln (v : Bs) (k : Nat) (R : Bs) : valueF v k ++ R = valLn v k ++ 10 :: R := by
  unfold valueF valLn
  split <;> simp only [List.append_assoc, List.cons_append, List.nil_append, List.singleton_append]
theorem valLn_nl {v : Bs} (h : checkM v = true) {k : Nat} (hk : k < 8836) : ∀ c ∈ valLn v k, c ≠ 10 := by
  obtain ⟨_, hv⟩ := checkM_pr h
  have pv : Pr v := fun c hc => (isV_pr (hv c hc)).1
  intro c hc
  unfold valLn at hc
  split at hc
  · rcases List.mem_append.1 hc with hc | hc
    · exact pv.ne 10 (by decide) c hc
    · exact (codeF_pr k hk).ne 10 (by decide) c hc
  · simp only [List.mem_cons, List.mem_append] at hc
    rcases hc with rfl | hc | rfl | hc
    · decide
    · exact pv.ne 10 (by decide) c hc
    · decide
    · exact (codeF_pr k hk).ne 10 (by decide) c hc
theorem valP_ln {v : Bs} (h : checkM v = true) {k : Nat} {s : Sc} (hs : getM s (codeF k) = some (k : Int)) : valP s (valLn v k) = some ((k : Int), v) ∧ valLn v k ≠ [] ∧ (valLn v k).head? ≠ some 35 := by
  obtain ⟨hne, hv⟩ := checkM_pr h
  have pv : Pr v := fun c hc => (isV_pr (hv c hc)).1
  unfold valLn
  by_cases h1 : v.length = 1
  · rw [if_pos h1]
    match v, h1 with
    | [x], _ =>
      obtain ⟨_, h98, h35⟩ := isV_pr (hv x (by simp))
      refine ⟨?_, by simp, by simpa using h35⟩
      show (if x = 98 then (getM s (cutL 32 (codeF k)).2.1).map (fun n => (n, (cutL 32 (codeF k)).1)) else (getM s (codeF k)).map fun n => (n, [x])) = _
      rw [if_neg h98, hs]; rfl
  · rw [if_neg h1]
    refine ⟨?_, by simp, by simp⟩
    show (if (98 : UInt8) = 98 then (getM s (cutL 32 (v ++ 32 :: codeF k)).2.1).map (fun n => (n, (cutL 32 (v ++ 32 :: codeF k)).1)) else (getM s (v ++ 32 :: codeF k)).map fun n => (n, [98])) = _
    rw [if_pos rfl, cut_ln _ _ _ (pv.ne 32 (by decide)), hs]; rfl
theorem first_back {s : Sc} {N : Nat} (hN : N ≤ 8836) (sm : SMap s N) (w : Wv) : ∀ (vs fs : List Bs) (k : Nat) (R : Bs), (∀ v ∈ vs, checkM v = true) → k + vs.length ≤ N → firstP s w vs.length fs (splitL 10 (valsF k vs ++ R)) = endP s { w with first := fs ++ vs } (splitL 10 R)
  | [], fs, k, R, _, _ => by
    rw [List.append_nil]; rfl
  | v :: vs, fs, k, R, h, hk => by
    rw [List.length_cons] at hk
    have hv := h v (List.mem_cons_self ..)
    have ih := first_back hN sm w vs (fs ++ [v]) (k + 1) R (fun x hx => h x (List.mem_cons_of_mem _ hx)) (by omega)
    simp only [valsF, List.append_assoc]
    rw [valueF_ln, split_ln _ _ _ (valLn_nl hv (by omega))]
    show (match valP s (valLn v k) with | none => none | some p => firstP s w vs.length (fs ++ [p.2]) (splitL 10 (valsF (k + 1) vs ++ R))) = _
    rw [(valP_ln hv (sm.has k (by omega))).1]
    simp only
    rw [ih, List.append_assoc]; rfl
def timeOf : Option Chg → Int
  | none => -1
  | some c => c.time
theorem chg_back {s : Sc} {N : Nat} (hN : N ≤ 8836) (sm : SMap s N) {wides : List Int} : ∀ (l : List Chg) (p : Option Chg) (now : List Bs) (cs : List Chg), listF N wides now p l = true → chgP (timeOf p) (splitL 10 (chgsF p l)) s cs = some (cs ++ l)
  | [], p, now, cs, _ => by
    show (if ([] : Bs) = [] then some cs else _) = _
    rw [if_pos rfl, List.append_nil]
  | c :: l, p, now, cs, h => by
    simp only [listF, Bool.and_eq_true] at h
    obtain ⟨hp, hv, hl⟩ := h
    have ih := chg_back hN sm l (some c) _ (cs ++ [c]) hl
    simp only [placeF, Bool.and_eq_true, decide_eq_true_eq] at hp
    obtain ⟨⟨⟨⟨n0, n1⟩, t0⟩, t1⟩, _⟩ := hp
    have hck : checkM c.val = true := by
      simp only [valF, Bool.and_eq_true] at hv
      exact hv.1.1
    have hk : c.net.toNat < N := by omega
    have hnn : ((c.net.toNat : Nat) : Int) = c.net := by omega
    obtain ⟨q1, q2, q3⟩ := valP_ln hck (sm.has _ hk)
    rw [hnn] at q1
    have value : chgP c.time (splitL 10 (valueF c.val c.net.toNat ++ chgsF (some c) l)) s cs = some (cs ++ c :: l) := by
      rw [valueF_ln, split_ln _ _ _ (valLn_nl hck (by omega))]
      unfold chgP
      rw [if_neg q2, if_neg q3, q1]
      show chgP c.time _ s (cs ++ [⟨c.time, c.net, c.val⟩]) = _
      have : timeOf (some c) = c.time := rfl
      rw [this] at ih
      rw [ih, List.append_assoc]; rfl
    simp only [chgsF, chgF, List.append_assoc]
    unfold timeF
    by_cases ht : p.map (·.time) = some c.time
    · rw [if_pos ht, List.nil_append]
      have : timeOf p = c.time := by
        cases p with
        | none => cases ht
        | some q => injection ht
      rw [this]; exact value
    · rw [if_neg ht]
      have e : [35] ++ itoaF c.time ++ [10] ++ (valueF c.val c.net.toNat ++ chgsF (some c) l) = (35 :: itoaF c.time) ++ 10 :: (valueF c.val c.net.toNat ++ chgsF (some c) l) := by simp
      rw [e, split_ln _ _ _ (fun x hx => by
        rcases List.mem_cons.1 hx with rfl | hx
        · decide
        · exact (itoaF_pr _).ne 10 (by decide) x hx)]
      unfold chgP
      rw [if_neg (List.cons_ne_nil _ _), if_pos (show (35 :: itoaF c.time).head? = some 35 from rfl), List.tail_cons, numP_itoa t0 (by omega)]
      exact value
theorem checks_of : ∀ {a : List Bs} {b : List Int} {c : List Bs}, netsF a b c = true → ∀ v ∈ c, checkM v = true
  | [], [], [], _, v, hv => by cases hv
  | n :: ns, w :: ws, f :: fs, h, v, hv => by
    simp only [netsF, netF, Bool.and_eq_true] at h
    rcases List.mem_cons.1 hv with rfl | hv
    · exact h.1.1.2
    · exact checks_of h.2 v hv
  | [], _ :: _, _, h, _, _ => by simp [netsF] at h
  | [], [], _ :: _, h, _, _ => by simp [netsF] at h
  | _ :: _, [], _, h, _, _ => by simp [netsF] at h
  | _ :: _, _ :: _, [], h, _, _ => by simp [netsF] at h
theorem write_parts {w : Wv} {t : Bs} (h : writeF w = (t, 0)) : ∃ v, w.names.length ≤ 4096 ∧ netsF w.names w.wides w.first = true ∧ listF w.names.length w.wides w.first none w.list = true ∧ varsF 0 w.names w.wides = some v ∧ t = headF ++ (v ++ (midF ++ (valsF 0 w.first ++ (endF ++ chgsF none w.list)))) ∧ t.length ≤ 1048576 := by
  unfold writeF at h
  split at h
  · rename_i hF
    simp only [waveF, Bool.and_eq_true, decide_eq_true_eq] at hF
    split at h
    · simp at h
    · rename_i v hv
      split at h
      · simp at h
      · rename_i hle
        injection h with h _
        subst h
        exact ⟨v, hF.1.1, hF.1.2, hF.2, hv, by simp only [baseF, List.append_assoc], by omega⟩
  · simp at h
theorem read_back {w : Wv} {t : Bs} (h : writeF w = (t, 0)) : readP t = some w := by
  obtain ⟨v, h1, h2, h3, h4, rfl, _⟩ := write_parts h
  obtain ⟨l1, l2⟩ := netsF_len h2
  have hh : ∀ R : Bs, splitL 10 (headF ++ R) = tsW :: scW :: splitL 10 R := by
    intro R
    have e : headF ++ R = tsW ++ 10 :: (scW ++ 10 :: R) := by
      rw [show headF = tsW ++ 10 :: (scW ++ [10]) by decide]
      simp only [List.append_assoc, List.cons_append, List.nil_append]
    rw [e, split_ln _ _ _ (by decide), split_ln _ _ _ (by decide)]
  obtain ⟨s, ev, sm⟩ := vars_back (s := []) (nm := []) (wd := []) (valsF 0 w.first ++ (endF ++ chgsF none w.list)) h2 (k := 0) (by omega) h4 rfl ⟨fun i hi => by omega, fun c x hc => by cases hc⟩
  rw [Nat.zero_add] at sm
  unfold readP
  rw [hh]
  generalize hX : splitL 10 (v ++ (midF ++ (valsF 0 w.first ++ (endF ++ chgsF none w.list)))) = X at ev
  have hne : X ≠ [] := by rw [← hX]; exact splitL_ne _ _
  obtain ⟨l, ls, rfl⟩ := List.exists_cons_of_ne_nil hne
  have hr : readVarsP (tsW :: scW :: l :: ls) = varsP (l :: ls) [] [] [] := by
    show (if tsW = tsW ∧ scW = scW then varsP (l :: ls) [] [] [] else none) = _
    rw [if_pos ⟨rfl, rfl⟩]
  rw [hr, ev]
  simp only [List.nil_append]
  have fb := first_back (N := w.names.length) (by omega) sm ⟨w.names, w.wides, [], []⟩ w.first [] 0 (endF ++ chgsF none w.list) (checks_of h2) (by omega)
  rw [l2] at fb
  rw [fb]
  have he : splitL 10 (endF ++ chgsF none w.list) = dend :: splitL 10 (chgsF none w.list) := by
    have e : endF ++ chgsF none w.list = dend ++ 10 :: chgsF none w.list := rfl
    rw [e, split_ln _ _ _ (by decide)]
  have cb := chg_back (by omega) sm w.list none w.first [] h3
  rw [he]
  generalize hY : splitL 10 (chgsF none w.list) = Y at cb
  have hne : Y ≠ [] := by rw [← hY]; exact splitL_ne _ _
  obtain ⟨l, ls, rfl⟩ := List.exists_cons_of_ne_nil hne
  show (if dend = dend then (chgP (-1) (l :: ls) s []).map fun c => _ else none) = _
  have cb' : chgP (-1) (l :: ls) s [] = some ([] ++ w.list) := cb
  rw [if_pos rfl, cb']
  rfl
theorem chg_int {h : H} (d : Nat) (n : Int) : ieq Tryz.prog h (d + 1) 3 (.int .i64 n) (.int .i64 n) = some true := by
  simp only [ieq, Tryz.underlying3, if_true, decide_true]
theorem chg_str {h : H} (d : Nat) (l : Bs) : ieq Tryz.prog h (d + 1) 9 (sv l) (sv l) = some true := by
  simp only [ieq, sv, Tryz.underlying9, Str.eq_self]
theorem binK_chg {h : H} (t : Chg) : binK Tryz.prog h .neq 38 false false (.agg (chgC t)) (.agg (chgC t)) = some (.bool false) := by
  have hg : Tryz.prog.eqGuardType Tryz.prog.depth 38 = false := by kernel_rfl
  have hs : Tryz.prog.stoodInHeld 38 = false := by kernel_rfl
  have a3 : isAggT Tryz.prog 3 = some false := by kernel_rfl
  have a9 : isAggT Tryz.prog 9 = some false := by kernel_rfl
  have key : ieq Tryz.prog h 10000 38 (.agg (chgC t)) (.agg (chgC t)) = some true := by
    show ieq Tryz.prog h (9998 + 1 + 1) 38 (.agg (chgC t)) (.agg (chgC t)) = some true
    unfold ieq
    rw [show Tryz.prog.underlying 38 = _ from Tryz.underlying38]
    simp only [hs, Bool.false_eq_true, if_false, ieqL, partI, a3, a9, chgC, List.getElem?_cons_zero, List.getElem?_cons_succ, chg_int, chg_str]
    simp
  simp only [binK, guardEqB, hg, key, Bool.not_false, if_true, Bool.not_true]
section
variable {h : H} {b c : Nat} {n wd f l n' wd' f' l' : IV} {w : Wv}
theorem sw4 (x : WB h b n wd f l w) (y : WB h c n' wd' f' l' w) (hl : w.list.length ≤ 9223372036854775807) : ∀ (k i : Nat), i + k = w.list.length → J11 tab3 4 [.ptr b 0, .ptr c 0, .int .i64 (i : Nat)] h = .ok (.bool true) h := by
  have l3 := x.l3
  have m3 := y.l3
  have n3 := x.wr.list.len
  intro k
  induction k with
  | zero =>
    intro i hi
    have hlt : ¬ ((i : Nat) : Int) < (w.list.length : Nat) := by omega
    refine e11_4 ?_ (by simp)
    simp only [t11_4, W, WW, ↓reduceIte, reduceCtorEq, Nat.reduceAdd, Int.reduceEq, Int.reduceNe, Int.reduceLT, Int.reduceLE, Int.reduceAdd, Int.reduceSub, Int.reduceMul, Int.reduceNeg, Nat.reduceMul, l3, n3, Int.ofNat_eq_natCast, hlt]
  | succ k ih =>
    intro i hi
    have hlt : ((i : Nat) : Int) < (w.list.length : Nat) := by omega
    obtain ⟨v, hv⟩ : ∃ v, w.list[i]? = some v := ⟨_, List.getElem?_eq_getElem (by omega)⟩
    obtain ⟨p, o, q1, q2, -⟩ := LR.chg x.wr.list hv
    obtain ⟨p', o', r1, r2, -⟩ := LR.chg y.wr.list hv
    refine e11_4 ?_ (by simp)
    simp only [t11_4, W, WW, ↓reduceIte, reduceCtorEq, Nat.reduceAdd, Int.reduceEq, Int.reduceNe, Int.reduceLT, Int.reduceLE, Int.reduceAdd, Int.reduceSub, Int.reduceMul, Int.reduceNeg, Nat.reduceMul, l3, n3, Int.ofNat_eq_natCast, hlt, q1, q2, m3, r1, r2, binK_chg, wr_succ (show i < 9223372036854775807 by omega)]
    exact ih (i + 1) (by omega)
theorem sw3 (x : WB h b n wd f l w) (y : WB h c n' wd' f' l' w) (hl : w.list.length ≤ 9223372036854775807) (hn : w.names.length ≤ 4096) : ∀ (k i : Nat), i + k = w.names.length → J11 tab3 3 [.bool true, .ptr b 0, .ptr c 0, .int .i64 (i : Nat)] h = .ok (.bool true) h := by
  have l3 := x.l0
  have m3 := y.l0
  have n3 := x.wr.names.len
  intro k
  induction k with
  | zero =>
    intro i hi
    have hlt : ¬ ((i : Nat) : Int) < (w.names.length : Nat) := by omega
    refine e11_3 ?_ (by simp)
    simp only [t11_3, W, WW, ↓reduceIte, reduceCtorEq, Nat.reduceAdd, Int.reduceEq, Int.reduceNe, Int.reduceLT, Int.reduceLE, Int.reduceAdd, Int.reduceSub, Int.reduceMul, Int.reduceNeg, Nat.reduceMul, l3, n3, Int.ofNat_eq_natCast, hlt]
    exact sw4 x y hl w.list.length 0 (by omega)
  | succ k ih =>
    intro i hi
    have hlt : ((i : Nat) : Int) < (w.names.length : Nat) := by omega
    obtain ⟨v, hv⟩ : ∃ v, w.names[i]? = some v := ⟨_, List.getElem?_eq_getElem (by omega)⟩
    obtain ⟨p, q1, q2⟩ := LR.str x.wr.names hv
    obtain ⟨p', r1, r2⟩ := LR.str y.wr.names hv
    refine e11_3 ?_ (by simp)
    simp only [t11_3, W, WW, ↓reduceIte, reduceCtorEq, Nat.reduceAdd, Int.reduceEq, Int.reduceNe, Int.reduceLT, Int.reduceLE, Int.reduceAdd, Int.reduceSub, Int.reduceMul, Int.reduceNeg, Nat.reduceMul, l3, n3, Int.ofNat_eq_natCast, hlt, q1, q2, m3, r1, r2, wr_succ (show i < 9223372036854775807 by omega)]
    exact ih (i + 1) (by omega)
theorem sw2 (x : WB h b n wd f l w) (y : WB h c n' wd' f' l' w) (hl : w.list.length ≤ 9223372036854775807) (hn : w.names.length ≤ 4096) (hw : w.wides.length ≤ 4096) : ∀ (k i : Nat), i + k = w.wides.length → J11 tab3 2 [.bool true, .ptr b 0, .ptr c 0, .int .i64 (i : Nat)] h = .ok (.bool true) h := by
  have l3 := x.l1
  have m3 := y.l1
  have n3 := x.wr.wides.len
  intro k
  induction k with
  | zero =>
    intro i hi
    have hlt : ¬ ((i : Nat) : Int) < (w.wides.length : Nat) := by omega
    refine e11_2 ?_ (by simp)
    simp only [t11_2, W, WW, ↓reduceIte, reduceCtorEq, Nat.reduceAdd, Int.reduceEq, Int.reduceNe, Int.reduceLT, Int.reduceLE, Int.reduceAdd, Int.reduceSub, Int.reduceMul, Int.reduceNeg, Nat.reduceMul, l3, n3, Int.ofNat_eq_natCast, hlt]
    exact sw3 x y hl hn w.names.length 0 (by omega)
  | succ k ih =>
    intro i hi
    have hlt : ((i : Nat) : Int) < (w.wides.length : Nat) := by omega
    obtain ⟨v, hv⟩ : ∃ v, w.wides[i]? = some v := ⟨_, List.getElem?_eq_getElem (by omega)⟩
    obtain ⟨p, q1, q2⟩ := LW.int x.wr.wides hv
    obtain ⟨p', r1, r2⟩ := LW.int y.wr.wides hv
    refine e11_2 ?_ (by simp)
    simp only [t11_2, W, WW, ↓reduceIte, reduceCtorEq, Nat.reduceAdd, Int.reduceEq, Int.reduceNe, Int.reduceLT, Int.reduceLE, Int.reduceAdd, Int.reduceSub, Int.reduceMul, Int.reduceNeg, Nat.reduceMul, l3, n3, Int.ofNat_eq_natCast, hlt, q1, q2, m3, r1, r2, wr_succ (show i < 9223372036854775807 by omega)]
    exact ih (i + 1) (by omega)
theorem sw1 (x : WB h b n wd f l w) (y : WB h c n' wd' f' l' w) (hl : w.list.length ≤ 9223372036854775807) (hn : w.names.length ≤ 4096) (hw : w.wides.length ≤ 4096) (hf : w.first.length ≤ 4096) : ∀ (k i : Nat), i + k = w.first.length → J11 tab3 1 [.bool true, .ptr b 0, .ptr c 0, .int .i64 (i : Nat)] h = .ok (.bool true) h := by
  have l3 := x.l2
  have m3 := y.l2
  have n3 := x.wr.first.len
  intro k
  induction k with
  | zero =>
    intro i hi
    have hlt : ¬ ((i : Nat) : Int) < (w.first.length : Nat) := by omega
    refine e11_1 ?_ (by simp)
    simp only [t11_1, W, WW, ↓reduceIte, reduceCtorEq, Nat.reduceAdd, Int.reduceEq, Int.reduceNe, Int.reduceLT, Int.reduceLE, Int.reduceAdd, Int.reduceSub, Int.reduceMul, Int.reduceNeg, Nat.reduceMul, l3, n3, Int.ofNat_eq_natCast, hlt]
    exact sw2 x y hl hn hw w.wides.length 0 (by omega)
  | succ k ih =>
    intro i hi
    have hlt : ((i : Nat) : Int) < (w.first.length : Nat) := by omega
    obtain ⟨v, hv⟩ : ∃ v, w.first[i]? = some v := ⟨_, List.getElem?_eq_getElem (by omega)⟩
    obtain ⟨p, q1, q2⟩ := LR.str x.wr.first hv
    obtain ⟨p', r1, r2⟩ := LR.str y.wr.first hv
    refine e11_1 ?_ (by simp)
    simp only [t11_1, W, WW, ↓reduceIte, reduceCtorEq, Nat.reduceAdd, Int.reduceEq, Int.reduceNe, Int.reduceLT, Int.reduceLE, Int.reduceAdd, Int.reduceSub, Int.reduceMul, Int.reduceNeg, Nat.reduceMul, l3, n3, Int.ofNat_eq_natCast, hlt, q1, q2, m3, r1, r2, wr_succ (show i < 9223372036854775807 by omega)]
    exact ih (i + 1) (by omega)
end
theorem same3 {h : H} (g : Gd h) {n wd f l n' wd' f' l' : IV} {w : Wv} (r : WR h n wd f l w) (r' : WR h n' wd' f' l' w) (hl : w.list.length ≤ 9223372036854775807) (hn : w.names.length ≤ 4096) (hw : w.wides.length ≤ 4096) (hf : w.first.length ≤ 4096) :
    ∃ h', CL tab3 11 [.agg [n, wd, f, l], .agg [n', wd', f', l'], .bool true] h = .ok (.bool true) h' ∧ Ky h h' := by
  obtain ⟨h2, s2, k2, d2, -, -⟩ := (Ky.refl g).newI (cs := [n, wd, f, l]) r.scalar
  obtain ⟨h4, s4, k4, d4, k24, -⟩ := k2.newI (cs := [n', wd', f', l']) r'.scalar
  have x : WB h4 h.next n wd f l w := ⟨d2.ky k2.gd.wf k24, r.ky g.wf k4⟩
  have y : WB h4 h2.next n' wd' f' l' w := ⟨d4, r'.ky g.wf k4⟩
  refine ⟨h4, c11 good3.step rfl rfl g ?_ (by simp), k4⟩
  have x0 := x.l0
  have x1 := x.l1
  have x2 := x.l2
  have x3 := x.l3
  have y0 := y.l0
  have y1 := y.l1
  have y2 := y.l2
  have y3 := y.l3
  have a0 := x.wr.names.len
  have a1 := x.wr.wides.len
  have a2 := x.wr.first.len
  have a3 := x.wr.list.len
  have b0 := y.wr.names.len
  have b1 := y.wr.wides.len
  have b2 := y.wr.first.len
  have b3 := y.wr.list.len
  simp only [t11_0, IV.cells, s2, s4, W, WW, ↓reduceIte, reduceCtorEq, Nat.reduceAdd, Int.reduceEq, Int.reduceNe, Int.reduceLT, Int.reduceLE, Int.reduceAdd, Int.reduceSub, Int.reduceMul, Int.reduceNeg, Nat.reduceMul, x0, x1, x2, x3, y0, y1, y2, y3, a0, a1, a2, a3, b0, b1, b2, b3]
  exact sw1 x y hl hn hw hf w.first.length 0 (by omega)
end Go.Proofs.YtdccdfmbakbikaaGreatDoor
namespace Go.Proofs.YtdccdfmbakbikaaGreatDoor
open Go I
theorem rout_good {hS : H} {s0 : Bs} {o : Option Wv} {r : CRes} (x : ROut hS s0 o r) {w : Wv} (hw : writeF w = (s0, 0)) (ho : o = some w) : GoodR hS w r := by
  subst ho
  have x : (if writeF w = (s0, 0) then GoodR hS w r else BadR hS r) := x
  rw [if_pos hw] at x
  exact x
theorem rout_bad {hS : H} {s0 : Bs} {o : Option Wv} {r : CRes} (x : ROut hS s0 o r) (hno : ¬ ∃ w, writeF w = (s0, 0)) : BadR hS r := by
  cases o with
  | none => exact x
  | some w =>
    have x : (if writeF w = (s0, 0) then GoodR hS w r else BadR hS r) := x
    rw [if_neg (fun h => hno ⟨w, h⟩)] at x
    exact x
theorem chgs_len : ∀ (p : Option Chg) (l : List Chg), l.length ≤ (chgsF p l).length
  | _, [] => Nat.le_refl _
  | p, c :: l => by
    have := chgs_len (some c) l
    have hv : 1 ≤ (valueF c.val c.net.toNat).length := by
      unfold valueF
      split <;> simp <;> omega
    simp only [chgsF, chgF, List.length_append, List.length_cons]; omega
theorem write_small {w : Wv} {t : Bs} (h : writeF w = (t, 0)) : w.list.length ≤ 1048576 ∧ w.names.length ≤ 4096 ∧ w.wides.length ≤ 4096 ∧ w.first.length ≤ 4096 ∧ t.length ≤ 1048576 := by
  obtain ⟨v, h1, h2, h3, h4, rfl, h5⟩ := write_parts h
  obtain ⟨l1, l2⟩ := netsF_len h2
  have := chgs_len none w.list
  refine ⟨?_, h1, by omega, by omega, h5⟩
  simp only [List.length_append] at h5
  omega
def w0 : Wv := ⟨[[97]], [1], [[120]], [⟨5, 0, [49]⟩]⟩
theorem w0_ok : writeF w0 = ((writeF w0).1, 0) := by
  have : (writeF w0).2 = 0 := by kernel_rfl
  exact Prod.ext rfl this
theorem w0_len : (12 : Int) < ((writeF w0).1.length : Nat) := by decide +kernel
theorem w0_end : slcStr (sv (writeF w0).1) (some (.int .i64 (wr .i64 (((writeF w0).1.length : Nat) - 6)))) none = some (.str ⟨6, 11137672951075⟩) := by kernel_rfl
theorem awakeS {h : H} (g : Gd h) : ∃ h', CL tab3 8 [] h = .ok (.bool true) h' ∧ Ky h h' := by
  obtain ⟨h2, s2, k2, d2, -⟩ := lit_ky (es := 1) (z := [.str ⟨0, 0⟩]) (vs := [sv [97]]) g rfl (fun v hv => by simp at hv; subst hv; rfl) rfl
  obtain ⟨h4, s4, k4, d4, -⟩ := litW_ky (es := 1) (z := [.int .i64 0]) (vs := [.int .i64 1]) k2.gd rfl (fun v hv => by simp at hv; subst hv; rfl) rfl
  obtain ⟨h6, s6, k6, d6, -⟩ := lit_ky (es := 1) (z := [.str ⟨0, 0⟩]) (vs := [sv [120]]) k4.gd rfl (fun v hv => by simp at hv; subst hv; rfl) rfl
  obtain ⟨h9, s9, k9, d9, -⟩ := lit_ky (es := 3) (z := z2) (vs := [.agg (chgC ⟨5, 0, [49]⟩)]) k6.gd rfl (fun v hv => by simp at hv; subst hv; rfl) rfl
  have k09 := ((k2.trans k4).trans k6).trans k9
  have r1 : LR h9 1 RS [[97]] (.slice h.next 0 1 1) := .inr ⟨_, 0, _, rfl, ⟨_, d2.ky k2.gd.wf ((k4.trans k6).trans k9)⟩, by show 0 + 1 * 1 ≤ 1; omega, ⟨_, _, rfl, rfl, rfl, rfl⟩⟩
  have r2 : LW h9 [1] (.slice h2.next 0 1 1) := .inr ⟨_, _, rfl, d4.ky k4.gd.wf (k6.trans k9)⟩
  have r3 : LR h9 1 RS [[120]] (.slice h4.next 0 1 1) := .inr ⟨_, 0, _, rfl, ⟨_, d6.ky k6.gd.wf k9⟩, by show 0 + 1 * 1 ≤ 1; omega, ⟨_, _, rfl, rfl, rfl, rfl⟩⟩
  have r4 : LR h9 3 RC [⟨5, 0, [49]⟩] (.slice h6.next 0 1 3) := .inr ⟨_, 0, _, rfl, ⟨_, d9⟩, by show 0 + 1 * 3 ≤ 3; omega, ⟨_, _, rfl, rfl, rfl, rfl⟩⟩
  have wr9 : WR h9 (.slice h.next 0 1 1) (.slice h2.next 0 1 1) (.slice h4.next 0 1 1) (.slice h6.next 0 1 3) w0 := ⟨r1, r2, r3, r4⟩
  generalize hX : [IV.slice h.next 0 1 1, .slice h2.next 0 1 1, .slice h4.next 0 1 1, .slice h6.next 0 1 3] = X
  obtain ⟨h12, s12, k12, d12, -, -⟩ := (Ky.refl k9.gd).newI (cs := z0) rfl
  obtain ⟨o, s13, k13, d13⟩ := k12.st d12 (Nat.le_refl _) (n := 4) (off := 0) (v := .agg X) (by rw [← hX]; rfl) (by rw [← hX]; exact wr9.scalar) (by show 0 + 4 ≤ 4; omega)
  have hp : placeL z0 0 (IV.agg X).cells = X := by rw [← hX]; rfl
  rw [hp] at d13
  generalize h12.put h9.next o = h13 at s13 k13 d13
  have lA : I.ldA 4 h13 (.ptr h9.next 0) = some (.agg X) := d13.ldAll (by rw [← hX]; rfl)
  obtain ⟨h16, ew, k16⟩ := write k13.gd (wr9.ky k9.gd.wf k13) (by decide)
  simp only [resI] at ew
  rw [w0_ok, hX] at ew
  dsimp only at ew
  have ho := w0_ok
  obtain ⟨b1, b2, b3, b4, b5⟩ := write_small ho
  have hlen := w0_len
  have hend := w0_end
  generalize (writeF w0).1 = t0 at *
  obtain ⟨n, wd, f, l, h20, er, k20, r20⟩ := rout_good (read3 k16.gd t0 b5) ho (read_back ho)
  obtain ⟨h24, s24, k24, d24, -, -⟩ := (Ky.refl k20.gd).newI (cs := z0) rfl
  obtain ⟨o2, s25, k25, d25⟩ := k24.st d24 (Nat.le_refl _) (n := 4) (off := 0) (v := .agg [n, wd, f, l]) rfl r20.scalar (by show 0 + 4 ≤ 4; omega)
  have hp2 : placeL z0 0 (IV.agg [n, wd, f, l]).cells = [n, wd, f, l] := rfl
  rw [hp2] at d25
  generalize h24.put h20.next o2 = h25 at s25 k25 d25
  have k1325 := (k16.trans k20).trans k25
  have lB : I.ldA 4 h25 (.ptr h9.next 0) = some (.agg X) := (d13.ky k13.gd.wf k1325).ldAll (by rw [← hX]; rfl)
  have lC : I.ldA 4 h25 (.ptr h20.next 0) = some (.agg [n, wd, f, l]) := d25.ldAll rfl
  have ec : CL tab3 22 [.int .i64 94] h25 = .ok (.tup [sv [33, 33], .int .i64 0]) h25 := by
    have e16 : CL tab3 16 [.int .i64 94] h25 = .ok (sv [33, 33]) h25 := code3 (h := h25) 94 (by decide)
    refine c22 good3.step rfl rfl k25.gd ?_ (by simp)
    simp only [t22_0, W, WW, ↓reduceIte, reduceCtorEq, Nat.reduceAdd, Int.reduceEq, Int.reduceNe, Int.reduceLT, Int.reduceLE, Int.reduceAdd, Int.reduceSub, Int.reduceMul, Int.reduceNeg, Nat.reduceMul, e16]
  have wX := wr9.ky k9.gd.wf (k13.trans k1325)
  obtain ⟨h42, es, k42⟩ := same3 k25.gd (r20.ky k20.gd.wf k25) wX (by omega) b2 b3 b4
  rw [hX] at es
  refine ⟨h42, c8 good3.step rfl rfl g ?_ (by simp), (((k09.trans k13).trans k1325)).trans k42⟩
  have s2' : bslK false 1 [.str ⟨0, 0⟩] 1 [(0, .str ⟨1, 97⟩)] h = some (.slice h.next 0 1 1, h2) := s2
  have s4' : bslK true 1 [.int .i64 0] 1 [(0, .int .i64 1)] h2 = some (.slice h2.next 0 1 1, h4) := s4
  have s6' : bslK false 1 [.str ⟨0, 0⟩] 1 [(0, .str ⟨1, 120⟩)] h4 = some (.slice h4.next 0 1 1, h6) := s6
  have s9' : bslK false 3 z2 1 [(0, .agg (chgC ⟨5, 0, [49]⟩))] h6 = some (.slice h6.next 0 1 3, h9) := s9
  have bd : bldK z2 p3 [(0, IV.int .i64 5), (2, .str ⟨1, 49⟩)] = some (.agg (chgC ⟨5, 0, [49]⟩)) := rfl
  have bX : bldK z0 p1 [(0, IV.slice h.next 0 1 1), (1, .slice h2.next 0 1 1), (2, .slice h4.next 0 1 1), (3, .slice h6.next 0 1 3)] = some (.agg X) := by rw [← hX]; rfl
  have c33 : IV.str ⟨2, 8481⟩ = sv [33, 33] := rfl
  have c6 : binS .eql (.str ⟨6, 11137672951075⟩) (.str ⟨6, 11137672951075⟩) = some (.bool true) := by kernel_rfl
  simp only [t8_0, s2', s4', s6', bd, s9', bX, s12, s13, lA, ew, er, s24, s25, ec, lB, lC, es, W, WW, ↓reduceIte, reduceCtorEq, Nat.reduceAdd, Int.reduceEq, Int.reduceNe, Int.reduceLT, Int.reduceLE, Int.reduceAdd, Int.reduceSub, Int.reduceMul, Int.reduceNeg, Nat.reduceMul, c33, hlen, hend, c6]
theorem piece {h₀ h : H} (k : Ky h₀ h) {done : List Bs} {v : IV} (gl : GLk h₀ h 1 (done.map sv) v) (p : Bs) (hd : done.length ≤ 4294967296) : ∃ h7 v' h9, bslK false 1 [.str ⟨0, 0⟩] 1 [(0, sv p)] h = some (.slice h.next 0 1 1, h7) ∧ appK 1 16 h7 v (.slice h.next 0 1 1) = some (v', h9) ∧ Ky h₀ h9 ∧ GLk h₀ h9 1 ((done ++ [p]).map sv) v' := by
  obtain ⟨h7, s7, k7, d7, -⟩ := lit_ky (es := 1) (z := [.str ⟨0, 0⟩]) (vs := [sv p]) k.gd rfl (fun v hv => by simp at hv; subst hv; rfl) rfl
  obtain ⟨v', h9, s9, k9, g9⟩ := (k.trans k7).app (bytes := 16) (gl.ky k.gd.wf k7) (d7.source1 (es := 1) rfl) rfl rfl (by decide) (by rw [List.length_map]; omega) (by decide)
  exact ⟨h7, v', h9, s7, s9, k9, by rw [List.map_append]; exact g9⟩
theorem drop_cut (s : Bs) {fr i : Nat} (h1 : fr ≤ i) (h2 : i ≤ s.length) : s.drop fr = (s.take i).drop fr ++ s.drop i := by
  conv => lhs; rw [← List.take_append_drop i s]
  rw [List.drop_append_of_le_length (by rw [List.length_take]; omega)]
theorem take_more (s : Bs) {fr i : Nat} (h1 : fr ≤ i) (h2 : i < s.length) : (s.take (i + 1)).drop fr = (s.take i).drop fr ++ [s[i]] := by
  rw [List.take_succ_eq_append_getElem h2, List.drop_append_of_le_length (by rw [List.length_take]; omega)]
theorem ix_at (s : Bs) {i : Nat} (h : i < s.length) : ixStr (sv s) (.int .i64 (i : Nat)) = some (.int .u8 ((s[i].toNat : Nat) : Int)) := by
  have := ixStr_sv s (i : Nat) (by omega) (by omega)
  simpa using this
theorem slc_at (s : Bs) {fr i : Nat} (h1 : fr ≤ i) (h2 : i ≤ s.length) : slcStr (sv s) (some (.int .i64 (fr : Nat))) (some (.int .i64 (i : Nat))) = some (sv ((s.take i).drop fr)) := by
  have := slcStr_sv s (fr : Nat) (i : Nat) (by omega) (by omega) (by omega)
  simpa using this
theorem slc_from (s : Bs) {fr : Nat} (h1 : fr ≤ s.length) : slcStr (sv s) (some (.int .i64 (fr : Nat))) none = some (sv (s.drop fr)) := by
  have := slcStr_from s (fr : Nat) (by omega) (by omega)
  simpa using this
theorem lines_loop {h₀ : H} (s : Bs) (hs : s.length ≤ 1048576) : ∀ (n i fr : Nat) (h : H) (done : List Bs) (v : IV), i + n = s.length → fr ≤ i → done.length ≤ i → Ky h₀ h → GLk h₀ h 1 (done.map sv) v → (∀ x ∈ (s.take i).drop fr, x ≠ 10) →
    ∃ v' h', J30 tab5 1 [sv s, v, .int .i64 (fr : Nat), .int .i64 (i : Nat)] h = .ok v' h' ∧ Ky h₀ h' ∧ GLk h₀ h' 1 ((done ++ splitL 10 (s.drop fr)).map sv) v' := by
  intro n
  induction n with
  | zero =>
    intro i fr h done v hi hf hd k gl hx
    have hlt : ¬ ((i : Nat) : Int) < (s.length : Nat) := by omega
    have hlen : i = s.length := by omega
    rw [hlen, List.take_length] at hx
    obtain ⟨h7, v', h9, s7, s9, k9, g9⟩ := piece k gl (s.drop fr) (by omega)
    refine ⟨v', h9, e30_1 ?_ (by simp), k9, by rw [split_end _ _ hx]; exact g9⟩
    simp only [t30_1, W, WW, ↓reduceIte, reduceCtorEq, Nat.reduceAdd, Int.reduceEq, Int.reduceNe, Int.reduceLT, Int.reduceLE, Int.reduceAdd, Int.reduceSub, Int.reduceMul, Int.reduceNeg, Nat.reduceMul, hlt, slc_from s (show fr ≤ s.length by omega), s7, s9]
  | succ n ih =>
    intro i fr h done v hi hf hd k gl hx
    have hil : i < s.length := by omega
    have hlt : ((i : Nat) : Int) < (s.length : Nat) := by omega
    have hc : (((s[i].toNat : Nat) : Int) = 10) = (s[i] = 10) := u8_eqv s[i] 10
    have w1 := wr_succ (show i < 9223372036854775807 by omega)
    by_cases h10 : s[i] = 10
    · obtain ⟨h7, v', h9, s7, s9, k9, g9⟩ := piece k gl ((s.take i).drop fr) (by omega)
      obtain ⟨v2, h2, e2, k2, g2⟩ := ih (i + 1) (i + 1) h9 (done ++ [(s.take i).drop fr]) v' (by omega) (by omega) (by simp; omega) k9 g9 (by
        intro x hx
        rw [List.drop_eq_nil_of_le (by rw [List.length_take]; omega)] at hx; cases hx)
      refine ⟨v2, h2, e30_1 ?_ (by simp), k2, ?_⟩
      · simp only [t30_1, W, WW, ↓reduceIte, reduceCtorEq, Nat.reduceAdd, Int.reduceEq, Int.reduceNe, Int.reduceLT, Int.reduceLE, Int.reduceAdd, Int.reduceSub, Int.reduceMul, Int.reduceNeg, Nat.reduceMul, hlt, ix_at s hil, hc, eq_true h10, slc_at s hf (by omega), s7, s9, w1]
        refine e30_2 ?_ (by simp)
        simp only [t30_2, W, WW, ↓reduceIte, reduceCtorEq, Nat.reduceAdd, Int.reduceEq, Int.reduceNe, Int.reduceLT, Int.reduceLE, Int.reduceAdd, Int.reduceSub, Int.reduceMul, Int.reduceNeg, Nat.reduceMul, w1]
        exact e2
      · have : splitL 10 (s.drop fr) = (s.take i).drop fr :: splitL 10 (s.drop (i + 1)) := by
          rw [drop_cut s hf (by omega), List.drop_eq_getElem_cons hil, h10, split_ln _ _ _ hx]
        rw [this]
        simpa using g2
    · obtain ⟨v2, h2, e2, k2, g2⟩ := ih (i + 1) fr h done v (by omega) (by omega) (by omega) k gl (by
        intro x hx'
        rw [take_more s hf hil] at hx'
        rcases List.mem_append.1 hx' with hx' | hx'
        · exact hx x hx'
        · simp only [List.mem_singleton] at hx'; subst hx'; exact h10)
      refine ⟨v2, h2, e30_1 ?_ (by simp), k2, g2⟩
      simp only [t30_1, W, WW, ↓reduceIte, reduceCtorEq, Nat.reduceAdd, Int.reduceEq, Int.reduceNe, Int.reduceLT, Int.reduceLE, Int.reduceAdd, Int.reduceSub, Int.reduceMul, Int.reduceNeg, Nat.reduceMul, hlt, ix_at s hil, hc, eq_false h10]
      refine e30_2 ?_ (by simp)
      simp only [t30_2, W, WW, ↓reduceIte, reduceCtorEq, Nat.reduceAdd, Int.reduceEq, Int.reduceNe, Int.reduceLT, Int.reduceLE, Int.reduceAdd, Int.reduceSub, Int.reduceMul, Int.reduceNeg, Nat.reduceMul, w1]
      exact e2
theorem lines5 {h : H} (g : Gd h) (s : Bs) (hs : s.length ≤ 1048576) : ∃ v h', CL tab5 30 [sv s] h = .ok v h' ∧ Ky h h' ∧ GLk h h' 1 ((splitL 10 s).map sv) v := by
  obtain ⟨v, h', e, k, gl⟩ := lines_loop s hs s.length 0 0 h [] .nilSlice (by omega) (by omega) (by simp) (.refl g) (.inl ⟨rfl, rfl⟩) (by simp)
  refine ⟨v, h', c30 good5.step rfl rfl g ?_ (by simp), k, by simpa using gl⟩
  simp only [t30_0]
  exact e
theorem parts_loop {h₀ : H} (s : Bs) (hs : s.length ≤ 1048576) : ∀ (n i fr : Nat) (h : H) (done : List Bs) (v : IV), i + n = s.length → fr ≤ i → done.length ≤ i → Ky h₀ h → GLk h₀ h 1 (done.map sv) v → (∀ x ∈ (s.take i).drop fr, x ≠ 32) →
    ∃ v' h', J31 tab5 1 [sv s, v, .int .i64 (fr : Nat), .int .i64 (i : Nat)] h = .ok v' h' ∧ Ky h₀ h' ∧ GLk h₀ h' 1 ((done ++ splitL 32 (s.drop fr)).map sv) v' := by
  intro n
  induction n with
  | zero =>
    intro i fr h done v hi hf hd k gl hx
    have hle : ((i : Nat) : Int) ≤ (s.length : Nat) := by omega
    have heq : ((i : Nat) : Int) = (s.length : Nat) := by omega
    have hlen : i = s.length := by omega
    have w1 := wr_succ (show i < 9223372036854775807 by omega)
    have hsl := slc_at s hf (show i ≤ s.length by omega)
    have ht : (s.take i).drop fr = s.drop fr := by rw [hlen, List.take_length]
    rw [ht] at hx hsl
    obtain ⟨h7, v', h9, s7, s9, k9, g9⟩ := piece k gl (s.drop fr) (by omega)
    refine ⟨v', h9, e31_1 ?_ (by simp), k9, by rw [split_end _ _ hx]; exact g9⟩
    have hn : ¬ ((i + 1 : Nat) : Int) ≤ (s.length : Nat) := by omega
    simp only [t31_1, W, WW, ↓reduceIte, reduceCtorEq, Nat.reduceAdd, Int.reduceEq, Int.reduceNe, Int.reduceLT, Int.reduceLE, Int.reduceAdd, Int.reduceSub, Int.reduceMul, Int.reduceNeg, Nat.reduceMul, hle, eq_true heq, hsl, s7, s9, w1]
    refine e31_2 ?_ (by simp)
    simp only [t31_2, W, WW, ↓reduceIte, reduceCtorEq, Nat.reduceAdd, Int.reduceEq, Int.reduceNe, Int.reduceLT, Int.reduceLE, Int.reduceAdd, Int.reduceSub, Int.reduceMul, Int.reduceNeg, Nat.reduceMul, w1]
    refine e31_1 ?_ (by simp)
    simp only [t31_1, W, WW, ↓reduceIte, reduceCtorEq, Nat.reduceAdd, Int.reduceEq, Int.reduceNe, Int.reduceLT, Int.reduceLE, Int.reduceAdd, Int.reduceSub, Int.reduceMul, Int.reduceNeg, Nat.reduceMul, hn]
  | succ n ih =>
    intro i fr h done v hi hf hd k gl hx
    have hil : i < s.length := by omega
    have hle : ((i : Nat) : Int) ≤ (s.length : Nat) := by omega
    have heq : ¬ ((i : Nat) : Int) = (s.length : Nat) := by omega
    have hc : (((s[i].toNat : Nat) : Int) = 32) = (s[i] = 32) := u8_eqv s[i] 32
    have w1 := wr_succ (show i < 9223372036854775807 by omega)
    by_cases h32 : s[i] = 32
    · obtain ⟨h7, v', h9, s7, s9, k9, g9⟩ := piece k gl ((s.take i).drop fr) (by omega)
      obtain ⟨v2, h2, e2, k2, g2⟩ := ih (i + 1) (i + 1) h9 (done ++ [(s.take i).drop fr]) v' (by omega) (by omega) (by simp; omega) k9 g9 (by
        intro x hx
        rw [List.drop_eq_nil_of_le (by rw [List.length_take]; omega)] at hx; cases hx)
      refine ⟨v2, h2, e31_1 ?_ (by simp), k2, ?_⟩
      · simp only [t31_1, W, WW, ↓reduceIte, reduceCtorEq, Nat.reduceAdd, Int.reduceEq, Int.reduceNe, Int.reduceLT, Int.reduceLE, Int.reduceAdd, Int.reduceSub, Int.reduceMul, Int.reduceNeg, Nat.reduceMul, hle, eq_false heq, ix_at s hil, hc, eq_true h32, slc_at s hf (by omega), s7, s9, w1]
        refine e31_2 ?_ (by simp)
        simp only [t31_2, W, WW, ↓reduceIte, reduceCtorEq, Nat.reduceAdd, Int.reduceEq, Int.reduceNe, Int.reduceLT, Int.reduceLE, Int.reduceAdd, Int.reduceSub, Int.reduceMul, Int.reduceNeg, Nat.reduceMul, w1]
        exact e2
      · have : splitL 32 (s.drop fr) = (s.take i).drop fr :: splitL 32 (s.drop (i + 1)) := by
          rw [drop_cut s hf (by omega), List.drop_eq_getElem_cons hil, h32, split_ln _ _ _ hx]
        rw [this]
        simpa using g2
    · obtain ⟨v2, h2, e2, k2, g2⟩ := ih (i + 1) fr h done v (by omega) (by omega) (by omega) k gl (by
        intro x hx'
        rw [take_more s hf hil] at hx'
        rcases List.mem_append.1 hx' with hx' | hx'
        · exact hx x hx'
        · simp only [List.mem_singleton] at hx'; subst hx'; exact h32)
      refine ⟨v2, h2, e31_1 ?_ (by simp), k2, g2⟩
      simp only [t31_1, W, WW, ↓reduceIte, reduceCtorEq, Nat.reduceAdd, Int.reduceEq, Int.reduceNe, Int.reduceLT, Int.reduceLE, Int.reduceAdd, Int.reduceSub, Int.reduceMul, Int.reduceNeg, Nat.reduceMul, hle, eq_false heq, ix_at s hil, hc, eq_false h32]
      refine e31_2 ?_ (by simp)
      simp only [t31_2, W, WW, ↓reduceIte, reduceCtorEq, Nat.reduceAdd, Int.reduceEq, Int.reduceNe, Int.reduceLT, Int.reduceLE, Int.reduceAdd, Int.reduceSub, Int.reduceMul, Int.reduceNeg, Nat.reduceMul, w1]
      exact e2
theorem parts5 {h : H} (g : Gd h) (s : Bs) (hs : s.length ≤ 1048576) : ∃ v h', CL tab5 31 [sv s] h = .ok v h' ∧ Ky h h' ∧ LR h' 1 RS (splitL 32 s) v := by
  obtain ⟨v, h', e, k, gl⟩ := parts_loop s hs s.length 0 0 h [] .nilSlice (by omega) (by omega) (by simp) (.refl g) (.inl ⟨rfl, rfl⟩) (by simp)
  refine ⟨v, h', c31 good5.step rfl rfl g ?_ (by simp), k, gl.gl.LR (by decide) (by simpa using ch_txt (splitL 32 s))⟩
  simp only [t31_0]
  exact e
def numL : Int → Bs → Int
  | n, [] => n
  | n, c :: l => if c.toNat < 48 ∨ 57 < c.toNat ∨ 461168601842738790 < n then -1 else numL (10 * n + ((c.toNat : Int) - 48)) l
def numR (s : Bs) : Int := if s = [] ∨ 19 < s.length ∨ (1 < s.length ∧ s.head? = some 48) then -1 else numL 0 s
theorem num_loop {h : H} (s : Bs) (hs : s.length ≤ 1048576) : ∀ (k i : Nat) (n : Int), i + k = s.length → 0 ≤ n → n ≤ 4611686018427387909 → J32 tab5 1 [sv s, .int .i64 n, .int .i64 (i : Nat)] h = .ok (.int .i64 (numL n (s.drop i))) h := by
  intro k
  induction k with
  | zero =>
    intro i n hi h0 h1
    have hlt : ¬ ((i : Nat) : Int) < (s.length : Nat) := by omega
    rw [List.drop_of_length_le (by omega)]
    refine e32_1 ?_ (by simp)
    simp only [t32_1, W, WW, ↓reduceIte, reduceCtorEq, Nat.reduceAdd, Int.reduceEq, Int.reduceNe, Int.reduceLT, Int.reduceLE, Int.reduceAdd, Int.reduceSub, Int.reduceMul, Int.reduceNeg, Nat.reduceMul, hlt, numL]
  | succ k ih =>
    intro i n hi h0 h1
    have hil : i < s.length := by omega
    have hlt : ((i : Nat) : Int) < (s.length : Nat) := by omega
    have ix := ix_at s hil
    rw [List.drop_eq_getElem_cons hil]
    have ih := fun n => ih (i + 1) n (by omega)
    generalize s[i] = c at ix
    have hcl := c.toNat_lt
    refine e32_1 ?_ (by simp)
    unfold numL
    by_cases a1 : c.toNat < 48
    · have b1 : ((c.toNat : Nat) : Int) < 48 := by omega
      rw [if_pos (.inl a1)]
      simp only [t32_1, W, WW, ↓reduceIte, reduceCtorEq, Nat.reduceAdd, Int.reduceEq, Int.reduceNe, Int.reduceLT, Int.reduceLE, Int.reduceAdd, Int.reduceSub, Int.reduceMul, Int.reduceNeg, Nat.reduceMul, hlt, ix, b1]
    · have b1 : ¬ ((c.toNat : Nat) : Int) < 48 := by omega
      by_cases a2 : 57 < c.toNat
      · have b2 : (57 : Int) < ((c.toNat : Nat) : Int) := by omega
        rw [if_pos (.inr (.inl a2))]
        simp only [t32_1, W, WW, ↓reduceIte, reduceCtorEq, Nat.reduceAdd, Int.reduceEq, Int.reduceNe, Int.reduceLT, Int.reduceLE, Int.reduceAdd, Int.reduceSub, Int.reduceMul, Int.reduceNeg, Nat.reduceMul, hlt, ix, b1, b2]
      · have b2 : ¬ (57 : Int) < ((c.toNat : Nat) : Int) := by omega
        by_cases a3 : 461168601842738790 < n
        · rw [if_pos (.inr (.inr a3))]
          simp only [t32_1, W, WW, ↓reduceIte, reduceCtorEq, Nat.reduceAdd, Int.reduceEq, Int.reduceNe, Int.reduceLT, Int.reduceLE, Int.reduceAdd, Int.reduceSub, Int.reduceMul, Int.reduceNeg, Nat.reduceMul, hlt, ix, b1, b2, a3]
        · rw [if_neg (by omega)]
          have ih' := ih (10 * n + ((c.toNat : Int) - 48)) (by omega) (by omega)
          have w1 : wr .i64 (10 * n) = 10 * n := wr_i64 (by omega) (by omega)
          have w2 : wr .u8 (((c.toNat : Nat) : Int) - 48) = ((c.toNat : Nat) : Int) - 48 := wr_u8 (by omega) (by omega)
          have w3 : wr .i64 (((c.toNat : Nat) : Int) - 48) = ((c.toNat : Nat) : Int) - 48 := wr_i64 (by omega) (by omega)
          have w4 : wr .i64 (10 * n + (((c.toNat : Nat) : Int) - 48)) = 10 * n + (((c.toNat : Nat) : Int) - 48) := wr_i64 (by omega) (by omega)
          simp only [t32_1, W, WW, ↓reduceIte, reduceCtorEq, Nat.reduceAdd, Int.reduceEq, Int.reduceNe, Int.reduceLT, Int.reduceLE, Int.reduceAdd, Int.reduceSub, Int.reduceMul, Int.reduceNeg, Nat.reduceMul, hlt, ix, b1, b2, a3, w1, w2, w3, w4, wr_succ (show i < 9223372036854775807 by omega)]
          exact ih'
theorem number5 {h : H} (g : Gd h) (s : Bs) (hs : s.length ≤ 1048576) : CL tab5 32 [sv s] h = .ok (.int .i64 (numR s)) h := by
  have s00 : IV.str ⟨0, 0⟩ = sv [] := rfl
  refine c32 good5.step rfl rfl g ?_ (by simp)
  unfold numR
  cases s with
  | nil =>
    rw [if_pos (.inl rfl)]
    simp only [t32_0, W, WW, ↓reduceIte, reduceCtorEq, Nat.reduceAdd, Int.reduceEq, Int.reduceNe, Int.reduceLT, Int.reduceLE, Int.reduceAdd, Int.reduceSub, Int.reduceMul, Int.reduceNeg, Nat.reduceMul, s00]
  | cons c l =>
    have lp := num_loop (h := h) (c :: l) hs (c :: l).length 0 0 (by omega) (by omega) (by omega)
    rw [List.drop_zero] at lp
    have ix : ixStr (sv (c :: l)) (.int .i64 0) = some (.int .u8 ((c.toNat : Nat) : Int)) := ixStr_sv (c :: l) 0 (by omega) (by simp)
    have hc : (((c.toNat : Nat) : Int) = 48) = (c = 48) := u8_eqv c 48
    have hne := List.cons_ne_nil c l
    have hhd : (c :: l).head? = some c := rfl
    generalize hsl : c :: l = s at *
    by_cases a1 : 19 < s.length
    · have b1 : (19 : Int) < (s.length : Nat) := by omega
      rw [if_pos (.inr (.inl a1))]
      simp only [t32_0, W, WW, ↓reduceIte, reduceCtorEq, Nat.reduceAdd, Int.reduceEq, Int.reduceNe, Int.reduceLT, Int.reduceLE, Int.reduceAdd, Int.reduceSub, Int.reduceMul, Int.reduceNeg, Nat.reduceMul, s00, eq_false hne, b1]
    · have b1 : ¬ (19 : Int) < (s.length : Nat) := by omega
      by_cases a2 : 1 < s.length
      · have b2 : (1 : Int) < (s.length : Nat) := by omega
        by_cases a3 : c = 48
        · rw [if_pos (.inr (.inr ⟨a2, by rw [hhd, a3]⟩))]
          simp only [t32_0, W, WW, ↓reduceIte, reduceCtorEq, Nat.reduceAdd, Int.reduceEq, Int.reduceNe, Int.reduceLT, Int.reduceLE, Int.reduceAdd, Int.reduceSub, Int.reduceMul, Int.reduceNeg, Nat.reduceMul, s00, eq_false hne, b1, b2, ix, hc, eq_true a3]
        · rw [if_neg (by
            rintro (z | z | ⟨_, z⟩)
            · exact hne z
            · exact a1 z
            · rw [hhd] at z; injection z with z; exact a3 z)]
          simp only [t32_0, W, WW, ↓reduceIte, reduceCtorEq, Nat.reduceAdd, Int.reduceEq, Int.reduceNe, Int.reduceLT, Int.reduceLE, Int.reduceAdd, Int.reduceSub, Int.reduceMul, Int.reduceNeg, Nat.reduceMul, s00, eq_false hne, b1, b2, ix, hc, eq_false a3]
          exact lp
      · have b2 : ¬ (1 : Int) < (s.length : Nat) := by omega
        rw [if_neg (by
          rintro (z | z | ⟨z, _⟩)
          · exact hne z
          · exact a1 z
          · exact a2 z)]
        simp only [t32_0, W, WW, ↓reduceIte, reduceCtorEq, Nat.reduceAdd, Int.reduceEq, Int.reduceNe, Int.reduceLT, Int.reduceLE, Int.reduceAdd, Int.reduceSub, Int.reduceMul, Int.reduceNeg, Nat.reduceMul, s00, eq_false hne, b1, b2]
        exact lp
def netL : Nat → Int → Int → Bs → Option Int
  | _, n, _, [] => some n
  | i, n, k, c :: l => if 3 ≤ i then some n else if (c.toNat : Int) - 33 < 0 ∨ 93 < (c.toNat : Int) - 33 then none else netL (i + 1) (n + (if 0 < i then (c.toNat : Int) - 33 + 1 else (c.toNat : Int) - 33) * k) (k * 94) l
def netR (code : Bs) (many : Nat) : Int := match netL 0 0 1 code with
  | none => -1
  | some n => if code = [] ∨ 3 < code.length ∨ (many : Int) ≤ n ∨ codeF n.toNat ≠ code then -1 else n
def Inv (i : Nat) (n k : Int) : Prop := (i = 0 ∧ n = 0 ∧ k = 1) ∨ (i = 1 ∧ 0 ≤ n ∧ n ≤ 93 ∧ k = 94) ∨ (i = 2 ∧ 0 ≤ n ∧ n ≤ 8929 ∧ k = 8836) ∨ (i = 3 ∧ 0 ≤ n ∧ n ≤ 839513 ∧ k = 830584)
theorem net_loop {h : H} (s : Bs) (hs : s.length ≤ 1048576) (many : Nat) (hm : many ≤ 4096) : ∀ (m i : Nat) (n k : Int), i + m = s.length → Inv i n k →
    J49 tab5 1 [sv s, .int .i64 (many : Nat), .int .i64 n, .int .i64 k, .int .i64 (i : Nat)] h = .ok (.int .i64 (match netL i n k (s.drop i) with | none => -1 | some n => if s = [] ∨ 3 < s.length ∨ (many : Int) ≤ n ∨ codeF n.toNat ≠ s then -1 else n)) h := by
  have s00 : IV.str ⟨0, 0⟩ = sv [] := rfl
  have fin : ∀ (i : Nat) (n k : Int), Inv i n k → (¬ i < s.length ∨ ¬ i < 3) → J49 tab5 1 [sv s, .int .i64 (many : Nat), .int .i64 n, .int .i64 k, .int .i64 (i : Nat)] h = .ok (.int .i64 (if s = [] ∨ 3 < s.length ∨ (many : Int) ≤ n ∨ codeF n.toNat ≠ s then -1 else n)) h := by
    intro i n k inv hi
    have hn : 0 ≤ n := by rcases inv with ⟨_, h, _⟩ | ⟨_, h, _⟩ | ⟨_, h, _⟩ | ⟨_, h, _⟩ <;> omega
    have key : ∀ {r : CRes}, (∀ z : Bool, z = false → condK (.bool z) (obind (ixStr (sv s) (.int .i64 (i : Nat))) fun _ => .fail) r = r) := fun {r} z hz => by subst hz; rfl
    refine e49_1 ?_ (by split <;> simp)
    have tail : ∀ (g : CRes), g = (
         obind (binS .eql (sv s) (.str ⟨0, 0⟩)) fun x19 =>
         spanK x19 false h (fun k20 =>
         obind (lenStr (sv s)) fun x23 =>
         obind (binN .gtr x23 (.int .i64 3)) fun x24 =>
         k20 x24 h) fun x21 h22 =>
         obind (pickI x19 (some (.bool true)) (some x21)) fun x25 =>
         spanK x25 false h22 (fun k26 =>
         obind (binN .geq (.int .i64 n) (.int .i64 (many : Nat))) fun x29 =>
         k26 x29 h22) fun x27 h28 =>
         obind (pickI x25 (some (.bool true)) (some x27)) fun x30 =>
         spanK x30 false h28 (fun k31 =>
         callP (CL tab5 44 [.int .i64 n] h28) .pan fun x34 h35 =>
         obind (binS .neq x34 (sv s)) fun x36 =>
         k31 x36 h35) fun x32 h33 =>
         obind (pickI x30 (some (.bool true)) (some x32)) fun x37 =>
         condK x37
         (.ok (.int .i64 (-1)) h33)
         (.ok (.int .i64 n) h33)) → g = .ok (.int .i64 (if s = [] ∨ 3 < s.length ∨ (many : Int) ≤ n ∨ codeF n.toNat ≠ s then -1 else n)) h := by
      rintro g rfl
      by_cases a1 : s = []
      · rw [if_pos (.inl a1)]
        simp only [W, WW, ↓reduceIte, reduceCtorEq, Nat.reduceAdd, Int.reduceEq, Int.reduceNe, Int.reduceLT, Int.reduceLE, Int.reduceAdd, Int.reduceSub, Int.reduceMul, Int.reduceNeg, Nat.reduceMul, s00, eq_true a1]
      · by_cases a2 : 3 < s.length
        · have b2 : (3 : Int) < (s.length : Nat) := by omega
          rw [if_pos (.inr (.inl a2))]
          simp only [W, WW, ↓reduceIte, reduceCtorEq, Nat.reduceAdd, Int.reduceEq, Int.reduceNe, Int.reduceLT, Int.reduceLE, Int.reduceAdd, Int.reduceSub, Int.reduceMul, Int.reduceNeg, Nat.reduceMul, s00, eq_false a1, b2]
        · have b2 : ¬ (3 : Int) < (s.length : Nat) := by omega
          by_cases a3 : (many : Int) ≤ n
          · rw [if_pos (.inr (.inr (.inl a3)))]
            simp only [W, WW, ↓reduceIte, reduceCtorEq, Nat.reduceAdd, Int.reduceEq, Int.reduceNe, Int.reduceLT, Int.reduceLE, Int.reduceAdd, Int.reduceSub, Int.reduceMul, Int.reduceNeg, Nat.reduceMul, s00, eq_false a1, b2, a3]
          · obtain ⟨u, rfl⟩ := Int.eq_ofNat_of_zero_le hn
            have ec := rcode5 (h := h) u (by omega)
            rw [Int.toNat_natCast]
            by_cases a4 : codeF u = s
            · rw [if_neg (by
                rintro (z | z | z | z)
                · exact a1 z
                · exact a2 z
                · exact a3 z
                · exact z a4)]
              simp only [W, WW, ↓reduceIte, reduceCtorEq, Nat.reduceAdd, Int.reduceEq, Int.reduceNe, Int.reduceLT, Int.reduceLE, Int.reduceAdd, Int.reduceSub, Int.reduceMul, Int.reduceNeg, Nat.reduceMul, s00, eq_false a1, b2, a3, ec, eq_true a4]
            · rw [if_pos (.inr (.inr (.inr a4)))]
              simp only [W, WW, ↓reduceIte, reduceCtorEq, Nat.reduceAdd, Int.reduceEq, Int.reduceNe, Int.reduceLT, Int.reduceLE, Int.reduceAdd, Int.reduceSub, Int.reduceMul, Int.reduceNeg, Nat.reduceMul, s00, eq_false a1, b2, a3, ec, eq_false a4]
    by_cases h1 : i < s.length
    · have hlt : ((i : Nat) : Int) < (s.length : Nat) := by omega
      have h3 : ¬ ((i : Nat) : Int) < 3 := by omega
      refine tail _ ?_
      simp only [t49_1, W, WW, ↓reduceIte, reduceCtorEq, Nat.reduceAdd, Int.reduceEq, Int.reduceNe, Int.reduceLT, Int.reduceLE, Int.reduceAdd, Int.reduceSub, Int.reduceMul, Int.reduceNeg, Nat.reduceMul, hlt, h3]
    · have hlt : ¬ ((i : Nat) : Int) < (s.length : Nat) := by omega
      refine tail _ ?_
      simp only [t49_1, W, WW, ↓reduceIte, reduceCtorEq, Nat.reduceAdd, Int.reduceEq, Int.reduceNe, Int.reduceLT, Int.reduceLE, Int.reduceAdd, Int.reduceSub, Int.reduceMul, Int.reduceNeg, Nat.reduceMul, hlt]
  intro m
  induction m with
  | zero =>
    intro i n k hi inv
    rw [List.drop_of_length_le (by omega)]
    exact fin i n k inv (.inl (by omega))
  | succ m ih =>
    intro i n k hi inv
    have hil : i < s.length := by omega
    have hlt : ((i : Nat) : Int) < (s.length : Nat) := by omega
    have ix := ix_at s hil
    rw [List.drop_eq_getElem_cons hil]
    generalize s[i] = c at ix
    have hcl := c.toNat_lt
    unfold netL
    by_cases h3 : 3 ≤ i
    · rw [if_pos h3]
      exact fin i n k inv (.inr (by omega))
    · rw [if_neg h3]
      have h3' : ((i : Nat) : Int) < 3 := by omega
      have w1 : wr .i64 ((c.toNat : Nat) : Int) = (c.toNat : Nat) := wr_i64 (by omega) (by omega)
      have w2 : wr .i64 (((c.toNat : Nat) : Int) - 33) = ((c.toNat : Nat) : Int) - 33 := wr_i64 (by omega) (by omega)
      by_cases a1 : ((c.toNat : Nat) : Int) - 33 < 0
      · rw [if_pos (.inl a1)]
        refine e49_1 ?_ (by simp)
        simp only [t49_1, W, WW, ↓reduceIte, reduceCtorEq, Nat.reduceAdd, Int.reduceEq, Int.reduceNe, Int.reduceLT, Int.reduceLE, Int.reduceAdd, Int.reduceSub, Int.reduceMul, Int.reduceNeg, Nat.reduceMul, hlt, h3', ix, w1, w2, a1]
      · by_cases a2 : 93 < ((c.toNat : Nat) : Int) - 33
        · rw [if_pos (.inr a2)]
          refine e49_1 ?_ (by simp)
          simp only [t49_1, W, WW, ↓reduceIte, reduceCtorEq, Nat.reduceAdd, Int.reduceEq, Int.reduceNe, Int.reduceLT, Int.reduceLE, Int.reduceAdd, Int.reduceSub, Int.reduceMul, Int.reduceNeg, Nat.reduceMul, hlt, h3', ix, w1, w2, a1, a2]
        · rw [if_neg (by omega)]
          generalize hd : (if 0 < i then ((c.toNat : Nat) : Int) - 33 + 1 else ((c.toNat : Nat) : Int) - 33) = d
          have bounds : Inv (i + 1) (n + d * k) (k * 94) ∧ 0 ≤ d * k ∧ d * k ≤ 1000000 ∧ 0 ≤ n ∧ n ≤ 1000000 ∧ 0 ≤ k * 94 ∧ k * 94 ≤ 1000000 := by
            rcases inv with ⟨rfl, rfl, rfl⟩ | ⟨rfl, q1, q2, rfl⟩ | ⟨rfl, q1, q2, rfl⟩ | ⟨rfl, q1, q2, rfl⟩
            · rw [if_neg (by omega)] at hd
              refine ⟨.inr (.inl ⟨rfl, ?_, ?_, ?_⟩), ?_, ?_, ?_, ?_, ?_, ?_⟩ <;> omega
            · rw [if_pos (by omega)] at hd
              refine ⟨.inr (.inr (.inl ⟨rfl, ?_, ?_, ?_⟩)), ?_, ?_, ?_, ?_, ?_, ?_⟩ <;> omega
            · rw [if_pos (by omega)] at hd
              refine ⟨.inr (.inr (.inr ⟨rfl, ?_, ?_, ?_⟩)), ?_, ?_, ?_, ?_, ?_, ?_⟩ <;> omega
            · omega
          obtain ⟨inv', p1, p2, p3, p4, p5, p6⟩ := bounds
          have nx := ih (i + 1) (n + d * k) (k * 94) (by omega) inv'
          have w3 : wr .i64 (d * k) = d * k := wr_i64 (by omega) (by omega)
          have w4 : wr .i64 (n + d * k) = n + d * k := wr_i64 (by omega) (by omega)
          have w5 : wr .i64 (k * 94) = k * 94 := wr_i64 (by omega) (by omega)
          have two : J49 tab5 2 [sv s, .int .i64 (many : Nat), .int .i64 n, .int .i64 k, .int .i64 (i : Nat), .int .i64 d] h = J49 tab5 1 [sv s, .int .i64 (many : Nat), .int .i64 (n + d * k), .int .i64 (k * 94), .int .i64 ((i + 1 : Nat) : Int)] h := by
            rw [nx]
            refine e49_2 ?_ (by simp)
            simp only [t49_2, W, WW, ↓reduceIte, reduceCtorEq, Nat.reduceAdd, Int.reduceEq, Int.reduceNe, Int.reduceLT, Int.reduceLE, Int.reduceAdd, Int.reduceSub, Int.reduceMul, Int.reduceNeg, Nat.reduceMul, w3, w4, w5, wr_succ (show i < 9223372036854775807 by omega)]
            exact nx
          rw [← nx, ← two]
          have hfl : J49 tab5 2 [sv s, .int .i64 (many : Nat), .int .i64 n, .int .i64 k, .int .i64 (i : Nat), .int .i64 d] h ≠ .fail := by rw [two, nx]; simp
          by_cases h0 : 0 < i
          · have h0' : (0 : Int) < (i : Nat) := by omega
            rw [if_pos h0] at hd
            have w6 : wr .i64 (((c.toNat : Nat) : Int) - 33 + 1) = d := by rw [wr_i64 (by omega) (by omega)]; exact hd
            refine e49_1 ?_ hfl
            simp only [t49_1, W, WW, ↓reduceIte, reduceCtorEq, Nat.reduceAdd, Int.reduceEq, Int.reduceNe, Int.reduceLT, Int.reduceLE, Int.reduceAdd, Int.reduceSub, Int.reduceMul, Int.reduceNeg, Nat.reduceMul, hlt, h3', ix, w1, w2, a1, a2, h0', w6]
          · have h0' : ¬ (0 : Int) < (i : Nat) := by omega
            rw [if_neg h0] at hd
            subst hd
            refine e49_1 ?_ hfl
            simp only [t49_1, W, WW, ↓reduceIte, reduceCtorEq, Nat.reduceAdd, Int.reduceEq, Int.reduceNe, Int.reduceLT, Int.reduceLE, Int.reduceAdd, Int.reduceSub, Int.reduceMul, Int.reduceNeg, Nat.reduceMul, hlt, h3', ix, w1, w2, a1, a2, h0']
theorem net5 {h : H} (g : Gd h) (s : Bs) (hs : s.length ≤ 1048576) (many : Nat) (hm : many ≤ 4096) : CL tab5 49 [sv s, .int .i64 (many : Nat)] h = .ok (.int .i64 (netR s many)) h := by
  have lp := net_loop (h := h) s hs many hm s.length 0 0 1 (by omega) (.inl ⟨rfl, rfl, rfl⟩)
  rw [List.drop_zero] at lp
  refine c49 good5.step rfl rfl g ?_ (by simp)
  simp only [t49_0]
  exact lp
def partR (ps : List Bs) (many : Nat) : Int × Bs := match ps with
  | [v, c] => (netR c many, v)
  | _ => (-1, [])
def changeR (s : Bs) (many : Nat) : Int × Bs := match s with
  | [] => (-1, [])
  | x :: t => if x = 98 then partR (splitL 32 t) many else (netR t many, [x])
theorem change5 {h : H} (g : Gd h) (s : Bs) (hs : s.length ≤ 1048576) (many : Nat) (hm : many ≤ 4096) : ∃ h', CL tab5 33 [sv s, .int .i64 (many : Nat)] h = .ok (.tup [.int .i64 (changeR s many).1, sv (changeR s many).2]) h' ∧ Ky h h' := by
  have s00 : IV.str ⟨0, 0⟩ = sv [] := rfl
  cases s with
  | nil =>
    refine ⟨h, c33 good5.step rfl rfl g ?_ (by simp), .refl g⟩
    simp only [t33_0, W, WW, ↓reduceIte, reduceCtorEq, Nat.reduceAdd, Int.reduceEq, Int.reduceNe, Int.reduceLT, Int.reduceLE, Int.reduceAdd, Int.reduceSub, Int.reduceMul, Int.reduceNeg, Nat.reduceMul, s00, changeR]
  | cons c t =>
    have a1 : slcStr (sv (c :: t)) none (some (.int .i64 1)) = some (sv [c]) := slcStr_to (c :: t) 1 (by omega) (by simp only [List.length_cons]; omega)
    have a2 : slcStr (sv (c :: t)) (some (.int .i64 1)) none = some (sv t) := slcStr_from (c :: t) 1 (by omega) (by simp only [List.length_cons]; omega)
    have a3 : ixStr (sv (c :: t)) (.int .i64 0) = some (.int .u8 ((c.toNat : Nat) : Int)) := ixStr_sv (c :: t) 0 (by omega) (by simp)
    have hc : (((c.toNat : Nat) : Int) = 98) = (c = 98) := u8_eqv c 98
    rw [List.length_cons] at hs
    rw [show changeR (c :: t) many = if c = 98 then partR (splitL 32 t) many else (netR t many, [c]) from rfl]
    by_cases h98 : c = 98
    · rw [if_pos h98]
      obtain ⟨v, h13, ep, kp, lr⟩ := parts5 g t (by omega)
      have ln := lr.len
      generalize hsp : splitL 32 t = ps at lr ln
      have bad : (¬ ∃ p q, ps = [p, q]) → ∃ h', CL tab5 33 [sv (c :: t), .int .i64 (many : Nat)] h = .ok (.tup [.int .i64 (-1), sv []]) h' ∧ Ky h h' := by
        intro hno
        have hl : ¬ ((ps.length : Nat) : Int) = 2 := by
          intro hl
          match ps, hl, hno with
          | [p, q], _, hno => exact hno ⟨p, q, rfl⟩
          | [], hl, _ => simp at hl
          | [_], hl, _ => simp at hl
          | _ :: _ :: _ :: _, hl, _ => simp only [List.length_cons] at hl; omega
        refine ⟨h13, c33 good5.step rfl rfl g ?_ (by simp), kp⟩
        simp only [t33_0, W, WW, ↓reduceIte, reduceCtorEq, Nat.reduceAdd, Int.reduceEq, Int.reduceNe, Int.reduceLT, Int.reduceLE, Int.reduceAdd, Int.reduceSub, Int.reduceMul, Int.reduceNeg, Nat.reduceMul, s00, List.cons_ne_nil, a3, hc, eq_true h98, a2, ep, ln, eq_false hl]
      match ps, lr, ln, hsp, bad with
      | [p, q], lr, ln, hsp, bad =>
        obtain ⟨p0, x0, y0⟩ := LR.str lr (i := 0) rfl
        obtain ⟨p1, x1, y1⟩ := LR.str lr (i := 1) rfl
        have hql : q.length ≤ 1048576 := by
          have := splitL_mem 32 t q (by rw [hsp]; simp)
          omega
        have en := net5 kp.gd q hql many hm
        simp only [Int.cast_ofNat_Int] at x0 x1
        have x0' : ixS 1 v (.int .i64 0) = some p0 := x0
        have x1' : ixS 1 v (.int .i64 1) = some p1 := x1
        have hl : ((([p, q] : List Bs).length : Nat) : Int) = 2 := rfl
        rw [show partR [p, q] many = (netR q many, p) from rfl]
        refine ⟨h13, c33 good5.step rfl rfl g ?_ (by simp), kp⟩
        simp only [t33_0, W, WW, ↓reduceIte, reduceCtorEq, Nat.reduceAdd, Int.reduceEq, Int.reduceNe, Int.reduceLT, Int.reduceLE, Int.reduceAdd, Int.reduceSub, Int.reduceMul, Int.reduceNeg, Nat.reduceMul, s00, List.cons_ne_nil, a3, hc, eq_true h98, a2, ep, ln, hl, x1', y1, en, x0', y0]
      | [], lr, ln, hsp, bad => exact bad (by rintro ⟨p, q, e⟩; cases e)
      | [_], lr, ln, hsp, bad => exact bad (by rintro ⟨p, q, e⟩; cases e)
      | _ :: _ :: _ :: _, lr, ln, hsp, bad => exact bad (by rintro ⟨p, q, e⟩; cases e)
    · rw [if_neg h98]
      have en := net5 g t (by omega) many hm
      refine ⟨h, c33 good5.step rfl rfl g ?_ (by simp), .refl g⟩
      simp only [t33_0, W, WW, ↓reduceIte, reduceCtorEq, Nat.reduceAdd, Int.reduceEq, Int.reduceNe, Int.reduceLT, Int.reduceLE, Int.reduceAdd, Int.reduceSub, Int.reduceMul, Int.reduceNeg, Nat.reduceMul, s00, List.cons_ne_nil, a3, hc, eq_false h98, a2, en, a1]
structure RE (h₀ h : H) (b : Nat) (C : Nat → List IV) (vs : Nat → IV) : Prop where
  wf : WF h₀
  ky : Ky h₀ h
  hb : h₀.next ≤ b
  cs : Cs h b true false [vs 0, vs 1, vs 2, vs 3]
  gl : ∀ i, i < 4 → GLk h₀ h (esI i) (C i) (vs i)
  ap : ∀ i j, i < 4 → j < 4 → i ≠ j → ∀ c, blk (vs i) = some c → blk (vs j) ≠ some c
variable {hS h₀ h : H} {b b1 : Nat} {C : Nat → List IV} {vs : Nat → IV}
theorem RE.gd (x : RE h₀ h b C vs) : Gd h := x.ky.gd
theorem RE.go (x : RE h₀ h b C vs) {h' : H} (y : Ky h h') : RE h₀ h' b C vs :=
  ⟨x.wf, x.ky.trans y, x.hb, x.cs.ky x.gd.wf y, fun i hi => (x.gl i hi).ky x.gd.wf y, x.ap⟩
theorem RE.lv (x : RE h₀ h b C vs) (i : Nat) (hi : i < 4) : I.ld0 h (.ptr b i) = some (vs i) := by
  rw [x.cs.ld0]
  match i, hi with
  | 0, _ => rfl
  | 1, _ => rfl
  | 2, _ => rfl
  | 3, _ => rfl
theorem appK_ext {h h' : H} (g : Gd h) {es bytes : Nat} {cs new : List IV} {s y s' : IV} {n : Nat} (gl : GL h es cs s) (hs : sourceI h es y = some (new, n)) (hl : new.length = n * es) (hsc : allScalar new = true) (hn : n ≠ 0)
    (hroom : (2 * (cs.length + n) + 2000) * bytes ≤ 2 ^ 46) (hes : es ≠ 0) (e : appK es bytes h s y = some (s', h')) : Ext h h' := by
  obtain ⟨s2, h2, e2, ex, -⟩ := appK_grow g gl hs hl hsc hn hroom hes
  rw [e] at e2
  injection e2 with e2
  injection e2 with e2 e3
  subst e3
  exact ex.ext
theorem RE.app (x : RE h₀ h b C vs) (i : Nat) (hi : i < 4) {bytes : Nat} {new : List IV} {y : IV} (hs : sourceI h (esI i) y = some (new, 1)) (hl : new.length = esI i) (hsc : allScalar new = true) (hby : bytes ≤ 32) (hroom : (C i).length ≤ 100000000000) :
    ∃ s' h1 o, appK (esI i) bytes h (vs i) y = some (s', h1) ∧ stA 1 h1 (.ptr b i) s' = some (h1.put b o) ∧ RE h₀ (h1.put b o) b (upd C i (C i ++ new)) (upd vs i s') ∧ ∀ (l : List Bs) (v : IV), LR h 1 RS l v → LR (h1.put b o) 1 RS l v := by
  have hes : esI i ≠ 0 := by unfold esI; split <;> decide
  obtain ⟨s', h1, e1, k1, g1, b1, n1, keep⟩ := app_keep x.ky (bytes := bytes) (x.gl i hi) hs (by omega) hsc (by decide) (by
    have : (2 * ((C i).length + 1) + 2000) * bytes ≤ (2 * (100000000000 + 1) + 2000) * 32 := Nat.mul_le_mul (by omega) hby
    omega) hes
  have cs1 : Cs h1 b true false [vs 0, vs 1, vs 2, vs 3] := appK_keep x.gd.wf (x.gl i hi).gl e1 x.cs
  have sc := g1.scalar
  have scc : s'.cells = [s'] := by cases s' <;> first | rfl | (simp [IV.scalar] at sc)
  obtain ⟨o, e2, k2, d2⟩ := k1.st cs1 x.hb (n := 1) (off := i) (v := s') (by rw [scc]; rfl) (by rw [scc]; simp [allScalar, sc]) (by show i + 1 ≤ 4; omega)
  have hp : placeL [vs 0, vs 1, vs 2, vs 3] i s'.cells = [upd vs i s' 0, upd vs i s' 1, upd vs i s' 2, upd vs i s' 3] := by
    rw [scc]
    match i, hi with
    | 0, _ => rfl
    | 1, _ => rfl
    | 2, _ => rfl
    | 3, _ => rfl
  rw [hp] at d2
  have ext := appK_ext x.gd (bytes := bytes) (x.gl i hi).gl hs (by omega) hsc (by decide) (by
    have : (2 * ((C i).length + 1) + 2000) * bytes ≤ (2 * (100000000000 + 1) + 2000) * 32 := Nat.mul_le_mul (by omega) hby
    omega) hes e1
  refine ⟨s', h1, o, e1, e2, ⟨x.wf, k2, x.hb, d2, fun j hj => ?_, fun j l hj hl4 hne c => ?_⟩, fun l v r => (r.mono ext fun _ _ z => z).of_put cs1⟩
  · unfold upd
    by_cases hji : j = i
    · subst hji
      rw [if_pos rfl, if_pos rfl]
      exact g1.of_put cs1
    · rw [if_neg hji, if_neg hji]
      refine I.GLk.of_put ((x.gl j hj).same fun c hc => keep c ((x.gl j hj).lt x.gd.wf hc) (x.ap j i hj hi hji c hc)) cs1
  · unfold upd
    by_cases hji : j = i
    · subst hji
      rw [if_pos rfl, if_neg (Ne.symm hne), b1]
      intro hc hl'
      injection hc with hc
      have := (x.gl l hl4).lt x.gd.wf hl'
      omega
    · rw [if_neg hji]
      by_cases hli : l = i
      · subst hli
        rw [if_pos rfl, b1]
        intro hc hl'
        injection hl' with hl'
        have := (x.gl j hj).lt x.gd.wf hc
        omega
      · rw [if_neg hli]
        exact x.ap j l hj hl4 hne c
theorem RE.lr0 (x : RE h₀ h b C vs) {w : Wv} (c : WC C w) : LR h 1 RS w.names (vs 0) := (x.gl 0 (by omega)).gl.LR (by decide) (by rw [c.p0]; exact ch_txt _)
theorem RE.lr1 (x : RE h₀ h b C vs) {w : Wv} (c : WC C w) : LR h 1 RI w.wides (vs 1) := (x.gl 1 (by omega)).gl.LR (by decide) (by rw [c.p1]; exact ch_int _)
theorem RE.lr2 (x : RE h₀ h b C vs) {w : Wv} (c : WC C w) : LR h 1 RS w.first (vs 2) := (x.gl 2 (by omega)).gl.LR (by decide) (by rw [c.p2]; exact ch_txt _)
theorem RE.lr3 (x : RE h₀ h b C vs) {w : Wv} (c : WC C w) : LR h 3 RC w.list (vs 3) := (x.gl 3 (by omega)).gl.LR (by decide) (by rw [c.p3]; exact flC_ch _)
theorem RE.wr (x : RE h₀ h b C vs) {w : Wv} (c : WC C w) : WR h (vs 0) (vs 1) (vs 2) (vs 3) w := ⟨x.lr0 c, .inl (x.lr1 c), x.lr2 c, x.lr3 c⟩
def rvars : List Bs → List Bs → List Int → Option (List Bs × List Bs × List Int)
  | [], nm, wd => some ([], nm, wd)
  | l :: ls, nm, wd => if l = upW then some (l :: ls, nm, wd) else match splitL 32 l with
    | [_, _, w, _, n, _] => if 4096 ≤ nm.length then none else rvars ls (nm ++ [if n = [95] then [] else n]) (wd ++ [numR w])
    | _ => none
def rfirst (many : Nat) : Nat → List Bs → List Bs → List Bs × List Bs
  | 0, ls, fs => (fs, ls)
  | _ + 1, [], fs => (fs, [])
  | n + 1, l :: ls, fs => rfirst many n ls (fs ++ [(changeR l many).2])
def rchg (many : Nat) : Int → List Bs → List Chg → Option (List Chg)
  | _, [], cs => some cs
  | _, [_], cs => some cs
  | t, l :: l2 :: ls, cs => if l.head? = some 35 then rchg many (numR l.tail) (l2 :: ls) cs else if (changeR l many).1 < 0 then none else rchg many t (l2 :: ls) (cs ++ [⟨t, (changeR l many).1, (changeR l many).2⟩])
def readR (s0 : Bs) : Option Wv := match rvars ((splitL 10 s0).drop 2) [] [] with
  | none => none
  | some (ls, nm, wd) => (rchg nm.length (-1) ((rfirst nm.length nm.length (ls.drop 3) []).2.drop 1) []).map fun c => ⟨nm, wd, (rfirst nm.length nm.length (ls.drop 3) []).1, c⟩
structure RG (hS h₀ : H) (b1 : Nat) (L : List Bs) (lv : IV) : Prop where
  ky : Ky hS h₀
  n1 : hS.next ≤ b1
  q1 : Cs h₀ b1 true false z0
  ln : LR h₀ 1 RS L lv
  hL : L.length ≤ 1048577
  hlen : ∀ l ∈ L, l.length ≤ 1048576
variable {L : List Bs} {lv : IV}
theorem RG.at_ (f : RG hS h₀ b1 L lv) (k : Ky h₀ h) {i : Nat} {l : Bs} (hl : L[i]? = some l) : ∃ p, ixS 1 lv (.int .i64 (i : Nat)) = some p ∧ I.ld0 h p = some (sv l) := LR.str (LR.ky f.ln f.ky.gd.wf k) hl
theorem RG.bad (f : RG hS h₀ b1 L lv) (k : Ky h₀ h) : ∃ o, stA 4 h (.ptr b1 0) (.agg z0) = some (h.put b1 o) ∧ Ky hS (h.put b1 o) ∧ I.ldA 4 (h.put b1 o) (.ptr b1 0) = some (.agg z0) := by
  have a1 := f.q1.ky f.ky.gd.wf k
  obtain ⟨o, w8, k8, d8⟩ := (f.ky.trans k).st a1 f.n1 (n := 4) (off := 0) (v := .agg z0) rfl rfl (by show 0 + 4 ≤ 4; omega)
  exact ⟨o, w8, k8, d8.ldAll rfl⟩
structure Sm (w : Wv) : Prop where
  names : ∀ s ∈ w.names, s.length ≤ 1048576
  first : ∀ s ∈ w.first, s.length ≤ 1048576
  vals : ∀ c ∈ w.list, c.val.length ≤ 1048576
theorem Sm.ws {w : Wv} (x : Sm w) : WS w := ⟨fun s h => Nat.le_trans (x.names s h) (by omega), fun s h => Nat.le_trans (x.first s h) (by omega), fun s h => Nat.le_trans (x.vals s h) (by omega)⟩
theorem changeR_len (l : Bs) (many : Nat) (hl : l.length ≤ 1048576) : (changeR l many).2.length ≤ 1048576 := by
  cases l with
  | nil => simp [changeR]
  | cons c t =>
    rw [List.length_cons] at hl
    rw [show changeR (c :: t) many = if c = 98 then partR (splitL 32 t) many else (netR t many, [c]) from rfl]
    split
    · unfold partR
      split
      · rename_i v c' e
        have := splitL_mem 32 t v (by rw [e]; simp)
        show v.length ≤ _
        omega
      · simp
    · simp
theorem all_snoc {α : Type} {p : α → Prop} {l : List α} {a : α} (h : ∀ x ∈ l, p x) (ha : p a) : ∀ x ∈ l ++ [a], p x := fun x hx => by
  rcases List.mem_append.1 hx with hx | hx
  · exact h x hx
  · simp only [List.mem_singleton] at hx; subst hx; exact ha
theorem rend (f : RG hS h₀ b1 L lv) (x : RE h₀ h b C vs) {w : Wv} (c : WC C w) (sm : Sm w) (hw : w.list.length ≤ 2097152) (s0 : Bs) (tm : Int) {k : Nat} (hk : L.length ≤ k + 1) (hkm : k ≤ 4194304) :
    ROut hS s0 (some w) (J10 tab5 4 [sv s0, .ptr b1 0, lv, .ptr b 0, .int .i64 (k : Nat), .int .i64 tm] h) := by
  have ll := f.ln.len
  have hL := f.hL
  have w1 : wr .i64 (((L.length : Nat) : Int) - 1) = ((L.length : Nat) : Int) - 1 := wr_i64 (by omega) (by omega)
  have hlt : ¬ ((k : Nat) : Int) < ((L.length : Nat) : Int) - 1 := by omega
  have lA : I.ldA 4 h (.ptr b 0) = some (.agg [vs 0, vs 1, vs 2, vs 3]) := x.cs.ldAll rfl
  obtain ⟨h1, ew, k1⟩ := rwrite x.gd (x.wr c) sm.ws hw
  have x1 := x.go k1
  have lB : I.ldA 4 h1 (.ptr b 0) = some (.agg [vs 0, vs 1, vs 2, vs 3]) := x1.cs.ldAll rfl
  simp only [resI] at ew
  show (if writeF w = (s0, 0) then GoodR hS w _ else BadR hS _)
  split
  · rename_i hg
    have h0 : (writeF w).2 = 0 := congrArg Prod.snd hg
    have ht : (writeF w).1 = s0 := congrArg Prod.fst hg
    have a1 := f.q1.ky f.ky.gd.wf x1.ky
    have wr1 := x1.wr c
    obtain ⟨o1, w7, k7, d7⟩ := (f.ky.trans x1.ky).st a1 f.n1 (n := 4) (off := 0) (v := .agg [vs 0, vs 1, vs 2, vs 3]) rfl wr1.scalar (by show 0 + 4 ≤ 4; omega)
    have q0 := (x1.lr0 c).of_put (o := o1) a1
    have q1 := (x1.lr1 c).of_put (o := o1) a1
    have q2 := (x1.lr2 c).of_put (o := o1) a1
    have q3 := (x1.lr3 c).of_put (o := o1) a1
    refine ⟨vs 0, vs 1, vs 2, vs 3, _, e10_4 ?_ (by simp), k7, ⟨q0, .inl q1, q2, q3⟩⟩
    have r1 : I.ldA 4 (h1.put b1 o1) (.ptr b1 0) = some (.agg [vs 0, vs 1, vs 2, vs 3]) := d7.ldAll rfl
    simp only [t10_4, W, WW, ↓reduceIte, reduceCtorEq, Nat.reduceAdd, Int.reduceEq, Int.reduceNe, Int.reduceLT, Int.reduceLE, Int.reduceAdd, Int.reduceSub, Int.reduceMul, Int.reduceNeg, Nat.reduceMul, ll, Int.ofNat_eq_natCast, w1, hlt, lA, ew, eq_true h0, eq_true ht, lB, w7, r1]
  · rename_i hno
    obtain ⟨o, w8, k8, r1⟩ := f.bad x1.ky
    refine ⟨_, e10_4 ?_ (by simp), k8⟩
    have b0 : bldK z0 p1 [] = some (.agg z0) := rfl
    by_cases h0 : (writeF w).2 = 0
    · have ht : ¬ (writeF w).1 = s0 := fun e => hno (Prod.ext e h0)
      simp only [t10_4, W, WW, ↓reduceIte, reduceCtorEq, Nat.reduceAdd, Int.reduceEq, Int.reduceNe, Int.reduceLT, Int.reduceLE, Int.reduceAdd, Int.reduceSub, Int.reduceMul, Int.reduceNeg, Nat.reduceMul, ll, Int.ofNat_eq_natCast, w1, hlt, lA, ew, eq_true h0, eq_false ht, b0, w8, r1]
    · simp only [t10_4, W, WW, ↓reduceIte, reduceCtorEq, Nat.reduceAdd, Int.reduceEq, Int.reduceNe, Int.reduceLT, Int.reduceLE, Int.reduceAdd, Int.reduceSub, Int.reduceMul, Int.reduceNeg, Nat.reduceMul, ll, Int.ofNat_eq_natCast, w1, hlt, lA, ew, eq_false h0, b0, w8, r1]
theorem rchg_go (f : RG hS h₀ b1 L lv) (s0 : Bs) {many : Nat} (hm : many ≤ 4096) : ∀ (ls : List Bs) {k : Nat} {h : H} {C : Nat → List IV} {vs : Nat → IV} (w : Wv) (tm : Int), RE h₀ h b C vs → WC C w → Sm w → w.names.length = many → w.list.length ≤ k → k ≤ 2097152 → L.drop k = ls →
    ROut hS s0 ((rchg many tm ls w.list).map fun c => { w with list := c }) (J10 tab5 4 [sv s0, .ptr b1 0, lv, .ptr b 0, .int .i64 (k : Nat), .int .i64 tm] h) := by
  intro ls
  have hL := f.hL
  have ll := f.ln.len
  induction ls with
  | nil =>
    intro k h C vs w tm x c sm hn hw hkm hd
    have hk : L.length ≤ k := List.drop_eq_nil_iff.1 hd
    exact rend f x c sm (by omega) s0 tm (by omega) (by omega)
  | cons l ls ih =>
    intro k h C vs w tm x c sm hn hw hkm hd
    obtain ⟨hs, hd2⟩ := drop_some hd
    have hkL : k < L.length := (List.getElem?_eq_some_iff.1 hs).1
    cases ls with
    | nil =>
      have hk : L.length ≤ k + 1 := List.drop_eq_nil_iff.1 hd2
      exact rend f x c sm (by omega) s0 tm (by omega) (by omega)
    | cons l2 ls =>
      obtain ⟨hs2, _⟩ := drop_some hd2
      have hk2 : k + 1 < L.length := (List.getElem?_eq_some_iff.1 hs2).1
      have w1 : wr .i64 (((L.length : Nat) : Int) - 1) = ((L.length : Nat) : Int) - 1 := wr_i64 (by omega) (by omega)
      have hlt : ((k : Nat) : Int) < ((L.length : Nat) : Int) - 1 := by omega
      obtain ⟨p, i1, q1⟩ := f.at_ x.ky hs
      have hll := f.hlen _ (List.mem_of_getElem? hs)
      have wk := wr_succ (show k < 9223372036854775807 by omega)
      have next : ∀ {h' : H} {C' : Nat → List IV} {vs' : Nat → IV} (w' : Wv) (tm' : Int), RE h₀ h' b C' vs' → WC C' w' → Sm w' → w'.names.length = many → w'.list.length ≤ k + 1 →
          ROut hS s0 ((rchg many tm' (l2 :: ls) w'.list).map fun c => { w' with list := c }) (J10 tab5 5 [sv s0, .ptr b1 0, lv, .ptr b 0, .int .i64 (k : Nat), .int .i64 tm'] h') := by
        intro h' C' vs' w' tm' x' c' sm' hn' hw'
        have := ih (k := k + 1) w' tm' x' c' sm' hn' hw' (by omega) hd2
        rw [e10_5 (r := J10 tab5 4 [sv s0, .ptr b1 0, lv, .ptr b 0, .int .i64 ((k + 1 : Nat) : Int), .int .i64 tm'] h') (by simp only [t10_5, W, WW, ↓reduceIte, reduceCtorEq, Nat.reduceAdd, Int.reduceEq, Int.reduceNe, Int.reduceLT, Int.reduceLE, Int.reduceAdd, Int.reduceSub, Int.reduceMul, Int.reduceNeg, Nat.reduceMul, wk]) this.ne]
        exact this
      have s00 : IV.str ⟨0, 0⟩ = sv [] := rfl
      have n0 := (x.lr0 c).len
      rw [hn] at n0
      have v0 := x.lv 0 (by omega)
      obtain ⟨h1, ec, k1⟩ := change5 x.gd l hll many hm
      have chl := changeR_len l many hll
      have other : (l = [] ∨ l.head? ≠ some 35) → ∀ (pre : CRes), pre = J10 tab5 4 [sv s0, .ptr b1 0, lv, .ptr b 0, .int .i64 (k : Nat), .int .i64 tm] h →
          ROut hS s0 ((if (changeR l many).1 < 0 then none else rchg many tm (l2 :: ls) (w.list ++ [⟨tm, (changeR l many).1, (changeR l many).2⟩])).map fun c => { w with list := c }) pre := by
        rintro hl35 pre rfl
        have b0 : bldK z0 p1 [] = some (.agg z0) := rfl
        have key : ∀ r, r ≠ .fail → (
           obind (extractI (.tup [.int .i64 (changeR l many).1, sv (changeR l many).2]) 0) fun x129 =>
           obind (extractI (.tup [.int .i64 (changeR l many).1, sv (changeR l many).2]) 1) fun x130 =>
           obind (binN .lss x129 (.int .i64 0)) fun x131 =>
           condK x131
           (obind (bldK z0 p1 []) fun x132 =>
           obindH (stA 4 h1 (.ptr b1 0) x132) fun h133 =>
           obind (ldA 4 h133 (.ptr b1 0)) fun x134 =>
           .ok (.tup [x134, (.int .i64 190)]) h133)
           (obind (ld0 h1 (.ptr b 3)) fun x136 =>
           obind (bldK z2 p3 [(0, .int .i64 tm), (1, x129), (2, x130)]) fun x137 =>
           obind2 (bslK false 3 z2 1 [(0, x137)] h1) fun x138 h139 =>
           obind2 (appK 3 32 h139 x136 x138) fun x140 h141 =>
           obindH (stA 1 h141 (.ptr b 3) x140) fun h143 =>
           J10 tab5 5 [sv s0, .ptr b1 0, lv, .ptr b 0, .int .i64 (k : Nat), .int .i64 tm] h143)) = r → J10 tab5 4 [sv s0, .ptr b1 0, lv, .ptr b 0, .int .i64 (k : Nat), .int .i64 tm] h = r := by
          intro r hr e
          refine e10_4 ?_ hr
          cases l with
          | nil =>
            simp only [t10_4, W, WW, ↓reduceIte, reduceCtorEq, Nat.reduceAdd, Int.reduceEq, Int.reduceNe, Int.reduceLT, Int.reduceLE, Int.reduceAdd, Int.reduceSub, Int.reduceMul, Int.reduceNeg, Nat.reduceMul, ll, Int.ofNat_eq_natCast, w1, hlt, i1, q1, s00, v0, n0, ec]
            simp only [W, WW, ↓reduceIte, reduceCtorEq, Nat.reduceAdd, Int.reduceEq, Int.reduceNe, Int.reduceLT, Int.reduceLE, Int.reduceAdd, Int.reduceSub, Int.reduceMul, Int.reduceNeg, Nat.reduceMul] at e
            exact e
          | cons y t =>
            have a3 : ixStr (sv (y :: t)) (.int .i64 0) = some (.int .u8 ((y.toNat : Nat) : Int)) := ixStr_sv (y :: t) 0 (by omega) (by simp)
            have hy : (((y.toNat : Nat) : Int) = 35) = (y = 35) := u8_eqv y 35
            have h35 : ¬ y = 35 := fun e => by
              rcases hl35 with z | z
              · cases z
              · exact z (by rw [e]; rfl)
            simp only [t10_4, W, WW, ↓reduceIte, reduceCtorEq, Nat.reduceAdd, Int.reduceEq, Int.reduceNe, Int.reduceLT, Int.reduceLE, Int.reduceAdd, Int.reduceSub, Int.reduceMul, Int.reduceNeg, Nat.reduceMul, ll, Int.ofNat_eq_natCast, w1, hlt, i1, q1, s00, List.cons_ne_nil, a3, hy, eq_false h35, v0, n0, ec]
            simp only [W, WW, ↓reduceIte, reduceCtorEq, Nat.reduceAdd, Int.reduceEq, Int.reduceNe, Int.reduceLT, Int.reduceLE, Int.reduceAdd, Int.reduceSub, Int.reduceMul, Int.reduceNeg, Nat.reduceMul] at e
            exact e
        have x1 := x.go k1
        by_cases hneg : (changeR l many).1 < 0
        · rw [if_pos hneg]
          obtain ⟨o, w8, k8, r1⟩ := f.bad x1.ky
          refine ⟨_, key _ (by simp) ?_, k8⟩
          simp only [W, WW, ↓reduceIte, reduceCtorEq, Nat.reduceAdd, Int.reduceEq, Int.reduceNe, Int.reduceLT, Int.reduceLE, Int.reduceAdd, Int.reduceSub, Int.reduceMul, Int.reduceNeg, Nat.reduceMul, hneg, b0, w8, r1]
        · rw [if_neg hneg]
          have hc3 : (C 3).length = 3 * w.list.length := by rw [c.p3, flC_len]
          have v3 := x1.lv 3 (by omega)
          obtain ⟨h96, e96, k96, d96, -⟩ := lit_ky (es := 3) (z := z2) (vs := [.agg (chgC ⟨tm, (changeR l many).1, (changeR l many).2⟩)]) x1.gd rfl (fun v hv => by simp at hv; subst hv; rfl) rfl
          obtain ⟨s', h98, o, ea, est, x102, -⟩ := (x1.go k96).app 3 (by omega) (bytes := 32) (new := chgC ⟨tm, (changeR l many).1, (changeR l many).2⟩) (y := .slice h1.next 0 1 3) (d96.source1 rfl) rfl rfl (by omega) (by omega)
          have e96' : bslK false 3 z2 1 [(0, .agg (chgC ⟨tm, (changeR l many).1, (changeR l many).2⟩))] h1 = some (.slice h1.next 0 1 3, h96) := e96
          have ea' : appK 3 32 h96 (vs 3) (.slice h1.next 0 1 3) = some (s', h98) := ea
          have bd : bldK z2 p3 [(0, IV.int .i64 tm), (1, .int .i64 (changeR l many).1), (2, sv (changeR l many).2)] = some (.agg (chgC ⟨tm, (changeR l many).1, (changeR l many).2⟩)) := rfl
          have nx := next { w with list := w.list ++ [⟨tm, (changeR l many).1, (changeR l many).2⟩] } tm x102 ⟨by rw [upd_ne (by decide)]; exact c.p0, by rw [upd_ne (by decide)]; exact c.p1, by rw [upd_ne (by decide)]; exact c.p2, by rw [upd_eq, c.p3, flC_snoc]⟩ ⟨sm.names, sm.first, all_snoc sm.vals chl⟩ hn (by simp; omega)
          rw [key _ nx.ne (by simp only [W, WW, ↓reduceIte, reduceCtorEq, Nat.reduceAdd, Int.reduceEq, Int.reduceNe, Int.reduceLT, Int.reduceLE, Int.reduceAdd, Int.reduceSub, Int.reduceMul, Int.reduceNeg, Nat.reduceMul, hneg, v3, bd, e96', ea', est])]
          exact nx
      have hun : rchg many tm (l :: l2 :: ls) w.list = if l.head? = some 35 then rchg many (numR l.tail) (l2 :: ls) w.list else if (changeR l many).1 < 0 then none else rchg many tm (l2 :: ls) (w.list ++ [⟨tm, (changeR l many).1, (changeR l many).2⟩]) := rfl
      rw [hun]
      cases l with
      | nil =>
        rw [if_neg (by simp)]
        exact other (.inl rfl) _ rfl
      | cons y t =>
        by_cases h35 : y = 35
        · rw [if_pos (by rw [h35]; rfl)]
          have a2 : slcStr (sv (y :: t)) (some (.int .i64 1)) none = some (sv t) := slcStr_from (y :: t) 1 (by omega) (by simp only [List.length_cons]; omega)
          have a3 : ixStr (sv (y :: t)) (.int .i64 0) = some (.int .u8 ((y.toNat : Nat) : Int)) := ixStr_sv (y :: t) 0 (by omega) (by simp)
          have hy : (((y.toNat : Nat) : Int) = 35) = (y = 35) := u8_eqv y 35
          rw [List.length_cons] at hll
          have en := number5 x.gd t (by omega)
          have nx := next w (numR t) x c sm hn (by omega)
          rw [List.tail_cons, e10_4 (r := J10 tab5 5 [sv s0, .ptr b1 0, lv, .ptr b 0, .int .i64 (k : Nat), .int .i64 (numR t)] h) (by simp only [t10_4, W, WW, ↓reduceIte, reduceCtorEq, Nat.reduceAdd, Int.reduceEq, Int.reduceNe, Int.reduceLT, Int.reduceLE, Int.reduceAdd, Int.reduceSub, Int.reduceMul, Int.reduceNeg, Nat.reduceMul, ll, Int.ofNat_eq_natCast, w1, hlt, i1, q1, s00, List.cons_ne_nil, a3, hy, eq_true h35, a2, en]) nx.ne]
          exact nx
        · rw [if_neg (by simpa using h35)]
          exact other (.inr (by simpa using h35)) _ rfl
theorem rfirst_go (f : RG hS h₀ b1 L lv) (s0 : Bs) (w : Wv) (hw : w.list = []) (hm : w.names.length ≤ 4096) : ∀ (n : Nat) {k : Nat} {h : H} {C : Nat → List IV} {vs : Nat → IV} (fs ls : List Bs), RE h₀ h b C vs → WC C { w with first := fs } → Sm { w with first := fs } → L.drop k = ls → fs.length + n = w.names.length → k + n ≤ 2097000 →
    ROut hS s0 ((rchg w.names.length (-1) ((rfirst w.names.length n ls fs).2.drop 1) []).map fun c => { w with first := (rfirst w.names.length n ls fs).1, list := c }) (J10 tab5 3 [sv s0, .ptr b1 0, lv, .ptr b 0, .int .i64 (k : Nat), .int .i64 (fs.length : Nat)] h) := by
  have hL := f.hL
  have ll := f.ln.len
  have fin : ∀ {k : Nat} {h : H} {C : Nat → List IV} {vs : Nat → IV} (fs ls : List Bs), RE h₀ h b C vs → WC C { w with first := fs } → Sm { w with first := fs } → L.drop k = ls → k ≤ 2097000 → (fs.length = w.names.length ∨ L.length ≤ k) → fs.length ≤ w.names.length →
      ROut hS s0 ((rchg w.names.length (-1) (ls.drop 1) []).map fun c => { w with first := fs, list := c }) (J10 tab5 3 [sv s0, .ptr b1 0, lv, .ptr b 0, .int .i64 (k : Nat), .int .i64 (fs.length : Nat)] h) := by
    intro k h C vs fs ls x c sm hd hk hor hfs
    have n0 := (x.lr0 c).len
    have v0 := x.lv 0 (by omega)
    have wk := wr_succ (show k < 9223372036854775807 by omega)
    have hd2 : L.drop (k + 1) = ls.drop 1 := by rw [← hd, List.drop_drop]
    have nx := rchg_go f s0 hm (ls.drop 1) (k := k + 1) { w with first := fs } (-1) x c sm rfl (by show w.list.length ≤ _; rw [hw]; simp) (by omega) hd2
    have hwl : ({ w with first := fs } : Wv).list = [] := hw
    rw [hwl] at nx
    rw [e10_3 (r := J10 tab5 4 [sv s0, .ptr b1 0, lv, .ptr b 0, .int .i64 ((k + 1 : Nat) : Int), .int .i64 (-1)] h) (by
      by_cases h1 : fs.length = w.names.length
      · have hlt : ¬ ((fs.length : Nat) : Int) < (w.names.length : Nat) := by omega
        simp only [t10_3, W, WW, ↓reduceIte, reduceCtorEq, Nat.reduceAdd, Int.reduceEq, Int.reduceNe, Int.reduceLT, Int.reduceLE, Int.reduceAdd, Int.reduceSub, Int.reduceMul, Int.reduceNeg, Nat.reduceMul, v0, n0, Int.ofNat_eq_natCast, hlt, wk]
      · have hlt : ((fs.length : Nat) : Int) < (w.names.length : Nat) := by omega
        have hlt2 : ¬ ((k : Nat) : Int) < (L.length : Nat) := by omega
        simp only [t10_3, W, WW, ↓reduceIte, reduceCtorEq, Nat.reduceAdd, Int.reduceEq, Int.reduceNe, Int.reduceLT, Int.reduceLE, Int.reduceAdd, Int.reduceSub, Int.reduceMul, Int.reduceNeg, Nat.reduceMul, v0, n0, Int.ofNat_eq_natCast, hlt, ll, hlt2, wk]) nx.ne]
    exact nx
  intro n
  induction n with
  | zero =>
    intro k h C vs fs ls x c sm hd hn hk
    exact fin fs ls x c sm hd (by omega) (.inl (by omega)) (by omega)
  | succ n ih =>
    intro k h C vs fs ls x c sm hd hn hk
    cases ls with
    | nil => exact fin fs [] x c sm hd (by omega) (.inr (List.drop_eq_nil_iff.1 hd)) (by omega)
    | cons l ls =>
      obtain ⟨hs, hd2⟩ := drop_some hd
      have hkL : k < L.length := (List.getElem?_eq_some_iff.1 hs).1
      have hll := f.hlen _ (List.mem_of_getElem? hs)
      obtain ⟨p, i1, q1⟩ := f.at_ x.ky hs
      have n0 := (x.lr0 c).len
      have v0 := x.lv 0 (by omega)
      have hlt : ((fs.length : Nat) : Int) < (w.names.length : Nat) := by omega
      have hlt2 : ((k : Nat) : Int) < (L.length : Nat) := by omega
      have wk := wr_succ (show k < 9223372036854775807 by omega)
      obtain ⟨h1, ec, k1⟩ := change5 x.gd l hll w.names.length hm
      have x1 := x.go k1
      have chl := changeR_len l w.names.length hll
      have hc2 : (C 2).length = fs.length := by rw [c.p2, List.length_map]
      have v2 := x1.lv 2 (by omega)
      obtain ⟨h50, e50, k50, d50, -⟩ := lit_ky (es := 1) (z := [.str ⟨0, 0⟩]) (vs := [sv (changeR l w.names.length).2]) x1.gd rfl (fun v hv => by simp at hv; subst hv; rfl) rfl
      obtain ⟨s', h52, o, ea, est, x56, -⟩ := (x1.go k50).app 2 (by omega) (bytes := 16) (new := [sv (changeR l w.names.length).2]) (y := .slice h1.next 0 1 1) (d50.source1 rfl) rfl rfl (by omega) (by omega)
      have e50' : bslK false 1 [.str ⟨0, 0⟩] 1 [(0, sv (changeR l w.names.length).2)] h1 = some (.slice h1.next 0 1 1, h50) := e50
      have ea' : appK 1 16 h50 (vs 2) (.slice h1.next 0 1 1) = some (s', h52) := ea
      have hw1 : wr .i64 (((fs.length : Nat) : Int) + 1) = (((fs ++ [(changeR l w.names.length).2]).length : Nat) : Int) := by rw [List.length_append, List.length_singleton]; exact wr_succ (by omega)
      have nx := ih (k := k + 1) (fs ++ [(changeR l w.names.length).2]) ls x56 ⟨by rw [upd_ne (by decide)]; exact c.p0, by rw [upd_ne (by decide)]; exact c.p1, by rw [upd_eq, c.p2]; simp, by rw [upd_ne (by decide)]; exact c.p3⟩ ⟨sm.names, all_snoc sm.first chl, sm.vals⟩ hd2 (by simp; omega) (by omega)
      have hun : rfirst w.names.length (n + 1) (l :: ls) fs = rfirst w.names.length n ls (fs ++ [(changeR l w.names.length).2]) := rfl
      rw [hun, e10_3 (r := J10 tab5 3 [sv s0, .ptr b1 0, lv, .ptr b 0, .int .i64 ((k + 1 : Nat) : Int), .int .i64 ((fs ++ [(changeR l w.names.length).2]).length : Nat)] (h52.put b o)) (by
        simp only [t10_3, W, WW, ↓reduceIte, reduceCtorEq, Nat.reduceAdd, Int.reduceEq, Int.reduceNe, Int.reduceLT, Int.reduceLE, Int.reduceAdd, Int.reduceSub, Int.reduceMul, Int.reduceNeg, Nat.reduceMul, v0, n0, Int.ofNat_eq_natCast, hlt, ll, hlt2, i1, q1, ec, v2, e50', ea', est, wk, hw1]) nx.ne]
      exact nx
end Go.Proofs.YtdccdfmbakbikaaGreatDoor
namespace Go.Proofs.YtdccdfmbakbikaaGreatDoor
open Go I
variable {hS h₀ h : H} {b b1 : Nat} {C : Nat → List IV} {vs : Nat → IV} {L : List Bs} {lv : IV}
def restR (ls nm : List Bs) (wd : List Int) : Option Wv := (rchg nm.length (-1) ((rfirst nm.length nm.length (ls.drop 3) []).2.drop 1) []).map fun c => ⟨nm, wd, (rfirst nm.length nm.length (ls.drop 3) []).1, c⟩
def varsR (ls nm : List Bs) (wd : List Int) : Option Wv := match rvars ls nm wd with
  | none => none
  | some q => restR q.1 q.2.1 q.2.2
theorem readR_eq (s0 : Bs) : readR s0 = varsR ((splitL 10 s0).drop 2) [] [] := by
  unfold readR varsR
  cases rvars ((splitL 10 s0).drop 2) [] [] with
  | none => rfl
  | some q => rfl
theorem rvars_end (f : RG hS h₀ b1 L lv) (s0 : Bs) {k : Nat} (x : RE h₀ h b C vs) (nm : List Bs) (wd : List Int) (c : WC C ⟨nm, wd, [], []⟩) (hnm : ∀ s ∈ nm, s.length ≤ 1048576) (hn : nm.length ≤ 4096) (ls : List Bs) (hd : L.drop k = ls) (hk : k ≤ 2000000) :
    ROut hS s0 (restR ls nm wd) (J10 tab5 3 [sv s0, .ptr b1 0, lv, .ptr b 0, .int .i64 ((k + 3 : Nat) : Int), .int .i64 0] h) :=
  rfirst_go f s0 ⟨nm, wd, [], []⟩ rfl hn nm.length (k := k + 3) [] (ls.drop 3) x c ⟨hnm, by simp, by simp⟩ (by rw [← hd, List.drop_drop]) (by simp) (by omega)
theorem rvars_go (f : RG hS h₀ b1 L lv) (s0 : Bs) : ∀ (ls : List Bs) {k : Nat} {h : H} {C : Nat → List IV} {vs : Nat → IV} (nm : List Bs) (wd : List Int), RE h₀ h b C vs → WC C ⟨nm, wd, [], []⟩ → (∀ s ∈ nm, s.length ≤ 1048576) → nm.length ≤ 4096 → wd.length ≤ k → L.drop k = ls → k ≤ 1999999 →
    ROut hS s0 (varsR ls nm wd) (J10 tab5 1 [sv s0, .ptr b1 0, lv, .ptr b 0, .int .i64 (k : Nat)] h) := by
  have hL := f.hL
  have ll := f.ln.len
  have cup : IV.str ⟨13, 7956981874617361452794851128612⟩ = sv upW := by kernel_rfl
  have c95 : IV.str ⟨1, 95⟩ = sv [95] := rfl
  have s00 : IV.str ⟨0, 0⟩ = sv [] := rfl
  intro ls
  induction ls with
  | nil =>
    intro k h C vs nm wd x c hnm hn hw hd hk
    have hlt : ¬ ((k : Nat) : Int) < (L.length : Nat) := by have := List.drop_eq_nil_iff.1 hd; omega
    have wk : wr .i64 (((k : Nat) : Int) + 3) = ((k + 3 : Nat) : Int) := by rw [wr_i64 (by omega) (by omega)]; omega
    have nx := rvars_end f s0 x nm wd c hnm hn [] hd (by omega)
    show ROut hS s0 (restR [] nm wd) _
    rw [e10_1 (r := J10 tab5 3 [sv s0, .ptr b1 0, lv, .ptr b 0, .int .i64 ((k + 3 : Nat) : Int), .int .i64 0] h) (by simp only [t10_1, W, WW, ↓reduceIte, reduceCtorEq, Nat.reduceAdd, Int.reduceEq, Int.reduceNe, Int.reduceLT, Int.reduceLE, Int.reduceAdd, Int.reduceSub, Int.reduceMul, Int.reduceNeg, Nat.reduceMul, ll, Int.ofNat_eq_natCast, hlt, wk]) nx.ne]
    exact nx
  | cons l ls ih =>
    intro k h C vs nm wd x c hnm hn hw hd hk
    obtain ⟨hs, hd2⟩ := drop_some hd
    have hkL : k < L.length := (List.getElem?_eq_some_iff.1 hs).1
    have hlt : ((k : Nat) : Int) < (L.length : Nat) := by omega
    obtain ⟨p, i1, q1⟩ := f.at_ x.ky hs
    have hll := f.hlen _ (List.mem_of_getElem? hs)
    by_cases hup : l = upW
    · have wk : wr .i64 (((k : Nat) : Int) + 3) = ((k + 3 : Nat) : Int) := by rw [wr_i64 (by omega) (by omega)]; omega
      have nx := rvars_end f s0 x nm wd c hnm hn (l :: ls) hd (by omega)
      have hv : varsR (l :: ls) nm wd = restR (l :: ls) nm wd := by
        unfold varsR rvars
        rw [if_pos hup]
      rw [hv, e10_1 (r := J10 tab5 3 [sv s0, .ptr b1 0, lv, .ptr b 0, .int .i64 ((k + 3 : Nat) : Int), .int .i64 0] h) (by simp only [t10_1, W, WW, ↓reduceIte, reduceCtorEq, Nat.reduceAdd, Int.reduceEq, Int.reduceNe, Int.reduceLT, Int.reduceLE, Int.reduceAdd, Int.reduceSub, Int.reduceMul, Int.reduceNeg, Nat.reduceMul, ll, Int.ofNat_eq_natCast, hlt, i1, q1, cup, eq_true hup, wk]) nx.ne]
      exact nx
    · obtain ⟨v, h26, ep, kp, lr⟩ := parts5 x.gd l hll
      have x26 := x.go kp
      have ln := lr.len
      have n0 := (x26.lr0 c).len
      have v0 := x26.lv 0 (by omega)
      have b0 : bldK z0 p1 [] = some (.agg z0) := rfl
      have hp6 : ∀ q ∈ splitL 32 l, q.length ≤ 1048576 := fun q hq => Nat.le_trans (splitL_mem 32 l q hq) hll
      generalize hsp : splitL 32 l = ps at lr ln hp6
      have bad : (ps.length ≠ 6 ∨ 4096 ≤ nm.length) → BadR hS (J10 tab5 1 [sv s0, .ptr b1 0, lv, .ptr b 0, .int .i64 (k : Nat)] h) := by
        intro hor
        obtain ⟨o, w8, k8, r1⟩ := f.bad x26.ky
        refine ⟨_, e10_1 ?_ (by simp), k8⟩
        by_cases h6 : ps.length = 6
        · have h6' : ((ps.length : Nat) : Int) = 6 := by omega
          have hge : (4096 : Int) ≤ (nm.length : Nat) := by omega
          simp only [t10_1, W, WW, ↓reduceIte, reduceCtorEq, Nat.reduceAdd, Int.reduceEq, Int.reduceNe, Int.reduceLT, Int.reduceLE, Int.reduceAdd, Int.reduceSub, Int.reduceMul, Int.reduceNeg, Nat.reduceMul, ll, Int.ofNat_eq_natCast, hlt, i1, q1, cup, eq_false hup, ep, ln, eq_true h6', v0, n0, hge, b0, w8, r1]
        · have h6' : ¬ ((ps.length : Nat) : Int) = 6 := by omega
          simp only [t10_1, W, WW, ↓reduceIte, reduceCtorEq, Nat.reduceAdd, Int.reduceEq, Int.reduceNe, Int.reduceLT, Int.reduceLE, Int.reduceAdd, Int.reduceSub, Int.reduceMul, Int.reduceNeg, Nat.reduceMul, ll, Int.ofNat_eq_natCast, hlt, i1, q1, cup, eq_false hup, ep, ln, eq_false h6', b0, w8, r1]
      by_cases h6 : ps.length = 6
      · match ps, h6, lr, ln, hsp, bad, hp6 with
        | [p0, p1, p2, p3, p4, p5], _, lr, ln, hsp, bad, hp6 =>
        have hv : varsR (l :: ls) nm wd = if 4096 ≤ nm.length then none else varsR ls (nm ++ [if p4 = [95] then [] else p4]) (wd ++ [numR p2]) := by
          unfold varsR
          conv => lhs; unfold rvars
          rw [if_neg hup, hsp]
          simp only
          by_cases hm : 4096 ≤ nm.length
          · simp only [if_pos hm]
          · simp only [if_neg hm]
        rw [hv]
        by_cases hmany : 4096 ≤ nm.length
        · rw [if_pos hmany]
          exact bad (.inr hmany)
        · rw [if_neg hmany]
          have hge : ¬ (4096 : Int) ≤ (nm.length : Nat) := by omega
          have h6' : ((([p0, p1, p2, p3, p4, p5] : List Bs).length : Nat) : Int) = 6 := rfl
          obtain ⟨a4, x4, y4⟩ := LR.str lr (i := 4) rfl
          simp only [Int.cast_ofNat_Int] at x4
          have two : ∀ nmv : Bs, nmv.length ≤ 1048576 → ROut hS s0 (varsR ls (nm ++ [nmv]) (wd ++ [numR p2])) (J10 tab5 2 [sv s0, .ptr b1 0, lv, .ptr b 0, .int .i64 (k : Nat), v, sv nmv] h26) := by
            intro nmv hnv
            have hc0 : (C 0).length = nm.length := by rw [c.p0, List.length_map]
            have hc1 : (C 1).length = wd.length := by rw [c.p1]; simp [ints]
            obtain ⟨h47, e47, k47, d47, -⟩ := lit_ky (es := 1) (z := [.str ⟨0, 0⟩]) (vs := [sv nmv]) x26.gd rfl (fun v hv => by simp at hv; subst hv; rfl) rfl
            obtain ⟨s', h49, o, ea, est, x51, lk⟩ := (x26.go k47).app 0 (by omega) (bytes := 16) (new := [sv nmv]) (y := .slice h26.next 0 1 1) (d47.source1 rfl) rfl rfl (by omega) (by omega)
            have lr51 := lk _ _ (LR.ky lr x26.gd.wf k47)
            obtain ⟨a2, x2, y2⟩ := LR.str lr51 (i := 2) rfl
            simp only [Int.cast_ofNat_Int] at x2
            generalize h49.put b o = h51 at est x51 lr51 y2
            have v1 := x51.lv 1 (by omega)
            have en := number5 x51.gd p2 (hp6 p2 (by simp))
            obtain ⟨h62, e62, k62, d62, -⟩ := litW_ky (es := 1) (z := [.int .i64 0]) (vs := [.int .i64 (numR p2)]) x51.gd rfl (fun v hv => by simp at hv; subst hv; rfl) rfl
            have x62 := x51.go k62
            have v1' := x62.lv 1 (by omega)
            obtain ⟨s2, h65, o2, ea2, est2, x67, -⟩ := x62.app 1 (by omega) (bytes := 8) (new := [.int .i64 (numR p2)]) (y := .slice h51.next 0 1 1) (d62.source1 rfl) rfl rfl (by decide) (by rw [upd_ne (by decide), hc1]; exact Nat.le_trans hw (Nat.le_trans hk (by decide)))
            have e47' : bslK false 1 [.str ⟨0, 0⟩] 1 [(0, sv nmv)] h26 = some (.slice h26.next 0 1 1, h47) := e47
            have ea' : appK 1 16 h47 (vs 0) (.slice h26.next 0 1 1) = some (s', h49) := ea
            have e62' : bslK true 1 [.int .i64 0] 1 [(0, .int .i64 (numR p2))] h51 = some (.slice h51.next 0 1 1, h62) := e62
            have ea2' : appK 1 8 h62 (upd vs 0 s' 1) (.slice h51.next 0 1 1) = some (s2, h65) := ea2
            have wk := wr_succ (show k < 9223372036854775807 by omega)
            have nx := ih (k := k + 1) (nm ++ [nmv]) (wd ++ [numR p2]) x67 ⟨by rw [upd_ne (by decide), upd_eq, c.p0]; simp, by rw [upd_eq, upd_ne (by decide), c.p1]; simp [ints], by rw [upd_ne (by decide), upd_ne (by decide)]; exact c.p2, by rw [upd_ne (by decide), upd_ne (by decide)]; exact c.p3⟩ (all_snoc hnm hnv) (by simp; omega) (by simp; omega) hd2 (Nat.le_trans (Nat.succ_le_of_lt hkL) (Nat.le_trans hL (by decide)))
            rw [e10_2 (r := J10 tab5 1 [sv s0, .ptr b1 0, lv, .ptr b 0, .int .i64 ((k + 1 : Nat) : Int)] (h65.put b o2)) (by
              simp only [t10_2, W, WW, ↓reduceIte, reduceCtorEq, Nat.reduceAdd, Int.reduceEq, Int.reduceNe, Int.reduceLT, Int.reduceLE, Int.reduceAdd, Int.reduceSub, Int.reduceMul, Int.reduceNeg, Nat.reduceMul, v0, e47', ea', est, v1, x2, y2, en, e62', v1', ea2', est2, wk]) nx.ne]
            exact nx
          by_cases h95 : p4 = [95]
          · rw [if_pos h95]
            have nx := two [] (by simp)
            rw [e10_1 (r := J10 tab5 2 [sv s0, .ptr b1 0, lv, .ptr b 0, .int .i64 (k : Nat), v, sv []] h26) (by
              simp only [t10_1, W, WW, ↓reduceIte, reduceCtorEq, Nat.reduceAdd, Int.reduceEq, Int.reduceNe, Int.reduceLT, Int.reduceLE, Int.reduceAdd, Int.reduceSub, Int.reduceMul, Int.reduceNeg, Nat.reduceMul, ll, Int.ofNat_eq_natCast, hlt, i1, q1, cup, eq_false hup, ep, ln, h6', v0, n0, hge, x4, y4, c95, eq_true h95, s00]) nx.ne]
            exact nx
          · rw [if_neg h95]
            have nx := two p4 (hp6 p4 (by simp))
            rw [e10_1 (r := J10 tab5 2 [sv s0, .ptr b1 0, lv, .ptr b 0, .int .i64 (k : Nat), v, sv p4] h26) (by
              simp only [t10_1, W, WW, ↓reduceIte, reduceCtorEq, Nat.reduceAdd, Int.reduceEq, Int.reduceNe, Int.reduceLT, Int.reduceLE, Int.reduceAdd, Int.reduceSub, Int.reduceMul, Int.reduceNeg, Nat.reduceMul, ll, Int.ofNat_eq_natCast, hlt, i1, q1, cup, eq_false hup, ep, ln, h6', v0, n0, hge, x4, y4, c95, eq_false h95]) nx.ne]
            exact nx
      · have hv : varsR (l :: ls) nm wd = none := by
          unfold varsR
          conv => lhs; unfold rvars
          rw [if_neg hup, hsp]
          split
          · rfl
          · rename_i q e
            split at e
            · exact absurd rfl h6
            · cases e
        rw [hv]
        exact bad (.inl h6)
theorem read5 {h : H} (g : Gd h) (s0 : Bs) (hs : s0.length ≤ 1048576) : ROut h s0 (readR s0) (CL tab5 10 [sv s0] h) := by
  obtain ⟨h2, w2, k2, d2, -, -⟩ := (Ky.refl g).newI (cs := z0) rfl
  obtain ⟨lv, h9, w9, k9, gl⟩ := lines5 k2.gd s0 hs
  obtain ⟨h12, w12, k12, d12, -, -⟩ := (Ky.refl k9.gd).newI (cs := z0) rfl
  obtain ⟨o, w13, k13, d13⟩ := k12.st d12 (Nat.le_refl _) (n := 4) (off := 0) (v := .agg z0) rfl rfl (by show 0 + 4 ≤ 4; omega)
  have hL := splitL_len 10 s0
  have hlen : ∀ l ∈ splitL 10 s0, l.length ≤ 1048576 := fun l hl => Nat.le_trans (splitL_mem 10 s0 l hl) hs
  have f : RG h h9 h.next (splitL 10 s0) lv := ⟨k2.trans k9, Nat.le_refl _, d2.ky k2.gd.wf k9, gl.gl.LR (by decide) (ch_txt _), by omega, hlen⟩
  have x : RE h9 (h12.put h9.next o) h9.next (fun _ => []) (fun _ => .nilSlice) := ⟨k9.gd.wf, k13, Nat.le_refl _, d13, fun i _ => .inl ⟨rfl, rfl⟩, fun i j _ _ _ c hc => (by cases hc)⟩
  have nx := rvars_go f s0 ((splitL 10 s0).drop 2) (k := 2) [] [] x ⟨rfl, rfl, rfl, rfl⟩ (by simp) (by simp) (by simp) rfl (by omega)
  have hlt : ¬ (1048576 : Int) < (s0.length : Nat) := by omega
  have b0 : bldK z0 p1 [] = some (.agg z0) := rfl
  rw [readR_eq, c10 good5.step rfl rfl g (r := J10 tab5 1 [sv s0, .ptr h.next 0, lv, .ptr h9.next 0, .int .i64 ((2 : Nat) : Int)] (h12.put h9.next o)) (by
    simp only [t10_0, w2, W, WW, ↓reduceIte, reduceCtorEq, Nat.reduceAdd, Int.reduceEq, Int.reduceNe, Int.reduceLT, Int.reduceLE, Int.reduceAdd, Int.reduceSub, Int.reduceMul, Int.reduceNeg, Nat.reduceMul, hlt, w9, b0, w12, w13]
    rfl) nx.ne]
  exact nx
theorem rreadLong {h : H} (g : Gd h) (s : Bs) (hs : 1048576 < s.length) : ∃ h', CL tab5 10 [sv s] h = .ok (.tup [.agg z0, .int .i64 4]) h' ∧ Ky h h' := by
  obtain ⟨h2, w2, k2, d2, -, -⟩ := (Ky.refl g).newI (cs := z0) rfl
  obtain ⟨o, w6, k6, d6⟩ := k2.st d2 (Nat.le_refl _) (n := 4) (off := 0) (v := .agg z0) rfl rfl (by show 0 + 4 ≤ 4; omega)
  refine ⟨_, c10 good5.step rfl rfl g ?_ (by simp), k6⟩
  have hlt : (1048576 : Int) < (s.length : Nat) := by omega
  have b0 : bldK z0 p1 [] = some (.agg z0) := rfl
  have l2 : I.ldA 4 (h2.put h.next o) (.ptr h.next 0) = some (.agg z0) := d6.ldAll rfl
  simp only [t10_0, w2, W, WW, ↓reduceIte, reduceCtorEq, Nat.reduceAdd, Int.reduceEq, Int.reduceNe, Int.reduceLT, Int.reduceLE, Int.reduceAdd, Int.reduceSub, Int.reduceMul, Int.reduceNeg, Nat.reduceMul, hlt, b0, w6, l2]
theorem digU_le : ∀ (f u k : Nat), u < 10 ^ k → 0 < k → (digU f u).length ≤ k
  | 0, u, k, _, _ => by simp [digU]
  | f + 1, u, k, h, hk => by
    simp only [digU]
    by_cases h10 : u < 10
    · rw [if_pos h10]; exact hk
    · obtain ⟨m, rfl⟩ : ∃ m, k = m + 1 := ⟨k - 1, by omega⟩
      have hm : 0 < m := by
        rcases Nat.eq_zero_or_pos m with rfl | h
        · simp at h; omega
        · exact h
      have := digU_le f (u / 10) m (by rw [Nat.pow_succ] at h; omega) hm
      rw [if_neg h10, List.length_append, List.length_singleton]; omega
theorem digU_hd : ∀ (f u : Nat), 0 < u → u < 10 ^ f → ∃ c r, digU f u = c :: r ∧ c ≠ 48
  | 0, u, h0, h => by simp at h; omega
  | f + 1, u, h0, h => by
    simp only [digU]
    by_cases h10 : u < 10
    · rw [if_pos h10]
      refine ⟨_, [], rfl, fun e => ?_⟩
      have := congrArg UInt8.toNat e
      rw [dg_toNat u h10] at this
      have : (48 : UInt8).toNat = 48 := rfl
      omega
    · rw [if_neg h10]
      obtain ⟨c, r, e, hc⟩ := digU_hd f (u / 10) (by omega) (by rw [Nat.pow_succ] at h; omega)
      exact ⟨c, r ++ [UInt8.ofNat (48 + u % 10)], by rw [e]; rfl, hc⟩
theorem numL_one (n : Nat) (d : Nat) (hd : d < 10) (hn : n ≤ 461168601842738790) (l : Bs) : numL (n : Int) (UInt8.ofNat (48 + d) :: l) = numL ((10 * n + d : Nat) : Int) l := by
  conv => lhs; unfold numL
  rw [dg_toNat d hd, if_neg (by omega)]
  congr 1
  omega
theorem numL_digU : ∀ (f u : Nat), u < 10 ^ f → 0 < f → u ≤ 4611686018427387903 → ∀ l, numL 0 (digU f u ++ l) = numL (u : Int) l
  | 0, u, _, h0, _, _ => by omega
  | f + 1, u, h, _, hu, l => by
    simp only [digU]
    by_cases h10 : u < 10
    · rw [if_pos h10]
      have := numL_one 0 u h10 (by omega) l
      rw [List.singleton_append]
      refine this.trans ?_
      congr 2; omega
    · have h2 : u / 10 < 10 ^ f := by rw [Nat.pow_succ] at h; omega
      have h3 : 0 < f := by
        rcases Nat.eq_zero_or_pos f with rfl | h
        · simp at h; omega
        · exact h
      rw [if_neg h10, List.append_assoc, numL_digU f (u / 10) h2 h3 (by omega), List.singleton_append, numL_one _ _ (by omega) (by omega)]
      congr 2; omega
theorem numR_itoa {n : Int} (h0 : 0 ≤ n) (h1 : n ≤ 4611686018427387903) : numR (itoaF n) = n := by
  obtain ⟨u, rfl⟩ := Int.eq_ofNat_of_zero_le h0
  have hi : itoaF ((u : Nat) : Int) = digU 20 u := by
    unfold itoaF
    rw [if_neg (by omega)]; rfl
  have hlt : u < 10 ^ 20 := Nat.lt_of_le_of_lt (show u ≤ 4611686018427387903 by omega) (by decide)
  have hl := digU_le 20 u 19 (Nat.lt_of_le_of_lt (show u ≤ 4611686018427387903 by omega) (by decide)) (by decide)
  have hv := numL_digU 20 u hlt (by decide) (by omega) []
  rw [List.append_nil] at hv
  rw [hi]
  unfold numR
  rw [if_neg, hv]
  · rfl
  · rintro (z | z | ⟨y1, y2⟩)
    · exact digU_nil 19 u z
    · omega
    · rcases Nat.eq_zero_or_pos u with rfl | hu
      · have e : digU 20 0 = [48] := rfl
        rw [e] at y1; exact absurd y1 (by decide)
      · obtain ⟨c, r, e, hc⟩ := digU_hd 20 u hu hlt
        rw [e] at y2
        injection y2 with y2
        exact hc y2
theorem netL_step {i : Nat} {n k : Int} {c : UInt8} {l : Bs} (hi : ¬ 3 ≤ i) (h : ¬ ((c.toNat : Int) - 33 < 0 ∨ 93 < (c.toNat : Int) - 33)) : netL i n k (c :: l) = netL (i + 1) (n + (if 0 < i then (c.toNat : Int) - 33 + 1 else (c.toNat : Int) - 33) * k) (k * 94) l := by
  conv => lhs; unfold netL
  rw [if_neg hi, if_neg h]
theorem netR_code {k many : Nat} (hk : k < many) (hm : many ≤ 4096) : netR (codeF k) many = (k : Int) := by
  have fin : ∀ n : Int, netL 0 0 1 (codeF k) = some n → n = (k : Int) → netR (codeF k) many = (k : Int) := by
    rintro n e rfl
    unfold netR
    rw [e]
    simp only
    rw [if_neg]
    rintro (z | z | z | z)
    · have := codeF_len k
      unfold codeF at z; split at z <;> cases z
    · have := codeF_len k
      omega
    · omega
    · rw [Int.toNat_natCast] at z; exact z rfl
  unfold codeF at fin ⊢
  by_cases h94 : k < 94
  · rw [if_pos h94] at fin ⊢
    refine fin _ (netL_step (by decide) (by rw [chr_nat k h94]; omega)) ?_
    rw [if_neg (Nat.lt_irrefl 0), chr_nat k h94]; omega
  · rw [if_neg h94] at fin ⊢
    have m1 : k % 94 < 94 := Nat.mod_lt _ (by decide)
    have m2 : k / 94 - 1 < 94 := by omega
    refine fin _ ((netL_step (by decide) (by rw [chr_nat _ m1]; omega)).trans (netL_step (by decide) (by rw [chr_nat _ m2]; omega))) ?_
    rw [if_neg (Nat.lt_irrefl 0), if_pos (show 0 < 0 + 1 by decide), chr_nat _ m1, chr_nat _ m2]; omega
theorem rvars_back : ∀ {ns : List Bs} {ws : List Int} {fs : List Bs} {k : Nat} {v : Bs} {nm : List Bs} {wd : List Int} (R : Bs), netsF ns ws fs = true → k + ns.length ≤ 4096 → varsF k ns ws = some v → nm.length = k →
    rvars (splitL 10 (v ++ (midF ++ R))) nm wd = some (upW :: edW :: dvW :: splitL 10 R, nm ++ ns, wd ++ ws)
  | [], [], [], k, v, nm, wd, R, _, _, h, _ => by
    simp only [varsF, Option.some.injEq] at h
    subst h
    rw [List.nil_append, mid_split]
    unfold rvars
    rw [if_pos rfl, List.append_nil, List.append_nil]
  | n :: ns, w :: ws, f :: fs, k, v, nm, wd, R, hn, hk, h, hl => by
    simp only [netsF, Bool.and_eq_true] at hn
    rw [List.length_cons] at hk
    simp only [varsF] at h
    split at h
    · cases h
    · rename_i h95
      obtain ⟨v', hv', rfl⟩ := Option.map_eq_some_iff.1 h
      have ih := rvars_back (nm := nm ++ [n]) (wd := wd ++ [w]) R hn.2 (k := k + 1) (by omega) hv' (by simp; omega)
      have hw : 0 ≤ w ∧ w ≤ 256 := by
        have h' := hn.1
        simp only [netF, Bool.and_eq_true, decide_eq_true_eq] at h'
        have := h'.1.2
        simp only [checkM, Bool.and_eq_true, decide_eq_true_eq] at this
        omega
      have hs : splitL 32 (varLn k w n) = [dvar, dwire, itoaF w, codeF k, nameF n, dend] := by
        unfold varLn
        rw [split_ln _ _ _ (by decide), split_ln _ _ _ (by decide), split_ln _ _ _ ((itoaF_pr w).ne 32 (by decide)), split_ln _ _ _ ((codeF_pr k (by omega)).ne 32 (by decide)), split_ln _ _ _ ((nameF_pr hn.1).ne 32 (by decide)), split_end _ _ (by decide)]
      have hup : varLn k w n ≠ upW := fun hh => by
        have := congrArg (fun l : Bs => l[1]?) hh
        simp only [varLn, dvar, List.cons_append, List.getElem?_cons_succ, List.getElem?_cons_zero] at this
        revert this; decide
      have hnm : (if nameF n = [95] then [] else nameF n) = n := by
        unfold nameF
        by_cases hn : n = []
        · subst hn; rfl
        · rw [if_neg hn, if_neg h95]
      rw [List.append_assoc, varF_ln, split_ln _ _ _ (varLn_nl hn.1 (by omega))]
      conv => lhs; unfold rvars
      rw [if_neg hup, hs]
      simp only
      rw [if_neg (by omega), hnm, numR_itoa hw.1 (by omega), ih, List.append_assoc, List.append_assoc]; rfl
  | [], _ :: _, _, _, _, _, _, _, h, _, _, _ => by simp [netsF] at h
  | [], [], _ :: _, _, _, _, _, _, h, _, _, _ => by simp [netsF] at h
  | _ :: _, [], _, _, _, _, _, _, h, _, _, _ => by simp [netsF] at h
  | _ :: _, _ :: _, [], _, _, _, _, _, h, _, _, _ => by simp [netsF] at h
theorem changeR_ln {v : Bs} (h : checkM v = true) {k many : Nat} (hk : k < many) (hm : many ≤ 4096) : changeR (valLn v k) many = ((k : Int), v) ∧ (valLn v k).head? ≠ some 35 := by
  obtain ⟨hne, hv⟩ := checkM_pr h
  have pv : Pr v := fun c hc => (isV_pr (hv c hc)).1
  unfold valLn
  by_cases h1 : v.length = 1
  · rw [if_pos h1]
    match v, h1 with
    | [x], _ =>
      obtain ⟨_, h98, h35⟩ := isV_pr (hv x (by simp))
      refine ⟨?_, by simpa using h35⟩
      show (if x = 98 then partR (splitL 32 (codeF k)) many else (netR (codeF k) many, [x])) = _
      rw [if_neg h98, netR_code hk hm]
  · rw [if_neg h1]
    refine ⟨?_, by simp⟩
    show (if (98 : UInt8) = 98 then partR (splitL 32 (v ++ 32 :: codeF k)) many else (netR (v ++ 32 :: codeF k) many, [98])) = _
    rw [if_pos rfl, split_ln _ _ _ (pv.ne 32 (by decide)), split_end _ _ ((codeF_pr k (by omega)).ne 32 (by decide))]
    show (netR (codeF k) many, v) = _
    rw [netR_code hk hm]
theorem rfirst_back {many : Nat} (hm : many ≤ 4096) : ∀ (vs fs : List Bs) (k : Nat) (R : Bs), (∀ v ∈ vs, checkM v = true) → k + vs.length ≤ many → rfirst many vs.length (splitL 10 (valsF k vs ++ R)) fs = (fs ++ vs, splitL 10 R)
  | [], fs, k, R, _, _ => by
    rw [List.append_nil]; rfl
  | v :: vs, fs, k, R, h, hk => by
    rw [List.length_cons] at hk
    have hv := h v (List.mem_cons_self ..)
    have ih := rfirst_back hm vs (fs ++ [v]) (k + 1) R (fun x hx => h x (List.mem_cons_of_mem _ hx)) (by omega)
    simp only [valsF, List.append_assoc]
    rw [valueF_ln, split_ln _ _ _ (valLn_nl hv (by omega))]
    show rfirst many vs.length (splitL 10 (valsF (k + 1) vs ++ R)) (fs ++ [(changeR (valLn v k) many).2]) = _
    rw [(changeR_ln hv (by omega) hm).1, ih, List.append_assoc]; rfl
theorem rchg_cons {many : Nat} {t : Int} {l : Bs} {ls : List Bs} {cs : List Chg} (hne : ls ≠ []) : rchg many t (l :: ls) cs = if l.head? = some 35 then rchg many (numR l.tail) ls cs else if (changeR l many).1 < 0 then none else rchg many t ls (cs ++ [⟨t, (changeR l many).1, (changeR l many).2⟩]) := by
  obtain ⟨a, r, rfl⟩ := List.exists_cons_of_ne_nil hne
  rfl
theorem rchg_back {N : Nat} (hN : N ≤ 4096) {wides : List Int} : ∀ (l : List Chg) (p : Option Chg) (now : List Bs) (cs : List Chg), listF N wides now p l = true → rchg N (timeOf p) (splitL 10 (chgsF p l)) cs = some (cs ++ l)
  | [], p, now, cs, _ => by
    rw [List.append_nil]; rfl
  | c :: l, p, now, cs, h => by
    simp only [listF, Bool.and_eq_true] at h
    obtain ⟨hp, hv, hl⟩ := h
    have ih := rchg_back hN l (some c) _ (cs ++ [c]) hl
    simp only [placeF, Bool.and_eq_true, decide_eq_true_eq] at hp
    obtain ⟨⟨⟨⟨n0, n1⟩, t0⟩, t1⟩, _⟩ := hp
    have hck : checkM c.val = true := by
      simp only [valF, Bool.and_eq_true] at hv
      exact hv.1.1
    have hk : c.net.toNat < N := by omega
    have hnn : ((c.net.toNat : Nat) : Int) = c.net := by omega
    obtain ⟨q1, q3⟩ := changeR_ln hck hk hN
    rw [hnn] at q1
    have value : rchg N c.time (splitL 10 (valueF c.val c.net.toNat ++ chgsF (some c) l)) cs = some (cs ++ c :: l) := by
      rw [valueF_ln, split_ln _ _ _ (valLn_nl hck (by omega)), rchg_cons (splitL_ne _ _), if_neg q3, q1, if_neg (by show ¬ c.net < 0; omega)]
      have : timeOf (some c) = c.time := rfl
      rw [this] at ih
      rw [ih, List.append_assoc]; rfl
    simp only [chgsF, chgF, List.append_assoc]
    unfold timeF
    by_cases ht : p.map (·.time) = some c.time
    · rw [if_pos ht, List.nil_append]
      have : timeOf p = c.time := by
        cases p with
        | none => cases ht
        | some q => injection ht
      rw [this]; exact value
    · rw [if_neg ht]
      have e : [35] ++ itoaF c.time ++ [10] ++ (valueF c.val c.net.toNat ++ chgsF (some c) l) = (35 :: itoaF c.time) ++ 10 :: (valueF c.val c.net.toNat ++ chgsF (some c) l) := by simp
      rw [e, split_ln _ _ _ (fun x hx => by
        rcases List.mem_cons.1 hx with rfl | hx
        · decide
        · exact (itoaF_pr _).ne 10 (by decide) x hx), rchg_cons (splitL_ne _ _), if_pos (show (35 :: itoaF c.time).head? = some 35 from rfl), List.tail_cons, numR_itoa t0 (by omega)]
      exact value
theorem rread_back {w : Wv} {t : Bs} (h : writeF w = (t, 0)) : readR t = some w := by
  obtain ⟨v, h1, h2, h3, h4, rfl, _⟩ := write_parts h
  obtain ⟨l1, l2⟩ := netsF_len h2
  have hh : ∀ R : Bs, (splitL 10 (headF ++ R)).drop 2 = splitL 10 R := by
    intro R
    have e : headF ++ R = tsW ++ 10 :: (scW ++ 10 :: R) := by
      rw [show headF = tsW ++ 10 :: (scW ++ [10]) by decide]
      simp only [List.append_assoc, List.cons_append, List.nil_append]
    rw [e, split_ln _ _ _ (by decide), split_ln _ _ _ (by decide)]; rfl
  have ev := rvars_back (nm := []) (wd := []) (valsF 0 w.first ++ (endF ++ chgsF none w.list)) h2 (k := 0) (by omega) h4 rfl
  rw [readR_eq, hh]
  unfold varsR
  rw [ev]
  simp only [List.nil_append]
  unfold restR
  have fb := rfirst_back h1 w.first [] 0 (endF ++ chgsF none w.list) (checks_of h2) (by omega)
  rw [l2] at fb
  have hd3 : (upW :: edW :: dvW :: splitL 10 (valsF 0 w.first ++ (endF ++ chgsF none w.list))).drop 3 = splitL 10 (valsF 0 w.first ++ (endF ++ chgsF none w.list)) := rfl
  rw [hd3, fb]
  have he : splitL 10 (endF ++ chgsF none w.list) = dend :: splitL 10 (chgsF none w.list) := by
    have e : endF ++ chgsF none w.list = dend ++ 10 :: chgsF none w.list := rfl
    rw [e, split_ln _ _ _ (by decide)]
  simp only [he, List.nil_append, List.drop_succ_cons, List.drop_zero]
  have cb := rchg_back h1 w.list none w.first [] h3
  have cb' : rchg w.names.length (-1) (splitL 10 (chgsF none w.list)) [] = some ([] ++ w.list) := cb
  rw [cb']
  rfl
theorem wr_nil (h : H) : WR h .nilSlice .nilSlice .nilSlice .nilSlice ⟨[], [], [], []⟩ := ⟨.inl ⟨rfl, .inl rfl⟩, .inl (.inl ⟨rfl, .inl rfl⟩), .inl ⟨rfl, .inl rfl⟩, .inl ⟨rfl, .inl rfl⟩⟩
theorem reads_rest {h0 h12 : H} {s : Bs} {w : Wv} {n wd f l : IV} {e : Int} (g : Gd h0)
    (ep : CL tab5 9 [sv s] h0 = .ok (.tup [.agg [n, wd, f, l], .int .i64 e]) h12) (k12 : Ky h0 h12) (r : WR h12 n wd f l w)
    (er : ∀ h17 : H, Gd h17 → ∃ h19 n' wd' f' l', CL tab5 10 [sv s] h17 = .ok (.tup [.agg [n', wd', f', l'], .int .i64 e]) h19 ∧ Ky h17 h19 ∧ WR h19 n' wd' f' l' w)
    (b1 : w.list.length ≤ 9223372036854775807) (b2 : w.names.length ≤ 4096) (b3 : w.wides.length ≤ 4096) (b4 : w.first.length ≤ 4096) (hs : ¬ ((s.length : Nat) : Int) > 16384 ∨ ¬ ((s.length : Nat) : Int) ≤ 1048576) :
    ∃ h', CL tab5 4 [sv s] h0 = .ok (.bool true) h' := by
  obtain ⟨h16, w16, k16, d16, -, -⟩ := (Ky.refl k12.gd).newI (cs := z0) rfl
  obtain ⟨o, w17, k17, d17⟩ := k16.st d16 (Nat.le_refl _) (n := 4) (off := 0) (v := .agg [n, wd, f, l]) rfl r.scalar (by show 0 + 4 ≤ 4; omega)
  have hp : placeL z0 0 (IV.agg [n, wd, f, l]).cells = [n, wd, f, l] := rfl
  rw [hp] at d17
  generalize h16.put h12.next o = h17 at w17 k17 d17
  obtain ⟨h19, n', wd', f', l', er, k19, r'⟩ := er h17 k17.gd
  obtain ⟨h23, w23, k23, d23, k1923, -⟩ := k19.newI (cs := z0) rfl
  obtain ⟨o2, w24, k24, d24⟩ := (Ky.refl k19.gd |>.trans k1923).st d23 (Nat.le_refl _) (n := 4) (off := 0) (v := .agg [n', wd', f', l']) rfl r'.scalar (by show 0 + 4 ≤ 4; omega)
  have hp2 : placeL z0 0 (IV.agg [n', wd', f', l']).cells = [n', wd', f', l'] := rfl
  rw [hp2] at d24
  generalize h23.put h19.next o2 = h24 at w24 k24 d24
  have d17' := (d17.ky k17.gd.wf k19).ky k19.gd.wf k24
  have lA : I.ldA 4 h24 (.ptr h12.next 0) = some (.agg [n, wd, f, l]) := d17'.ldAll rfl
  have lB : I.ldA 4 h24 (.ptr h19.next 0) = some (.agg [n', wd', f', l']) := d24.ldAll rfl
  have kk : Ky h12 h24 := (k17.trans k19).trans k24
  obtain ⟨h28, es, k28⟩ := same3 k24.gd (r.ky k12.gd.wf kk) (r'.ky k19.gd.wf k24) b1 b2 b3 b4
  obtain ⟨h40, ea, -⟩ := awakeS k28.gd
  refine ⟨h40, c4 good5.step rfl rfl g ?_ (by simp)⟩
  by_cases h1 : (16384 : Int) < ((s.length : Nat) : Int)
  · have h2 : ¬ ((s.length : Nat) : Int) ≤ 1048576 := hs.resolve_left (fun z => z h1)
    simp only [t4_0, W, WW, ↓reduceIte, reduceCtorEq, Nat.reduceAdd, Int.reduceEq, Int.reduceNe, Int.reduceLT, Int.reduceLE, Int.reduceAdd, Int.reduceSub, Int.reduceMul, Int.reduceNeg, Nat.reduceMul, h1, h2, ep, w16, w17, er, w23, w24, lA, lB, es, ea]
  · simp only [t4_0, W, WW, ↓reduceIte, reduceCtorEq, Nat.reduceAdd, Int.reduceEq, Int.reduceNe, Int.reduceLT, Int.reduceLE, Int.reduceAdd, Int.reduceSub, Int.reduceMul, Int.reduceNeg, Nat.reduceMul, h1, ep, w16, w17, er, w23, w24, lA, lB, es, ea]
theorem vcdReads (s : Bs) : ∃ h', CL tab5 4 [sv s] H0 = .ok (.bool true) h' := by
  by_cases hbig : 1048576 < s.length
  · obtain ⟨h12, ep, k12⟩ := readLong gd0 s hbig
    refine reads_rest gd0 ep k12 (wr_nil _) (fun h17 g17 => ?_) (by simp) (by simp) (by simp) (by simp) (.inr (by omega))
    obtain ⟨h19, er, k19⟩ := rreadLong g17 s hbig
    exact ⟨h19, _, _, _, _, er, k19, wr_nil _⟩
  · by_cases hmid : 16384 < s.length
    · obtain ⟨h40, ea, -⟩ := awakeS gd0
      refine ⟨h40, c4 good5.step rfl rfl gd0 ?_ (by simp)⟩
      have h1 : (16384 : Int) < ((s.length : Nat) : Int) := by omega
      have h2 : ((s.length : Nat) : Int) ≤ 1048576 := by omega
      simp only [t4_0, W, WW, ↓reduceIte, reduceCtorEq, Nat.reduceAdd, Int.reduceEq, Int.reduceNe, Int.reduceLT, Int.reduceLE, Int.reduceAdd, Int.reduceSub, Int.reduceMul, Int.reduceNeg, Nat.reduceMul, h1, h2, ea]
    · have xp := read3 gd0 s (by omega)
      by_cases hw : ∃ w, writeF w = (s, 0)
      · obtain ⟨w, hw⟩ := hw
        obtain ⟨b1, b2, b3, b4, _⟩ := write_small hw
        obtain ⟨n, wd, f, l, h12, ep, k12, r⟩ := rout_good xp hw (read_back hw)
        refine reads_rest gd0 ep k12 r (fun h17 g17 => ?_) (by omega) b2 b3 b4 (.inl (by omega))
        obtain ⟨n', wd', f', l', h19, er, k19, r'⟩ := rout_good (read5 g17 s (by omega)) hw (rread_back hw)
        exact ⟨h19, n', wd', f', l', er, k19, r'⟩
      · obtain ⟨h12, ep, k12⟩ := rout_bad xp hw
        refine reads_rest gd0 ep k12 (wr_nil _) (fun h17 g17 => ?_) (by simp) (by simp) (by simp) (by simp) (.inl (by omega))
        obtain ⟨h19, er, k19⟩ := rout_bad (read5 g17 s (by omega)) hw
        exact ⟨h19, _, _, _, _, er, k19, wr_nil _⟩
theorem vcdReadsB (s : Bs) (_ : s.length ≤ 9223372036854775807) : ∃ h', CL tab5 4 [sv s] H0 = .ok (.bool true) h' := vcdReads s
end Go.Proofs.YtdccdfmbakbikaaGreatDoor
namespace Go.Proofs.YtdccdfmbakbikaaGreatDoor
open Go
noncomputable abbrev tPow : Nat := ((Tryz.prog.globals[gPow]?).map (·.type)).getD 0
theorem tab_of {W : World} (h : Lib.VarReads Tryz.prog W "internal/strconv.uint64pow10" Rows.laid_internal_strconv_uint64pow10) : Lib.TabIs Tryz.prog W "internal/strconv.uint64pow10" .u64 Lib.pow10Tab := by
  obtain ⟨g', t, cs, fuel, p, e1, e2, e3, e4⟩ := h
  rw [named_pow] at e1
  injection e1 with e1
  subst e1
  rw [show (Tryz.prog.globals[gPow]?).map (·.type) = some tPow by kernel_rfl] at e2
  injection e2 with e2
  subst e2
  have ed : (Rows.laid_internal_strconv_uint64pow10 : DataW Unit) = Lib.tabData .u64 Lib.pow10Tab := by kernel_rfl
  rw [ed] at e4
  unfold Lib.TabIs
  rw [e3, ← Lib.cells_of_tab (P := Tryz.prog) (t := tPow) (e := lay171_ren.t 53) (n := 20) (by kernel_rfl) (by kernel_rfl) (by kernel_rfl) (by kernel_rfl) e4]
theorem err_of {W : World} {n : String} {d : DataW Unit} {g : Nat} (hm : Tryz.prog.globalNamed n = some g) (ht : (Tryz.prog.globals[g]?).map (·.type) = some 46) {name : String} {d' : DataW Unit} (hd : d = .iface name d') (h : Lib.VarReads Tryz.prog W n d) : ∃ v, W.cell? ⟨g, 0, none⟩ = some v ∧ isErr v := by
  subst hd
  obtain ⟨g', t, cs, fuel, p, e1, e2, e3, e4⟩ := h
  rw [hm] at e1
  injection e1 with e1
  subst e1
  rw [ht] at e2
  injection e2 with e2
  subst e2
  obtain ⟨_, u, v, hc, _⟩ := iface_of_trod Tryz.underlying46 e4
  refine ⟨.iface u v, ?_, .inr ⟨u, v, rfl⟩⟩
  unfold World.var? at e3
  rw [hm] at e3
  simp only [Option.bind_some] at e3
  split at e3
  · rename_i c t' fr hh
    injection e3 with e3
    subst e3
    have h0 : c[0]? = some (.iface u v) := by rw [← Array.getElem?_toList, hc]; rfl
    simp only [World.cell?, hh, h0]
    rfl
  · cases e3
theorem ep_of {laid : List (String × DataW Unit)} (h1 : ("internal/strconv.uint64pow10", Rows.laid_internal_strconv_uint64pow10) ∈ laid) (h2 : ("strconv.ErrRange", Rows.laid_strconv_ErrRange) ∈ laid) (hp : (laid.all fun x => x.2.handleName?.isNone) = true)
    (h3 : ("strconv.ErrSyntax", Rows.laid_strconv_ErrSyntax) ∈ laid)
    {W : World} (hs : W.ShapedOpen Tryz.prog) (hl : laidMetH Tryz.prog laid W) {S : I.Sc} (hS : ∀ k, ¬ S.wr k) : EP W S := by
  rw [MakeChecks.laidMetH_plain _ _ _ hp] at hl
  exact ⟨lay219.s1_3 W hs, tab_of (Lib.laidMet.reads hl h1), hS _, hS _, err_of (g := gSyn) (by kernel_rfl) (by kernel_rfl) rfl (Lib.laidMet.reads hl h3), err_of (g := gRng) (by kernel_rfl) (by kernel_rfl) rfl (Lib.laidMet.reads hl h2), hS _, hS _⟩
end Go.Proofs.YtdccdfmbakbikaaGreatDoor
