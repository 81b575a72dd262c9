/- Plain facts on layer 10: the minimal automaton is unique; the laws DfaMinimizeKeeps and DfaClasses. -/
import Derived.Test.YtogpainomdfpnaaPl10j
set_option linter.unusedVariables false
namespace Go.Proofs.Ytogpainomdfpnaa
open Go.Lx

theorem cntN_cons (k : Nat) (a : Int) (l : List Int) : cntN k (a :: l) = cntN (if a = (k : Int) then k + 1 else k) l := rfl
theorem cntN_ge (k : Nat) (l : List Int) : k ≤ cntN k l := by
  induction l generalizing k with
  | nil => exact Nat.le_refl _
  | cons a l ih =>
    rw [cntN_cons]
    refine Nat.le_trans ?_ (ih _)
    split <;> omega
theorem cntN_app (k : Nat) (l r : List Int) : cntN k (l ++ r) = cntN (cntN k l) r := by unfold cntN; rw [List.foldl_append]
theorem cntN_take {k : Nat} {l : List Int} {i j : Nat} (h : i ≤ j) : cntN k (l.take i) ≤ cntN k (l.take j) := by
  have : l.take j = l.take i ++ (l.take j).drop i := by
    conv => lhs; rw [← List.take_append_drop i (l.take j)]
    rw [List.take_take, Nat.min_eq_left h]
  rw [this, cntN_app]
  exact cntN_ge _ _
section
variable {K : Nat}
theorem flat_len : ∀ {rows : List (List Int)}, (∀ r ∈ rows, r.length = K) → rows.flatten.length = rows.length * K
  | [], _ => by simp
  | r :: rows, h => by
    rw [List.flatten_cons, List.length_append, flat_len (fun x hx => h x (by simp [hx])), h r (by simp), List.length_cons, Nat.succ_mul]; omega
theorem flat_take : ∀ {rows : List (List Int)} (i : Nat), (∀ r ∈ rows, r.length = K) → (rows.take i).flatten = rows.flatten.take (i * K)
  | [], i, _ => by simp
  | r :: rows, 0, _ => by simp
  | r :: rows, i + 1, h => by
    have hr := h r (by simp)
    rw [List.take_succ_cons, List.flatten_cons, List.flatten_cons, flat_take i (fun x hx => h x (by simp [hx])), List.take_append, hr, Nat.succ_mul]
    congr 1
    · rw [List.take_of_length_le]; omega
    · congr 1; omega
theorem flat_get : ∀ {rows : List (List Int)} {i c : Nat}, (∀ r ∈ rows, r.length = K) → i < rows.length → c < K → rows.flatten.getD (i * K + c) 0 = (rows.getD i []).getD c 0
  | [], i, c, _, hi, _ => by simp at hi
  | r :: rows, 0, c, h, _, hc => by
    have hr := h r (by simp)
    rw [List.flatten_cons, Nat.zero_mul, Nat.zero_add, getD_app (by omega)]; rfl
  | r :: rows, i + 1, c, h, hi, hc => by
    have hr := h r (by simp)
    have := flat_get (rows := rows) (i := i) (c := c) (fun x hx => h x (by simp [hx])) (by simpa using hi) hc
    rw [List.flatten_cons, List.getD_eq_getElem?_getD, List.getElem?_append_right (by rw [hr, Nat.succ_mul]; omega), hr, Nat.succ_mul, show i * K + K + c - K = i * K + c by omega, ← List.getD_eq_getElem?_getD, this]
    rfl
theorem flat_inj : ∀ {rows rows' : List (List Int)}, (∀ r ∈ rows, r.length = K) → (∀ r ∈ rows', r.length = K) → rows.length = rows'.length → rows.flatten = rows'.flatten → rows = rows'
  | [], [], _, _, _, _ => rfl
  | [], _ :: _, _, _, h, _ => by simp at h
  | _ :: _, [], _, _, h, _ => by simp at h
  | r :: rows, q :: rows', h, h', hl, he => by
    rw [List.flatten_cons, List.flatten_cons] at he
    obtain ⟨e1, e2⟩ := List.append_inj he (by rw [h r (by simp), h' q (by simp)])
    rw [e1, flat_inj (fun x hx => h x (by simp [hx])) (fun x hx => h' x (by simp [hx])) (by simpa using hl) e2]
end
section
variable {m m' : T_DFA} (hm : Canon m) (hm' : Canon m')
include hm in
theorem cls_num {b : Nat} (hb : b < 256) : clsF m b = numI (clsF m) b := by
  have h1 : clsF m b = ((List.range 256).map (numI (clsF m))).getD b 0 := by
    show m.Class.getD b 0 = _
    conv => lhs; rw [hm.cls]
  rw [h1]; simp [List.getD_eq_getElem?_getD, hb]
theorem chr_val {b : Nat} (hb : b < 256) : (UInt8.ofNat b).toNat = b := by simp; omega
/-- Two bytes are of one class if and only if they lead to the same results. -/
def SameB (m : T_DFA) (b b' : Nat) : Prop := ∀ u w : Str, res m 0 (u ++ UInt8.ofNat b :: w) = res m 0 (u ++ UInt8.ofNat b' :: w)
theorem res_app (d : T_DFA) (s : Int) (u w : Str) : res d s (u ++ w) = res d (walkN d s u) w := by simp [res, walkN]
include hm in
theorem eqv_eq {s t : Int} (hs : inR m s) (ht : inR m t) (h : Eqv m s t) (ls : 0 ≤ s → Live m s) (lt : 0 ≤ t → Live m t) : s = t := by
  by_cases h1 : s < 0
  · have := h.neg h1 lt
    have := hs.1; have := ht.1; omega
  · by_cases h2 : t < 0
    · have := h.symm.neg h2 ls; omega
    · have e1 : ((s.toNat : Nat) : Int) = s := by omega
      have e2 : ((t.toNat : Nat) : Int) = t := by omega
      have := hm.ineq s.toNat t.toNat (by have := hs.2; omega) (by have := ht.2; omega) (by rw [e1, e2]; exact h)
      omega
include hm in
theorem sameB_iff {b b' : Nat} (hb : b < 256) (hb' : b' < 256) : clsF m b = clsF m b' ↔ SameB m b b' := by
  constructor
  · intro h u w
    rw [res_app, res_app, res_cons, res_cons, chr_val hb, chr_val hb']
    congr 1
    unfold stepN
    unfold clsF at h
    rw [h]
  · intro h
    refine hm.sep b b' hb hb' fun s hs => ?_
    obtain ⟨u, hu⟩ := hm.reach s hs
    have hin : inR m (s : Int) := ⟨by omega, by omega⟩
    refine eqv_eq hm (stepN_in hm.ok hin hb) (stepN_in hm.ok hin hb') (fun w => ?_) (hm.live _ _ hin hb) (hm.live _ _ hin hb')
    have := h u w
    rwa [res_app, res_app, hu, res_cons, res_cons, chr_val hb, chr_val hb'] at this
include hm hm' in
theorem canon_uniq (hl : ∀ w, res m 0 w = res m' 0 w) : m = m' := by
  have hcls : ∀ b b', b < 256 → b' < 256 → (clsF m b = clsF m b' ↔ clsF m' b = clsF m' b') := by
    intro b b' hb hb'
    rw [sameB_iff hm hb hb', sameB_iff hm' hb hb']
    unfold SameB
    simp only [hl]
  have hnum := num_uniq (σ := clsF m) (τ := clsF m') (n := 256) (fun i j hi hj => hcls i j hi hj) 256 (Nat.le_refl _)
  have hce : ∀ b, b < 256 → clsF m b = clsF m' b := fun b hb => by
    rw [cls_num hm hb, cls_num hm' hb, numI, numI, hnum.2 b hb]
  have hC : m.Class = m'.Class := by
    rw [hm.cls, hm'.cls]
    refine List.map_congr_left fun b hb => ?_
    rw [numI, numI, hnum.2 b (List.mem_range.1 hb)]
  have hK : cols m = cols m' := by rw [hm.cols, hm'.cols, hnum.1]
  have hr : ∀ r ∈ m.Next, r.length = cols m := fun r hr => (hm.ok.row r hr).1
  have hr' : ∀ r ∈ m'.Next, r.length = cols m := fun r hr => by rw [hK]; exact (hm'.ok.row r hr).1
  have hkp := hm.ok.col
  -- entry after entry
  have key : ∀ q, q ≤ m.Next.flatten.length → q ≤ m'.Next.flatten.length → m.Next.flatten.take q = m'.Next.flatten.take q ∧ ∀ j : Nat, j < cntN 1 (m.Next.flatten.take q) → ∀ w, res m (j : Int) w = res m' (j : Int) w := by
    intro q
    induction q with
    | zero =>
      intro _ _
      refine ⟨by simp, fun j hj w => ?_⟩
      have : j = 0 := by simp [cntN] at hj; omega
      subst this
      exact hl w
    | succ q ih =>
      intro h1 h2
      obtain ⟨e1, e2⟩ := ih (by omega) (by omega)
      have l1 := flat_len hr
      have l2 := flat_len hr'
      have hq1 : q / cols m < m.Next.length := Nat.div_lt_of_lt_mul (by rw [Nat.mul_comm]; omega)
      have hq2 : q / cols m < m'.Next.length := Nat.div_lt_of_lt_mul (by rw [Nat.mul_comm]; omega)
      have hc : q % cols m < cols m := Nat.mod_lt _ (by omega)
      have hq : q / cols m * cols m + q % cols m = q := by rw [Nat.mul_comm]; exact Nat.div_add_mod q (cols m)
      generalize hqi : q / cols m = qi at hq1 hq2 hq
      have g1 := flat_get hr hq1 hc
      have g2 := flat_get hr' hq2 hc
      rw [hq] at g1 g2
      obtain ⟨b, hb, eb⟩ := hm.full (q % cols m) hc
      have s1 := step_col (d := m) (s := qi) eb
      have s2 := step_col (d := m') (s := qi) (by rw [← hce b hb]; exact eb)
      rw [← g1] at s1
      rw [← g2] at s2
      -- the states of the row agree
      have hst := hm.start _ hq1
      rw [flat_take _ hr] at hst
      have hrow : ∀ w, res m (qi : Int) w = res m' (qi : Int) w :=
        e2 _ (Nat.lt_of_lt_of_le hst (cntN_take (by omega)))
      have hin1 : inR m (qi : Int) := ⟨by omega, by omega⟩
      have hin2 : inR m' (qi : Int) := ⟨by omega, by omega⟩
      have hv : ∀ w, res m (m.Next.flatten.getD q 0) w = res m' (m'.Next.flatten.getD q 0) w := fun w => by
        have := hrow (UInt8.ofNat b :: w)
        rwa [res_cons, res_cons, chr_val hb, s1, s2] at this
      have hi1 := stepN_in hm.ok hin1 hb
      have hi2 := stepN_in hm'.ok hin2 hb
      have lv1 := hm.live _ _ hin1 hb
      have lv2 := hm'.live _ _ hin2 hb
      rw [s1] at hi1 lv1
      rw [s2] at hi2 lv2
      have c1 := hm.can q (by omega)
      have c2 := hm'.can q (by omega)
      rw [← e1] at c2
      have t1 : m.Next.flatten.take (q + 1) = m.Next.flatten.take q ++ [m.Next.flatten.getD q 0] := by
        rw [List.take_succ_eq_append_getElem (by omega), List.getD_eq_getElem?_getD, List.getElem?_eq_getElem (by omega)]; rfl
      have t2 : m'.Next.flatten.take (q + 1) = m'.Next.flatten.take q ++ [m'.Next.flatten.getD q 0] := by
        rw [List.take_succ_eq_append_getElem (by omega), List.getD_eq_getElem?_getD, List.getElem?_eq_getElem (by omega)]; rfl
      generalize m.Next.flatten.getD q 0 = v at *
      generalize m'.Next.flatten.getD q 0 = v' at *
      have hvv : v = v' := by
        by_cases n1 : v < 0
        · have n2 : v' < 0 := by
            by_cases n2 : 0 ≤ v'
            · obtain ⟨w, hw⟩ := lv2 n2
              have := hv w
              rw [res_neg n1] at this; omega
            · omega
          have := hi1.1; have := hi2.1; omega
        · have n2 : 0 ≤ v' := by
            by_cases n2 : v' < 0
            · obtain ⟨w, hw⟩ := lv1 (by omega)
              have := hv w
              rw [res_neg n2] at this; omega
            · omega
          by_cases k1 : v < (cntN 1 (m.Next.flatten.take q) : Int)
          · have hj := e2 v.toNat (by omega)
            rw [show ((v.toNat : Nat) : Int) = v by omega] at hj
            have hcnt : cntN 1 (m'.Next.flatten.take q) ≤ m'.Next.length := by
              rw [← hm'.cnt]
              conv => rhs; rw [← List.take_length (l := m'.Next.flatten)]
              exact cntN_take (by omega)
            rw [e1] at k1
            have := hm'.ineq v.toNat v'.toNat (by omega) (by have := hi2.2; omega) (fun w => by
              rw [show ((v.toNat : Nat) : Int) = v by omega, show ((v'.toNat : Nat) : Int) = v' by omega, ← hj w, hv w])
            omega
          · by_cases k2 : v' < (cntN 1 (m.Next.flatten.take q) : Int)
            · have hj := e2 v'.toNat (by omega)
              rw [show ((v'.toNat : Nat) : Int) = v' by omega] at hj
              have hcnt : cntN 1 (m.Next.flatten.take q) ≤ m.Next.length := by
                rw [← hm.cnt]
                conv => rhs; rw [← List.take_length (l := m.Next.flatten)]
                exact cntN_take (by omega)
              have := hm.ineq v.toNat v'.toNat (by have := hi1.2; omega) (by omega) (fun w => by
                rw [show ((v.toNat : Nat) : Int) = v by omega, show ((v'.toNat : Nat) : Int) = v' by omega, hj w, hv w])
              omega
            · omega
      subst hvv
      refine ⟨by rw [t1, t2, e1], fun j hj => ?_⟩
      rw [t1, cntN_snoc] at hj
      split at hj
      · rename_i hvc
        by_cases ej : j = cntN 1 (m.Next.flatten.take q)
        · rw [ej, ← hvc]; exact hv
        · exact e2 j (by omega)
      · exact e2 j hj
  have l1 := flat_len hr
  have l2 := flat_len hr'
  have hn : m.Next.length = m'.Next.length := by
    rcases Nat.lt_trichotomy m.Next.length m'.Next.length with h | h | h
    · exfalso
      have hle : m.Next.flatten.length ≤ m'.Next.flatten.length := by rw [l1, l2]; exact Nat.mul_le_mul_right _ (by omega)
      obtain ⟨e1, _⟩ := key m.Next.flatten.length (Nat.le_refl _) hle
      have hs := hm'.start _ h
      rw [flat_take _ hr', ← l1, ← e1, List.take_length, hm.cnt] at hs
      omega
    · exact h
    · exfalso
      have hle : m'.Next.flatten.length ≤ m.Next.flatten.length := by rw [l1, l2]; exact Nat.mul_le_mul_right _ (by omega)
      obtain ⟨e1, _⟩ := key m'.Next.flatten.length hle (Nat.le_refl _)
      have hs := hm.start _ h
      rw [flat_take _ hr, ← l2, e1, List.take_length, hm'.cnt] at hs
      omega
  obtain ⟨e1, e2⟩ := key m.Next.flatten.length (Nat.le_refl _) (by rw [l1, l2, hn]; exact Nat.le_refl _)
  have e3 : m.Next.flatten = m'.Next.flatten := by
    rw [List.take_length] at e1
    rw [e1, List.take_of_length_le]
    rw [l1, l2, hn]; exact Nat.le_refl _
  have hN := flat_inj hr hr' hn e3
  have hA : m.Accept = m'.Accept := by
    have a1 := hm.ok.acc
    have a2 := hm'.ok.acc
    apply List.ext_getElem (by omega)
    intro j h1 h2
    rw [List.take_length, hm.cnt] at e2
    have := e2 j (by omega) []
    rw [res_nil, res_nil] at this
    unfold accN at this
    rw [if_neg (by omega), if_neg (by omega), Int.toNat_natCast, List.getD_eq_getElem?_getD, List.getD_eq_getElem?_getD, List.getElem?_eq_getElem h1, List.getElem?_eq_getElem h2] at this
    exact this
  cases m; cases m'
  simp only at hC hN hA
  rw [hC, hN, hA]
end
/-! ### equal automata -/
theorem Ints_self {l : List Int} (hl : l.length ≤ 9223372036854775807) : M.ref07_Ints l l = some true := by
  refine Is.eq ?_
  unfold M.ref07_Ints
  refine Is.cf (bne_f rfl) (Is.bs (P := fun _ => True) (Is.upto (fun i st => st = (i : Int)) l.length hl rfl ?_ ?_) (fun _ _ => Is.pure rfl))
  · rintro i _ hi rfl
    exact Is.dt (by omega) (Is.bnq (idxL_nat hi) (Is.bnq (idxL_nat hi) (Is.cf (bne_f rfl) (Is.bnq (chk_succ (by omega)) (Is.next rfl)))))
  · rintro _ rfl
    exact Is.df (by omega) (Is.stop trivial)
theorem Same_self {d : T_DFA} (hd : okD d) : M.ref10_Same d d = some true := by
  obtain ⟨h1, h2, h3, h4⟩ := hd
  refine Is.eq ?_
  unfold M.ref10_Same
  refine Is.bnd (P := fun b => b = false) (Is.cf (bne_f rfl) (Is.bnq (Ints_self h1) (Is.cf rfl (Is.bnq (Ints_self h4) (Is.pure rfl))))) ?_
  rintro _ rfl
  refine Is.cf rfl (Is.bs (P := fun _ => True) (Is.upto (fun i st => st = (i : Int)) d.Next.length h2 rfl ?_ ?_) (fun _ _ => Is.pure rfl))
  · rintro i _ hi rfl
    exact Is.dt (by omega) (Is.bnq (idxL_nat hi) (Is.bnq (idxL_nat hi) (Is.bnq (Ints_self (h3 _ (List.getElem_mem hi))) (Is.cf rfl (Is.bnq (chk_succ (by omega)) (Is.next rfl))))))
  · rintro _ rfl
    exact Is.df (by omega) (Is.stop trivial)
theorem canon_okD {m : T_DFA} (h : Canon m) : okD m := by
  have h1 := h.ok.cls
  have h2 := h.ok.max
  have h3 := h.ok.acc
  have h4 := cols_256 h.full
  exact ⟨by omega, by omega, fun r hr => by rw [(h.ok.row r hr).1]; omega, by omega⟩
theorem accs_le {d : T_DFA} (ok : okT_DFA d) : ∀ a ∈ d.Accept, a ≤ 9223372036854775807 := fun a ha => (ok.2.2.1 a ha).2
theorem law_minimizeKeeps (x0 : T_DFA) (ok0 : okT_DFA x0) (x1 : Str) (ok1 : x1.length ≤ maxLen) : M.law10_DfaMinimizeKeeps x0 x1 = some true := by
  have hd := okd_of ok0
  have hw := mlen _ ok1
  refine Is.eq ?_
  unfold M.law10_DfaMinimizeKeeps
  refine Is.bnd (P := fun s => s = false → Ok x0) ?_ fun s hs => ?_
  · refine Is.bnd (Valid_is hd) fun v hv => Is.cnd (fun _ => Is.pure fun h => by cases h) fun e => ?_
    have hok := hv.1 (by simpa using e)
    exact Is.bnd (Small_is hd 12 8) fun s1 _ => Is.cnd (fun _ => Is.pure fun h => by cases h) fun _ => Is.pure fun _ => hok
  refine Is.cnd (fun _ => Is.bnq awake_true (Is.pure rfl)) fun h => ?_
  have hok := hs h
  refine Is.bnd (Minimize_is hok (accs_le ok0)) fun m ⟨hm, hres, hle, hacc⟩ => ?_
  refine Is.bnd (P := fun b => b = false) ?_ ?_
  · refine Is.bnd (refValid_is (canon_okD hm)) fun v hv => ?_
    have : v = true := hv.2 hm.ok
    subst this
    exact Is.cf rfl (Is.pure (dec_f (by omega)))
  rintro _ rfl
  refine Is.cf rfl (Is.bnd (P := fun b => b = true) ?_ fun b hb => Is.pure hb)
  refine Is.bnq awake_true (Is.ct rfl (Is.bnq (Run_eq hm.ok hw) (Is.bnq (Run_eq hok hw) (Is.ct (beq_t (hres x1)) ?_))))
  refine Is.bnd (Minimize_is hm.ok hacc) fun m' ⟨hm', hres', _, _⟩ => ?_
  have := canon_uniq hm' hm hres'
  subst this
  exact Is.bnq (Same_self (canon_okD hm)) (Is.pure rfl)
theorem law_classes10 (x0 : T_DFA) (ok0 : okT_DFA x0) (x1 : Vec 2) (ok1 : ∀ x ∈ x1.1, IOk .u8 x) : M.law10_DfaClasses x0 x1 = some true := by
  have hd := okd_of ok0
  refine Is.eq ?_
  unfold M.law10_DfaClasses
  refine Is.bnd (Small_is hd 12 8) fun s hs => Is.cnd (fun _ => Is.bnq awake_true (Is.pure rfl)) fun e => ?_
  have hok := (hs (by simpa using e)).1
  refine Is.bnd (Minimize_is hok (accs_le ok0)) fun m ⟨hm, hres, hle, hacc⟩ => ?_
  refine Is.bnd (refValid_is (canon_okD hm)) fun v hv => ?_
  have : v = true := hv.2 hm.ok
  subst this
  have hget : ∀ i : Nat, i < 2 → ∃ b : Nat, b < 256 ∧ vget x1 (i : Int) = some (b : Int) := by
    intro i hi
    have hl : i < x1.1.length := by rw [x1.2]; exact hi
    have hb := ok1 _ (List.getElem_mem hl)
    unfold IOk at hb
    simp [IntKind.min, IntKind.max, IntKind.bits, IntKind.signed] at hb
    refine ⟨(x1.1[i]).toNat, by omega, ?_⟩
    unfold vget
    rw [if_pos (by omega), Int.toNat_natCast, List.getElem?_eq_getElem hl]
    congr 1; omega
  obtain ⟨b1, hb1, e1⟩ := hget 0 (by omega)
  obtain ⟨b2, hb2, e2⟩ := hget 1 (by omega)
  refine Is.cf rfl (Is.bnq e1 (Is.bnq (class_get hm.ok hb1) (Is.bnq e2 (Is.bnq (class_get hm.ok hb2) ?_))))
  have hmax := hm.ok.max
  have c1 := cls_lt hm.ok hb1
  have c2 := cls_lt hm.ok hb2
  have g1 : ∀ (s b : Nat), s < m.Next.length → b < 256 → ∃ row, idxL m.Next (s : Int) = some row ∧ idxL row (clsF m b) = some (stepN m (s : Int) b) := by
    intro s b hs hb
    have hc := cls_lt hm.ok hb
    have hr := row_get hm.ok hs
    refine ⟨m.Next.getD s [], ?_, ?_⟩
    · rw [idxL_nat hs, List.getD_eq_getElem?_getD, List.getElem?_eq_getElem hs]; rfl
    · show idxL _ (m.Class.getD b 0) = _
      rw [idxL_int (d := 0) hc.1 (by rw [hr.1]; exact hc.2)]
      unfold stepN
      rw [if_neg (by omega)]; rfl
  refine Is.bnd (P := fun b => b = true ↔ ∀ s : Nat, s < m.Next.length → stepN m (s : Int) b1 = stepN m (s : Int) b2) ?_ ?_
  · refine Is.upto (fun i st => st.2 = (i : Int) ∧ (st.1 = true ↔ ∀ s : Nat, s < i → stepN m (s : Int) b1 = stepN m (s : Int) b2)) m.Next.length (by omega) ⟨rfl, by simp⟩ ?_ ?_
    · rintro i ⟨b, _⟩ hi ⟨rfl, hb⟩
      simp only [] at hb ⊢
      refine Is.dt (by omega) ?_
      cases b
      · refine Is.cf rfl (Is.bnq (chk_succ (by omega)) (Is.next ⟨rfl, fun h => (by cases h), fun h => ?_⟩))
        exact hb.2 fun s hs => h s (by omega)
      · obtain ⟨row, h1, h2⟩ := g1 i b1 hi hb1
        obtain ⟨row', h3, h4⟩ := g1 i b2 hi hb2
        rw [h1] at h3
        cases h3
        refine Is.ct rfl (Is.bnq h1 (Is.bnq h2 (Is.bnq h4 (Is.bnq (chk_succ (by omega)) (Is.next ⟨rfl, ?_⟩)))))
        simp only [beq_iff_eq]
        constructor
        · intro h s hs
          by_cases es : s = i
          · subst es; exact h
          · exact hb.1 rfl s (by omega)
        · intro h; exact h i (by omega)
    · rintro ⟨b, _⟩ ⟨rfl, hb⟩
      exact Is.df (by omega) (Is.stop hb)
  intro same hsame
  have hnD : ∀ i, i ≤ 256 → (D (clsF m) i).length ≤ i := fun i _ => D_len _ _
  refine Is.bs (P := fun n => n = ((D (clsF m) 256).length : Int)) ?_ ?_
  · refine Is.upto (fun i st => st.2 = (i : Int) ∧ st.1 = ((D (clsF m) i).length : Int)) 256 (by omega) ⟨rfl, rfl⟩ ?_ ?_
    · rintro i ⟨_, _⟩ hi ⟨rfl, rfl⟩
      simp only []
      have hD := D_len (clsF m) i
      have hc := cls_num hm hi
      refine Is.dt (by omega) (Is.bs (P := fun n => n = ((D (clsF m) (i + 1)).length : Int)) ?_ ?_)
      · refine Is.bnq (class_get hm.ok hi) ?_
        by_cases hmem : clsF m i ∈ D (clsF m) i
        · have h1 := num_old hmem
          rw [D_old hmem]
          refine Is.df (by rw [hc, numI]; omega) (Is.cf (beq_f (by rw [hc, numI]; omega)) (Is.next rfl))
        · have h1 := num_new hmem
          rw [D_new hmem]
          refine Is.df (by rw [hc, numI]; omega) (Is.ct (beq_t (by rw [hc, numI]; omega)) (Is.bnq (chk_succ (by omega)) (Is.next (by simp))))
      · rintro _ rfl
        exact Is.bnq (chk_succ (by omega)) (Is.next ⟨rfl, rfl⟩)
    · rintro ⟨_, _⟩ ⟨rfl, rfl⟩
      exact Is.df (by omega) (Is.stop rfl)
  rintro _ rfl
  refine Is.bnd (P := fun b => b = true) ?_ fun b hb => Is.pure hb
  refine Is.bnq awake_true (Is.ct rfl (Is.ct ?_ (Is.bnq (head_idx hm.ok.pos) (Is.ct ?_ ?_))))
  · rw [beq_iff_eq, Bool.eq_iff_iff, hsame, beq_iff_eq]
    constructor
    · intro h s hs
      unfold stepN
      unfold clsF at h
      rw [h]
    · exact hm.sep b1 b2 hb1 hb2
  · have := hm.cols
    unfold cols at this
    rw [this]; simp
  · refine Is.bnd (Minimize_is hm.ok hacc) fun m' ⟨hm', hres', _, _⟩ => ?_
    have := canon_uniq hm' hm hres'
    subst this
    exact Is.bnq (Ints_self (canon_okD hm).1) (Is.pure rfl)
end Go.Proofs.Ytogpainomdfpnaa
