/- Plain facts on layer 9: validity, closures, steps and runs: six laws. -/
import Derived.Test.YtajmekjcnbmaaaaPlNfv
import Derived.Test.YtajmekjcnbmaaaaPl09n
import Derived.Test.YtajmekjcnbmaaaaTyp
namespace Go.Proofs.Ytajmekjcnbmaaaa
open Go.Lx

theorem mlen9 (l : Nat) (h : l ≤ maxLen) : l ≤ 9223372036854775807 := by simpa [maxLen] using h
theorem okarc9 {n : T_NFA} (ok : okT_NFA n) : n.Arcs.length ≤ 9223372036854775807 ∧ n.Accept.length ≤ 9223372036854775807 ∧ ∀ a ∈ n.Arcs, W4 a.Set := by
  obtain ⟨_, _, h3, h4⟩ := ok
  refine ⟨mlen9 _ h3.2, mlen9 _ h4.2, fun a ha => ?_⟩
  obtain ⟨_, _, h⟩ := h3.1 a ha
  exact w4_of h.2
theorem same9 {l : List Int} (h : l.length ≤ 1000000000) : M.ref09_Same l l = some true := by
  refine Is.eq ?_
  unfold M.ref09_Same
  refine Is.cf (by simp) (Is.bs (P := fun _ => True) ?_ (fun _ _ => Is.pure rfl))
  refine Is.upto (fun i (st : Int) => st = (i : Int)) l.length (by omega) rfl ?_ ?_
  · rintro i _ hi rfl
    refine Is.dt (by omega) (Is.bnq (idxL_nat hi) (Is.bnq (idxL_nat hi) (Is.cf (by simp) (Is.bnq (chk_succ (by omega)) (Is.next rfl)))))
  · rintro _ rfl
    exact Is.df (by omega) (Is.stop trivial)
theorem light_is {n : T_NFA} (ok : okT_NFA n) : Is (M.law09_light n) (fun b => b = true → n.Arcs.length ≤ 60 ∧ n.States ≤ 40 ∧ VN n) := by
  obtain ⟨h1, h2, _⟩ := okarc9 ok
  unfold M.law09_light
  refine Is.bnd (P := fun b => b = true → n.Arcs.length ≤ 60 ∧ n.States ≤ 40 ∧ VN n) ?_ fun b hb => Is.pure hb
  refine Is.dcd (fun ha => Is.dcd (fun hs => ?_) (fun _ => Is.pure (by simp))) (fun _ => Is.pure (by simp))
  exact Is.bnd (refValidN_is h1 h2) fun b hb => Is.pure fun h => ⟨by omega, hs, hb.1 h⟩
theorem light_fit {n : T_NFA} (ok : okT_NFA n) (h : n.Arcs.length ≤ 60 ∧ n.States ≤ 40 ∧ VN n) : FitN n := h.2.2.fit (by omega) (okarc9 ok).2.2
theorem Run9_ok {n : T_NFA} (hn : FitN n) {s : Str} (hs : s.length ≤ 1000000) : M.nfa_Run n s = some (runN n s) := by
  refine Is.eq ?_
  unfold M.nfa_Run
  refine Is.bnq (closure_ok hn (by simp)) ?_
  refine Is.bnq (x := stps n [n.Start] s) ?_ ?_
  · refine Is.eq ?_
    have hbl : (bytesL s).length = s.length := by simp [bytesL]
    refine Is.upto (fun i (st : List Int × Int) => st.2 = (i : Int) ∧ st.1 = ((s.take i).map UInt8.toNat).foldl (stp n) (clo n [n.Start])) s.length (by omega) ⟨rfl, rfl⟩ ?_ ?_
    · rintro i ⟨l, _⟩ hi ⟨rfl, h1⟩
      obtain rfl : l = _ := h1
      have hl := (best_clo hn _ (stps_in (n := n) ((s.take i).map UInt8.toNat) _ ⟨[n.Start], rfl⟩)).2
      have hix : idxL (bytesL s) (i : Int) = some ((s[i].toNat : Nat) : Int) := by rw [idxL_nat (by omega)]; simp [bytesL]
      refine Is.dt (by omega) (Is.bnq hix (Is.bnq (step_ok hn (by omega) (s[i]).toNat_lt) (Is.bnq (chk_succ (by omega)) (Is.next ⟨rfl, ?_⟩))))
      rw [List.take_add_one, List.getElem?_eq_getElem hi, List.map_append, List.foldl_append]
      rfl
    · rintro ⟨l, _⟩ ⟨rfl, h1⟩
      obtain rfl : l = _ := h1
      refine Is.df (by omega) (Is.stop ?_)
      rw [List.take_length]
      rfl
  have hl := best_clo hn _ (stps_in (n := n) (s.map UInt8.toNat) _ ⟨[n.Start], rfl⟩)
  have hl2 : (stps n [n.Start] s).length ≤ 1000000000 := Nat.le_trans hl.2 (by decide)
  exact Is.bnq (best_loop hl.1 hl2 (fun _ _ => rfl)) (Is.pure rfl)

theorem law_valid9 (x0 : T_NFA) (ok0 : okT_NFA x0) : M.law09_NfaValidMatchesReference x0 = some true := by
  obtain ⟨h1, h2, _⟩ := okarc9 ok0
  refine Is.eq ?_
  unfold M.law09_NfaValidMatchesReference
  refine Is.bnq awake_true (Is.cf rfl (Is.bnq (x := true) (Is.eq ?_) (Is.pure rfl)))
  refine Is.dcd (fun _ => Is.pure rfl) (fun _ => Is.bnd (validN_is h1 h2) fun v hv => Is.bnd (refValidN_is h1 h2) fun u hu => Is.pure ?_)
  rw [beq_iff_eq, Bool.eq_iff_iff, hv, hu]
/-- The laws' preconditions. -/
theorem pre9 {n : T_NFA} (ok : okT_NFA n) {k : Nat} {q : Option Bool} {Q : Prop} (hq : Is q (fun b => b = false → Q)) :
    Is ((M.law09_light n).bind fun rv3 => bif (!rv3) then some true else q) (fun b => b = false → (n.Arcs.length ≤ 60 ∧ n.States ≤ 40 ∧ VN n) ∧ Q) :=
  Is.bnd (light_is ok) fun b hb => Is.cnd (fun _ => Is.pure (by simp)) (fun h => hq.mono fun c hc e => ⟨hb (by simpa using h), hc e⟩)
theorem law_closure9 (x0 : T_NFA) (ok0 : okT_NFA x0) (x1 : List Int) (ok1 : (fun l => (∀ x ∈ l, (IOk .i64) x) ∧ l.length ≤ maxLen) x1) : M.law09_NfaClosureIsLeastFixpoint x0 x1 = some true := by
  refine Is.eq ?_
  unfold M.law09_NfaClosureIsLeastFixpoint
  refine Is.bnq awake_true (Is.cf rfl ?_)
  refine Is.bnd (pre9 (k := 0) ok0 (Q := x1.length ≤ 60) (Is.pure fun h => by have := of_decide_eq_false h; omega)) fun b hb => Is.cnd (fun _ => Is.pure rfl) (fun h => ?_)
  obtain ⟨hf, hl⟩ := hb h
  have hn := light_fit ok0 hf
  have hs := clo_small hn (S := x1)
  refine Is.bnq (closure_ok hn (by omega)) (Is.bnq (x := true) (Is.eq ?_) (Is.pure rfl))
  refine Is.bnq (refClosure_ok hn (by omega)) (Is.bnq (same9 (by omega)) (Is.ct rfl ?_))
  refine Is.bnq (closure_ok hn (by omega)) ?_
  rw [clo_clo hn]
  exact Is.bnq (same9 (by omega)) (Is.pure rfl)
theorem u8_nat {x : Int} (h : (IOk .u8) x) : ∃ b : Nat, b < 256 ∧ x = b := by
  obtain ⟨h0, h1⟩ := h
  have h0 : 0 ≤ x := h0
  have h1 : x ≤ 255 := h1
  obtain ⟨n, rfl⟩ := Int.eq_ofNat_of_zero_le h0
  exact ⟨n, by omega, rfl⟩
theorem law_step9 (x0 : T_NFA) (ok0 : okT_NFA x0) (x1 : List Int) (ok1 : (fun l => (∀ x ∈ l, (IOk .i64) x) ∧ l.length ≤ maxLen) x1) (x2 : Int) (ok2 : (IOk .u8) x2) : M.law09_NfaStepMatchesReference x0 x1 x2 = some true := by
  obtain ⟨b, hb, rfl⟩ := u8_nat ok2
  refine Is.eq ?_
  unfold M.law09_NfaStepMatchesReference
  refine Is.bnq awake_true (Is.cf rfl ?_)
  refine Is.bnd (pre9 (k := 0) ok0 (Q := x1.length ≤ 60) (Is.pure fun h => by have := of_decide_eq_false h; omega)) fun c hc => Is.cnd (fun _ => Is.pure rfl) (fun h => ?_)
  obtain ⟨hf, hl⟩ := hc h
  have hn := light_fit ok0 hf
  have hs := clo_small hn (S := tgt x0 (clo x0 x1) b)
  refine Is.bnq (step_ok hn (by omega) hb) (Is.bnq (refStep_ok hn (by omega) hb) (Is.bnq (same9 ?_) (Is.pure rfl)))
  exact Nat.le_trans hs (by decide)
theorem law_run9 (x0 : T_NFA) (ok0 : okT_NFA x0) (x1 : Str) (ok1 : (fun s : Str => s.length ≤ maxLen) x1) : M.law09_NfaRunMatchesReference x0 x1 = some true := by
  refine Is.eq ?_
  unfold M.law09_NfaRunMatchesReference
  refine Is.bnq awake_true (Is.cf rfl ?_)
  refine Is.bnd (pre9 (k := 0) ok0 (Q := x1.length ≤ 30) (Is.pure fun h => by have := of_decide_eq_false h; omega)) fun c hc => Is.cnd (fun _ => Is.pure rfl) (fun h => ?_)
  obtain ⟨hf, hl⟩ := hc h
  have hn := light_fit ok0 hf
  exact Is.bnq (Run9_ok hn (by omega)) (Is.bnq (refRun_ok hn (by omega)) (Is.pure (by simp)))
theorem law_comp9 (x0 : T_NFA) (ok0 : okT_NFA x0) (x1 : Str) (ok1 : (fun s : Str => s.length ≤ maxLen) x1) (x2 : Str) (ok2 : (fun s : Str => s.length ≤ maxLen) x2) : M.law09_NfaRunIsCompositional x0 x1 x2 = some true := by
  refine Is.eq ?_
  unfold M.law09_NfaRunIsCompositional
  refine Is.bnq awake_true (Is.cf rfl ?_)
  refine Is.bnd (pre9 (k := 0) ok0 (Q := x1.length ≤ 20 ∧ x2.length ≤ 20) (Is.dcd (fun _ => Is.pure (by simp)) (fun h1 => Is.pure fun h => by have := of_decide_eq_false h; omega))) fun c hc => Is.cnd (fun _ => Is.pure rfl) (fun h => ?_)
  obtain ⟨hf, hl⟩ := hc h
  have hn := light_fit ok0 hf
  have hu : (x1 ++ x2).length ≤ 40 := by rw [List.length_append]; omega
  refine Is.bnq (closure_ok hn (by simp)) (Is.bnq (x := x1 ++ x2) (by unfold catS; rw [if_pos (by omega)]) ?_)
  generalize x1 ++ x2 = s at hu ⊢
  have hl2 := best_clo hn _ (stps_in (n := x0) (s.map UInt8.toNat) _ ⟨[x0.Start], rfl⟩)
  refine Is.bnq (x := stps x0 [x0.Start] s) ?_ ?_
  · refine Is.eq ?_
    refine Is.upto (fun i (st : List Int × Int) => st.2 = (i : Int) ∧ st.1 = ((s.take i).map UInt8.toNat).foldl (stp x0) (clo x0 [x0.Start])) s.length (by omega) ⟨rfl, rfl⟩ ?_ ?_
    · rintro i ⟨l, _⟩ hi ⟨rfl, h1⟩
      obtain rfl : l = _ := h1
      have hl := (best_clo hn _ (stps_in (n := x0) ((s.take i).map UInt8.toNat) _ ⟨[x0.Start], rfl⟩)).2
      refine Is.dt (by omega) (Is.bnq (idxS_nat hi) (Is.bnq (step_ok hn (by omega) (s[i]).toNat_lt) (Is.bnq (chk_succ (by omega)) (Is.next ⟨rfl, ?_⟩))))
      rw [List.take_add_one, List.getElem?_eq_getElem hi, List.map_append, List.foldl_append]
      rfl
    · rintro ⟨l, _⟩ ⟨rfl, h1⟩
      obtain rfl : l = _ := h1
      refine Is.df (by omega) (Is.stop ?_)
      rw [List.take_length]
      rfl
  have hL : (stps x0 [x0.Start] s).length ≤ 2000 := hl2.2
  have hin : ∀ q ∈ stps x0 [x0.Start] s, 0 ≤ q ∧ q < x0.States := by
    obtain ⟨T, hT⟩ := stps_in (n := x0) (s.map UInt8.toNat) _ ⟨[x0.Start], rfl⟩
    have hT : stps x0 [x0.Start] s = clo x0 T := hT
    rw [hT]
    intro q hq
    have := clo_in hn q hq
    omega
  refine Is.bs (P := fun _ => True) ?_ fun _ _ => ?_
  · refine Is.upto (fun i (st : Int) => st = (i : Int)) (stps x0 [x0.Start] s).length (by omega) rfl ?_ ?_
    · rintro i _ hi rfl
      have he := hin _ (List.getElem_mem hi)
      refine Is.dt (by omega) (Is.bnq (x := false) (Is.eq ?_) (Is.cf rfl (Is.bnq (chk_succ (by omega)) (Is.next rfl))))
      exact Is.bnq (idxL_nat hi) (Is.df (by omega) (Is.pure (decide_eq_false (by omega))))
    · rintro _ rfl
      exact Is.df (by omega) (Is.stop trivial)
  exact Is.bnq (Run9_ok hn (by omega)) (Is.bnq (Accepted_ok hl2.1 (by have := hl2.2; exact Nat.le_trans hl2.2 (by decide))) (Is.pure (by simp [runN])))
/-! ### more states lead to more states -/
theorem clo_sorted (n : T_NFA) (S : List Int) : (clo n S).Pairwise (· < ·) := by
  unfold clo
  refine List.pairwise_map.2 (List.Pairwise.imp ?_ (List.Pairwise.filter _ List.pairwise_lt_range))
  intro a b h; omega
theorem clo_mono {n : T_NFA} (hn : FitN n) {S T : List Int} (h : ∀ x ∈ S, x ∈ T) : ∀ x ∈ clo n S, x ∈ clo n T := by
  intro x hx
  rw [mem_clo hn] at hx ⊢
  induction hx with
  | base hs h0 h1 => exact .base (h _ hs) h0 h1
  | arc ha he _ ih => exact .arc ha he ih
theorem tgt_mono {n : T_NFA} {S T : List Int} {b : Nat} (h : ∀ x ∈ S, x ∈ T) : ∀ x ∈ tgt n S b, x ∈ tgt n T b := by
  intro x hx
  unfold tgt at hx ⊢
  rw [List.mem_map] at hx ⊢
  obtain ⟨a, ha, rfl⟩ := hx
  rw [List.mem_filter] at ha
  refine ⟨a, List.mem_filter.2 ⟨ha.1, ?_⟩, rfl⟩
  have h2 := ha.2
  simp only [Bool.and_eq_true, decide_eq_true_eq] at h2 ⊢
  exact ⟨h2.1, h _ h2.2.1, h2.2.2⟩
theorem stp_mono {n : T_NFA} (hn : FitN n) {S T : List Int} {b : Nat} (h : ∀ x ∈ S, x ∈ T) : ∀ x ∈ stp n S b, x ∈ stp n T b := clo_mono hn (tgt_mono (clo_mono hn h))
theorem pair_lt {l : List Int} (h : l.Pairwise (· < ·)) {i j : Nat} (hi : i < l.length) (hj : j < l.length) (hij : i < j) : l[i] < l[j] := List.pairwise_iff_getElem.1 h i j hi hj hij
theorem pair_le {l : List Int} (h : l.Pairwise (· < ·)) {i j : Nat} (hi : i < l.length) (hj : j < l.length) (hij : i ≤ j) : l[i] ≤ l[j] := by
  rcases Nat.lt_or_eq_of_le hij with h1 | rfl
  · exact Int.le_of_lt (pair_lt h hi hj h1)
  · exact Int.le_refl _
theorem pair_inv {l : List Int} (h : l.Pairwise (· < ·)) {i j : Nat} (hi : i < l.length) (hj : j < l.length) (hij : l[i] < l[j]) : i < j := by
  rcases Nat.lt_or_ge i j with h1 | h1
  · exact h1
  · have := pair_le h hj hi h1; omega
theorem subL_tail {x : Int} {l : List Int} (h : l.length ≤ 60) : subL (x :: l) 1 ((x :: l).length : Int) = some l := by
  unfold subL
  rw [if_pos ⟨by omega, by simp only [List.length_cons]; omega, by omega⟩]
  simp
theorem law_mono9 (x0 : T_NFA) (ok0 : okT_NFA x0) (x1 : List Int) (ok1 : (fun l => (∀ x ∈ l, (IOk .i64) x) ∧ l.length ≤ maxLen) x1) (x2 : Int) (ok2 : (IOk .u8) x2) : M.law09_NfaStepIsMonotone x0 x1 x2 = some true := by
  obtain ⟨b, hb, rfl⟩ := u8_nat ok2
  refine Is.eq ?_
  unfold M.law09_NfaStepIsMonotone
  refine Is.bnq awake_true (Is.cf rfl ?_)
  refine Is.bnd (pre9 (k := 0) ok0 (Q := x1.length ≤ 60 ∧ x1 ≠ []) (Is.dcd (fun _ => Is.pure (by simp)) (fun h1 => Is.pure fun h => ⟨by omega, fun e => by subst e; simp at h⟩))) fun c hc => Is.cnd (fun _ => Is.pure rfl) (fun h => ?_)
  obtain ⟨hf, hl, hne⟩ := hc h
  have hn := light_fit ok0 hf
  match x1, hne with
  | x :: t, _ =>
    simp only [List.length_cons] at hl
    refine Is.bnq (subL_tail (by omega)) (Is.bnq (step_ok hn (by simp only [List.length_cons]; omega) hb) (Is.bnq (step_ok hn (by omega) hb) ?_))
    have hsub := stp_mono hn (b := b) (S := t) (T := x :: t) (fun y hy => List.mem_cons_of_mem _ hy)
    have s1 : (stp x0 (x :: t) b).Pairwise (· < ·) := clo_sorted _ _
    have s2 : (stp x0 t b).Pairwise (· < ·) := clo_sorted _ _
    have l1 : (stp x0 (x :: t) b).length ≤ 2000 := clo_small hn
    have l2 : (stp x0 t b).length ≤ 2000 := clo_small hn
    generalize stp x0 (x :: t) b = l at hsub s1 l1
    generalize stp x0 t b = m at hsub s2 l2
    refine Is.bs (P := fun _ => True) ?_ fun _ _ => Is.pure rfl
    refine Is.upto (fun i (st : Int × Int) => st.2 = (i : Int) ∧ ∃ k : Nat, st.1 = (k : Int) ∧ ∀ (j p : Nat) (hj : j < m.length) (hp : p < l.length), i ≤ j → l[p] = m[j] → k ≤ p) m.length (by omega) ⟨rfl, 0, rfl, fun _ _ _ _ _ _ => Nat.zero_le _⟩ ?_ ?_
    · rintro i ⟨_, _⟩ hi ⟨rfl, k, rfl, hk⟩
      obtain ⟨p, hp, hpe⟩ := List.mem_iff_getElem.1 (hsub _ (List.getElem_mem hi))
      refine Is.dt (by omega) (Is.bs (P := fun q : Int => q = (p : Int)) ?_ ?_)
      · refine Is.bnq (x := (p : Int)) (Is.eq ?_) ?_
        · refine Is.while (fun q : Int => ∃ k : Nat, q = (k : Int) ∧ k ≤ p) (fun q => 5000 - q.toNat) ⟨k, rfl, hk i p hi hp (Nat.le_refl _) hpe⟩ (by omega) ?_
          rintro _ ⟨k, rfl, hkp⟩
          have hkl : k < l.length := by omega
          refine Is.bnq (x := decide (l[k] < m[i])) (Is.eq (Is.dt (by omega) (Is.bnq (idxL_nat hkl) (Is.bnq (idxL_nat hi) (Is.pure rfl))))) (Is.cnd (fun h => ?_) (fun h => Is.stop ?_))
          · have h := of_decide_eq_true h
            rw [← hpe] at h
            have := pair_inv s1 hkl hp h
            refine Is.bnq (chk_succ (by omega)) (Is.next ⟨⟨k + 1, rfl, by omega⟩, by show 5000 - ((k + 1 : Nat) : Int).toNat < 5000 - ((k : Nat) : Int).toNat; omega⟩)
          · have h := of_decide_eq_false h
            rw [← hpe] at h
            rcases Nat.lt_or_eq_of_le hkp with h1 | rfl
            · exact absurd (pair_lt s1 hkl hp h1) h
            · rfl
        · refine Is.bnq (x := false) (Is.eq (Is.cf (beq_f (by omega)) (Is.bnq (idxL_nat hp) (Is.bnq (idxL_nat hi) (Is.pure (by rw [hpe]; simp)))))) (Is.cf rfl (Is.next rfl))
      · rintro _ rfl
        refine Is.bnq (chk_succ (by omega)) (Is.next ⟨rfl, p, rfl, fun j q hj hq hij e => ?_⟩)
        have : m[i] < m[j] := pair_lt s2 hi hj (by omega)
        rw [← hpe, ← e] at this
        exact Nat.le_of_lt (pair_inv s1 hp hq this)
    · rintro ⟨_, _⟩ ⟨rfl, _⟩
      exact Is.df (by omega) (Is.stop trivial)
end Go.Proofs.Ytajmekjcnbmaaaa
