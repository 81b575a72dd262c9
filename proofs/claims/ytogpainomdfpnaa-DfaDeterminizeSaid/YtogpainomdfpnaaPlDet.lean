/- Plain facts on the subset construction: what it reaches; first bytes of classes; keys; the reference's construction. -/
import Derived.Test.YtogpainomdfpnaaPlNfv
namespace Go.Proofs.Ytogpainomdfpnaa
open Go.Lx

theorem nodup_le {α : Type} [DecidableEq α] : ∀ (l m : List α), l.Nodup → (∀ x ∈ l, x ∈ m) → l.length ≤ m.length
  | [], _, _, _ => Nat.zero_le _
  | x :: l, m, hn, hs => by
    have hx := hs x (by simp)
    have hn2 := List.nodup_cons.1 hn
    have := nodup_le l (m.erase x) hn2.2 fun y hy => (List.mem_erase_of_ne (fun e => hn2.1 (by rw [← e]; exact hy))).2 (hs y (by simp [hy]))
    rw [List.length_erase_of_mem hx] at this
    have := List.length_pos_of_mem hx
    simp only [List.length_cons]; omega
/-- The sets of states that texts lead to. -/
inductive RS (n : T_NFA) : List Int → Prop where
  | start : RS n (clo n [n.Start])
  | step {S : List Int} {b : Nat} : RS n S → b < 256 → stp n S b ≠ [] → RS n (stp n S b)
def Lim (n : T_NFA) : Prop := ∃ l : List (List Int), l.Nodup ∧ 500 < l.length ∧ ∀ S ∈ l, RS n S
def Fin5 (n : T_NFA) : Prop := ∃ l : List (List Int), l.length ≤ 500 ∧ ∀ S, RS n S → S ∈ l
theorem lim_fin {n : T_NFA} (h : Lim n) (h2 : Fin5 n) : False := by
  obtain ⟨l, h1, h3, h4⟩ := h
  obtain ⟨m, h5, h6⟩ := h2
  have := nodup_le l m h1 fun S hS => h6 S (h4 S hS)
  omega
theorem RS.clo {n : T_NFA} {S : List Int} (h : RS n S) : ∃ T, S = clo n T := by
  cases h with
  | start => exact ⟨_, rfl⟩
  | step _ _ _ => exact ⟨_, rfl⟩
theorem clo_nil (n : T_NFA) : clo n [] = [] := by
  unfold Go.Proofs.Ytogpainomdfpnaa.clo
  rw [List.map_eq_nil_iff, List.filter_eq_nil_iff]
  intro i _
  have : ¬ Rch n [] (i : Int) := by
    intro h
    have : ∀ s, Rch n [] s → False := by
      intro s h
      induction h with
      | base hs _ _ => cases hs
      | arc _ _ _ ih => exact ih
    exact this _ h
  simpa using this
theorem stp_nil (n : T_NFA) (b : Nat) : stp n [] b = [] := by
  unfold stp
  rw [clo_nil]
  have : tgt n [] b = [] := by
    unfold tgt
    simp
  rw [this, clo_nil]
/-- Bytes that the labels do not tell apart lead to the same states. -/
theorem tgt_sig {n : T_NFA} {p : T_NFAArc → Bool} (hp : ∀ a ∈ n.Arcs, a.Epsilon = false → p a = true) {a b : Nat} (h : sig ((n.Arcs.filter p).map (·.Set)) a = sig ((n.Arcs.filter p).map (·.Set)) b) (L : List Int) : tgt n L a = tgt n L b := by
  unfold tgt
  congr 1
  refine List.filter_congr fun x hx => ?_
  cases he : x.Epsilon
  · have hm : x.Set ∈ (n.Arcs.filter p).map (·.Set) := List.mem_map.2 ⟨x, List.mem_filter.2 ⟨hx, hp x hx he⟩, rfl⟩
    have : mem x.Set a = mem x.Set b := by
      unfold sig at h
      rw [List.map_inj_left] at h
      exact h _ hm
    rw [this]
  · rfl
theorem stp_sig {n : T_NFA} {p : T_NFAArc → Bool} (hp : ∀ a ∈ n.Arcs, a.Epsilon = false → p a = true) {a b : Nat} (h : sig ((n.Arcs.filter p).map (·.Set)) a = sig ((n.Arcs.filter p).map (·.Set)) b) (S : List Int) : stp n S a = stp n S b := by
  unfold stp
  rw [tgt_sig hp h]
/-! ### the first byte of each class -/
def Firsts (σ : Nat → List Bool) (i : Nat) (fb : List Int) : Prop := fb.length = (D σ i).length ∧ ∀ c, c < fb.length → ∃ b : Nat, b < i ∧ fb[c]? = some (b : Int) ∧ (D σ i)[c]? = some (σ b)
theorem firsts_loop {l : List (Vec 4)} {N : Int} (hN : N = 256) {body : List Int × Int → Option (Step (List Int × Int) (List Int))}
    (hb : ∀ a i, body (a, i) = bif decide (i < N) then ((idxL (clsL l) i).bind fun e => bif (e == (a.length : Int)) then (appM 1 a [(IntKind.u8.wrap i)]).bind fun l => some l else some a).bind fun l => (chk .i64 (i + 1)).bind fun t => some (.next (l, t)) else some (.stop a)) :
    Is (loopM body fuel (([] : List Int), (0 : Int))) (Firsts (sig l) 256) := by
  subst hN
  refine Is.upto (fun i (st : List Int × Int) => st.2 = (i : Int) ∧ Firsts (sig l) i st.1) 256 (by omega) ⟨rfl, rfl, fun c hc => by simp at hc⟩ ?_ ?_
  · rintro i ⟨a, _⟩ hi ⟨rfl, h1⟩
    simp only at h1
    rw [hb]
    have hlen : (clsL l).length = 256 := by simp [clsL]
    have hD := D_len (σ := sig l) i
    refine Is.dt (by omega) (Is.bnd (P := Firsts (sig l) (i + 1)) ?_ fun l2 hl2 => Is.bnq (chk_succ (by omega)) (Is.next ⟨rfl, hl2⟩))
    refine Is.bnq (x := (cls (sig l) i : Int)) (by rw [idxL_nat (by omega)]; simp [clsL]) ?_
    by_cases hm : sig l i ∈ D (sig l) i
    · have hc := (cls_old hi hm).2
      refine Is.cf (beq_f (by have := h1.1; omega)) (Is.pure ⟨by rw [D_old hm]; exact h1.1, fun c hc => ?_⟩)
      obtain ⟨b, g1, g2, g3⟩ := h1.2 c hc
      exact ⟨b, by omega, g2, by rw [D_old hm]; exact g3⟩
    · obtain ⟨hc, hD2⟩ := cls_new hi hm
      have ha : a.length = (D (sig l) i).length := h1.1
      refine Is.ct (beq_t (by omega)) (Is.bnq (appM_ok (by simp only [List.length_singleton]; omega)) (Is.pure ⟨by rw [hD2]; simp only [List.length_append, List.length_singleton]; omega, fun c hc => ?_⟩))
      rw [wrap_u8n (n := i) (by omega)]
      simp only [List.length_append, List.length_singleton] at hc
      rcases Nat.lt_or_eq_of_le (Nat.le_of_lt_succ hc) with hlt | heq
      · obtain ⟨b, g1, g2, g3⟩ := h1.2 c hlt
        exact ⟨b, by omega, by rw [List.getElem?_append_left hlt]; exact g2, by rw [hD2, List.getElem?_append_left (by omega)]; exact g3⟩
      · subst heq
        exact ⟨i, by omega, by simp, by rw [hD2, ha]; simp⟩
  · rintro ⟨a, _⟩ ⟨rfl, h1⟩
    rw [hb]
    exact Is.df (by omega) (Is.stop h1)
theorem Firsts.at {l : List (Vec 4)} {fb : List Int} (h : Firsts (sig l) 256 fb) {b : Nat} (hb : b < 256) : ∃ b' : Nat, b' < 256 ∧ cls (sig l) b < fb.length ∧ fb[cls (sig l) b]? = some (b' : Int) ∧ sig l b' = sig l b := by
  have hm : sig l b ∈ D (sig l) 256 := mem_D.2 ⟨b, hb, rfl⟩
  have hlt : (D (sig l) 256).idxOf (sig l b) < (D (sig l) 256).length := List.idxOf_lt_length_of_mem hm
  have hc : cls (sig l) b < fb.length := by rw [h.1]; exact hlt
  obtain ⟨b', g1, g2, g3⟩ := h.2 _ hc
  refine ⟨b', g1, hc, g2, ?_⟩
  unfold cls at g3
  rw [List.getElem?_eq_getElem hlt, List.getElem_idxOf hlt] at g3
  exact (Option.some.inj g3).symm
theorem Firsts.byte {l : List (Vec 4)} {fb : List Int} (h : Firsts (sig l) 256 fb) {c : Nat} (hc : c < fb.length) : ∃ b : Nat, b < 256 ∧ idxL fb (c : Int) = some (b : Int) := by
  obtain ⟨b, g1, g2, _⟩ := h.2 c hc
  refine ⟨b, g1, ?_⟩
  rw [List.getElem?_eq_getElem hc] at g2
  rw [idxL_nat hc, Option.some.inj g2]
theorem Firsts.len {l : List (Vec 4)} {fb : List Int} (h : Firsts (sig l) 256 fb) : 1 ≤ fb.length ∧ fb.length ≤ 256 := by
  have h1 := h.at (b := 0) (by omega)
  have h2 := D_len (σ := sig l) 256
  obtain ⟨_, _, h3, _⟩ := h1
  have := h.1
  omega
/-! ### equality of lists of numbers -/
theorem Ints_ok {a b : List Int} (h : a.length ≤ 1000000000) : M.ref07_Ints a b = some (decide (a = b)) := by
  refine Is.eq ?_
  unfold M.ref07_Ints
  by_cases hl : a.length = b.length
  · refine Is.cf (bne_f (by omega)) ?_
    refine Is.bs (P := fun _ : Unit => a = b) (Q := fun r => r = decide (a = b)) ?_ fun _ h => Is.pure (decide_eq_true h).symm
    refine Is.upto (fun i (st : Int) => st = (i : Int) ∧ a.take i = b.take i) a.length (by omega) ⟨rfl, rfl⟩ ?_ ?_
    · rintro i _ hi ⟨rfl, hJ⟩
      refine Is.dt (by omega) (Is.bnq (idxL_nat hi) (Is.bnq (idxL_nat (by omega)) (Is.cnd (fun hc => Is.stop ?_) (fun hc => Is.bnq (chk_succ (by omega)) (Is.next ⟨rfl, ?_⟩)))))
      · refine (decide_eq_false fun e => ?_).symm
        subst e
        exact of_bne_t hc rfl
      · rw [List.take_add_one, List.take_add_one, hJ, List.getElem?_eq_getElem hi, List.getElem?_eq_getElem (by omega), of_bne_f hc]
    · rintro _ ⟨rfl, hJ⟩
      rw [List.take_length, hl, List.take_length] at hJ
      exact Is.df (by omega) (Is.stop hJ)
  · exact Is.ct (bne_t (by omega)) (Is.pure (decide_eq_false fun e => hl (by rw [e])).symm)
theorem find_ok {l : List (List Int)} {S : List Int} (hl : l.length ≤ 1000000000) (hs : ∀ T ∈ l, T.length ≤ 1000000000) :
    Is (M.ref10_find l S) fun k => (k < 0 ∧ S ∉ l) ∨ ∃ j : Nat, k = (j : Int) ∧ l[j]? = some S := by
  unfold M.ref10_find
  refine Is.bs (P := fun _ : Unit => S ∉ l) (Q := fun k => (k < 0 ∧ S ∉ l) ∨ ∃ j : Nat, k = (j : Int) ∧ l[j]? = some S) ?_ fun _ h => Is.pure (.inl ⟨by omega, h⟩)
  refine Is.upto (fun i (st : Int) => st = (i : Int) ∧ S ∉ l.take i) l.length (by omega) ⟨rfl, by simp⟩ ?_ ?_
  · rintro i _ hi ⟨rfl, hJ⟩
    refine Is.dt (by omega) (Is.bnq (idxL_nat hi) (Is.bnq (Ints_ok (hs _ (List.getElem_mem hi))) (Is.cnd (fun hc => Is.stop ?_) (fun hc => Is.bnq (chk_succ (by omega)) (Is.next ⟨rfl, fun hm => ?_⟩)))))
    · exact .inr ⟨i, rfl, by rw [List.getElem?_eq_getElem hi, of_decide_eq_true hc]⟩
    · rcases (mem_take_get hi).1 hm with hm | rfl
      · exact hJ hm
      · exact of_decide_eq_false hc rfl
  · rintro _ ⟨rfl, hJ⟩
    rw [List.take_length] at hJ
    exact Is.df (by omega) (Is.stop hJ)
/-! ### the reference's construction -/
/-- A list of reached sets, without repeats. -/
structure Sets (n : T_NFA) (sets : List (List Int)) : Prop where
  nodup : sets.Nodup
  rs : ∀ S ∈ sets, RS n S
  start : clo n [n.Start] ∈ sets
theorem Sets.add {n : T_NFA} {sets : List (List Int)} (h : Sets n sets) {S : List Int} (hS : S ∉ sets) (hr : RS n S) : Sets n (sets ++ [S]) :=
  ⟨List.nodup_append.2 ⟨h.nodup, by simp, fun x hx y hy e => by rw [List.mem_singleton] at hy; subst hy; subst e; exact hS hx⟩, fun T hT => by
    rcases List.mem_append.1 hT with hT | hT
    · exact h.rs T hT
    · rw [List.mem_singleton.1 hT]; exact hr, List.mem_append_left _ h.start⟩
theorem rs_all {n : T_NFA} {sets : List (List Int)} {p : T_NFAArc → Bool} (hp : ∀ a ∈ n.Arcs, a.Epsilon = false → p a = true) {fb : List Int} (hf : Firsts (sig ((n.Arcs.filter p).map (·.Set))) 256 fb) (h : Sets n sets)
    (hc : ∀ S ∈ sets, ∀ (c b : Nat), c < fb.length → fb[c]? = some (b : Int) → stp n S b ≠ [] → stp n S b ∈ sets) : ∀ S, RS n S → S ∈ sets := by
  intro S hS
  induction hS with
  | start => exact h.start
  | step _ hb hne ih =>
    obtain ⟨b', h1, h2, h3, h4⟩ := hf.at hb
    rw [← stp_sig hp h4] at hne ⊢
    exact hc _ ih _ _ h2 h3 hne
section
variable {n : T_NFA} (hn : FitN n) (hlen : n.Arcs.length ≤ 1000)
include hn
theorem rs_in {S : List Int} (h : RS n S) : (∀ s ∈ S, 0 ≤ s ∧ s < (n.Accept.length : Int)) ∧ S.length ≤ 2000 := best_clo hn S h.clo
include hlen in
theorem refDet_ok : Is (M.ref10_Determinize n) fun r => (r.2 = 11 ∧ Lim n) ∨ (r.2 = 0 ∧ Fin5 n) := by
  have hv : ∃ b, M.ref09_Valid n = some b ∧ b = true := by
    obtain ⟨b, hb, h⟩ := refValidN_is (n := n) (by omega) (by have := hn.acc; have := hn.most; omega)
    exact ⟨b, hb, h.2 ⟨hn.pos, hn.most, hn.start, hn.acc, hn.low, hn.arcs⟩⟩
  obtain ⟨_, hv, rfl⟩ := hv
  unfold M.ref10_Determinize
  refine Is.bnq hv (Is.cf rfl ?_)
  refine Is.bnq (x := (n.Arcs.filter fun a => !a.Epsilon).map (·.Set)) ?_ ?_
  · refine Is.eq ?_
    refine Is.upto (fun i (st : List (Vec 4) × Int) => st.2 = (i : Int) ∧ st.1 = ((n.Arcs.take i).filter fun a => !a.Epsilon).map (·.Set)) n.Arcs.length (by omega) ⟨rfl, rfl⟩ ?_ ?_
    · rintro i ⟨a, _⟩ hi ⟨rfl, h1⟩
      obtain rfl : a = _ := h1
      have hl : (((n.Arcs.take i).filter fun a => !a.Epsilon).map (·.Set)).length ≤ i := by
        rw [List.length_map]
        refine Nat.le_trans (List.length_filter_le _ _) ?_
        rw [List.length_take]; omega
      refine Is.dt (by omega) (Is.bnd (P := fun l => l = ((n.Arcs.take (i + 1)).filter fun a => !a.Epsilon).map (·.Set)) ?_ fun l hl => Is.bnq (chk_succ (by omega)) (Is.next ⟨rfl, hl⟩))
      refine Is.bnq (idxL_nat hi) ?_
      rw [List.take_add_one, List.getElem?_eq_getElem hi, List.filter_append, List.map_append]
      refine Is.cnd (fun h => ?_) (fun h => ?_)
      · refine Is.bnq (appM_ok (by simp only [List.length_singleton]; omega)) (Is.pure ?_)
        simp only [Option.toList_some, List.filter_cons, h, if_true, List.filter_nil, List.map_cons, List.map_nil]
      · refine Is.pure ?_
        simp only [Option.toList_some, List.filter_cons, h, Bool.false_eq_true, if_false, List.filter_nil, List.map_nil, List.append_nil]
    · rintro ⟨a, _⟩ ⟨rfl, h1⟩
      obtain rfl : a = _ := h1
      refine Is.df (by omega) (Is.stop ?_)
      rw [List.take_length]
  have hll : ((n.Arcs.filter fun a => !a.Epsilon).map (·.Set)).length ≤ 1000 := by
    rw [List.length_map]
    exact Nat.le_trans (List.length_filter_le _ _) hlen
  have hw : ∀ v ∈ (n.Arcs.filter fun a => !a.Epsilon).map (·.Set), W4 v := by
    intro v hv
    obtain ⟨a, ha, rfl⟩ := List.mem_map.1 hv
    exact hn.sets a (List.mem_filter.1 ha).1
  have hpe : ∀ a ∈ n.Arcs, a.Epsilon = false → (!a.Epsilon) = true := fun a _ he => by rw [he]; rfl
  refine Is.bnq (refClasses_eq hw hll) ?_
  refine Is.bnd (P := Firsts (sig ((n.Arcs.filter fun a => !a.Epsilon).map (·.Set))) 256) ?_ fun fb hfb => ?_
  · unfold M.ref10_first
    exact Is.bnd (firsts_loop rfl (fun _ _ => rfl)) fun _ h => Is.pure h
  have hfl := hfb.len
  refine Is.bnq (refClosure_ok hn (by simp)) ?_
  refine Is.bs (P := fun _ => Fin5 n) (Q := fun r : T_DFA × Int => (r.2 = 11 ∧ Lim n) ∨ (r.2 = 0 ∧ Fin5 n)) ?_ fun _ h => Is.pure (.inr ⟨rfl, h⟩)
  refine Is.while (fun st : List (List Int) × List (List Int) × List Int × Int => ∃ i : Nat, st.2.2.2 = (i : Int) ∧ i ≤ st.1.length ∧ st.2.1.length = i ∧ st.2.2.1.length = i ∧ Sets n st.1 ∧ st.1.length ≤ 500 ∧
      ∀ S ∈ st.1.take i, ∀ (c b : Nat), c < fb.length → fb[c]? = some (b : Int) → stp n S b ≠ [] → stp n S b ∈ st.1) (fun st => 501 - st.2.2.2.toNat)
    ⟨0, rfl, by simp, rfl, rfl, ⟨by simp, fun S hS => by rw [List.mem_singleton.1 hS]; exact .start, by simp⟩, by simp, by simp⟩ (by show 501 - _ ≤ _; omega) ?_
  rintro ⟨sets, nx, ac, _⟩ ⟨i, rfl, hi, hnx, hac, hs, h5, hcl⟩
  simp only at hi hnx hac hs h5 hcl
  by_cases hil : i < sets.length
  case neg =>
    have : i = sets.length := by omega
    subst this
    rw [List.take_length] at hcl
    exact Is.df (by omega) (Is.stop ⟨sets, h5, rs_all hpe hfb hs hcl⟩)
  refine Is.dt (by omega) ?_
  have hSi := hs.rs _ (List.getElem_mem hil)
  generalize hS : sets[i] = S at hSi
  -- the row
  refine Is.bs (P := fun st : List (List Int) × List (List Int) × List Int => st.2.1.length = i + 1 ∧ st.2.2.length = i + 1 ∧ Sets n st.1 ∧ st.1.length ≤ 500 ∧ i + 1 ≤ st.1.length ∧ (∀ T ∈ sets, T ∈ st.1) ∧ (∀ T ∈ st.1.take (i + 1), T ∈ sets.take i ∨ T = S) ∧
      (∀ (c b : Nat), c < fb.length → fb[c]? = some (b : Int) → stp n S b ≠ [] → stp n S b ∈ st.1)) ?_ ?_
  · refine Is.bnd (P := fun st : List (List Int) × List Int => st.2.length = fb.length ∧ Sets n st.1 ∧ (∃ m, st.1 = sets ++ m) ∧ st.1.length ≤ sets.length + 256 ∧ (∀ (c b : Nat), c < fb.length → fb[c]? = some (b : Int) → stp n S b ≠ [] → stp n S b ∈ st.1)) ?_ ?_
    · refine Is.upto (fun c (st : List (List Int) × List Int × Int) => st.2.2 = (c : Int) ∧ st.2.1.length = c ∧ Sets n st.1 ∧ (∃ m, st.1 = sets ++ m) ∧ st.1.length ≤ sets.length + c ∧ (∀ (c' b : Nat), c' < c → fb[c']? = some (b : Int) → stp n S b ≠ [] → stp n S b ∈ st.1)) fb.length (by omega)
        ⟨rfl, rfl, hs, ⟨[], by simp⟩, by simp, fun c' b hc => by omega⟩ ?_ ?_
      · rintro c ⟨s1, row, _⟩ hc ⟨rfl, g1, g2, ⟨m, g3⟩, g4, g5⟩
        simp only at g1 g2 g3 g4 g5
        refine Is.dt (by omega) ?_
        obtain ⟨b, hb1, hb2⟩ := hfb.byte hc
        have hgS : idxL s1 (i : Int) = some S := by
          have hi1 : i < s1.length := by rw [g3, List.length_append]; omega
          rw [idxL_nat hi1]
          subst g3
          rw [List.getElem_append_left hil, hS]
        have hfc : fb[c]? = some (b : Int) := by
          rw [idxL_nat hc] at hb2
          rw [List.getElem?_eq_getElem hc, Option.some.inj hb2]
        have hnext : ∀ s2 : List (List Int), (∀ T ∈ s1, T ∈ s2) → (stp n S b ≠ [] → stp n S b ∈ s2) → ∀ (c' b' : Nat), c' < c + 1 → fb[c']? = some (b' : Int) → stp n S b' ≠ [] → stp n S b' ∈ s2 := by
          intro s2 q1 q2 c' b' hc' hb' hne
          rcases Nat.lt_or_eq_of_le (Nat.le_of_lt_succ hc') with hlt | rfl
          · exact q1 _ (g5 c' b' hlt hb' hne)
          · rw [hfc] at hb'
            obtain rfl : b = b' := by have := Option.some.inj hb'; omega
            exact q2 hne
        refine Is.bnd (P := fun st : List (List Int) × List Int => st.2.length = c + 1 ∧ Sets n st.1 ∧ (∃ m, st.1 = sets ++ m) ∧ st.1.length ≤ sets.length + (c + 1) ∧ (∀ (c' b : Nat), c' < c + 1 → fb[c']? = some (b : Int) → stp n S b ≠ [] → stp n S b ∈ st.1)) ?_ fun st h => Is.bnq (chk_succ (by omega)) (Is.next ⟨rfl, h⟩)
        have hSl := (rs_in hn hSi).2
        have hsl := (best_clo hn (stp n S b) ⟨_, rfl⟩).2
        refine Is.bnq hgS (Is.bnq hb2 (Is.bnq (refStep_ok hn (by omega) hb1) (Is.bnq (refClosure_ok hn (by omega)) ?_)))
        rw [clo_stp hn]
        by_cases hz : stp n S b = []
        · rw [hz]
          refine Is.ct rfl (Is.bnq (appM_ok (by simp only [List.length_singleton]; omega)) (Is.pure ⟨by simp only [List.length_append, List.length_singleton]; omega, g2, ⟨m, g3⟩, by show s1.length ≤ _; omega, hnext s1 (fun _ h => h) fun h => absurd hz h⟩))
        · refine Is.cf (beq_f (by have := List.length_pos_iff.2 hz; omega)) ?_
          have hr : RS n (stp n S b) := .step hSi hb1 hz
          refine Is.bnd (find_ok (l := s1) (S := stp n S b) (by omega) (fun T hT => by have := (rs_in hn (g2.rs T hT)).2; omega)) fun k hk => ?_
          refine Is.bnd (P := fun st : List (List Int) × Int => Sets n st.1 ∧ (∃ m, st.1 = sets ++ m) ∧ st.1.length ≤ sets.length + (c + 1) ∧ (∀ T ∈ s1, T ∈ st.1) ∧ stp n S b ∈ st.1) ?_ ?_
          · rcases hk with ⟨hk, hnot⟩ | ⟨j, rfl, hj⟩
            · refine Is.dt hk (Is.bnq (appM_ok (by simp only [List.length_singleton]; omega)) (Is.pure ⟨g2.add hnot hr, ⟨m ++ [stp n S b], by rw [g3, List.append_assoc]⟩, by show (s1 ++ [stp n S b]).length ≤ _; simp only [List.length_append, List.length_singleton]; omega, fun T hT => List.mem_append_left _ hT, by show stp n S b ∈ s1 ++ [stp n S b]; simp⟩))
            · exact Is.df (by omega) (Is.pure ⟨g2, ⟨m, g3⟩, by show s1.length ≤ _; omega, fun _ h => h, List.mem_of_getElem? hj⟩)
          · rintro ⟨s2, k2⟩ ⟨q1, q2, q3, q4, q5⟩
            exact Is.bnq (appM_ok (by simp only [List.length_singleton]; omega)) (Is.pure ⟨by simp only [List.length_append, List.length_singleton]; omega, q1, q2, q3, hnext s2 q4 fun _ => q5⟩)
      · rintro ⟨s1, row, _⟩ ⟨rfl, g1, g2, g3, g4, g5⟩
        exact Is.df (by omega) (Is.stop ⟨g1, g2, g3, by show s1.length ≤ _; simp only at g4; omega, g5⟩)
    · rintro ⟨s1, row⟩ ⟨g1, g2, ⟨m, g3⟩, g4, g5⟩
      simp only at g1 g2 g3 g4 g5
      refine Is.dcd (fun h => Is.stop (.inl ⟨rfl, s1, g2.nodup, by omega, g2.rs⟩)) (fun h => ?_)
      have hi1 : i < s1.length := by rw [g3, List.length_append]; omega
      have hgS : s1[i] = S := by
        subst g3
        rw [List.getElem_append_left hil, hS]
      refine Is.bnq (idxL_nat hi1) ?_
      rw [hgS]
      have hSl := rs_in hn hSi
      refine Is.bnq (appM_ok (by simp only [List.length_singleton]; omega)) (Is.bnq (least_ok hSl.1 (by omega)) (Is.bnq (appM_ok (by simp only [List.length_singleton]; omega)) (Is.next ⟨by simp only [List.length_append, List.length_singleton]; omega, by simp only [List.length_append, List.length_singleton]; omega, g2, by show s1.length ≤ _; omega, by show i + 1 ≤ s1.length; omega, fun T hT => by show T ∈ s1; rw [g3]; exact List.mem_append_left _ hT, fun T hT => ?_, g5⟩)))
      have hT : T ∈ s1.take (i + 1) := hT
      rcases (mem_take_get hi1).1 hT with hT | hT
      · left
        rw [g3, List.take_append_of_le_length (by omega)] at hT
        exact hT
      · right; rw [hT, hgS]
  · rintro ⟨s1, nx1, ac1⟩ ⟨g1, g2, g3, g4, g5, g6, g7, g8⟩
    simp only at g1 g2 g3 g4 g5 g6 g7 g8
    refine Is.bnq (chk_succ (by omega)) (Is.next ⟨⟨i + 1, rfl, g5, g1, g2, g3, g4, fun T hT c b hc hb hne => ?_⟩, by show 501 - ((i + 1 : Nat) : Int).toNat < 501 - ((i : Nat) : Int).toNat; omega⟩)
    rcases g7 T hT with h | rfl
    · exact g6 _ (hcl T h c b hc hb hne)
    · exact g8 c b hc hb hne
end
end Go.Proofs.Ytogpainomdfpnaa
