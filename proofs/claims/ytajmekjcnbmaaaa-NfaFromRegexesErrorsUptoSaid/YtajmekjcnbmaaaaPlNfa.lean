/- Plain facts on automata with epsilon arcs: validity, closures, steps. -/
import Derived.Test.YtajmekjcnbmaaaaPl07e
namespace Go.Proofs.Ytajmekjcnbmaaaa
open Go.Lx

/-! ### marks -/
/-- Place i is marked. -/
def Mk (m : List Bool) (i : Int) : Prop := 0 ≤ i ∧ m[i.toNat]? = some true
theorem Mk.lt {m : List Bool} {i : Int} (h : Mk m i) : i < m.length := by
  have := (List.getElem?_eq_some_iff.1 h.2).1
  have := h.1
  omega
theorem mk_nat {m : List Bool} {i : Nat} : Mk m (i : Int) ↔ m[i]? = some true := by
  unfold Mk
  rw [Int.toNat_natCast]
  exact ⟨fun h => h.2, fun h => ⟨by omega, h⟩⟩
theorem idx_mk {m : List Bool} {i : Int} (h0 : 0 ≤ i) (h1 : i < m.length) : ∃ b, idxL m i = some b ∧ (b = true ↔ Mk m i) := by
  obtain ⟨k, rfl⟩ := Int.eq_ofNat_of_zero_le h0
  have hk : k < m.length := by omega
  refine ⟨m[k], idxL_nat hk, ?_⟩
  rw [mk_nat, List.getElem?_eq_getElem hk]
  simp
def mark (m : List Bool) (i : Int) : List Bool := m.set i.toNat true
theorem mark_len {m : List Bool} {i : Int} : (mark m i).length = m.length := by simp [mark]
theorem mk_mark {m : List Bool} {i j : Int} (h0 : 0 ≤ i) (h1 : i < m.length) : Mk (mark m i) j ↔ j = i ∨ Mk m j := by
  unfold Mk mark
  rw [List.getElem?_set]
  constructor
  · rintro ⟨h2, h3⟩
    by_cases e : j = i
    · exact .inl e
    · rw [if_neg (by omega)] at h3
      exact .inr ⟨h2, h3⟩
  · rintro (rfl | ⟨h2, h3⟩)
    · exact ⟨h0, by rw [if_pos rfl, if_pos (by omega)]⟩
    · refine ⟨h2, ?_⟩
      split
      · rw [if_pos (by omega)]
      · exact h3
def cf (m : List Bool) : Nat := m.count false
theorem cf_le (m : List Bool) : cf m ≤ m.length := List.count_le_length
theorem cf_mark {m : List Bool} {i : Int} (h0 : 0 ≤ i) (h1 : i < m.length) (h : ¬ Mk m i) : cf (mark m i) + 1 = cf m := by
  obtain ⟨k, rfl⟩ := Int.eq_ofNat_of_zero_le h0
  have hk : k < m.length := by omega
  rw [mk_nat, List.getElem?_eq_getElem hk] at h
  have hf : m[k] = false := by
    cases hb : m[k]
    · rfl
    · rw [hb] at h; exact absurd rfl h
  unfold cf mark
  rw [Int.toNat_natCast, List.count_set hk, hf]
  have : 0 < m.count false := by
    rw [List.count_pos_iff, ← hf]
    exact List.getElem_mem hk
  simp
  omega
/-- The marked places, in order. -/
def idxs (m : List Bool) : List Int := ((List.range m.length).filter fun i => m[i]?.getD false).map fun (i : Nat) => (i : Int)
theorem mem_idxs {m : List Bool} {i : Int} : i ∈ idxs m ↔ Mk m i := by
  unfold idxs
  rw [List.mem_map]
  constructor
  · rintro ⟨k, hk, rfl⟩
    rw [List.mem_filter, List.mem_range] at hk
    rw [mk_nat, List.getElem?_eq_getElem hk.1]
    have := hk.2
    rw [List.getElem?_eq_getElem hk.1] at this
    simpa using this
  · intro h
    obtain ⟨k, rfl⟩ := Int.eq_ofNat_of_zero_le h.1
    have h2 := mk_nat.1 h
    have h3 := (List.getElem?_eq_some_iff.1 h2).1
    exact ⟨k, List.mem_filter.2 ⟨List.mem_range.2 h3, by rw [h2]; rfl⟩, rfl⟩
theorem idxs_len (m : List Bool) : (idxs m).length ≤ m.length := by
  unfold idxs
  rw [List.length_map]
  exact Nat.le_trans (List.length_filter_le _ _) (by simp)
theorem idxs_loop {m : List Bool} (hm : m.length ≤ 1000000000) {ρ : Type} {X : List Int → ρ} {body : List Int × Int → Option (Step (List Int × Int) ρ)}
    (hb : ∀ a i, body (a, i) = bif decide (i < (m.length : Int)) then ((idxL m i).bind fun e => bif e then (appM 8 a [i]).bind fun l => some l else some a).bind fun l => (chk .i64 (i + 1)).bind fun t => some (.next (l, t)) else some (.stop (X a))) :
    loopM body fuel (([] : List Int), (0 : Int)) = some (X (idxs m)) := by
  refine Is.eq ?_
  refine Is.upto (fun i (st : List Int × Int) => st.2 = (i : Int) ∧ st.1 = ((List.range i).filter fun i => m[i]?.getD false).map fun (i : Nat) => (i : Int)) m.length (by omega) ⟨rfl, rfl⟩ ?_ ?_
  · rintro i ⟨a, _⟩ hi ⟨rfl, h1⟩
    obtain rfl : a = _ := h1
    rw [hb]
    refine Is.dt (by omega) ?_
    have hl : (((List.range i).filter fun i => m[i]?.getD false).map fun (i : Nat) => (i : Int)).length ≤ i := by
      rw [List.length_map]
      exact Nat.le_trans (List.length_filter_le _ _) (by simp)
    refine Is.bnd (P := fun l => l = ((List.range (i + 1)).filter fun i => m[i]?.getD false).map fun (i : Nat) => (i : Int)) ?_ fun l hl => Is.bnq (chk_succ (by omega)) (Is.next ⟨rfl, hl⟩)
    refine Is.bnq (idxL_nat hi) ?_
    rw [List.range_succ, List.filter_append, List.map_append]
    refine Is.cnd (fun h => ?_) (fun h => ?_)
    · refine Is.bnq (appM_ok (by simp only [List.length_singleton]; omega)) (Is.pure ?_)
      simp [hi, h]
    · refine Is.pure ?_
      simp [hi, h]
  · rintro ⟨a, _⟩ ⟨rfl, h1⟩
    obtain rfl : a = _ := h1
    rw [hb]
    exact Is.df (by omega) (Is.stop rfl)
theorem sorted_ok {m : List Bool} (hm : m.length ≤ 1000000000) : M.nfa_sorted m = some (idxs m) := by
  unfold M.nfa_sorted
  exact bind_of (idxs_loop hm (X := fun a => a) (fun _ _ => rfl)) rfl
theorem list_ok {m : List Bool} (hm : m.length ≤ 1000000000) : M.ref09_list m = some (idxs m) := by
  unfold M.ref09_list
  exact bind_of (idxs_loop hm (X := fun a => a) (fun _ _ => rfl)) rfl

/-! ### automata -/
/-- Fit: as Valid says, and of a size that memory holds. -/
structure FitN (n : T_NFA) : Prop where
  pos : 1 ≤ n.States
  most : n.States ≤ 2000
  start : 0 ≤ n.Start ∧ n.Start < n.States
  acc : (n.Accept.length : Int) = n.States
  low : ∀ x ∈ n.Accept, -1 ≤ x
  arcs : ∀ a ∈ n.Arcs, (0 ≤ a.From ∧ a.From < n.States) ∧ (0 ≤ a.To ∧ a.To < n.States) ∧ (a.Epsilon = true → a.Set = Vec.zero 4)
  len : n.Arcs.length ≤ 1000000000
  sets : ∀ a ∈ n.Arcs, W4 a.Set
/-- What epsilon arcs reach. -/
inductive Rch (n : T_NFA) (S : List Int) : Int → Prop where
  | base {s : Int} : s ∈ S → 0 ≤ s → s < n.States → Rch n S s
  | arc {a : T_NFAArc} : a ∈ n.Arcs → a.Epsilon = true → Rch n S a.From → Rch n S a.To
theorem Rch.lt {n : T_NFA} (hn : FitN n) {S : List Int} {s : Int} (h : Rch n S s) : 0 ≤ s ∧ s < n.States := by
  cases h with
  | base _ h0 h1 => exact ⟨h0, h1⟩
  | arc ha _ _ => exact (hn.arcs _ ha).2.1
open Classical in
noncomputable def clo (n : T_NFA) (S : List Int) : List Int := ((List.range n.States.toNat).filter fun i => decide (Rch n S ((i : Nat) : Int))).map fun (i : Nat) => (i : Int)
open Classical in
theorem mem_clo {n : T_NFA} (hn : FitN n) {S : List Int} {s : Int} : s ∈ clo n S ↔ Rch n S s := by
  unfold clo
  rw [List.mem_map]
  constructor
  · rintro ⟨k, hk, rfl⟩
    exact of_decide_eq_true (List.mem_filter.1 hk).2
  · intro h
    have := h.lt hn
    obtain ⟨k, rfl⟩ := Int.eq_ofNat_of_zero_le this.1
    exact ⟨k, List.mem_filter.2 ⟨List.mem_range.2 (by omega), decide_eq_true h⟩, rfl⟩
theorem clo_len (n : T_NFA) (S : List Int) : (clo n S).length ≤ n.States.toNat := by
  unfold clo
  rw [List.length_map]
  exact Nat.le_trans (List.length_filter_le _ _) (by simp)
open Classical in
theorem idxs_clo {n : T_NFA} {S : List Int} {m : List Bool} (hl : m.length = n.States.toNat) (h : ∀ s : Int, Mk m s ↔ Rch n S s) : idxs m = clo n S := by
  unfold idxs clo
  rw [hl]
  congr 1
  refine List.filter_congr fun i hi => ?_
  rw [List.mem_range] at hi
  have hi' : i < m.length := by omega
  have := h i
  rw [mk_nat, List.getElem?_eq_getElem hi'] at this
  rw [List.getElem?_eq_getElem hi', Option.getD_some]
  by_cases hr : Rch n S i
  · rw [decide_eq_true hr]
    have := this.2 hr
    simpa using this
  · rw [decide_eq_false hr]
    cases hb : m[i]
    · rfl
    · exact absurd (this.1 (by rw [hb])) hr
theorem mk_replicate {k : Nat} {s : Int} : ¬ Mk (List.replicate k false) s := by
  rintro ⟨_, h⟩
  rw [List.getElem?_replicate] at h
  split at h <;> simp at h
/-- All epsilon arcs from s lead to marks. -/
def Shut (n : T_NFA) (m : List Bool) (s : Int) : Prop := ∀ a ∈ n.Arcs, a.Epsilon = true → a.From = s → Mk m a.To
theorem shut_all {n : T_NFA} {S : List Int} {m : List Bool} (h1 : ∀ s ∈ S, 0 ≤ s → s < n.States → Mk m s) (h2 : ∀ s, Mk m s → Shut n m s) : ∀ s, Rch n S s → Mk m s := by
  intro s h
  induction h with
  | base hs h0 h1' => exact h1 _ hs h0 h1'
  | arc ha he _ ih => exact h2 _ ih _ ha he rfl
/-! #### the program's closure -/
/-- The marks and the list of places still to do. -/
structure Wk (n : T_NFA) (S : List Int) (m : List Bool) (todo : List Int) : Prop where
  len : m.length = n.States.toNat
  sound : ∀ s, Mk m s → Rch n S s
  marked : ∀ s ∈ todo, Mk m s
  room : todo.length + cf m ≤ n.States.toNat
section
variable {n : T_NFA} (hn : FitN n) {S : List Int}
include hn
theorem add_ok {m : List Bool} {todo : List Int} (h : Wk n S m todo) {t : Int} (ht : 0 ≤ t → t < n.States → Rch n S t) :
    ∃ m2 todo2, M.nfa_Closure_1 t n m todo = some (m2, todo2) ∧ Wk n S m2 todo2 ∧ (∀ s, Mk m s → Mk m2 s) ∧ (0 ≤ t → t < n.States → Mk m2 t) ∧ (∀ s ∈ todo, s ∈ todo2) ∧ (∀ s, Mk m2 s → Mk m s ∨ s ∈ todo2) ∧ 2 * cf m2 + todo2.length ≤ 2 * cf m + todo.length := by
  have hp := hn.pos
  have hm := hn.most
  unfold M.nfa_Closure_1
  have hl : (m.length : Int) = n.States := by rw [h.len]; omega
  by_cases hin : 0 ≤ t ∧ t < n.States
  · obtain ⟨b, hb, hbm⟩ := idx_mk (m := m) hin.1 (by omega)
    cases b with
    | true =>
      refine ⟨m, todo, ?_, h, fun _ h => h, fun _ _ => hbm.1 rfl, fun _ h => h, fun _ h => .inl h, Nat.le_refl _⟩
      exact bind_of (x := false) (by simp only [dec_t hin.1, dec_t hin.2, cond_true, hb, Option.bind_some, Bool.not_true]) rfl
    | false =>
      have hnm : ¬ Mk m t := fun hx => by have := hbm.2 hx; cases this
      have hc := cf_mark hin.1 (show t < m.length by omega) hnm
      have hmk : ∀ s, Mk (mark m t) s ↔ s = t ∨ Mk m s := fun s => mk_mark hin.1 (by omega)
      have hr := h.room
      refine ⟨mark m t, todo ++ [t], ?_, ⟨by rw [mark_len]; exact h.len, fun s hs => ?_, fun s hs => ?_, ?_⟩, fun s hs => (hmk s).2 (.inr hs), fun _ _ => (hmk t).2 (.inl rfl), fun s hs => List.mem_append_left _ hs, fun s hs => ?_, ?_⟩
      · refine bind_of (x := true) (by simp only [dec_t hin.1, dec_t hin.2, cond_true, hb, Option.bind_some, Bool.not_false]) ?_
        exact bind_of (setL_int hin.1 (by omega)) (bind_of (appM_ok (by simp only [List.length_singleton]; omega)) rfl)
      · rcases (hmk s).1 hs with rfl | hs
        · exact ht hin.1 hin.2
        · exact h.sound s hs
      · rcases List.mem_append.1 hs with hs | hs
        · exact (hmk s).2 (.inr (h.marked s hs))
        · exact (hmk s).2 (.inl (List.mem_singleton.1 hs))
      · simp only [List.length_append, List.length_singleton]; omega
      · rcases (hmk s).1 hs with rfl | hs
        · exact .inr (by simp)
        · exact .inl hs
      · simp only [List.length_append, List.length_singleton]; omega
  · refine ⟨m, todo, ?_, h, fun _ h => h, fun h0 h1 => absurd ⟨h0, h1⟩ hin, fun _ h => h, fun _ h => .inl h, Nat.le_refl _⟩
    refine bind_of (x := false) ?_ rfl
    by_cases h0 : 0 ≤ t
    · simp only [dec_t h0, dec_f (show ¬ t < n.States from fun h1 => hin ⟨h0, h1⟩), cond_true, cond_false]
    · simp only [dec_f h0, cond_false]
theorem closure_ok (hS : S.length ≤ 1000000000) : M.nfa_Closure n S = some (clo n S) := by
  have hp := hn.pos
  have hm := hn.most
  refine Is.eq ?_
  unfold M.nfa_Closure
  have e0 : mkM 1 n.States false = some (List.replicate n.States.toNat false) := by
    have := mkM_nat (B := 1) (n := n.States.toNat) (z := false) (by omega)
    rw [show ((n.States.toNat : Nat) : Int) = n.States by omega] at this
    exact this
  refine Is.bnq e0 ?_
  -- the states that are given
  refine Is.bnd (P := fun r : List Bool × List Int => Wk n S r.1 r.2 ∧ (∀ s ∈ S, 0 ≤ s → s < n.States → Mk r.1 s) ∧ (∀ s, Mk r.1 s → s ∈ r.2)) ?_ ?_
  · refine Is.upto (fun i (st : List Bool × List Int × Int) => st.2.2 = (i : Int) ∧ Wk n S st.1 st.2.1 ∧ (∀ s ∈ S.take i, 0 ≤ s → s < n.States → Mk st.1 s) ∧ (∀ s, Mk st.1 s → s ∈ st.2.1)) S.length (by omega)
      ⟨rfl, ⟨by simp, fun s hs => absurd hs mk_replicate, by simp, by simp [cf]⟩, by simp, fun s hs => absurd hs mk_replicate⟩ ?_ ?_
    · rintro i ⟨m, todo, _⟩ hi ⟨rfl, h1, h2, h3⟩
      refine Is.dt (by omega) (Is.bnq (idxL_nat hi) ?_)
      obtain ⟨m2, todo2, e, q1, q2, q3, q4, q5, _⟩ := add_ok hn h1 (t := S[i]) (fun h0 h1' => .base (List.getElem_mem hi) h0 h1')
      refine Is.bnq e (Is.bnq (chk_succ (by omega)) (Is.next ⟨rfl, q1, fun s hs h0 h1' => ?_, fun s hs => ?_⟩))
      · rw [List.take_add_one, List.getElem?_eq_getElem hi, List.mem_append] at hs
        rcases hs with hs | hs
        · exact q2 s (h2 s hs h0 h1')
        · obtain rfl : s = S[i] := by simpa using hs
          exact q3 h0 h1'
      · rcases q5 s hs with hs | hs
        · exact q4 s (h3 s hs)
        · exact hs
    · rintro ⟨m, todo, _⟩ ⟨rfl, h1, h2, h3⟩
      rw [List.take_length] at h2
      exact Is.df (by omega) (Is.stop ⟨h1, h2, h3⟩)
  rintro ⟨m0, todo0⟩ ⟨w0, s0, t0⟩
  simp only at w0 s0 t0
  -- the list that is worked off
  refine Is.bnd (P := fun m : List Bool => m.length = n.States.toNat ∧ ∀ s, Mk m s ↔ Rch n S s) ?_ fun m hm2 => Is.bnq (sorted_ok (by rw [hm2.1]; omega)) (Is.pure (idxs_clo hm2.1 hm2.2))
  refine Is.while (fun st : List Bool × List Int => Wk n S st.1 st.2 ∧ (∀ s ∈ S, 0 ≤ s → s < n.States → Mk st.1 s) ∧ (∀ s, Mk st.1 s → s ∈ st.2 ∨ Shut n st.1 s)) (fun st => 2 * cf st.1 + st.2.length) ⟨w0, s0, fun s hs => .inl (t0 s hs)⟩ ?_ ?_
  · have := w0.room
    have := cf_le m0
    have := w0.len
    show 2 * cf m0 + todo0.length ≤ _
    omega
  rintro ⟨m, todo⟩ ⟨h1, h2, h3⟩
  simp only at h1 h2 h3
  by_cases hz : todo = []
  · subst hz
    refine Is.df (by simp) (Is.stop ⟨h1.len, fun s => ⟨h1.sound s, shut_all h2 (fun s hs => ?_) s⟩⟩)
    rcases h3 s hs with h | h
    · cases h
    · exact h
  have hpos : 0 < todo.length := List.length_pos_iff.2 hz
  refine Is.dt (by omega) ?_
  have et : chk .i64 ((todo.length : Int) - 1) = some ((todo.length - 1 : Nat) : Int) := by
    have := h1.room
    rw [chk_i64 (by omega) (by omega)]
    congr 1
    omega
  have hlast : todo.length - 1 < todo.length := by omega
  have hsub : subL todo 0 ((todo.length - 1 : Nat) : Int) = some (todo.take (todo.length - 1)) := by
    unfold subL
    rw [if_pos ⟨by omega, by omega, by omega⟩]
    simp
  refine Is.bnq et (Is.bnq (idxL_nat hlast) (Is.bnq hsub ?_))
  generalize hse : todo[todo.length - 1] = s0
  have hs0 : Mk m s0 := h1.marked s0 (by rw [← hse]; exact List.getElem_mem hlast)
  have hsplit : ∀ s ∈ todo, s ∈ todo.take (todo.length - 1) ∨ s = s0 := by
    intro s hs
    obtain ⟨j, hj, rfl⟩ := List.mem_iff_getElem.1 hs
    by_cases e : j = todo.length - 1
    · right; subst e; exact hse
    · left
      rw [List.mem_iff_getElem]
      exact ⟨j, by simp; omega, by simp⟩
  have htl : (todo.take (todo.length - 1)).length = todo.length - 1 := by rw [List.length_take]; omega
  refine Is.mono (P := SP (fun st : List Bool × List Int => Wk n S st.1 st.2 ∧ (∀ s, Mk m s → Mk st.1 s) ∧ (∀ s, Mk st.1 s → s = s0 ∨ s ∈ st.2 ∨ Shut n st.1 s) ∧ Shut n st.1 s0 ∧ 2 * cf st.1 + st.2.length ≤ 2 * cf m + (todo.length - 1)) (fun _ => False)) ?_ ?_
  · refine Is.mono (P := fun r : Step (List Bool × List Int) (List Bool) => SP (fun st : List Bool × List Int => Wk n S st.1 st.2 ∧ (∀ s, Mk m s → Mk st.1 s) ∧ (∀ s, Mk st.1 s → s = s0 ∨ s ∈ st.2 ∨ Shut n st.1 s) ∧ Shut n st.1 s0 ∧ 2 * cf st.1 + st.2.length ≤ 2 * cf m + (todo.length - 1)) (fun _ => False) r) ?_ fun _ h => h
    refine Is.upto (Q := fun r : Step (List Bool × List Int) (List Bool) => SP (fun st : List Bool × List Int => Wk n S st.1 st.2 ∧ (∀ s, Mk m s → Mk st.1 s) ∧ (∀ s, Mk st.1 s → s = s0 ∨ s ∈ st.2 ∨ Shut n st.1 s) ∧ Shut n st.1 s0 ∧ 2 * cf st.1 + st.2.length ≤ 2 * cf m + (todo.length - 1)) (fun _ => False) r)
      (fun i (st : List Bool × List Int × Int) => st.2.2 = (i : Int) ∧ Wk n S st.1 st.2.1 ∧ (∀ s, Mk m s → Mk st.1 s) ∧ (∀ s, Mk st.1 s → s = s0 ∨ s ∈ st.2.1 ∨ Shut n st.1 s) ∧ (∀ a ∈ n.Arcs.take i, a.Epsilon = true → a.From = s0 → Mk st.1 a.To) ∧ 2 * cf st.1 + st.2.1.length ≤ 2 * cf m + (todo.length - 1)) n.Arcs.length (by have := hn.len; omega) ?_ ?_ ?_
    · refine ⟨rfl, ⟨h1.len, h1.sound, fun s hs => h1.marked s (List.mem_of_mem_take hs), ?_⟩, fun _ h => h, fun s hs => ?_, by simp, Nat.add_le_add_left (Nat.le_of_eq htl) _⟩
      · have := h1.room
        have e : (todo.take (todo.length - 1)).length + cf m ≤ n.States.toNat := by rw [htl]; omega
        exact e
      · rcases h3 s hs with h | h
        · rcases hsplit s h with h | h
          · exact .inr (.inl h)
          · exact .inl h
        · exact .inr (.inr h)
    · rintro i ⟨m1, todo1, _⟩ hi ⟨rfl, g1, g2, g3, g4, g5⟩
      simp only at g1 g2 g3 g4 g5
      have ha := List.getElem_mem hi
      refine Is.dt (by omega) ?_
      refine Is.bnd (P := fun st : List Bool × List Int => Wk n S st.1 st.2 ∧ (∀ s, Mk m1 s → Mk st.1 s) ∧ (∀ s ∈ todo1, s ∈ st.2) ∧ (∀ s, Mk st.1 s → Mk m1 s ∨ s ∈ st.2) ∧ (n.Arcs[i].Epsilon = true → n.Arcs[i].From = s0 → Mk st.1 n.Arcs[i].To) ∧ 2 * cf st.1 + st.2.length ≤ 2 * cf m1 + todo1.length) ?_ ?_
      · refine Is.bnq (idxL_nat hi) ?_
        refine Is.bnd (P := fun b : Bool => b = true ↔ n.Arcs[i].Epsilon = true ∧ n.Arcs[i].From = s0) ?_ fun b hb => ?_
        · refine Is.cnd (fun h => Is.pure ?_) (fun h => Is.pure ?_)
          · rw [beq_iff_eq, h]; exact ⟨fun h => ⟨rfl, h⟩, fun h => h.2⟩
          · rw [h]; simp
        · refine Is.cnd (fun h => ?_) (fun h => ?_)
          · obtain ⟨q1, q2⟩ := hb.1 h
            obtain ⟨m2, todo2, e, r1, r2, r3, r4, r5, r6⟩ := add_ok hn g1 (t := n.Arcs[i].To) (fun _ _ => .arc ha q1 (by rw [q2]; exact g1.sound _ (g2 _ hs0)))
            have hto := (hn.arcs _ ha).2.1
            exact Is.bnq e (Is.pure ⟨r1, r2, r4, r5, fun _ _ => r3 hto.1 hto.2, r6⟩)
          · exact Is.pure ⟨g1, fun _ h => h, fun _ h => h, fun _ h => .inl h, fun q1 q2 => (by have := hb.2 ⟨q1, q2⟩; rw [h] at this; cases this), Nat.le_refl _⟩
      · rintro ⟨m2, todo2⟩ ⟨r1, r2, r3, r4, r5, r6⟩
        simp only at r1 r2 r3 r4 r5 r6
        refine Is.bnq (chk_succ (by have := hn.len; omega)) (Is.next ⟨rfl, r1, fun s hs => r2 s (g2 s hs), fun s hs => ?_, fun a hat q1 q2 => ?_, by show 2 * cf m2 + todo2.length ≤ _; omega⟩)
        · rcases r4 s hs with h | h
          · rcases g3 s h with h | h | h
            · exact .inl h
            · exact .inr (.inl (r3 s h))
            · exact .inr (.inr fun a ha he hf => r2 _ (h a ha he hf))
          · exact .inr (.inl h)
        · rw [List.take_add_one, List.getElem?_eq_getElem hi, List.mem_append] at hat
          rcases hat with hat | hat
          · exact r2 _ (g4 a hat q1 q2)
          · obtain rfl : a = n.Arcs[i] := by simpa using hat
            exact r5 q1 q2
    · rintro ⟨m1, todo1, _⟩ ⟨rfl, g1, g2, g3, g4, g5⟩
      rw [List.take_length] at g4
      exact Is.df (by omega) (Is.stop ⟨g1, g2, g3, g4, g5⟩)
  · rintro (⟨m1, todo1⟩ | r) hr
    · obtain ⟨g1, g2, g3, g4, g5⟩ := hr
      simp only at g1 g2 g3 g4 g5
      refine ⟨⟨g1, fun s hs h0 h1' => g2 _ (h2 s hs h0 h1'), fun s hs => ?_⟩, by show 2 * cf m1 + todo1.length < 2 * cf m + todo.length; omega⟩
      rcases g3 s hs with rfl | h | h
      · exact .inr g4
      · exact .inl h
      · exact .inr h
    · exact hr.elim
end
end Go.Proofs.Ytajmekjcnbmaaaa
