/- Plain facts on automata with epsilon arcs: what the two checks of validity answer. -/
import Derived.Test.YtajmekjcnbmaaaaPlNfb
import Derived.Test.YtajmekjcnbmaaaaPl10a
namespace Go.Proofs.Ytajmekjcnbmaaaa
open Go.Lx

structure VN (n : T_NFA) : Prop where
  pos : 1 ≤ n.States
  most : n.States ≤ 2000
  start : 0 ≤ n.Start ∧ n.Start < n.States
  acc : (n.Accept.length : Int) = n.States
  low : ∀ x ∈ n.Accept, -1 ≤ x
  arcs : ∀ a ∈ n.Arcs, (0 ≤ a.From ∧ a.From < n.States) ∧ (0 ≤ a.To ∧ a.To < n.States) ∧ (a.Epsilon = true → a.Set = Vec.zero 4)
def preN (n : T_NFA) : Prop := 1 ≤ n.States ∧ n.States ≤ 2000 ∧ (0 ≤ n.Start ∧ n.Start < n.States) ∧ (n.Accept.length : Int) = n.States
theorem VN.fit {n : T_NFA} (h : VN n) (hl : n.Arcs.length ≤ 1000000000) (hs : ∀ a ∈ n.Arcs, W4 a.Set) : FitN n := ⟨h.pos, h.most, h.start, h.acc, h.low, h.arcs, hl, hs⟩
theorem VN.pre {n : T_NFA} (h : VN n) : preN n := ⟨h.pos, h.most, h.start, h.acc⟩
def arcOk (n : T_NFA) (a : T_NFAArc) : Prop := (0 ≤ a.From ∧ a.From < n.States) ∧ (0 ≤ a.To ∧ a.To < n.States) ∧ (a.Epsilon = true → a.Set = Vec.zero 4)
theorem mem_take_get {α : Type} {l : List α} {i : Nat} (hi : i < l.length) {x : α} : x ∈ l.take (i + 1) ↔ x ∈ l.take i ∨ x = l[i] := by
  rw [List.take_add_one, List.getElem?_eq_getElem hi, List.mem_append]
  simp
theorem refValidN_is {n : T_NFA} (hl : n.Arcs.length ≤ 9223372036854775807) (ha : n.Accept.length ≤ 9223372036854775807) : Is (M.ref09_Valid n) (fun b => b = true ↔ VN n) := by
  unfold M.ref09_Valid
  refine Is.bnd (P := fun b : Bool => b = false ↔ preN n) ?_ fun b hb => ?_
  · refine Is.dcd (fun h => Is.pure ⟨fun e => (by cases e), fun e => by have := e.1; omega⟩) (fun h1 => ?_)
    refine Is.dcd (fun h => Is.pure ⟨fun e => (by cases e), fun e => by have := e.2.1; omega⟩) (fun h2 => ?_)
    refine Is.dcd (fun h => Is.pure ⟨fun e => (by cases e), fun e => by have := e.2.2.1.1; omega⟩) (fun h3 => ?_)
    refine Is.dcd (fun h => Is.pure ⟨fun e => (by cases e), fun e => by have := e.2.2.1.2; omega⟩) (fun h4 => Is.pure ?_)
    exact ⟨fun e => ⟨by omega, by omega, ⟨by omega, by omega⟩, of_bne_f e⟩, fun e => bne_f e.2.2.2⟩
  refine Is.cnd (fun h => Is.pure ⟨fun e => (by cases e), fun e => by have := hb.2 e.pre; rw [h] at this; cases this⟩) (fun h => ?_)
  have hpre := hb.1 h
  refine Is.bs (P := fun _ : Unit => ∀ x ∈ n.Accept, -1 ≤ x) ?_ fun _ hacc => Is.bs (P := fun _ : Unit => ∀ a ∈ n.Arcs, arcOk n a) ?_ fun _ harc => Is.pure ⟨fun _ => ⟨hpre.1, hpre.2.1, hpre.2.2.1, hpre.2.2.2, hacc, harc⟩, fun _ => rfl⟩
  · refine Is.upto (fun i (st : Int) => st = (i : Int) ∧ ∀ x ∈ n.Accept.take i, -1 ≤ x) n.Accept.length ha ⟨rfl, by simp⟩ ?_ ?_
    · rintro i _ hi ⟨rfl, hJ⟩
      refine Is.dt (by omega) (Is.bnq (idxL_nat hi) (Is.dcd (fun h => Is.stop ⟨fun e => (by cases e), fun e => ?_⟩) (fun h => Is.bnq (chk_succ (by omega)) (Is.next ⟨rfl, fun x hx => ?_⟩))))
      · have := e.low _ (List.getElem_mem hi); omega
      · rcases (mem_take_get hi).1 hx with hx | rfl
        · exact hJ x hx
        · omega
    · rintro _ ⟨rfl, hJ⟩
      rw [List.take_length] at hJ
      exact Is.df (by omega) (Is.stop hJ)
  · refine Is.upto (fun i (st : Int) => st = (i : Int) ∧ ∀ a ∈ n.Arcs.take i, arcOk n a) n.Arcs.length hl ⟨rfl, by simp⟩ ?_ ?_
    · rintro i _ hi ⟨rfl, hJ⟩
      refine Is.dt (by omega) (Is.bnq (idxL_nat hi) (Is.bnd (P := fun b : Bool => b = false ↔ arcOk n n.Arcs[i]) ?_ fun b hb => Is.cnd (fun h => Is.stop ⟨fun e => (by cases e), fun e => ?_⟩) (fun h => Is.bnq (chk_succ (by omega)) (Is.next ⟨rfl, fun x hx => ?_⟩))))
      · refine Is.dcd (fun h => Is.pure ⟨fun e => (by cases e), fun e => by have := e.1.1; omega⟩) (fun h1 => ?_)
        refine Is.dcd (fun h => Is.pure ⟨fun e => (by cases e), fun e => by have := e.1.2; omega⟩) (fun h2 => ?_)
        refine Is.dcd (fun h => Is.pure ⟨fun e => (by cases e), fun e => by have := e.2.1.1; omega⟩) (fun h3 => ?_)
        refine Is.dcd (fun h => Is.pure ⟨fun e => (by cases e), fun e => by have := e.2.1.2; omega⟩) (fun h4 => ?_)
        refine Is.cnd (fun he => Is.pure ?_) (fun he => Is.pure ⟨fun _ => ⟨by omega, by omega, fun e => by rw [he] at e; cases e⟩, fun _ => rfl⟩)
        rw [bne_eq_false_iff_eq]
        exact ⟨fun e => ⟨by omega, by omega, fun _ => e⟩, fun e => e.2.2 he⟩
      · have := hb.2 (e.arcs _ (List.getElem_mem hi)); rw [h] at this; cases this
      · rcases (mem_take_get hi).1 hx with hx | rfl
        · exact hJ x hx
        · exact hb.1 h
    · rintro _ ⟨rfl, hJ⟩
      rw [List.take_length] at hJ
      exact Is.df (by omega) (Is.stop hJ)
theorem inside_ok (n : T_NFA) (s : Int) : M.nfa_Valid_1 s n = some (decide (0 ≤ s ∧ s < n.States)) := by
  unfold M.nfa_Valid_1
  by_cases h : 0 ≤ s
  · rw [decide_eq_true h]
    by_cases h2 : s < n.States
    · rw [decide_eq_true h2, decide_eq_true (show 0 ≤ s ∧ s < n.States from ⟨h, h2⟩)]; rfl
    · rw [decide_eq_false h2, decide_eq_false (show ¬ (0 ≤ s ∧ s < n.States) from fun e => h2 e.2)]; rfl
  · rw [decide_eq_false h, decide_eq_false (show ¬ (0 ≤ s ∧ s < n.States) from fun e => h e.1)]; rfl
theorem validN_is {n : T_NFA} (hl : n.Arcs.length ≤ 9223372036854775807) (ha : n.Accept.length ≤ 9223372036854775807) : Is (M.nfa_Valid n) (fun b => b = true ↔ VN n) := by
  unfold M.nfa_Valid
  refine Is.bnd (P := fun b : Bool => b = false ↔ preN n) ?_ fun b hb => ?_
  · refine Is.dcd (fun h => Is.pure ⟨fun e => (by cases e), fun e => by have := e.1; omega⟩) (fun h1 => ?_)
    refine Is.dcd (fun h => Is.pure ⟨fun e => (by cases e), fun e => by have := e.2.1; omega⟩) (fun h2 => ?_)
    refine Is.bnq (inside_ok n _) (Is.cnd (fun h => Is.pure ⟨fun e => (by cases e), fun e => ?_⟩) (fun h => Is.pure ?_))
    · have := decide_eq_true (p := 0 ≤ n.Start ∧ n.Start < n.States) e.2.2.1
      rw [this] at h; cases h
    · have h3 : 0 ≤ n.Start ∧ n.Start < n.States := of_decide_eq_true (by simpa using h)
      exact ⟨fun e => ⟨by omega, by omega, h3, of_bne_f e⟩, fun e => bne_f e.2.2.2⟩
  refine Is.cnd (fun h => Is.pure ⟨fun e => (by cases e), fun e => by have := hb.2 e.pre; rw [h] at this; cases this⟩) (fun h => ?_)
  have hpre := hb.1 h
  refine Is.bs (P := fun _ : Unit => ∀ a ∈ n.Arcs, arcOk n a) ?_ fun _ harc => ?_
  · refine Is.upto (fun i (st : Int) => st = (i : Int) ∧ ∀ a ∈ n.Arcs.take i, arcOk n a) n.Arcs.length hl ⟨rfl, by simp⟩ ?_ ?_
    · rintro i _ hi ⟨rfl, hJ⟩
      refine Is.dt (by omega) (Is.bnq (idxL_nat hi) (Is.bnd (P := fun b : Bool => b = false ↔ arcOk n n.Arcs[i]) ?_ fun b hb => Is.cnd (fun h => Is.stop ⟨fun e => (by cases e), fun e => ?_⟩) (fun h => Is.bnq (chk_succ (by omega)) (Is.next ⟨rfl, fun x hx => ?_⟩))))
      · refine Is.bnq (inside_ok n _) (Is.cnd (fun h => Is.pure ⟨fun e => (by cases e), fun e => ?_⟩) (fun h1 => ?_))
        · rw [decide_eq_true e.1] at h; cases h
        have h1 : 0 ≤ n.Arcs[i].From ∧ n.Arcs[i].From < n.States := of_decide_eq_true (by simpa using h1)
        refine Is.bnq (inside_ok n _) (Is.cnd (fun h => Is.pure ⟨fun e => (by cases e), fun e => ?_⟩) (fun h2 => ?_))
        · rw [decide_eq_true e.2.1] at h; cases h
        have h2 : 0 ≤ n.Arcs[i].To ∧ n.Arcs[i].To < n.States := of_decide_eq_true (by simpa using h2)
        refine Is.cnd (fun he => Is.pure ?_) (fun he => Is.pure ⟨fun _ => ⟨h1, h2, fun e => by rw [he] at e; cases e⟩, fun _ => rfl⟩)
        rw [bne_eq_false_iff_eq]
        exact ⟨fun e => ⟨h1, h2, fun _ => e⟩, fun e => e.2.2 he⟩
      · have := hb.2 (e.arcs _ (List.getElem_mem hi)); rw [h] at this; cases this
      · rcases (mem_take_get hi).1 hx with hx | rfl
        · exact hJ x hx
        · exact hb.1 h
    · rintro _ ⟨rfl, hJ⟩
      rw [List.take_length] at hJ
      exact Is.df (by omega) (Is.stop hJ)
  · refine Is.bnq (contains_eq (p := fun x => decide (x < -1)) (fun x _ => rfl) ha) (Is.pure ?_)
    rw [Bool.not_eq_true', List.any_eq_false]
    exact ⟨fun e => ⟨hpre.1, hpre.2.1, hpre.2.2.1, hpre.2.2.2, fun x hx => by have := e x hx; simp at this; omega, harc⟩, fun e x hx => by have := e.low x hx; simp; omega⟩
end Go.Proofs.Ytajmekjcnbmaaaa
