/- Plain facts on automata: the reference's closure, steps, runs, validity. -/
import Derived.Test.YtajmekjcnbmaaaaPlNfa
namespace Go.Proofs.Ytajmekjcnbmaaaa
open Go.Lx

section
variable {n : T_NFA} (hn : FitN n) {S : List Int}
include hn
theorem make_marks : mkM 1 n.States false = some (List.replicate n.States.toNat false) := by
  have hp := hn.pos
  have hm := hn.most
  have := mkM_nat (B := 1) (n := n.States.toNat) (z := false) (by omega)
  rw [show ((n.States.toNat : Nat) : Int) = n.States by omega] at this
  exact this
theorem refClosure_ok (hS : S.length ≤ 1000000000) : M.ref09_Closure n S = some (clo n S) := by
  have hp := hn.pos
  have hm := hn.most
  have ha9 := hn.len
  refine Is.eq ?_
  unfold M.ref09_Closure
  refine Is.bnq (make_marks hn) ?_
  refine Is.bnd (P := fun m : List Bool => m.length = n.States.toNat ∧ (∀ s ∈ S, 0 ≤ s → s < n.States → Mk m s) ∧ (∀ s, Mk m s → Rch n S s)) ?_ ?_
  · refine Is.upto (fun i (st : List Bool × Int) => st.2 = (i : Int) ∧ st.1.length = n.States.toNat ∧ (∀ s ∈ S.take i, 0 ≤ s → s < n.States → Mk st.1 s) ∧ (∀ s, Mk st.1 s → Rch n S s)) S.length (by omega)
      ⟨rfl, by simp, by simp, fun s hs => absurd hs mk_replicate⟩ ?_ ?_
    · rintro i ⟨m, _⟩ hi ⟨rfl, h1, h2, h3⟩
      simp only at h1 h2 h3
      refine Is.dt (by omega) ?_
      refine Is.bnd (P := fun m2 : List Bool => m2.length = n.States.toNat ∧ (∀ s, Mk m s → Mk m2 s) ∧ (0 ≤ S[i] → S[i] < n.States → Mk m2 S[i]) ∧ (∀ s, Mk m2 s → Rch n S s)) ?_ fun m2 h => Is.bnq (chk_succ (by omega)) (Is.next ⟨rfl, h.1, fun s hs h0 h1' => ?_, h.2.2.2⟩)
      · refine Is.bnd (P := fun b : Bool => b = true ↔ 0 ≤ S[i] ∧ S[i] < n.States) ?_ fun b hb => ?_
        · refine Is.bnq (idxL_nat hi) (Is.dcd (fun h => Is.pure ?_) (fun h => Is.pure ?_))
          · rw [decide_eq_true_eq]; exact ⟨fun h2 => ⟨h, h2⟩, fun h2 => h2.2⟩
          · exact ⟨fun h2 => (by cases h2), fun h2 => absurd h2.1 h⟩
        · refine Is.cnd (fun h => ?_) (fun h => ?_)
          · obtain ⟨q1, q2⟩ := hb.1 h
            have hmk : ∀ s, Mk (mark m S[i]) s ↔ s = S[i] ∨ Mk m s := fun s => mk_mark q1 (by omega)
            refine Is.bnq (idxL_nat hi) (Is.bnq (setL_int q1 (by omega)) (Is.pure ⟨by rw [List.length_set]; exact h1, fun s hs => (hmk s).2 (.inr hs), fun _ _ => (hmk _).2 (.inl rfl), fun s hs => ?_⟩))
            rcases (hmk s).1 hs with rfl | hs
            · exact .base (List.getElem_mem hi) q1 q2
            · exact h3 s hs
          · exact Is.pure ⟨h1, fun _ h => h, fun q1 q2 => (by have := hb.2 ⟨q1, q2⟩; rw [h] at this; cases this), h3⟩
      · rw [List.take_add_one, List.getElem?_eq_getElem hi, List.mem_append] at hs
        rcases hs with hs | hs
        · exact h.2.1 s (h2 s hs h0 h1')
        · obtain rfl : s = S[i] := by simpa using hs
          exact h.2.2.1 h0 h1'
    · rintro ⟨m, _⟩ ⟨rfl, h1, h2, h3⟩
      rw [List.take_length] at h2
      exact Is.df (by omega) (Is.stop ⟨h1, h2, h3⟩)
  rintro m0 ⟨l0, s0, r0⟩
  refine Is.bnd (P := fun m : List Bool => m.length = n.States.toNat ∧ ∀ s, Mk m s ↔ Rch n S s) ?_ fun m hm2 => Is.bnq (list_ok (by rw [hm2.1]; omega)) (Is.pure (idxs_clo hm2.1 hm2.2))
  refine Is.while (fun st : List Bool × Bool => st.1.length = n.States.toNat ∧ (∀ s ∈ S, 0 ≤ s → s < n.States → Mk st.1 s) ∧ (∀ s, Mk st.1 s → Rch n S s) ∧ (st.2 = false → ∀ s, Mk st.1 s → Shut n st.1 s)) (fun st => 2 * cf st.1 + (bif st.2 then 1 else 0)) ⟨l0, s0, r0, fun h => (by cases h)⟩ ?_ ?_
  · have := cf_le m0
    show 2 * cf m0 + 1 ≤ _
    omega
  rintro ⟨m, b⟩ ⟨h1, h2, h3, h4⟩
  simp only at h1 h2 h3 h4
  cases b with
  | false => exact Is.cf rfl (Is.stop ⟨h1, fun s => ⟨h3 s, shut_all h2 (h4 rfl) s⟩⟩)
  | true =>
    refine Is.ct rfl ?_
    refine Is.mono (P := SP (fun st : List Bool × Bool => st.1.length = n.States.toNat ∧ (∀ s, Mk m s → Mk st.1 s) ∧ (∀ s, Mk st.1 s → Rch n S s) ∧ (st.2 = true → cf st.1 < cf m) ∧ (st.2 = false → st.1 = m ∧ ∀ s, Mk st.1 s → Shut n st.1 s)) (fun _ => False)) ?_ ?_
    · refine Is.upto (Q := fun r : Step (List Bool × Bool) (List Bool) => SP (fun st : List Bool × Bool => st.1.length = n.States.toNat ∧ (∀ s, Mk m s → Mk st.1 s) ∧ (∀ s, Mk st.1 s → Rch n S s) ∧ (st.2 = true → cf st.1 < cf m) ∧ (st.2 = false → st.1 = m ∧ ∀ s, Mk st.1 s → Shut n st.1 s)) (fun _ => False) r)
        (fun i (st : List Bool × Bool × Int) => st.2.2 = (i : Int) ∧ st.1.length = n.States.toNat ∧ (∀ s, Mk m s → Mk st.1 s) ∧ (∀ s, Mk st.1 s → Rch n S s) ∧ (st.2.1 = true → cf st.1 < cf m) ∧ (st.2.1 = false → st.1 = m ∧ ∀ a ∈ n.Arcs.take i, a.Epsilon = true → Mk m a.From → Mk m a.To)) n.Arcs.length (by omega)
        ⟨rfl, h1, fun _ h => h, h3, fun h => (by cases h), fun _ => ⟨rfl, by simp⟩⟩ ?_ ?_
      · rintro i ⟨m1, b1, _⟩ hi ⟨rfl, g1, g2, g3, g4, g5⟩
        simp only at g1 g2 g3 g4 g5
        have hai := List.getElem_mem hi
        have har := hn.arcs _ hai
        have hmonoc : cf m1 ≤ cf m := by
          cases b1 with
          | true => exact Nat.le_of_lt (g4 rfl)
          | false => rw [(g5 rfl).1]; exact Nat.le_refl _
        refine Is.dt (by omega) ?_
        refine Is.bnd (P := fun st : List Bool × Bool => st.1.length = n.States.toNat ∧ (∀ s, Mk m1 s → Mk st.1 s) ∧ (∀ s, Mk st.1 s → Rch n S s) ∧ (st.2 = true → cf st.1 < cf m) ∧ (st.2 = false → b1 = false ∧ st.1 = m1 ∧ (n.Arcs[i].Epsilon = true → Mk m1 n.Arcs[i].From → Mk m1 n.Arcs[i].To))) ?_ ?_
        · refine Is.bnq (idxL_nat hi) ?_
          obtain ⟨bf, ef, hf⟩ := idx_mk (m := m1) har.1.1 (by omega)
          obtain ⟨bt, et, ht⟩ := idx_mk (m := m1) har.2.1.1 (by omega)
          refine Is.bnd (P := fun b : Bool => b = true ↔ n.Arcs[i].Epsilon = true ∧ Mk m1 n.Arcs[i].From ∧ ¬ Mk m1 n.Arcs[i].To) ?_ fun b hb => ?_
          · refine Is.cnd (fun h => Is.bnq ef (Is.cnd (fun h2 => Is.bnq et (Is.pure ?_)) (fun h2 => Is.pure ?_))) (fun h => Is.pure ?_)
            · rw [← ht, ← hf, h2]
              cases bt <;> simp [h]
            · rw [← hf, h2]; simp
            · rw [h]; simp
          · refine Is.cnd (fun h => ?_) (fun h => ?_)
            · obtain ⟨q1, q2, q3⟩ := hb.1 h
              have hmk : ∀ s, Mk (mark m1 n.Arcs[i].To) s ↔ s = n.Arcs[i].To ∨ Mk m1 s := fun s => mk_mark har.2.1.1 (by omega)
              have hc := cf_mark har.2.1.1 (show n.Arcs[i].To < m1.length by omega) q3
              refine Is.bnq (setL_int har.2.1.1 (by omega)) (Is.pure ⟨by rw [List.length_set]; exact g1, fun s hs => (hmk s).2 (.inr hs), fun s hs => ?_, fun _ => ?_, fun h => (by cases h)⟩)
              · rcases (hmk s).1 hs with rfl | hs
                · exact .arc hai q1 (g3 _ q2)
                · exact g3 s hs
              · show cf (mark m1 n.Arcs[i].To) < cf m
                omega
            · refine Is.pure ⟨g1, fun _ h => h, g3, g4, fun hb1 => ⟨hb1, rfl, fun q1 q2 => Classical.byContradiction fun q3 => ?_⟩⟩
              have := hb.2 ⟨q1, q2, q3⟩
              rw [h] at this; cases this
        · rintro ⟨m2, b2⟩ ⟨r1, r2, r3, r4, r5⟩
          simp only at r1 r2 r3 r4 r5
          refine Is.bnq (chk_succ (by omega)) (Is.next ⟨rfl, r1, fun s hs => r2 s (g2 s hs), r3, r4, fun hb2 => ?_⟩)
          obtain ⟨k1, k2, k3⟩ := r5 hb2
          obtain ⟨k4, k5⟩ := g5 k1
          subst k2
          refine ⟨k4, fun a hat q1 q2 => ?_⟩
          rw [List.take_add_one, List.getElem?_eq_getElem hi, List.mem_append] at hat
          rcases hat with hat | hat
          · exact k5 a hat q1 q2
          · obtain rfl : a = n.Arcs[i] := by simpa using hat
            rw [k4] at k3
            exact k3 q1 q2
      · rintro ⟨m1, b1, _⟩ ⟨rfl, g1, g2, g3, g4, g5⟩
        simp only at g1 g2 g3 g4 g5
        rw [List.take_length] at g5
        refine Is.df (by omega) (Is.stop ⟨g1, g2, g3, g4, fun hb => ?_⟩)
        obtain ⟨k1, k2⟩ := g5 hb
        exact ⟨k1, fun s hs a ha he hf => by rw [k1] at hs ⊢; exact k2 a ha he (by rw [hf]; exact hs)⟩
    · rintro (⟨m1, b1⟩ | r) hr
      · obtain ⟨g1, g2, g3, g4, g5⟩ := hr
        simp only at g1 g2 g3 g4 g5
        refine ⟨⟨g1, fun s hs h0 h1' => g2 _ (h2 s hs h0 h1'), g3, fun hb => (g5 hb).2⟩, ?_⟩
        cases b1 with
        | true => have := g4 rfl; show 2 * cf m1 + 1 < 2 * cf m + 1; omega
        | false => rw [(g5 rfl).1]; show 2 * cf m + 0 < 2 * cf m + 1; omega
      · exact hr.elim

/-! ### steps -/
omit hn in
theorem marks_loop {N : Nat} {l : List Int} (hl : ∀ s ∈ l, 0 ≤ s ∧ s < N) (hlen : l.length ≤ 1000000000) {body : List Bool × Int → Option (Step (List Bool × Int) (List Bool))}
    (hb : ∀ m i, body (m, i) = bif decide (i < (l.length : Int)) then (idxL l i).bind fun e => (setL m e true).bind fun m2 => (chk .i64 (i + 1)).bind fun t => some (.next (m2, t)) else some (.stop m)) :
    Is (loopM body fuel (List.replicate N false, (0 : Int))) fun m => m.length = N ∧ ∀ s, Mk m s ↔ s ∈ l := by
  refine Is.upto (fun i (st : List Bool × Int) => st.2 = (i : Int) ∧ st.1.length = N ∧ ∀ s, Mk st.1 s ↔ s ∈ l.take i) l.length (by omega) ⟨rfl, by simp, fun s => ⟨fun h => absurd h mk_replicate, fun h => by simp at h⟩⟩ ?_ ?_
  · rintro i ⟨m, _⟩ hi ⟨rfl, h1, h2⟩
    simp only at h1 h2
    have he := hl l[i] (List.getElem_mem hi)
    rw [hb]
    refine Is.dt (by omega) (Is.bnq (idxL_nat hi) (Is.bnq (setL_int he.1 (by omega)) (Is.bnq (chk_succ (by omega)) (Is.next ⟨rfl, by rw [List.length_set]; exact h1, fun s => ?_⟩))))
    rw [show (m.set l[i].toNat true) = mark m l[i] from rfl, mk_mark he.1 (by omega), h2, List.take_add_one, List.getElem?_eq_getElem hi, List.mem_append]
    simp only [Option.toList_some, List.mem_singleton]
    exact Or.comm
  · rintro ⟨m, _⟩ ⟨rfl, h1, h2⟩
    rw [hb]
    rw [List.take_length] at h2
    exact Is.df (by omega) (Is.stop ⟨h1, h2⟩)
open Classical in
/-- The targets of a byte. -/
noncomputable def tgt (n : T_NFA) (L : List Int) (b : Nat) : List Int := (n.Arcs.filter fun a => !a.Epsilon && (decide (a.From ∈ L) && mem a.Set b)).map (·.To)
noncomputable def stp (n : T_NFA) (S : List Int) (b : Nat) : List Int := clo n (tgt n (clo n S) b)
omit hn in
theorem tgt_len (n : T_NFA) (L : List Int) (b : Nat) : (tgt n L b).length ≤ n.Arcs.length := by
  unfold tgt
  rw [List.length_map]
  exact List.length_filter_le _ _
open Classical in
theorem tgt_loop {L : List Int} {b : Nat} {m : List Bool} (hm : ∀ s, Mk m s ↔ s ∈ L) (hml : m.length = n.States.toNat) {H : Vec 4 → Option Bool} (hH : ∀ v, W4 v → H v = some (mem v b)) {body : List Int × Int → Option (Step (List Int × Int) (List Int))}
    (hb : ∀ a i, body (a, i) = bif decide (i < (n.Arcs.length : Int)) then ((idxL n.Arcs i).bind fun e => (bif (!e.Epsilon) then (idxL m e.From).bind fun q => bif q then (H e.Set).bind fun r => some r else some false else some false).bind fun r => bif r then (appM 8 a [e.To]).bind fun l => some l else some a).bind fun l => (chk .i64 (i + 1)).bind fun t => some (.next (l, t)) else some (.stop a)) :
    loopM body fuel (([] : List Int), (0 : Int)) = some (tgt n L b) := by
  have hp := hn.pos
  have hlen := hn.len
  refine Is.eq ?_
  refine Is.upto (fun i (st : List Int × Int) => st.2 = (i : Int) ∧ st.1 = ((n.Arcs.take i).filter fun a => !a.Epsilon && (decide (a.From ∈ L) && mem a.Set b)).map (·.To)) n.Arcs.length (by omega) ⟨rfl, rfl⟩ ?_ ?_
  · rintro i ⟨a, _⟩ hi ⟨rfl, h1⟩
    obtain rfl : a = _ := h1
    have hai := List.getElem_mem hi
    have har := hn.arcs _ hai
    rw [hb]
    refine Is.dt (by omega) ?_
    have hl : (((n.Arcs.take i).filter fun a => !a.Epsilon && (decide (a.From ∈ L) && mem a.Set b)).map (·.To)).length ≤ i := by
      rw [List.length_map]
      refine Nat.le_trans (List.length_filter_le _ _) ?_
      rw [List.length_take]; omega
    refine Is.bnd (P := fun l => l = ((n.Arcs.take (i + 1)).filter fun a => !a.Epsilon && (decide (a.From ∈ L) && mem a.Set b)).map (·.To)) ?_ fun l hl => Is.bnq (chk_succ (by omega)) (Is.next ⟨rfl, hl⟩)
    refine Is.bnq (idxL_nat hi) ?_
    rw [List.take_add_one, List.getElem?_eq_getElem hi, List.filter_append, List.map_append]
    refine Is.bnq (x := !n.Arcs[i].Epsilon && (decide (n.Arcs[i].From ∈ L) && mem n.Arcs[i].Set b)) ?_ ?_
    · obtain ⟨q, eq, hq⟩ := idx_mk (m := m) har.1.1 (by omega)
      have hq2 : q = decide (n.Arcs[i].From ∈ L) := by
        rw [Bool.eq_iff_iff, hq, hm, decide_eq_true_eq]
      subst hq2
      cases n.Arcs[i].Epsilon
      · refine bind_of eq ?_
        cases decide (n.Arcs[i].From ∈ L)
        · rfl
        · exact bind_of (hH _ (hn.sets _ hai)) rfl
      · rfl
    refine Is.cnd (fun h => ?_) (fun h => ?_)
    · refine Is.bnq (appM_ok (by simp only [List.length_singleton]; omega)) (Is.pure ?_)
      simp only [Option.toList_some, List.filter_cons, h, if_true, List.filter_nil, List.map_cons, List.map_nil]
    · refine Is.pure ?_
      simp only [Option.toList_some, List.filter_cons, h, Bool.false_eq_true, if_false, List.filter_nil, List.map_nil, List.append_nil]
  · rintro ⟨a, _⟩ ⟨rfl, h1⟩
    obtain rfl : a = _ := h1
    rw [hb]
    refine Is.df (by omega) (Is.stop ?_)
    rw [List.take_length]
    rfl
theorem clo_in {S : List Int} : ∀ s ∈ clo n S, 0 ≤ s ∧ s < (n.States.toNat : Int) := by
  intro s hs
  have := ((mem_clo hn).1 hs).lt hn
  omega
theorem clo_small {S : List Int} : (clo n S).length ≤ 2000 := by
  have := clo_len n S
  have := hn.most
  omega
theorem step_ok (hS : S.length ≤ 1000000000) {b : Nat} (hb : b < 256) : M.nfa_Step n S (b : Int) = some (stp n S b) := by
  have hlen := hn.len
  refine Is.eq ?_
  unfold M.nfa_Step
  refine Is.bnq (make_marks hn) ?_
  have hcs := clo_small hn (S := S)
  refine Is.bnd (P := fun m : List Bool => m.length = n.States.toNat ∧ ∀ s, Mk m s ↔ s ∈ clo n S) (Is.bnq (closure_ok hn hS) (marks_loop (clo_in hn) (by omega) (fun _ _ => rfl))) ?_
  rintro m ⟨h1, h2⟩
  refine Is.bnq (tgt_loop hn (b := b) h2 h1 (H := fun v => M.byteset_Has v (b : Int)) (fun v hv => has_eq hv hb) (fun _ _ => rfl)) ?_
  have := tgt_len n (clo n S) b
  exact Is.bnq (closure_ok hn (by omega)) (Is.pure rfl)
theorem refStep_ok (hS : S.length ≤ 1000000000) {b : Nat} (hb : b < 256) : M.ref09_Step n S (b : Int) = some (stp n S b) := by
  have hlen := hn.len
  refine Is.eq ?_
  unfold M.ref09_Step
  refine Is.bnq (make_marks hn) (Is.bnq (refClosure_ok hn hS) ?_)
  have hcs := clo_small hn (S := S)
  refine Is.bnd (P := fun m : List Bool => m.length = n.States.toNat ∧ ∀ s, Mk m s ↔ s ∈ clo n S) (marks_loop (clo_in hn) (by omega) (fun _ _ => rfl)) ?_
  rintro m ⟨h1, h2⟩
  refine Is.bnq (tgt_loop hn (b := b) h2 h1 (H := fun v => M.ref07_Has v (b : Int)) (fun v hv => has_eq' hv hb) (fun _ _ => rfl)) ?_
  have := tgt_len n (clo n S) b
  exact Is.bnq (refClosure_ok hn (by omega)) (Is.pure rfl)
theorem rch_clo (s : Int) : Rch n (clo n S) s ↔ Rch n S s := by
  constructor
  · intro h
    induction h with
    | base hs _ _ => exact (mem_clo hn).1 hs
    | arc ha he _ ih => exact .arc ha he ih
  · intro h
    have := h.lt hn
    exact .base ((mem_clo hn).2 h) this.1 this.2
theorem clo_clo : clo n (clo n S) = clo n S := by
  unfold clo
  congr 1
  refine List.filter_congr fun i _ => ?_
  rw [decide_eq_decide]
  exact rch_clo hn i
theorem clo_stp {b : Nat} : clo n (stp n S b) = stp n S b := clo_clo hn
theorem stp_clo {b : Nat} : stp n (clo n S) b = stp n S b := by
  unfold stp
  rw [clo_clo hn]
end
/-! ### the least number accepted -/
def best1 (acc : List Int) (o : Int) (s : Int) : Int := bif decide (0 ≤ acc.getD s.toNat 0) && (decide (o < 0) || decide (acc.getD s.toNat 0 < o)) then acc.getD s.toNat 0 else o
theorem best_key (e o : Int) : (bif decide (0 ≤ e) then bif decide (o < 0) then some true else some (decide (e < o)) else some false).bind (fun x => bif x then some e else some o) = some (bif decide (0 ≤ e) && (decide (o < 0) || decide (e < o)) then e else o) := by
  cases decide (0 ≤ e) <;> cases decide (o < 0) <;> cases decide (e < o) <;> rfl
def best (acc : List Int) (l : List Int) : Int := l.foldl (best1 acc) (-1)
theorem best_loop {acc l : List Int} (hl : ∀ s ∈ l, 0 ≤ s ∧ s < (acc.length : Int)) (hlen : l.length ≤ 1000000000) {body : Int × Int → Option (Step (Int × Int) Int)}
    (hb : ∀ o i, body (o, i) = bif decide (i < (l.length : Int)) then ((idxL l i).bind fun e23 => (idxL acc e23).bind fun e24 => (bif decide (0 ≤ e24) then bif decide (o < 0) then some true else some (decide (e24 < o)) else some false).bind fun x => bif x then some e24 else some o).bind fun o2 => (chk .i64 (i + 1)).bind fun t => some (.next (o2, t)) else some (.stop o)) :
    loopM body fuel (((-1) : Int), (0 : Int)) = some (best acc l) := by
  refine Is.eq ?_
  refine Is.upto (fun i (st : Int × Int) => st.2 = (i : Int) ∧ st.1 = (l.take i).foldl (best1 acc) (-1)) l.length (by omega) ⟨rfl, rfl⟩ ?_ ?_
  · rintro i ⟨o, _⟩ hi ⟨rfl, h1⟩
    obtain rfl : o = _ := h1
    have he := hl l[i] (List.getElem_mem hi)
    rw [hb]
    refine Is.dt (by omega) (Is.bnq (x := best1 acc ((l.take i).foldl (best1 acc) (-1)) l[i]) ?_ (Is.bnq (chk_succ (by omega)) (Is.next ⟨rfl, ?_⟩)))
    · refine bind_of (idxL_nat hi) (bind_of (idxL_int (d := 0) he.1 he.2) ?_)
      exact best_key _ _
    · rw [List.take_add_one, List.getElem?_eq_getElem hi, List.foldl_append]
      rfl
  · rintro ⟨o, _⟩ ⟨rfl, h1⟩
    obtain rfl : o = _ := h1
    rw [hb]
    refine Is.df (by omega) (Is.stop ?_)
    rw [List.take_length]
    rfl
theorem Accepted_ok {n : T_NFA} {l : List Int} (hl : ∀ s ∈ l, 0 ≤ s ∧ s < (n.Accept.length : Int)) (hlen : l.length ≤ 1000000000) : M.ref09_Accepted n l = some (best n.Accept l) := by
  unfold M.ref09_Accepted
  exact bind_of (best_loop hl hlen (fun _ _ => rfl)) rfl
/-- The states behind a text. -/
noncomputable def stps (n : T_NFA) (S : List Int) (s : Str) : List Int := (s.map UInt8.toNat).foldl (stp n) (clo n S)
noncomputable def runN (n : T_NFA) (s : Str) : Int := best n.Accept (stps n [n.Start] s)
section
variable {n : T_NFA} (hn : FitN n)
include hn
omit hn in
theorem stps_in : ∀ (l : List Nat) (S : List Int), (∃ T, S = clo n T) → ∃ T, l.foldl (stp n) S = clo n T := by
  intro l
  induction l with
  | nil => exact fun S h => h
  | cons b l ih => exact fun S _ => ih _ ⟨_, rfl⟩
theorem best_clo (l : List Int) (h : ∃ T, l = clo n T) : (∀ s ∈ l, 0 ≤ s ∧ s < (n.Accept.length : Int)) ∧ l.length ≤ 2000 := by
  obtain ⟨T, rfl⟩ := h
  have h1 := hn.acc
  have h2 := hn.pos
  exact ⟨fun s hs => by have := clo_in hn s hs; omega, clo_small hn⟩
theorem refRun_ok {s : Str} (hs : s.length ≤ 1000000) : M.ref09_Run n s = some (runN n s) := by
  refine Is.eq ?_
  unfold M.ref09_Run
  refine Is.bnq (refClosure_ok hn (by simp)) ?_
  refine Is.bnq (x := stps n [n.Start] s) ?_ ?_
  · refine Is.eq ?_
    refine Is.upto (fun i (st : List Int × Int) => st.2 = (i : Int) ∧ st.1 = ((s.take i).map UInt8.toNat).foldl (stp n) (clo n [n.Start])) s.length (by omega) ⟨rfl, rfl⟩ ?_ ?_
    · rintro i ⟨l, _⟩ hi ⟨rfl, h1⟩
      obtain rfl : l = _ := h1
      have hl := (best_clo hn _ (stps_in (n := n) ((s.take i).map UInt8.toNat) _ ⟨[n.Start], rfl⟩)).2
      refine Is.dt (by omega) (Is.bnq (idxS_nat hi) (Is.bnq (refStep_ok hn (by omega) (s[i]).toNat_lt) (Is.bnq (chk_succ (by omega)) (Is.next ⟨rfl, ?_⟩))))
      rw [List.take_add_one, List.getElem?_eq_getElem hi, List.map_append, List.foldl_append]
      rfl
    · rintro ⟨l, _⟩ ⟨rfl, h1⟩
      obtain rfl : l = _ := h1
      refine Is.df (by omega) (Is.stop ?_)
      rw [List.take_length]
      rfl
  have hl := best_clo hn _ (stps_in (n := n) (s.map UInt8.toNat) _ ⟨[n.Start], rfl⟩)
  exact Is.bnq (Accepted_ok hl.1 (by have := hl.2; show (stps n [n.Start] s).length ≤ _; exact Nat.le_trans hl.2 (by decide))) (Is.pure rfl)
end
end Go.Proofs.Ytajmekjcnbmaaaa
