/- Plain facts on layer 10: Difference; the laws DfaDifference and DfaDifferenceLeast. -/
import Derived.Test.YtogpainomdfpnaaPl10c
set_option linter.unusedVariables false
namespace Go.Proofs.Ytogpainomdfpnaa
open Go.Lx

def toE (e : T_dfa_entry) : Ent := (e.atv.a, e.atv.b, e.text)
def SeenOf (m : List (T_dfa_pair × Unit)) (L : List T_dfa_entry) : Prop := ∀ p : T_dfa_pair, (mget m p).isSome = true ↔ (p.a, p.b) ∈ (L.map toE).map prs
theorem atQ_map {L : List T_dfa_entry} {k : Nat} (h : k < L.length) : atQ (L.map toE) k = toE L[k] := by simp [atQ, List.getD_eq_getElem?_getD, h]
section
variable {a b : T_DFA} (ha : Ok a) (hb : Ok b)
include ha hb
theorem ent_in {D : Int × Int → Prop} {Q : List Ent} {i c : Nat} (h : BJ a b D Q i c) {e : Ent} (he : e ∈ Q) : inR a e.1 ∧ inR b e.2.1 := by
  have := h.walk e he
  rw [this.1, this.2]
  exact ⟨walkN_in ha (zero_in ha) _, walkN_in hb (zero_in hb) _⟩
theorem box_le : (a.Next.length + 1) * (b.Next.length + 1) ≤ 251001 := by
  have := Nat.mul_le_mul (Nat.succ_le_succ ha.max) (Nat.succ_le_succ hb.max)
  exact this
theorem few_le {D : Int × Int → Prop} {Q : List Ent} {i c : Nat} (h : BJ a b D Q i c) : Q.length ≤ 251001 := Nat.le_trans (h.few ha hb) (box_le ha hb)
theorem Difference_is : Is (M.dfa_Difference a b) (Least a b) := by
  unfold M.dfa_Difference
  have hD : ∀ (p : Int × Int) (k : Nat), False → k < 256 → False := fun _ _ h _ => h
  refine Is.bs (P := fun _ => Least a b ([], false)) (Is.while (fun st => ∃ k : Nat, st.2.2 = (k : Int) ∧ k ≤ st.1.length ∧ BJ a b (fun _ => False) (st.1.map toE) k 0 ∧ SeenOf st.2.1 st.1) (fun st => 251002 - st.2.2.toNat) ?_ (by simp only []; omega) ?_) ?_
  · refine ⟨0, rfl, by simp, BJ.start, fun p => ?_⟩
    simp only [mset, mget, List.find?_cons, List.find?_nil]
    obtain ⟨p1, p2⟩ := p
    by_cases h : T_dfa_pair.mk 0 0 = ⟨p1, p2⟩
    · rw [h]
      cases h; simp [toE, prs]
    · rw [show ((T_dfa_pair.mk 0 0) == ⟨p1, p2⟩) = false by simpa using h]
      simp [toE, prs]
      rintro rfl rfl; exact h rfl
  · rintro ⟨L, m, _⟩ ⟨k, rfl, hk, hB, hm⟩
    simp only [] at hB hm hk ⊢
    refine Is.dcd (fun hlt => ?_) fun hge => Is.stop (hB.none hD (fun _ h => h.elim) (by simp; omega))
    have hkl : k < L.length := by omega
    have hkm : k < (L.map toE).length := by simpa using hkl
    have hin := ent_in ha hb hB (e := toE L[k]) (List.mem_map_of_mem (List.getElem_mem hkl))
    refine Is.bs (P := fun st => BJ a b (fun _ => False) (st.1.map toE) (k + 1) 0 ∧ SeenOf st.2 st.1 ∧ k < st.1.length) ?_ ?_
    · refine Is.bnq (idxL_nat hkl) (Is.bnq (result_eq ha hin.1) (Is.bnq (result_eq hb hin.2) (Is.cnd (fun hne => Is.stop ?_) fun heq => ?_)))
      · have := hB.found hD (fun _ h => h.elim) hkm (by rw [atQ_map hkl]; exact of_bne_t hne)
        rw [atQ_map hkl] at this
        exact this
      · have heq := of_bne_f heq
        refine Is.upto (fun c st => st.2.2 = (c : Int) ∧ BJ a b (fun _ => False) (st.1.map toE) k c ∧ SeenOf st.2.1 st.1 ∧ st.1[k]? = some L[k]) 256 (by omega) ⟨rfl, hB, hm, List.getElem?_eq_getElem hkl⟩ ?_ ?_
        · rintro c ⟨L', m', _⟩ hc ⟨rfl, hB', hm', hL'⟩
          simp only [] at hB' hm' hL' ⊢
          obtain ⟨hkl', hLk⟩ := List.getElem?_eq_some_iff.1 hL'
          have hat : atQ (L'.map toE) k = toE L[k] := by rw [atQ_map hkl', hLk]
          refine Is.dt (by omega) (Is.bnd (P := fun st => BJ a b (fun _ => False) (st.1.map toE) k (c + 1) ∧ SeenOf st.2 st.1 ∧ st.1[k]? = some L[k]) ?_ ?_)
          · rw [wrap_u8n hc]
            refine Is.bnd (P := fun p => p = nx a b (toE L[k]) c) (Is.bnq (step_eq ha hin.1 hc) (Is.bnq (step_eq hb hin.2 hc) (Is.pure rfl))) ?_
            rintro _ rfl
            have hs := hm' ⟨(nx a b (toE L[k]) c).1, (nx a b (toE L[k]) c).2⟩
            refine Is.cnd (fun hnew => ?_) fun hold => Is.pure ⟨hB'.skip (.inr ?_), hm', hL'⟩
            · have hnew : nx a b (atQ (L'.map toE) k) c ∉ (L'.map toE).map prs := by
                rw [hat]; intro h
                have := hs.2 h
                simp [this] at hnew
              have hp := hB'.push (by simpa using hkl') hc hnew
              have hlen := hB'.len k (by simpa using hkl')
              have hfew := few_le ha hb hB'
              simp only [List.length_map] at hfew
              rw [hat] at hp hlen
              have hcat : catS L[k].text (toStr [(c : Int)]) = some (L[k].text ++ [UInt8.ofNat c]) := by
                unfold catS toStr
                have : L[k].text.length ≤ k := hlen
                rw [if_pos (by simp; omega)]
                simp
              refine Is.bnq hcat (Is.bnq (appM_ok (by simp; omega)) (Is.pure ⟨by rw [List.map_append]; exact hp, fun p => ?_, by rw [List.getElem?_append_left hkl']; exact hL'⟩))
              simp only [List.map_append, List.mem_append]
              by_cases hpe : p = ⟨(nx a b (toE L[k]) c).1, (nx a b (toE L[k]) c).2⟩
              · rw [hpe, mget_self]; simp [toE, prs]
              · rw [mget_ne hpe, hm' p]
                constructor
                · exact .inl
                · rintro (h | h)
                  · exact h
                  · simp [toE, prs] at h
                    exact (hpe (by obtain ⟨p1, p2⟩ := p; simp at h; rw [h.1, h.2]; rfl)).elim
            · rw [hat]
              exact hs.1 (by simpa using hold)
          · rintro ⟨L2, m2⟩ ⟨h1, h2, h3⟩
            exact Is.bnq (chk_succ (by omega)) (Is.next ⟨rfl, h1, h2, h3⟩)
        · rintro ⟨L', m', _⟩ ⟨rfl, hB', hm', hL'⟩
          simp only [] at hB' hm' hL' ⊢
          obtain ⟨hkl', hLk⟩ := List.getElem?_eq_some_iff.1 hL'
          refine Is.df (by omega) (Is.stop ⟨hB'.turn fun _ => ?_, hm', hkl'⟩)
          rw [atQ_map hkl', hLk]; exact heq
    · rintro ⟨L', m'⟩ ⟨h1, h2, h3⟩
      have hfew := few_le ha hb h1
      simp only [List.length_map] at hfew h3
      exact Is.bnq (chk_succ (by omega)) (Is.next ⟨⟨k + 1, rfl, by simp only []; omega, h1, h2⟩, by simp only [Int.toNat_natCast]; omega⟩)
  · intro _ h
    exact Is.pure h

def toF (e : T_ref10_pair) : Ent := (e.a, e.b, e.s)
def Dead (p : Int × Int) : Prop := p.1 < 0 ∧ p.2 < 0
omit ha hb in
theorem atQ_mapF {L : List T_ref10_pair} {k : Nat} (h : k < L.length) : atQ (L.map toF) k = toF L[k] := by simp [atQ, List.getD_eq_getElem?_getD, h]
omit ha hb in
theorem dead_step (p : Int × Int) (k : Nat) (h : Dead p) (_ : k < 256) : Dead (stepN a p.1 k, stepN b p.2 k) := by
  unfold Dead stepN at *
  simp only [if_pos h.1, if_pos h.2]
  omega
omit ha hb in
theorem dead_acc (p : Int × Int) (h : Dead p) : accN a p.1 = accN b p.2 := by
  unfold Dead accN at *
  simp only [if_pos h.1, if_pos h.2]
theorem refDifference_is : Is (M.ref10_Difference a b) (Least a b) := by
  unfold M.ref10_Difference
  refine Is.bs (P := fun _ => Least a b ([], false)) (Is.while (fun st => ∃ k : Nat, st.2 = (k : Int) ∧ k ≤ st.1.length ∧ BJ a b Dead (st.1.map toF) k 0) (fun st => 251002 - st.2.toNat) ?_ (by simp only []; omega) ?_) ?_
  · exact ⟨0, rfl, by simp, BJ.start⟩
  · rintro ⟨L, _⟩ ⟨k, rfl, hk, hB⟩
    simp only [] at hB hk ⊢
    refine Is.dcd (fun hlt => ?_) fun hge => Is.stop (hB.none dead_step dead_acc (by simp; omega))
    have hkl : k < L.length := by omega
    have hkm : k < (L.map toF).length := by simpa using hkl
    have hin := ent_in ha hb hB (e := toF L[k]) (List.mem_map_of_mem (List.getElem_mem hkl))
    refine Is.bs (P := fun st => BJ a b Dead (st.map toF) (k + 1) 0 ∧ k < st.length) ?_ ?_
    · refine Is.bnq (idxL_nat hkl) (Is.bnq (refAccept_eq ha hin.1) (Is.bnq (refAccept_eq hb hin.2) (Is.cnd (fun hne => Is.stop ?_) fun heq => ?_)))
      · have := hB.found dead_step dead_acc hkm (by rw [atQ_mapF hkl]; exact of_bne_t hne)
        rw [atQ_mapF hkl] at this
        exact this
      · have heq := of_bne_f heq
        refine Is.upto (fun c st => st.2 = (c : Int) ∧ BJ a b Dead (st.1.map toF) k c ∧ st.1[k]? = some L[k]) 256 (by omega) ⟨rfl, hB, List.getElem?_eq_getElem hkl⟩ ?_ ?_
        · rintro c ⟨L', _⟩ hc ⟨rfl, hB', hL'⟩
          simp only [] at hB' hL' ⊢
          obtain ⟨hkl', hLk⟩ := List.getElem?_eq_some_iff.1 hL'
          have hat : atQ (L'.map toF) k = toF L[k] := by rw [atQ_mapF hkl', hLk]
          have hfew := few_le ha hb hB'
          simp only [List.length_map] at hfew
          refine Is.dt (by omega) (Is.bnd (P := fun st => BJ a b Dead (st.map toF) k (c + 1) ∧ st[k]? = some L[k]) ?_ ?_)
          · rw [wrap_u8n hc]
            refine Is.bnq ((idxL_nat hkl').trans (congrArg some hLk)) (Is.bnq (refStep_eq ha hin.1 hc) (Is.bnq (refStep_eq hb hin.2 hc) ?_))
            let p := nx a b (toF L[k]) c
            refine Is.bnd (P := fun s => s = true ↔ Dead p) (Is.dcd (fun h => Is.pure ?_) fun h => Is.pure ?_) fun s0 hs0 => ?_
            · rw [decide_eq_true_iff]
              exact ⟨fun h2 => ⟨h, h2⟩, fun h2 => h2.2⟩
            · exact ⟨fun h => (by cases h), fun h2 => (h h2.1).elim⟩
            refine Is.bnd (P := fun s => s = true ↔ (Dead p ∨ p ∈ (L'.map toF).map prs)) ?_ ?_
            · refine Is.upto (fun j st => st.2 = (j : Int) ∧ (st.1 = true ↔ (Dead p ∨ p ∈ ((L'.take j).map toF).map prs))) L'.length (by omega) ⟨rfl, by simpa using hs0⟩ ?_ ?_
              · rintro j ⟨s, _⟩ hj ⟨rfl, hs⟩
                simp only [] at hs ⊢
                refine Is.bnd (P := fun t => t = !s) (Is.dt (by omega) (Is.pure rfl)) ?_
                rintro _ rfl
                cases s
                · have hs : ¬ (Dead p ∨ p ∈ ((L'.take j).map toF).map prs) := fun h => by have := hs.2 h; cases this
                  refine Is.ct rfl (Is.bnq (idxL_nat hj) (Is.cnd (fun hA => Is.bnq (chk_succ (by omega)) (Is.next ⟨rfl, ?_⟩)) fun hA => Is.bnq (chk_succ (by omega)) (Is.next ⟨rfl, ?_⟩)))
                  · rw [List.take_succ_eq_append_getElem hj, List.map_append, List.map_append, List.mem_append]
                    have hA := of_beq_t hA
                    constructor
                    · intro h
                      have h := of_beq_t h
                      refine .inr (.inr (List.mem_singleton.2 ?_))
                      exact (Prod.ext hA h : (L'[j].a, L'[j].b) = p).symm
                    · rintro (h | h | h)
                      · exact (hs (.inl h)).elim
                      · exact (hs (.inr h)).elim
                      · have := List.mem_singleton.1 h
                        have := congrArg (·.2) this
                        exact beq_t this.symm
                  · rw [List.take_succ_eq_append_getElem hj, List.map_append, List.map_append, List.mem_append]
                    have hA := of_beq_f hA
                    constructor
                    · intro h; cases h
                    · rintro (h | h | h)
                      · exact (hs (.inl h)).elim
                      · exact (hs (.inr h)).elim
                      · have := List.mem_singleton.1 h
                        have := congrArg (·.1) this
                        exact (hA this.symm).elim
                · refine Is.cf rfl (Is.stop ⟨fun _ => ?_, fun _ => rfl⟩)
                  rcases hs.1 rfl with h | h
                  · exact .inl h
                  · refine .inr ?_
                    simp only [List.map_take] at h
                    exact List.mem_of_mem_take h
              · rintro ⟨s, _⟩ ⟨rfl, hs⟩
                simp only [List.take_length] at hs ⊢
                exact Is.bnq (x := false) (by rw [dec_f (show ¬ (L'.length : Int) < (L'.length : Int) by omega)]; rfl) (Is.cf rfl (Is.stop hs))
            · intro s hs
              refine Is.cnd (fun hnew => ?_) fun hold => Is.pure ⟨hB'.skip ?_, hL'⟩
              · have hnew : ¬ (Dead p ∨ p ∈ (L'.map toF).map prs) := fun h => by have := hs.2 h; rw [this] at hnew; cases hnew
                have hp := hB'.push (by simpa using hkl') hc (by rw [hat]; exact fun h => hnew (.inr h))
                have hlen := hB'.len k (by simpa using hkl')
                rw [hat] at hp hlen
                have hcat : catS L[k].s (toStr [(c : Int)]) = some (L[k].s ++ [UInt8.ofNat c]) := by
                  unfold catS toStr
                  have : L[k].s.length ≤ k := hlen
                  rw [if_pos (by simp; omega)]
                  simp
                exact Is.bnq hcat (Is.bnq (appM_ok (by simp; omega)) (Is.pure ⟨by rw [List.map_append]; exact hp, by rw [List.getElem?_append_left hkl']; exact hL'⟩))
              · rw [hat]
                exact hs.1 (by simpa using hold)
          · rintro L2 ⟨h1, h3⟩
            exact Is.bnq (chk_succ (by omega)) (Is.next ⟨rfl, h1, h3⟩)
        · rintro ⟨L', _⟩ ⟨rfl, hB', hL'⟩
          simp only [] at hB' hL' ⊢
          obtain ⟨hkl', hLk⟩ := List.getElem?_eq_some_iff.1 hL'
          refine Is.df (by omega) (Is.stop ⟨hB'.turn fun _ => ?_, hkl'⟩)
          rw [atQ_mapF hkl', hLk]; exact heq
    · rintro L' ⟨h1, h3⟩
      have hfew := few_le ha hb h1
      simp only [List.length_map] at hfew
      exact Is.bnq (chk_succ (by omega)) (Is.next ⟨⟨k + 1, rfl, by simp only []; omega, h1⟩, by simp only [Int.toNat_natCast]; omega⟩)
  · intro _ h
    exact Is.pure h
end
/-! ### the laws -/
theorem Small_is {d : T_DFA} (hd : okD d) (n k : Int) : Is (M.ref10_Small d n k) (fun s => s = true → Ok d ∧ (d.Next.length : Int) ≤ n ∧ (cols d : Int) ≤ k) := by
  unfold M.ref10_Small
  refine Is.bnd (P := fun s => s = true → Ok d ∧ (d.Next.length : Int) ≤ n ∧ (cols d : Int) ≤ k) ?_ (fun s hs => Is.pure hs)
  refine Is.bnd (refValid_is hd) fun v hv => Is.cnd (fun h => ?_) fun _ => Is.pure (fun h => by cases h)
  have hok := hv.1 h
  refine Is.dcd (fun hn => ?_) fun _ => Is.pure (fun h => by cases h)
  exact Is.bnq (head_idx hok.pos) (Is.pure fun h => ⟨hok, hn, of_decide_eq_true h⟩)
theorem law_difference (x0 : T_DFA) (ok0 : okT_DFA x0) (x1 : T_DFA) (ok1 : okT_DFA x1) : M.law10_DfaDifference x0 x1 = some true := by
  refine Is.eq ?_
  unfold M.law10_DfaDifference
  refine Is.bnd (P := fun s => s = false → Ok x0 ∧ Ok x1) ?_ fun s hs => ?_
  · refine Is.bnd (Small_is (okd_of ok0) 8 5) fun s1 h1 => Is.cnd (fun _ => Is.pure (fun h => by cases h)) fun e1 => Is.bnd (Small_is (okd_of ok1) 8 5) fun s2 h2 => Is.pure fun e2 => ?_
    exact ⟨(h1 (by simpa using e1)).1, (h2 (by simpa using e2)).1⟩
  refine Is.cnd (fun _ => Is.bnq awake_true (Is.pure rfl)) fun h => ?_
  obtain ⟨ha, hb⟩ := hs h
  refine Is.bnd (Difference_is ha hb) fun r hr => Is.bnd (refDifference_is ha hb) fun q hq => ?_
  have := least_uniq x0 x1 hr hq
  subst this
  exact Is.bnd (P := fun s => s = true) (Is.bnq awake_true (Is.ct rfl (Is.ct (by simp) (Is.pure (by simp))))) fun s hs => Is.pure hs
theorem law_differenceLeast (x0 : T_DFA) (ok0 : okT_DFA x0) (x1 : T_DFA) (ok1 : okT_DFA x1) (x2 : Str) (ok2 : x2.length ≤ maxLen) : M.law10_DfaDifferenceLeast x0 x1 x2 = some true := by
  have hw := mlen _ ok2
  refine Is.eq ?_
  unfold M.law10_DfaDifferenceLeast
  refine Is.bnd (P := fun s => s = false → Ok x0 ∧ Ok x1 ∧ Diff x0 x1 x2) ?_ fun s hs => ?_
  · refine Is.bnd (Small_is (okd_of ok0) 10 6) fun s1 h1 => Is.cnd (fun _ => Is.pure (fun h => by cases h)) fun e1 => Is.bnd (Small_is (okd_of ok1) 10 6) fun s2 h2 => Is.cnd (fun _ => Is.pure (fun h => by cases h)) fun e2 => ?_
    have ha := (h1 (by simpa using e1)).1
    have hb := (h2 (by simpa using e2)).1
    refine Is.dcd (fun _ => Is.pure (fun h => by cases h)) fun _ => Is.bnq (Run_eq ha hw) (Is.bnq (Run_eq hb hw) (Is.pure fun h => ⟨ha, hb, of_beq_f h⟩))
  refine Is.cnd (fun _ => Is.bnq awake_true (Is.pure rfl)) fun h => ?_
  obtain ⟨ha, hb, hdf⟩ := hs h
  refine Is.bnd (Difference_is ha hb) fun r hr => Is.bnd (P := fun s => s = true) ?_ fun s hs => Is.pure hs
  rcases hr with ⟨e1, h2, h3⟩ | ⟨_, h2⟩
  · have hlt := rank_le_iff (h3 _ hdf)
    have hrl : List.length r.1 ≤ 9223372036854775807 := by rcases hlt with h | h <;> omega
    refine Is.bnq awake_true (Is.ct rfl (Is.ct e1 (Is.bnq (Run_eq ha hrl) (Is.bnq (Run_eq hb hrl) (Is.ct (bne_t h2) ?_)))))
    refine Is.dcd (fun _ => Is.pure rfl) fun hnl => ?_
    have hlt : List.length r.1 = List.length x2 ∧ (ltS r.1 x2 = true ∨ r.1 = x2) := by
      rcases hlt with h | h
      · omega
      · exact h
    refine Is.ct (beq_t (by omega)) (Is.pure ?_)
    rcases hlt.2 with h | h
    · rw [h]; rfl
    · rw [h]; simp
  · exact (h2 _ hdf).elim
end Go.Proofs.Ytogpainomdfpnaa
