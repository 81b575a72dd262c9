/- Plain facts on layer 14: the reference's Distance; the law on Distance. -/
import Derived.Test.YtjdmfabmacdpgaaPl14a
namespace Go.Proofs.Ytjdmfabmacdpgaa.Os
open Go.Lx

theorem cnd_f {α : Type} {b : Bool} {x y r : α} (h : b = false) (k : y = r) : (bif b then x else y) = r := by subst h; exact k
def Tab (a b : Str) (i : Nat) (l : List (List Int)) : Prop := l.length = a.length + 1 ∧ ∀ r, r < i → Row a b r (b.length + 1) (l.getD r [])
theorem tab_idx {a : Str} {l : List (List Int)} (h : l.length = a.length + 1) {r : Nat} (hr : r ≤ a.length) : idxL l (r : Int) = some (l.getD r []) := by
  rw [idxL_int (d := []) (by omega) (by omega), Int.toNat_natCast]
theorem getD_set {α : Type} {l : List α} {i r : Nat} {x d : α} (hi : i < l.length) : (l.set i x).getD r d = if i = r then x else l.getD r d := by
  rw [List.getD_eq_getElem?_getD, List.getElem?_set]
  by_cases h : i = r
  · rw [if_pos h, if_pos h, if_pos (by omega)]; rfl
  · rw [if_neg h, if_neg h, List.getD_eq_getElem?_getD]
theorem Tab.put {a b : Str} {i : Nat} {l : List (List Int)} (h : Tab a b i l) (hi : i ≤ a.length) (x : List Int) : setL l (i : Int) x = some (l.set i x) ∧ Tab a b i (l.set i x) ∧ (l.set i x).getD i [] = x := by
  have hl := h.1
  refine ⟨setL_nat (by omega), ⟨by rw [List.length_set]; exact hl, fun r hr => ?_⟩, ?_⟩
  · rw [getD_set (by omega), if_neg (by omega)]
    exact h.2 r hr
  · rw [getD_set (by omega), if_pos rfl]
theorem refDist_ok {a b : Str} (ha : a.length ≤ 1000) (hb : b.length ≤ 1000) : M.ref14_Distance a b = some (osa a b a.length b.length : Int) := by
  have hbd : ∀ i j, i ≤ 1001 → j ≤ 1001 → osa a b i j ≤ 1001 := fun i j hi hj => by have := (osa_bounds a b i j).2.2; omega
  refine Is.eq ?_
  unfold M.ref14_Distance
  refine Is.bnq (chk_succ (by omega)) (Is.bnq (mkM_nat (by omega)) ?_)
  refine Is.bnd (P := Tab a b (a.length + 1)) ?_ fun l h => Is.bnq (tab_idx h.1 (Nat.le_refl _)) (Is.bnq ((h.2 _ (by omega)).idx (by omega) (Nat.le_refl _)) (Is.pure rfl))
  refine Is.upto (fun i (st : List (List Int) × Int) => st.2 = (i : Int) ∧ Tab a b i st.1) (a.length + 1) (by omega) ⟨rfl, by simp, fun r hr => by omega⟩ ?_ ?_
  · rintro i ⟨l, _⟩ hi ⟨rfl, h⟩
    simp only at h
    refine Is.dt (by omega) ?_
    refine Is.bnd (P := Tab a b (i + 1)) ?_ fun l2 h2 => Is.bnq (chk_succ (by omega)) (Is.next ⟨rfl, h2⟩)
    obtain ⟨p1, p2, p3⟩ := h.put (by omega) (List.replicate (b.length + 1) 0)
    refine Is.bnq (chk_succ (by omega)) (Is.bnq (mkM_nat (by omega)) (Is.bnq p1 ?_))
    refine Is.mono (P := fun l => Tab a b i l ∧ Row a b i (b.length + 1) (l.getD i [])) ?_ fun l2 ⟨q1, q2⟩ => ⟨q1.1, fun r hr => ?_⟩
    · refine Is.upto (fun j (st : List (List Int) × Int) => st.2 = (j : Int) ∧ Tab a b i st.1 ∧ Row a b i j (st.1.getD i [])) (b.length + 1) (by omega) ⟨rfl, p2, by rw [p3]; exact ⟨by simp, fun q hq => by omega⟩⟩ ?_ ?_
      · rintro j ⟨l1, _⟩ hj ⟨rfl, t1, t2⟩
        simp only at t1 t2
        refine Is.dt (by omega) ?_
        refine Is.bnd (P := fun l => Tab a b i l ∧ Row a b i (j + 1) (l.getD i [])) ?_ fun l2 h2 => Is.bnq (chk_succ (by omega)) (Is.next ⟨rfl, h2.1, h2.2⟩)
        -- a row with its next entry
        have fin : ∀ (l3 : List (List Int)) (row : List Int) (z : Nat), Tab a b i l3 → row = (l1.getD i []).set j (z : Int) → osa a b i j = z → ∃ l4, setL l3 (i : Int) row = some l4 ∧ Tab a b i l4 ∧ Row a b i (j + 1) (l4.getD i []) := by
          intro l3 row z h3 e1 e2
          obtain ⟨q1, q2, q3⟩ := h3.put (by omega) row
          refine ⟨_, q1, q2, ?_⟩
          rw [q3, e1]
          have := (t2.put (k := j) (by omega)).2
          rw [e2] at this
          exact this
        have hidx : idxL l1 (i : Int) = some (l1.getD i []) := tab_idx t1.1 (by omega)
        have hjl : j < (l1.getD i []).length := by rw [t2.1]; omega
        have hset : ∀ z : Int, setL (l1.getD i []) (j : Int) z = some ((l1.getD i []).set j z) := fun z => setL_nat hjl
        refine Is.bnd (P := fun c : Bool => c = true ↔ i = 0 ∨ j = 0) ?_ fun c hc => ?_
        · refine Is.cnd (fun h => Is.pure ?_) (fun h => Is.pure ?_)
          · have := of_beq_t h
            exact ⟨fun _ => .inl (by omega), fun _ => rfl⟩
          · have := of_beq_f h
            rw [beq_iff_eq]
            exact ⟨fun h => .inr (by omega), fun h => by omega⟩
        refine Is.cnd (fun h => ?_) (fun h => ?_)
        · have e : osa a b i j = i + j := by
            rcases hc.1 h with rfl | rfl
            · rw [osa_0]; omega
            · rw [osa_i0]; rfl
          have ch : chk .i64 ((i : Int) + (j : Int)) = some ((i + j : Nat) : Int) := by rw [chk_i64 (by omega) (by omega)]; rfl
          obtain ⟨l4, f1, f2, f3⟩ := fin l1 _ _ t1 rfl e
          exact Is.bnq hidx (Is.bnq ch (Is.bnq (hset _) (Is.bnq f1 (Is.pure ⟨f2, f3⟩))))
        · have hnot : ¬ (i = 0 ∨ j = 0) := fun e => by rw [hc.2 e] at h; cases h
          obtain ⟨i, rfl⟩ : ∃ k, i = k + 1 := ⟨i - 1, by omega⟩
          obtain ⟨j, rfl⟩ : ∃ k, j = k + 1 := ⟨j - 1, by omega⟩
          have b1 := hbd i j (by omega) (by omega)
          have b2 := hbd i (j + 1) (by omega) (by omega)
          have b3 := hbd (i + 1) j (by omega) (by omega)
          have hcs := cst_le (a := a) (b := b) (i := i) (j := j)
          have hi1 : i < a.length := by omega
          have hj1 : j < b.length := by omega
          have prev := t1.2 i (by omega)
          refine Is.bnq (x := ((cst a b i j : Nat) : Int)) ?_ ?_
          · refine bind_of (chk_pred (by omega)) (bind_of (idxS_d hi1) (bind_of (chk_pred (by omega)) (bind_of (idxS_d hj1) ?_)))
            rw [u8_eq]
            unfold cst
            by_cases hcc : a.getD i 0 = b.getD j 0
            · rw [if_pos hcc, decide_eq_true hcc]; rfl
            · rw [if_neg hcc, decide_eq_false hcc]; rfl
          have chc : chk .i64 ((osa a b i j : Int) + (cst a b i j : Int)) = some ((osa a b i j + cst a b i j : Nat) : Int) := by rw [chk_i64 (by omega) (by omega)]; rfl
          refine Is.bnq hidx (Is.bnq (chk_pred (by omega)) (Is.bnq (tab_idx t1.1 (by omega)) (Is.bnq (prev.idx (by omega) (by omega)) (Is.bnq (chk_succ (by omega)) (Is.bnq (chk_pred (by omega)) (Is.bnq (t2.idx (by omega) (by omega)) (Is.bnq (chk_succ (by omega)) (Is.bnq (prev.idx (by omega) (by omega)) (Is.bnq chc ?_)))))))))
          have e3 : min3 ((osa a b i (j + 1) + 1 : Nat) : Int) ((osa a b (i + 1) j + 1 : Nat) : Int) (((osa a b i j + cst a b i j : Nat) : Int)) = (osa3 a b i j : Int) := by
            rw [min3_nat]; rfl
          rw [e3]
          have b4 : osa3 a b i j ≤ 1002 := by unfold osa3; omega
          obtain ⟨q1, q2, q3⟩ := t1.put (by omega) ((l1.getD (i + 1) []).set (j + 1) (osa3 a b i j : Int))
          refine Is.bnq (hset _) (Is.bnq q1 ?_)
          refine Is.bnd (P := fun c : Bool => (c = true → ∃ i' j', i = i' + 1 ∧ j = j' + 1 ∧ crossed a b i' j') ∧ (c = false → osa a b (i + 1) (j + 1) = osa3 a b i j)) ?_ fun c hc => ?_
          · cases i with
            | zero => exact Is.df (by omega) (Is.pure ⟨fun h => (by cases h), fun _ => osa_1⟩)
            | succ i =>
              refine Is.dt (by omega) ?_
              cases j with
              | zero => exact Is.df (by omega) (Is.pure ⟨fun h => (by cases h), fun _ => osa_i1⟩)
              | succ j =>
                refine Is.dt (by omega) (Is.bnq (idxS_d hi1) (Is.bnq (chk_pred2 (by omega)) (Is.bnq (idxS_d (by omega)) ?_)))
                rw [u8_eq]
                refine Is.dcd (fun h1 => ?_) (fun h1 => Is.pure ⟨fun h => (by cases h), fun _ => osa_f fun h => h1 h.1⟩)
                refine Is.bnq (chk_pred2 (by omega)) (Is.bnq (idxS_d (by omega)) (Is.bnq (idxS_d hj1) (Is.pure ?_)))
                rw [u8_eq]
                exact ⟨fun h2 => ⟨i, j, rfl, rfl, h1, of_decide_eq_true h2⟩, fun h2 => osa_f fun h => of_decide_eq_false h2 h.2⟩
          · refine Is.cnd (fun h => ?_) (fun h => Is.pure ⟨q2, ?_⟩)
            · obtain ⟨i', j', rfl, rfl, hx⟩ := hc.1 h
              have b5 := hbd i' j' (by omega) (by omega)
              have hidx2 : idxL ((l1.set (i' + 1 + 1) ((l1.getD (i' + 1 + 1) []).set (j' + 1 + 1) (osa3 a b (i' + 1) (j' + 1) : Int)))) ((i' + 1 + 1 : Nat) : Int) = some ((l1.getD (i' + 1 + 1) []).set (j' + 1 + 1) (osa3 a b (i' + 1) (j' + 1) : Int)) := by
                rw [tab_idx q2.1 (by omega), q3]
              have hget : idxL ((l1.getD (i' + 1 + 1) []).set (j' + 1 + 1) (osa3 a b (i' + 1) (j' + 1) : Int)) ((j' + 1 + 1 : Nat) : Int) = some (osa3 a b (i' + 1) (j' + 1) : Int) := by
                rw [idxL_nat (by rw [List.length_set]; exact hjl), List.getElem_set_self]
              obtain ⟨l4, f1, f2, f3⟩ := fin _ (((l1.getD (i' + 1 + 1) []).set (j' + 1 + 1) (osa3 a b (i' + 1) (j' + 1) : Int)).set (j' + 1 + 1) ((min (osa3 a b (i' + 1) (j' + 1)) (osa a b i' j' + 1) : Nat) : Int)) _ q2 (by rw [List.set_set]) (osa_t hx)
              refine Is.bnq hidx2 (Is.bnq hget (Is.bnq (chk_pred2 (by omega)) (Is.bnq (tab_idx q2.1 (by omega)) (Is.bnq (chk_pred2 (by omega)) (Is.bnq ((q2.2 i' (by omega)).idx (by omega) (by omega)) (Is.bnq (chk_succ (by omega)) ?_))))))
              rw [min2_nat]
              exact Is.bnq (setL_nat (by rw [List.length_set]; exact hjl)) (Is.bnq f1 (Is.pure ⟨f2, f3⟩))
            · show Row a b (i + 1) (j + 1 + 1) _
              rw [q3]
              have := (t2.put (k := j + 1) (by omega)).2
              rw [hc.2 h] at this
              exact this
      · rintro ⟨l1, _⟩ ⟨rfl, t1, t2⟩
        exact Is.df (by omega) (Is.stop ⟨t1, t2⟩)
    · rcases Nat.lt_or_eq_of_le (Nat.le_of_lt_succ hr) with hlt | rfl
      · exact q1.2 r hlt
      · exact q2
  · rintro ⟨l, _⟩ ⟨rfl, h⟩
    exact Is.df (by omega) (Is.stop h)
theorem law_distance (x0 : Str) (_ : (fun s : Str => s.length ≤ maxLen) x0) (x1 : Str) (_ : (fun s : Str => s.length ≤ maxLen) x1) : M.law14_LexrepairDistance x0 x1 = some true := by
  refine Is.eq ?_
  unfold M.law14_LexrepairDistance
  refine Is.bnd (P := fun b => b = false → x0.length ≤ 30 ∧ x1.length ≤ 30) ?_ fun b hb => Is.cnd (fun _ => Is.bnq awake_true (Is.pure rfl)) (fun h => ?_)
  · exact Is.dcd (fun _ => Is.pure (by simp)) fun h1 => Is.pure fun h2 => by have := of_decide_eq_false h2; omega
  obtain ⟨h0, h1⟩ := hb h
  refine Is.bnq (x := true) ?_ (Is.pure rfl)
  exact bind_of awake_true (bind_of (dist_ok (by omega) (by omega)) (bind_of (refDist_ok (by omega) (by omega)) (by simp)))
end Go.Proofs.Ytjdmfabmacdpgaa.Os
