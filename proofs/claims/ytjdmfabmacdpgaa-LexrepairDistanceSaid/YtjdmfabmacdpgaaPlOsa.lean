/- Plain facts: the optimal string alignment distance as a table; no program in sight. -/
import Derived.Test.YtjdmfabmacdpgaaPlLoop
namespace Go.Lx

/-- The entry for the prefixes of i and j bytes. -/
def osa (a b : Str) : Nat → Nat → Nat
  | 0, j => j
  | i + 1, 0 => i + 1
  | 1, j + 1 => min (min (osa a b 0 (j + 1) + 1) (osa a b 1 j + 1)) (osa a b 0 j + (if a.getD 0 0 = b.getD j 0 then 0 else 1))
  | i + 2, 1 => min (min (osa a b (i + 1) 1 + 1) (osa a b (i + 2) 0 + 1)) (osa a b (i + 1) 0 + (if a.getD (i + 1) 0 = b.getD 0 0 then 0 else 1))
  | i + 2, j + 2 => if a.getD (i + 1) 0 = b.getD j 0 ∧ a.getD i 0 = b.getD (j + 1) 0
      then min (min (min (osa a b (i + 1) (j + 2) + 1) (osa a b (i + 2) (j + 1) + 1)) (osa a b (i + 1) (j + 1) + (if a.getD (i + 1) 0 = b.getD (j + 1) 0 then 0 else 1))) (osa a b i j + 1)
      else min (min (osa a b (i + 1) (j + 2) + 1) (osa a b (i + 2) (j + 1) + 1)) (osa a b (i + 1) (j + 1) + (if a.getD (i + 1) 0 = b.getD (j + 1) 0 then 0 else 1))
termination_by i j => i + j

def cst (a b : Str) (i j : Nat) : Nat := if a.getD i 0 = b.getD j 0 then 0 else 1
def crossed (a b : Str) (i j : Nat) : Prop := a.getD (i + 1) 0 = b.getD j 0 ∧ a.getD i 0 = b.getD (j + 1) 0
theorem cst_le {a b : Str} {i j : Nat} : cst a b i j ≤ 1 := by unfold cst; split <;> omega
theorem osa_0 {a b : Str} {j : Nat} : osa a b 0 j = j := by rw [osa]
theorem osa_i0 {a b : Str} {i : Nat} : osa a b i 0 = i := by cases i <;> rw [osa]
/-- The three usual ways. -/
def osa3 (a b : Str) (i j : Nat) : Nat := min (min (osa a b i (j + 1) + 1) (osa a b (i + 1) j + 1)) (osa a b i j + cst a b i j)
theorem osa_1 {a b : Str} {j : Nat} : osa a b 1 (j + 1) = osa3 a b 0 j := by rw [osa]; rfl
theorem osa_i1 {a b : Str} {i : Nat} : osa a b (i + 1) 1 = osa3 a b i 0 := by cases i <;> (rw [osa]; rfl)
theorem osa_t {a b : Str} {i j : Nat} (h : crossed a b i j) : osa a b (i + 2) (j + 2) = min (osa3 a b (i + 1) (j + 1)) (osa a b i j + 1) := by rw [osa]; exact if_pos h
theorem osa_f {a b : Str} {i j : Nat} (h : ¬ crossed a b i j) : osa a b (i + 2) (j + 2) = osa3 a b (i + 1) (j + 1) := by rw [osa]; exact if_neg h
theorem osa_cases (a b : Str) (i j : Nat) : osa a b (i + 1) (j + 1) = osa3 a b i j ∨ ∃ i' j', i = i' + 1 ∧ j = j' + 1 ∧ crossed a b i' j' ∧ osa a b (i + 1) (j + 1) = min (osa3 a b i j) (osa a b i' j' + 1) := by
  cases i with
  | zero => exact .inl osa_1
  | succ i =>
    cases j with
    | zero => exact .inl osa_i1
    | succ j =>
      by_cases h : crossed a b i j
      · exact .inr ⟨i, j, rfl, rfl, h, osa_t h⟩
      · exact .inl (osa_f h)
theorem osa_le3 (a b : Str) (i j : Nat) : osa a b (i + 1) (j + 1) ≤ osa3 a b i j := by
  rcases osa_cases a b i j with h | ⟨_, _, _, _, _, h⟩ <;> omega
/-- Two indices at once. -/
theorem ind2 {P : Nat → Nat → Prop} (h : ∀ i j, (∀ i' j', i' + j' < i + j → P i' j') → P i j) : ∀ i j, P i j := by
  have key : ∀ n i j, i + j ≤ n → P i j := by
    intro n
    induction n with
    | zero => intro i j hn; exact h i j fun i' j' h' => by omega
    | succ n ih => intro i j hn; exact h i j fun i' j' h' => ih i' j' (by omega)
  exact fun i j => key (i + j) i j (Nat.le_refl _)
theorem crossed_symm {a b : Str} {i j : Nat} : crossed a b i j ↔ crossed b a j i := by
  unfold crossed
  constructor
  · rintro ⟨h1, h2⟩; exact ⟨h2.symm, h1.symm⟩
  · rintro ⟨h1, h2⟩; exact ⟨h2.symm, h1.symm⟩
theorem cst_symm {a b : Str} {i j : Nat} : cst a b i j = cst b a j i := by
  unfold cst
  by_cases h : a.getD i 0 = b.getD j 0
  · rw [if_pos h, if_pos h.symm]
  · rw [if_neg h, if_neg (fun e => h e.symm)]
theorem osa_symm (a b : Str) : ∀ i j, osa a b i j = osa b a j i := by
  refine ind2 fun i j ih => ?_
  cases i with
  | zero => rw [osa_0, osa_i0]
  | succ i =>
    cases j with
    | zero => rw [osa_i0, osa_0]
    | succ j =>
      have e3 : osa3 a b i j = osa3 b a j i := by
        unfold osa3
        rw [ih i (j + 1) (by omega), ih (i + 1) j (by omega), ih i j (by omega), cst_symm, Nat.min_comm (osa b a (j + 1) i + 1)]
      cases i with
      | zero => rw [osa_1, osa_i1, e3]
      | succ i =>
        cases j with
        | zero => rw [osa_i1, osa_1, e3]
        | succ j =>
          by_cases h : crossed a b i j
          · rw [osa_t h, osa_t (crossed_symm.1 h), e3, ih i j (by omega)]
          · rw [osa_f h, osa_f (fun h' => h (crossed_symm.2 h')), e3]
theorem osa_bounds (a b : Str) : ∀ i j, i ≤ osa a b i j + j ∧ j ≤ osa a b i j + i ∧ osa a b i j ≤ max i j := by
  refine ind2 fun i j ih => ?_
  cases i with
  | zero => rw [osa_0]; omega
  | succ i =>
    cases j with
    | zero => rw [osa_i0]; omega
    | succ j =>
      have h1 := ih i (j + 1) (by omega)
      have h2 := ih (i + 1) j (by omega)
      have h3 := ih i j (by omega)
      have hc := cst_le (a := a) (b := b) (i := i) (j := j)
      rcases osa_cases a b i j with h | ⟨i', j', rfl, rfl, _, h⟩
      · rw [h]; unfold osa3; omega
      · have h4 := ih i' j' (by omega)
        rw [h]; unfold osa3; omega
/-- Equal prefixes. -/
theorem osa_same {a b : Str} : ∀ i, (∀ k, k < i → a.getD k 0 = b.getD k 0) → osa a b i i = 0
  | 0, _ => osa_0
  | i + 1, h => by
    have h1 := osa_same i fun k hk => h k (by omega)
    have h2 := osa_le3 a b i i
    have h3 : cst a b i i = 0 := if_pos (h i (by omega))
    unfold osa3 at h2
    omega
theorem osa_zero {a b : Str} : ∀ i, osa a b i i = 0 → ∀ k, k < i → a.getD k 0 = b.getD k 0 := by
  intro i
  induction i with
  | zero => intro _ k hk; omega
  | succ i ih =>
    intro h0
    have b1 := osa_bounds a b i (i + 1)
    have b2 := osa_bounds a b (i + 1) i
    have h : osa a b i i = 0 ∧ cst a b i i = 0 := by
      rcases osa_cases a b i i with h | ⟨i', j', rfl, e, hc, h⟩
      · rw [h] at h0; unfold osa3 at h0; omega
      · rw [h] at h0; unfold osa3 at h0; omega
    intro k hk
    rcases Nat.lt_or_eq_of_le (show k ≤ i by omega) with hlt | rfl
    · exact ih h.1 k hlt
    · have := h.2
      unfold cst at this
      split at this
      · assumption
      · omega
theorem ext_getD {a b : Str} (hl : a.length = b.length) (h : ∀ k, k < a.length → a.getD k 0 = b.getD k 0) : a = b := by
  refine List.ext_getElem hl fun k h1 h2 => ?_
  have := h k h1
  simpa [List.getD_eq_getElem?_getD, h1, h2] using this
theorem osa_eq0 {a b : Str} : osa a b a.length b.length = 0 ↔ a = b := by
  constructor
  · intro h
    have hb := osa_bounds a b a.length b.length
    have hl : a.length = b.length := by omega
    rw [← hl] at h
    exact ext_getD hl (osa_zero _ h)
  · rintro rfl
    exact osa_same _ fun _ _ => rfl
/-- Along equal rests the distance does not grow. -/
theorem osa_diag {a b : Str} {i j : Nat} : ∀ n, (∀ k, k < n → a.getD (i + k) 0 = b.getD (j + k) 0) → osa a b (i + n) (j + n) ≤ osa a b i j
  | 0, _ => Nat.le_refl _
  | n + 1, h => by
    have h1 := osa_diag n fun k hk => h k (by omega)
    have h2 := osa_le3 a b (i + n) (j + n)
    have h3 : cst a b (i + n) (j + n) = 0 := if_pos (h n (by omega))
    unfold osa3 at h2
    rw [show i + (n + 1) = i + n + 1 by omega, show j + (n + 1) = j + n + 1 by omega]
    omega
theorem osa_ins {a b : Str} {i j : Nat} : osa a b i (j + 1) ≤ osa a b i j + 1 := by
  cases i with
  | zero => rw [osa_0, osa_0]; omega
  | succ i => have := osa_le3 a b i j; unfold osa3 at this; omega
theorem osa_del {a b : Str} {i j : Nat} : osa a b (i + 1) j ≤ osa a b i j + 1 := by
  rw [osa_symm, osa_symm a b i j]; exact osa_ins
theorem osa_rep {a b : Str} {i j : Nat} : osa a b (i + 1) (j + 1) ≤ osa a b i j + 1 := by
  have := osa_le3 a b i j
  have := cst_le (a := a) (b := b) (i := i) (j := j)
  unfold osa3 at *; omega
theorem osa_swap {a b : Str} {i j : Nat} (h : crossed a b i j) : osa a b (i + 2) (j + 2) ≤ osa a b i j + 1 := by
  rw [osa_t h]; omega
theorem getD_left {x y : Str} {k : Nat} (h : k < x.length) : (x ++ y).getD k 0 = x.getD k 0 := by
  simp [List.getD_eq_getElem?_getD, List.getElem?_append, h]
theorem getD_right {x y : Str} {k : Nat} : (x ++ y).getD (x.length + k) 0 = y.getD k 0 := by
  simp [List.getD_eq_getElem?_getD, List.getElem?_append_right]
/-- One edit in the midst. -/
theorem osa_mid {x u v y : Str} (h : osa (x ++ u ++ y) (x ++ v ++ y) (x.length + u.length) (x.length + v.length) ≤ 1) : osa (x ++ u ++ y) (x ++ v ++ y) (x ++ u ++ y).length (x ++ v ++ y).length ≤ 1 := by
  have := osa_diag (a := x ++ u ++ y) (b := x ++ v ++ y) (i := x.length + u.length) (j := x.length + v.length) y.length fun k hk => by
    rw [show x.length + u.length + k = (x ++ u).length + k by simp, show x.length + v.length + k = (x ++ v).length + k by simp, getD_right, getD_right]
  simp only [List.length_append] at this ⊢
  omega
theorem osa_pre {x u v : Str} : osa (x ++ u) (x ++ v) x.length x.length = 0 := osa_same _ fun k hk => by rw [getD_left hk, getD_left hk]
theorem osa_insert {x y : Str} {c : UInt8} : osa (x ++ y) (x ++ [c] ++ y) (x ++ y).length (x ++ [c] ++ y).length = 1 := by
  have h := osa_bounds (x ++ y) (x ++ [c] ++ y) (x ++ y).length (x ++ [c] ++ y).length
  have h2 := osa_mid (x := x) (u := []) (v := [c]) (y := y) (by
    refine Nat.le_trans osa_ins ?_
    have := osa_pre (x := x) (u := [] ++ y) (v := [c] ++ y)
    rw [← List.append_assoc, ← List.append_assoc] at this
    simp only [List.length_nil, Nat.add_zero] at this ⊢
    omega)
  simp only [List.append_nil, List.length_append, List.length_singleton] at h h2 ⊢
  omega
theorem osa_delete {x y : Str} {c : UInt8} : osa (x ++ [c] ++ y) (x ++ y) (x ++ [c] ++ y).length (x ++ y).length = 1 := by
  rw [osa_symm]; exact osa_insert
theorem osa_swapped {x y : Str} {c d : UInt8} : osa (x ++ [c, d] ++ y) (x ++ [d, c] ++ y) (x ++ [c, d] ++ y).length (x ++ [d, c] ++ y).length ≤ 1 := by
  refine osa_mid ?_
  have hp := osa_pre (x := x) (u := [c, d] ++ y) (v := [d, c] ++ y)
  rw [← List.append_assoc, ← List.append_assoc] at hp
  refine Nat.le_trans (osa_swap ?_) (by omega)
  have e : ∀ (p q : UInt8), (x ++ [p, q] ++ y).getD x.length 0 = p ∧ (x ++ [p, q] ++ y).getD (x.length + 1) 0 = q := by
    intro p q
    rw [List.append_assoc]
    refine ⟨?_, ?_⟩
    · exact getD_right (k := 0)
    · exact getD_right (k := 1)
  exact ⟨(e c d).2.trans (e d c).1.symm, (e c d).1.trans (e d c).2.symm⟩
theorem osa_replaced {x y : Str} {c d : UInt8} : osa (x ++ [c] ++ y) (x ++ [d] ++ y) (x ++ [c] ++ y).length (x ++ [d] ++ y).length ≤ 1 := by
  refine osa_mid ?_
  have hp := osa_pre (x := x) (u := [c] ++ y) (v := [d] ++ y)
  rw [← List.append_assoc, ← List.append_assoc] at hp
  exact Nat.le_trans osa_rep (by omega)
end Go.Lx
