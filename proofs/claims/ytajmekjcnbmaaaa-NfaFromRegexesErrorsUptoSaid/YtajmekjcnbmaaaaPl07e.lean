/- Plain facts on layer 7: the classes. -/
import Derived.Test.YtajmekjcnbmaaaaPl07s
set_option linter.unusedVariables false
namespace Go.Proofs.Ytajmekjcnbmaaaa
open Go.Lx

/-! ### the values of a function, in the order of first occurrence -/
def D (σ : Nat → List Bool) : Nat → List (List Bool) | 0 => [] | i + 1 => bif (D σ i).contains (σ i) then D σ i else D σ i ++ [σ i]
theorem mem_D {σ : Nat → List Bool} {i : Nat} {s : List Bool} : s ∈ D σ i ↔ ∃ a, a < i ∧ σ a = s := by
  induction i with
  | zero => simp [D]
  | succ i ih =>
    have key : (∃ a, a < i + 1 ∧ σ a = s) ↔ (s ∈ D σ i ∨ s = σ i) := by
      rw [ih]
      constructor
      · rintro ⟨a, h1, h2⟩
        by_cases h : a = i
        · subst h; exact .inr h2.symm
        · exact .inl ⟨a, by omega, h2⟩
      · rintro (⟨a, h1, h2⟩ | h)
        · exact ⟨a, by omega, h2⟩
        · exact ⟨i, by omega, h.symm⟩
    rw [key, D]
    cases hc : (D σ i).contains (σ i)
    · simp
    · simp only [cond_true]
      have : σ i ∈ D σ i := by simpa using hc
      constructor
      · exact .inl
      · rintro (h | rfl)
        · exact h
        · exact this
theorem D_prefix {σ : Nat → List Bool} {i j : Nat} (h : i ≤ j) : ∃ r, D σ j = D σ i ++ r := by
  obtain ⟨k, rfl⟩ := Nat.le.dest h
  clear h
  induction k with
  | zero => exact ⟨[], by simp⟩
  | succ k ih =>
    obtain ⟨r, hr⟩ := ih
    rw [← Nat.add_assoc, D]
    cases (D σ (i + k)).contains (σ (i + k))
    · exact ⟨r ++ [σ (i + k)], by simp [hr]⟩
    · exact ⟨r, by simpa using hr⟩
theorem D_len {σ : Nat → List Bool} (i : Nat) : (D σ i).length ≤ i := by
  induction i with
  | zero => simp [D]
  | succ i ih =>
    rw [D]
    cases (D σ i).contains (σ i)
    · simp; omega
    · simp only [cond_true]; omega
/-- The class of a byte. -/
def cls (σ : Nat → List Bool) (i : Nat) : Nat := (D σ 256).idxOf (σ i)
theorem cls_at {σ : Nat → List Bool} {i j : Nat} (hj : j ≤ 256) (hi : i < j) : cls σ i = (D σ j).idxOf (σ i) := by
  obtain ⟨r, hr⟩ := D_prefix (σ := σ) hj
  unfold cls
  rw [hr, List.idxOf_append, if_pos (mem_D.2 ⟨i, hi, rfl⟩)]
theorem cls_old {σ : Nat → List Bool} {i : Nat} (hi : i < 256) (h : σ i ∈ D σ i) : cls σ i = (D σ i).idxOf (σ i) ∧ cls σ i < (D σ i).length := by
  have e : D σ (i + 1) = D σ i := by rw [D]; simp [h]
  have := cls_at (σ := σ) (i := i) (j := i + 1) (by omega) (by omega)
  rw [e] at this
  rw [this]
  exact ⟨rfl, List.idxOf_lt_length_of_mem h⟩
theorem cls_new {σ : Nat → List Bool} {i : Nat} (hi : i < 256) (h : σ i ∉ D σ i) : cls σ i = (D σ i).length ∧ D σ (i + 1) = D σ i ++ [σ i] := by
  have e : D σ (i + 1) = D σ i ++ [σ i] := by rw [D]; simp [h]
  have := cls_at (σ := σ) (i := i) (j := i + 1) (by omega) (by omega)
  rw [e, List.idxOf_append, if_neg h] at this
  rw [this]
  refine ⟨by simp, e⟩
theorem D_old {σ : Nat → List Bool} {i : Nat} (h : σ i ∈ D σ i) : D σ (i + 1) = D σ i := by rw [D]; simp [h]
theorem idxOf_inj {l : List (List Bool)} {a b : List Bool} (ha : a ∈ l) (h : l.idxOf a = l.idxOf b) : a = b := by
  have h1 := List.idxOf_lt_length_of_mem ha
  have e1 : l[l.idxOf a]'h1 = a := by simp
  have h2 : l.idxOf b < l.length := by omega
  have e2 : l[l.idxOf b]'h2 = b := by simp
  rw [← e1, ← e2]
  congr 1
theorem cls_inj {σ : Nat → List Bool} {a b : Nat} (ha : a < 256) (hb : b < 256) : cls σ a = cls σ b ↔ σ a = σ b :=
  ⟨fun h => idxOf_inj (mem_D.2 ⟨a, ha, rfl⟩) h, fun h => by unfold cls; rw [h]⟩

/-! ### a list that is filled from its start -/
def tab (f : Nat → Int) (n i : Nat) : List Int := (List.range i).map f ++ List.replicate (n - i) 0
theorem tab_len {f : Nat → Int} {n i : Nat} (h : i ≤ n) : (tab f n i).length = n := by simp [tab]; omega
theorem tab_get {f : Nat → Int} {n i k : Nat} (hk : k < i) (h : k < (tab f n i).length) : (tab f n i)[k] = f k := by
  simp [tab, hk]
theorem tab_set {f : Nat → Int} {n i : Nat} (hi : i < n) (x : Int) (hx : f i = x) : (tab f n i).set i x = tab f n (i + 1) := by
  unfold tab
  rw [List.set_append, if_neg (by simp), List.range_succ, List.map_append, List.append_assoc]
  congr 1
  simp only [List.length_map, List.length_range, Nat.sub_self]
  obtain ⟨k, hk⟩ : ∃ k, n - i = k + 1 := ⟨n - i - 1, by omega⟩
  rw [hk, List.replicate_succ, List.set_cons_zero, show n - (i + 1) = k by omega, ← hx]
  rfl
theorem tab_zero {f : Nat → Int} {n : Nat} : tab f n 0 = List.replicate n 0 := by simp [tab]
theorem tab_all {f : Nat → Int} {n : Nat} : tab f n n = (List.range n).map f := by simp [tab]

/-! ### keys -/
def b2i (b : Bool) : Int := bif b then 1 else 0
def key (s : List Bool) : Str := toStr (s.map b2i)
theorem key_inj : ∀ {s t : List Bool}, key s = key t → s = t
  | [], [], _ => rfl
  | [], _ :: _, h => by simp [key, toStr] at h
  | _ :: _, [], h => by simp [key, toStr] at h
  | a :: s, b :: t, h => by
    simp only [key, toStr, List.map_cons, List.cons.injEq] at h
    have h2 : s = t := key_inj h.2
    have h1 : a = b := by
      have := h.1
      revert this
      cases a <;> cases b <;> decide
    rw [h1, h2]
theorem key_beq (s t : List Bool) : (key s == key t) = (s == t) := by
  rw [Bool.eq_iff_iff, beq_iff_eq, beq_iff_eq]
  exact ⟨key_inj, fun h => by rw [h]⟩
def enc : List (List Bool) → Nat → List (Str × Int) | [], _ => [] | s :: L, k => (key s, (k : Int)) :: enc L (k + 1)
theorem enc_len (L : List (List Bool)) : ∀ k, (enc L k).length = L.length := by
  induction L with
  | nil => exact fun _ => rfl
  | cons s L ih => intro k; simp [enc, ih]
theorem enc_get (s : List Bool) (L : List (List Bool)) : ∀ k, mget (enc L k) (key s) = bif L.contains s then some ((k + L.idxOf s : Nat) : Int) else none := by
  induction L with
  | nil => intro k; rfl
  | cons t L ih =>
    intro k
    unfold enc mget
    rw [List.find?_cons]
    simp only [key_beq]
    cases h : t == s
    · have hi := ih (k + 1)
      unfold mget at hi
      simp only []
      rw [hi, List.contains_cons, show (s == t) = false by rw [Bool.beq_comm]; exact h, Bool.false_or, List.idxOf_cons, h]
      cases L.contains s <;> simp <;> omega
    · have : t = s := by simpa using h
      subst this
      simp
theorem enc_set (s : List Bool) (L : List (List Bool)) : ∀ k, s ∉ L → mset (enc L k) (key s) ((k + L.length : Nat) : Int) = enc (L ++ [s]) k := by
  induction L with
  | nil => intro k _; simp [enc, mset]
  | cons t L ih =>
    intro k h
    have hne : (t == s) = false := by rw [beq_eq_false_iff_ne]; rintro rfl; simp at h
    simp only [enc, mset, key_beq, hne, cond_false, List.cons_append, List.length_cons]
    congr 1
    have := ih (k + 1) (by simp at h; exact h.2)
    rw [← this]; congr 2; omega

/-! ### what the program and the reference compute -/
def sig (l : List (Vec 4)) (i : Nat) : List Bool := l.map (fun v => mem v i)
def clsL (l : List (Vec 4)) : List Int := (List.range 256).map fun i => (cls (sig l) i : Int)
theorem chk_succ' {i : Nat} (h : i < 9223372036854775807) : chk .i64 ((i : Int) + 1) = some ((i + 1 : Nat) : Int) := by rw [chk_i64 (by omega) (by omega)]; rfl

end Go.Proofs.Ytajmekjcnbmaaaa
