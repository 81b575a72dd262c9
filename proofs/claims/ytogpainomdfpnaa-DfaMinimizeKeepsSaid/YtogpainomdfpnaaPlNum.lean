/- Plain facts: numbers in the order of first occurrence. No program in sight. -/
import Derived.Test.YtogpainomdfpnaaPlLoop
namespace Go.Lx

theorem nodup_le : ∀ (N : Nat) (l : List Nat), l.Nodup → (∀ x ∈ l, x < N) → l.length ≤ N
  | 0, l, _, h => by
    cases l with
    | nil => simp
    | cons a l => have := h a (by simp); omega
  | N + 1, l, hn, h => by
    have h1 := nodup_le N (l.filter (· != N)) (hn.filter _) (fun x hx => by
      simp only [List.mem_filter, bne_iff_ne, ne_eq] at hx
      have := h x hx.1; omega)
    have h2 : l.length ≤ (l.filter (· != N)).length + 1 := by
      clear h1 h
      induction l with
      | nil => simp
      | cons a l ih =>
        have hn' := List.nodup_cons.1 hn
        by_cases ha : a = N
        · subst ha
          have : l.filter (· != a) = l := List.filter_eq_self.2 fun x hx => by
            have : x ≠ a := by rintro rfl; exact hn'.1 hx
            simpa using this
          simp [this]
        · have := ih hn'.2
          simp [ha]; omega
    omega
section
variable {K : Type} [DecidableEq K]
/-- One more key. -/
def add1 (L : List K) (k : K) : List K := if k ∈ L then L else L ++ [k]
/-- The keys of the first i places, each once, in the order of first occurrence. -/
def D (σ : Nat → K) : Nat → List K
  | 0 => []
  | i + 1 => add1 (D σ i) (σ i)
theorem mem_add1 {L : List K} {k x : K} : x ∈ add1 L k ↔ x ∈ L ∨ x = k := by
  unfold add1
  split
  · rename_i h
    constructor
    · exact .inl
    · rintro (h' | rfl)
      · exact h'
      · exact h
  · simp
theorem mem_D {σ : Nat → K} {i : Nat} {s : K} : s ∈ D σ i ↔ ∃ a, a < i ∧ σ a = s := by
  induction i with
  | zero => simp [D]
  | succ i ih =>
    rw [D, mem_add1, ih]
    constructor
    · rintro (⟨a, h1, h2⟩ | rfl)
      · exact ⟨a, by omega, h2⟩
      · exact ⟨i, by omega, rfl⟩
    · rintro ⟨a, h1, h2⟩
      by_cases h : a = i
      · subst h; exact .inr h2.symm
      · exact .inl ⟨a, by omega, h2⟩
theorem D_nodup (σ : Nat → K) (i : Nat) : (D σ i).Nodup := by
  induction i with
  | zero => simp [D]
  | succ i ih =>
    rw [D, add1]
    split
    · exact ih
    · rename_i h
      exact List.nodup_append.2 ⟨ih, by simp, fun a ha b hb => by
        rw [List.mem_singleton.1 hb]; rintro rfl; exact h ha⟩
theorem D_prefix {σ : Nat → K} {i j : Nat} (h : i ≤ j) : ∃ r, D σ j = D σ i ++ r := by
  obtain ⟨k, rfl⟩ := Nat.le.dest h
  clear h
  induction k with
  | zero => exact ⟨[], by simp⟩
  | succ k ih =>
    obtain ⟨r, hr⟩ := ih
    rw [← Nat.add_assoc, D, add1]
    split
    · exact ⟨r, hr⟩
    · exact ⟨r ++ [σ (i + k)], by simp [hr]⟩
theorem D_len (σ : Nat → K) (i : Nat) : (D σ i).length ≤ i := by
  induction i with
  | zero => simp [D]
  | succ i ih =>
    rw [D, add1]
    split
    · omega
    · simp; omega
theorem D_mono {σ : Nat → K} {i j : Nat} (h : i ≤ j) : (D σ i).length ≤ (D σ j).length := by
  obtain ⟨r, hr⟩ := D_prefix (σ := σ) h
  rw [hr]; simp
/-- The number of place i. -/
def num (σ : Nat → K) (i : Nat) : Nat := (D σ (i + 1)).idxOf (σ i)
theorem num_at {σ : Nat → K} {i j : Nat} (h : i < j) : num σ i = (D σ j).idxOf (σ i) := by
  obtain ⟨r, hr⟩ := D_prefix (σ := σ) (i := i + 1) (j := j) h
  unfold num
  rw [hr, List.idxOf_append, if_pos (mem_D.2 ⟨i, by omega, rfl⟩)]
theorem num_lt {σ : Nat → K} {i j : Nat} (h : i < j) : num σ i < (D σ j).length := by
  rw [num_at h]; exact List.idxOf_lt_length_of_mem (mem_D.2 ⟨i, h, rfl⟩)
theorem idxOf_inj {L : List K} {a b : K} (ha : a ∈ L) (h : L.idxOf a = L.idxOf b) : a = b := by
  have h1 := List.idxOf_lt_length_of_mem ha
  have e1 : L[L.idxOf a]'h1 = a := by simp
  have h2 : L.idxOf b < L.length := by omega
  have e2 : L[L.idxOf b]'h2 = b := by simp
  rw [← e1, ← e2]
  congr 1
theorem num_inj {σ : Nat → K} {i j : Nat} : num σ i = num σ j ↔ σ i = σ j := by
  constructor
  · intro h
    rw [num_at (j := max i j + 1) (by omega), num_at (i := j) (j := max i j + 1) (by omega)] at h
    exact idxOf_inj (mem_D.2 ⟨i, by omega, rfl⟩) h
  · intro h
    rw [num_at (j := max i j + 1) (by omega), num_at (i := j) (j := max i j + 1) (by omega), h]
theorem D_get {σ : Nat → K} {i j : Nat} (h : i < j) : (D σ j)[num σ i]? = some (σ i) := by
  have hlt := num_lt (σ := σ) h
  rw [List.getElem?_eq_getElem hlt]
  simp [num_at h]
theorem num_new {σ : Nat → K} {i : Nat} (h : σ i ∉ D σ i) : num σ i = (D σ i).length := by
  unfold num
  rw [D, add1, if_neg h, List.idxOf_append, if_neg h]
  simp
theorem num_old {σ : Nat → K} {i : Nat} (h : σ i ∈ D σ i) : num σ i < (D σ i).length := by
  unfold num
  rw [D, add1, if_pos h]
  exact List.idxOf_lt_length_of_mem h
theorem D_new {σ : Nat → K} {i : Nat} (h : σ i ∉ D σ i) : D σ (i + 1) = D σ i ++ [σ i] := by rw [D, add1, if_neg h]
theorem D_old {σ : Nat → K} {i : Nat} (h : σ i ∈ D σ i) : D σ (i + 1) = D σ i := by rw [D, add1, if_pos h]
/-- Each number below the count is some place's number. -/
theorem num_onto {σ : Nat → K} {n c : Nat} (h : c < (D σ n).length) : ∃ i, i < n ∧ num σ i = c ∧ ∀ j, j < i → num σ j ≠ c := by
  induction n with
  | zero => simp [D] at h
  | succ n ih =>
    by_cases hc : c < (D σ n).length
    · obtain ⟨i, hi, h1⟩ := ih hc
      exact ⟨i, by omega, h1⟩
    · by_cases hm : σ n ∈ D σ n
      · rw [D_old hm] at h; omega
      · rw [D_new hm] at h
        simp at h
        refine ⟨n, by omega, by rw [num_new hm]; omega, fun j hj => ?_⟩
        have := num_lt (σ := σ) hj
        omega
variable {K' : Type} [DecidableEq K']
/-- The numbers depend only on which places agree. -/
theorem num_uniq {σ : Nat → K} {τ : Nat → K'} {n : Nat} (h : ∀ i j, i < n → j < n → (σ i = σ j ↔ τ i = τ j)) : ∀ i, i ≤ n → (D σ i).length = (D τ i).length ∧ ∀ j, j < i → num σ j = num τ j := by
  intro i
  induction i with
  | zero => intro _; exact ⟨rfl, fun j hj => by omega⟩
  | succ i ih =>
    intro hi
    obtain ⟨h1, h2⟩ := ih (by omega)
    have hmem : σ i ∈ D σ i ↔ τ i ∈ D τ i := by
      rw [mem_D, mem_D]
      constructor
      · rintro ⟨a, ha, e⟩; exact ⟨a, ha, (h a i (by omega) (by omega)).1 e⟩
      · rintro ⟨a, ha, e⟩; exact ⟨a, ha, (h a i (by omega) (by omega)).2 e⟩
    by_cases hm : σ i ∈ D σ i
    · rw [D_old hm, D_old (hmem.1 hm)]
      refine ⟨h1, fun j hj => ?_⟩
      by_cases e : j = i
      · subst e
        obtain ⟨a, ha, e⟩ := mem_D.1 hm
        rw [num_inj.2 e.symm, num_inj.2 ((h a j (by omega) (by omega)).1 e).symm]
        exact h2 a ha
      · exact h2 j (by omega)
    · have hm' := fun x => hm (hmem.2 x)
      rw [D_new hm, D_new hm']
      refine ⟨by simp [h1], fun j hj => ?_⟩
      by_cases e : j = i
      · subst e
        rw [num_new hm, num_new hm', h1]
      · exact h2 j (by omega)
theorem num_num {σ : Nat → K} (i : Nat) : num (num σ) i = num σ i :=
  ((num_uniq (σ := num σ) (τ := σ) (n := i + 1) (fun _ _ _ _ => num_inj)) (i + 1) (Nat.le_refl _)).2 i (by omega)
theorem D_num (σ : Nat → K) (n : Nat) : D (num σ) n = List.range (D σ n).length := by
  induction n with
  | zero => rfl
  | succ n ih =>
    by_cases hm : σ n ∈ D σ n
    · have : num σ n ∈ D (num σ) n := by rw [ih]; exact List.mem_range.2 (num_old hm)
      rw [D_old hm, D_old this, ih]
    · have : num σ n ∉ D (num σ) n := by rw [ih, num_new hm]; simp
      rw [D_new hm, D_new this, ih, num_new hm]
      simp [List.range_succ]
/-- If the numbering of σ refines that of τ, and both count the same, they are the same. -/
theorem num_count {σ : Nat → K} {τ : Nat → K'} {n : Nat} (h : ∀ i j, i < n → j < n → σ i = σ j → τ i = τ j) : (D τ n).length ≤ (D σ n).length ∧ ((D σ n).length = (D τ n).length → ∀ i j, i < n → j < n → τ i = τ j → σ i = σ j) := by
  -- the first place of each key of τ
  have first : ∀ m, m ≤ n → ∃ L : List Nat, (∀ x ∈ L, x < m) ∧ L.length = (D τ m).length ∧ (L.map τ).Nodup := by
    intro m
    induction m with
    | zero => intro _; exact ⟨[], by simp, rfl, by simp⟩
    | succ m ih =>
      intro hm
      obtain ⟨L, h1, h2, h3⟩ := ih (by omega)
      by_cases hd : τ m ∈ D τ m
      · exact ⟨L, fun x hx => by have := h1 x hx; omega, by rw [D_old hd, h2], h3⟩
      · refine ⟨L ++ [m], ?_, by rw [D_new hd]; simp [h2], ?_⟩
        · intro x hx
          rcases List.mem_append.1 hx with hx | hx
          · have := h1 x hx; omega
          · have := List.mem_singleton.1 hx; omega
        · rw [List.map_append, List.nodup_append]
          refine ⟨h3, by simp, fun a ha b hb => ?_⟩
          obtain ⟨x, hx, rfl⟩ := List.mem_map.1 ha
          have hb : b = τ m := by simpa using hb
          subst hb
          exact fun e => hd (mem_D.2 ⟨x, h1 x hx, e⟩)
  obtain ⟨L, h1, h2, h3⟩ := first n (Nat.le_refl _)
  have h4 : (L.map (num σ)).Nodup := by
    refine List.pairwise_map.2 ((List.pairwise_map.1 h3).imp_of_mem fun {a b} ha hb hne he => hne ?_)
    exact h a b (h1 a ha) (h1 b hb) (num_inj.1 he)
  have h5 : ∀ x ∈ L.map (num σ), x < (D σ n).length := by
    intro x hx
    obtain ⟨a, ha, rfl⟩ := List.mem_map.1 hx
    exact num_lt (h1 a ha)
  refine ⟨?_, fun heq i j hi hj hij => ?_⟩
  · have := nodup_le _ _ h4 h5
    simp at this; omega
  · by_cases hc : σ i = σ j
    · exact hc
    exfalso
    -- one of the two is new among the representatives
    have key : ∀ x, x < n → num σ x ∈ L.map (num σ) := by
      intro x hx
      by_cases hin : num σ x ∈ L.map (num σ)
      · exact hin
      · exfalso
        have := nodup_le (D σ n).length (num σ x :: L.map (num σ)) (List.nodup_cons.2 ⟨hin, h4⟩) (fun y hy => by
          rcases List.mem_cons.1 hy with rfl | hy
          · exact num_lt hx
          · exact h5 y hy)
        simp at this; omega
    obtain ⟨a, ha, ea⟩ := List.mem_map.1 (key i hi)
    obtain ⟨b, hb, eb⟩ := List.mem_map.1 (key j hj)
    have ea := num_inj.1 ea
    have eb := num_inj.1 eb
    have t : τ a = τ b := by rw [h a i (h1 a ha) hi ea, hij, h b j (h1 b hb) hj eb]
    have hab : a = b := by
      by_cases e : a = b
      · exact e
      · exfalso
        obtain ⟨p, hp, rfl⟩ := List.mem_iff_getElem.1 ha
        obtain ⟨q, hq, rfl⟩ := List.mem_iff_getElem.1 hb
        have hpw := List.pairwise_iff_getElem.1 h3
        rcases Nat.lt_trichotomy p q with hl | hl | hl
        · have := hpw p q (by simpa using hp) (by simpa using hq) hl
          simp at this; exact this t
        · subst hl; exact e rfl
        · have := hpw q p (by simpa using hq) (by simpa using hp) hl
          simp at this; exact this t.symm
    subst hab
    exact hc (ea.symm.trans eb)
end
/-- A list filled from its start. -/
def tab (f : Nat → Int) (n i : Nat) : List Int := (List.range i).map f ++ List.replicate (n - i) 0
theorem tab_len {f : Nat → Int} {n i : Nat} (h : i ≤ n) : (tab f n i).length = n := by simp [tab]; omega
theorem tab_set {f : Nat → Int} {n i : Nat} (hi : i < n) : (tab f n i).set i (f i) = tab f n (i + 1) := by
  unfold tab
  rw [List.set_append, if_neg (by simp), List.range_succ, List.map_append, List.append_assoc]
  congr 1
  simp only [List.length_map, List.length_range, Nat.sub_self]
  obtain ⟨k, hk⟩ : ∃ k, n - i = k + 1 := ⟨n - i - 1, by omega⟩
  rw [hk, List.replicate_succ, List.set_cons_zero, show n - (i + 1) = k by omega]
  rfl
theorem tab_zero {f : Nat → Int} {n : Nat} : tab f n 0 = List.replicate n 0 := by simp [tab]
theorem tab_all {f : Nat → Int} {n : Nat} : tab f n n = (List.range n).map f := by simp [tab]
theorem setL_tab {f : Nat → Int} {n i : Nat} (hi : i < n) : setL (tab f n i) (i : Int) (f i) = some (tab f n (i + 1)) := by
  rw [setL_nat (by rw [tab_len (by omega)]; exact hi), tab_set hi]
/-! ### a map from keys to numbers -/
section
variable {K K' : Type} [DecidableEq K] [BEq K'] [LawfulBEq K']
/-- The map m says the places of the keys of L, as enc writes them. -/
def NumMap (P : K → Prop) (enc : K → K') (m : List (K' × Int)) (L : List K) : Prop :=
  m.length = L.length ∧ ∀ k, P k → mget m (enc k) = if k ∈ L then some ((L.idxOf k : Nat) : Int) else none
omit [LawfulBEq K'] in
theorem mset_len_new : ∀ {m : List (K' × Int)} {k : K'} {v : Int}, mget m k = none → (mset m k v).length = m.length + 1
  | [], _, _, _ => rfl
  | p :: m, k, v, h => by
    unfold mset
    cases hp : p.1 == k
    · have : mget m k = none := by unfold mget at h ⊢; rw [List.find?_cons, hp] at h; exact h
      simp [mset_len_new this]
    · unfold mget at h; rw [List.find?_cons, hp] at h; simp at h
variable {P : K → Prop} {enc : K → K'} {m : List (K' × Int)} {L : List K} {k : K}
omit [LawfulBEq K'] in
theorem NumMap.nil : NumMap P enc [] ([] : List K) := ⟨rfl, fun k _ => by simp [mget]⟩
omit [LawfulBEq K'] in
theorem NumMap.old (h : NumMap P enc m L) (hp : P k) (hk : k ∈ L) : (mget m (enc k)).isSome = true ∧ (mget m (enc k)).getD 0 = ((L.idxOf k : Nat) : Int) := by
  rw [h.2 k hp, if_pos hk]; exact ⟨rfl, rfl⟩
theorem NumMap.new (h : NumMap P enc m L) (inj : ∀ k k', P k → P k' → enc k = enc k' → k = k') (hp : P k) (hk : k ∉ L) : (mget m (enc k)).isSome = false ∧ NumMap P enc (mset m (enc k) (L.length : Int)) (L ++ [k]) := by
  have h0 : mget m (enc k) = none := by rw [h.2 k hp, if_neg hk]
  refine ⟨by rw [h0]; rfl, by rw [mset_len_new h0]; simp [h.1], fun q hq => ?_⟩
  by_cases e : q = k
  · subst e
    rw [mget_self, if_pos (by simp), List.idxOf_append, if_neg hk]
    simp
  · rw [mget_ne (fun he => e (inj _ _ hq hp he)), h.2 q hq]
    by_cases hql : q ∈ L
    · rw [if_pos hql, if_pos (by simp [hql]), List.idxOf_append, if_pos hql]
    · rw [if_neg hql, if_neg (by simp [hql, e])]
end
end Go.Lx
