/- Plain facts on layer 10: strings in order of length and bytes; a search in breadth finds the least string. -/
import Derived.Test.YtogpainomdfpnaaPl10b
import Derived.Test.YtogpainomdfpnaaPlNum
set_option linter.unusedVariables false
namespace Go.Proofs.Ytogpainomdfpnaa
open Go.Lx

/-! ### the place of a string in the order -/
def rankF (r : Nat) (s : Str) : Nat := s.foldl (fun r c => r * 256 + c.toNat + 1) r
def rank (s : Str) : Nat := rankF 0 s
theorem rank_snoc (s : Str) (c : UInt8) : rank (s ++ [c]) = rank s * 256 + c.toNat + 1 := by simp [rank, rankF]
theorem rankF_lt : ∀ {s t : Str} {r q : Nat}, s.length = t.length → r < q → rankF r s < rankF q t
  | [], [], r, q, _, h => h
  | a :: s, b :: t, r, q, hl, h => by
    have h1 := a.toNat_lt
    exact rankF_lt (s := s) (t := t) (r := r * 256 + a.toNat + 1) (q := q * 256 + b.toNat + 1) (by simpa using hl) (by omega)
  | [], _ :: _, _, _, hl, _ => by simp at hl
  | _ :: _, [], _, _, hl, _ => by simp at hl
theorem rankF_lex : ∀ {s t : Str} {r : Nat}, s.length = t.length → rankF r s ≤ rankF r t → ltS s t = true ∨ s = t
  | [], [], _, _, _ => .inr rfl
  | a :: s, b :: t, r, hl, h => by
    have hk : s.length = t.length := by simpa using hl
    have h' : rankF (r * 256 + a.toNat + 1) s ≤ rankF (r * 256 + b.toNat + 1) t := h
    clear h
    rcases Nat.lt_trichotomy a.toNat b.toNat with hab | hab | hab
    · have : a < b := hab
      exact .inl (by simp [ltS, this])
    · have : a = b := UInt8.toNat_inj.1 hab
      subst this
      rcases rankF_lex hk h' with h | h
      · exact .inl (by simp [ltS, h])
      · exact .inr (by rw [h])
    · have := rankF_lt (s := t) (t := s) hk.symm (r := r * 256 + b.toNat + 1) (q := r * 256 + a.toNat + 1) (by omega)
      omega
  | [], _ :: _, _, hl, _ => by simp at hl
  | _ :: _, [], _, hl, _ => by simp at hl
theorem rankF_ge : ∀ (s : Str) (r : Nat), r ≤ rankF r s
  | [], _ => Nat.le_refl _
  | a :: s, r => Nat.le_trans (by omega) (rankF_ge s (r * 256 + a.toNat + 1))
theorem rankF_app (s t : Str) (r : Nat) : rankF r (s ++ t) = rankF (rankF r s) t := List.foldl_append
/-- Longer strings come later. -/
theorem rank_len {s t : Str} (h : s.length < t.length) : rank s < rank t := by
  obtain ⟨u, v, rfl, hu⟩ : ∃ u v : Str, t = u ++ v ∧ v.length = s.length := ⟨t.take (t.length - s.length), t.drop (t.length - s.length), by simp, by simp; omega⟩
  have hu0 : u ≠ [] := by rintro rfl; simp at h; omega
  unfold rank
  rw [rankF_app]
  refine rankF_lt hu.symm ?_
  match u, hu0 with
  | a :: u, _ => exact Nat.lt_of_lt_of_le (by omega) (rankF_ge u (0 * 256 + a.toNat + 1))
theorem rank_le_iff {s t : Str} (h : rank s ≤ rank t) : s.length < t.length ∨ (s.length = t.length ∧ (ltS s t = true ∨ s = t)) := by
  rcases Nat.lt_trichotomy s.length t.length with hl | hl | hl
  · exact .inl hl
  · exact .inr ⟨hl, rankF_lex hl h⟩
  · have := rank_len hl; omega
theorem ltS_rank : ∀ {s t : Str} {r : Nat}, s.length = t.length → ltS s t = true → rankF r s < rankF r t
  | [], [], _, _, h => by simp [ltS] at h
  | a :: s, b :: t, r, hl, h => by
    have hk : s.length = t.length := by simpa using hl
    simp only [ltS, Bool.or_eq_true, decide_eq_true_eq, Bool.and_eq_true, beq_iff_eq] at h
    rcases h with h' | ⟨h1, h'⟩
    · have : a.toNat < b.toNat := h'
      exact rankF_lt (s := s) (t := t) (r := r * 256 + a.toNat + 1) (q := r * 256 + b.toNat + 1) hk (by omega)
    · subst h1
      exact ltS_rank (s := s) (t := t) (r := r * 256 + a.toNat + 1) hk h'
  | [], _ :: _, _, hl, _ => by simp at hl
  | _ :: _, [], _, hl, _ => by simp at hl
theorem rank_inj {s t : Str} (h : rank s = rank t) : s = t := by
  rcases rank_le_iff (Nat.le_of_eq h) with hl | ⟨hl, h1 | h1⟩
  · have := rank_len hl; omega
  · have := ltS_rank (r := 0) hl h1
    unfold rank at h; omega
  · exact h1

theorem rnk0 {x u v : Nat} (h1 : x < u + 256 + 1) (h2 : u + 256 ≤ v) : x < v + 0 + 1 := by omega
theorem rnk1 {x r q : Nat} (h1 : x < r * 256 + 256 + 1) (h2 : r < q) : x < q * 256 + 0 + 1 :=
  rnk0 h1 (by rw [← Nat.succ_mul]; exact Nat.mul_le_mul_right 256 (Nat.succ_le_of_lt h2))
theorem rnk2 {x r q c : Nat} (h1 : x ≤ r * 256 + c + 1) (h2 : r ≤ q) : x ≤ q * 256 + c + 1 :=
  Nat.le_trans h1 (Nat.add_le_add_right (Nat.add_le_add_right (Nat.mul_le_mul_right 256 h2) c) 1)
/-! ### the search -/
section
variable (a b : T_DFA)
def Diff (w : Str) : Prop := accN a (walkN a 0 w) ≠ accN b (walkN b 0 w)
/-- What the search answers. -/
def Least (r : Str × Bool) : Prop := (r.2 = true ∧ Diff a b r.1 ∧ ∀ w, Diff a b w → rank r.1 ≤ rank w) ∨ (r = ([], false) ∧ ∀ w, ¬ Diff a b w)
theorem least_uniq {r q : Str × Bool} (hr : Least a b r) (hq : Least a b q) : r = q := by
  rcases hr with ⟨h1, h2, h3⟩ | ⟨h1, h2⟩ <;> rcases hq with ⟨k1, k2, k3⟩ | ⟨k1, k2⟩
  · have : r.1 = q.1 := rank_inj (Nat.le_antisymm (h3 _ k2) (k3 _ h2))
    exact Prod.ext this (by rw [h1, k1])
  · exact (k2 _ h2).elim
  · exact (h2 _ k2).elim
  · rw [h1, k1]
abbrev Ent := Int × Int × Str
def prs (e : Ent) : Int × Int := (e.1, e.2.1)
def atQ (Q : List Ent) (i : Nat) : Ent := Q.getD i (0, 0, [])
def nx (e : Ent) (c : Nat) : Int × Int := (stepN a e.1 c, stepN b e.2.1 c)
/-- Before byte c of entry i. D: pairs that need no entry. -/
structure BJ (D : Int × Int → Prop) (Q : List Ent) (i c : Nat) : Prop where
  head : Q[0]? = some (0, 0, [])
  walk : ∀ e ∈ Q, e.1 = walkN a 0 e.2.2 ∧ e.2.1 = walkN b 0 e.2.2
  sorted : Q.Pairwise (fun e f => rank e.2.2 < rank f.2.2)
  nodup : (Q.map prs).Nodup
  done : ∀ j k, (j < i ∨ (j = i ∧ k < c)) → k < 256 → j < Q.length → D (nx a b (atQ Q j) k) ∨ ∃ e ∈ Q, prs e = nx a b (atQ Q j) k ∧ rank e.2.2 ≤ rank (atQ Q j).2.2 * 256 + k + 1
  same : ∀ j, j < i → j < Q.length → accN a (atQ Q j).1 = accN b (atQ Q j).2.1
  bound : i < Q.length → ∀ e ∈ Q, rank e.2.2 < rank (atQ Q i).2.2 * 256 + c + 1
  len : ∀ j, j < Q.length → (atQ Q j).2.2.length ≤ j
end
section
variable {a b : T_DFA} {D : Int × Int → Prop} {Q : List Ent} {i c : Nat}
theorem atQ_mem (h : i < Q.length) : atQ Q i ∈ Q := getD_mem h
theorem atQ_app {e : Ent} (h : i < Q.length) : atQ (Q ++ [e]) i = atQ Q i := by unfold atQ; rw [List.getD_eq_getElem?_getD, List.getD_eq_getElem?_getD, List.getElem?_append_left h]
theorem BJ.start : BJ a b D [(0, 0, [])] 0 0 where
  head := rfl
  walk e he := by simp at he; subst he; exact ⟨rfl, rfl⟩
  sorted := by simp
  nodup := by simp
  done j k h hk hj := by omega
  same j h := by omega
  bound _ e he := by simp at he; subst he; simp [atQ, rank, rankF]
  len j hj := by simp at hj; subst hj; simp [atQ]
theorem BJ.skip (h : BJ a b D Q i c) (hd : D (nx a b (atQ Q i) c) ∨ nx a b (atQ Q i) c ∈ Q.map prs) : BJ a b D Q i (c + 1) where
  head := h.head
  walk := h.walk
  sorted := h.sorted
  nodup := h.nodup
  done j k hjk hk hj := by
    by_cases e : j = i ∧ k = c
    · obtain ⟨rfl, rfl⟩ := e
      rcases hd with hd | hd
      · exact .inl hd
      · obtain ⟨e, he, hp⟩ := List.mem_map.1 hd
        have := h.bound hj e he
        exact .inr ⟨e, he, hp, by omega⟩
    · exact h.done j k (by omega) hk hj
  same := h.same
  bound hi e he := by have := h.bound hi e he; omega
  len := h.len
theorem BJ.push (h : BJ a b D Q i c) (hi : i < Q.length) (hc : c < 256) (hn : nx a b (atQ Q i) c ∉ Q.map prs) :
    BJ a b D (Q ++ [((nx a b (atQ Q i) c).1, (nx a b (atQ Q i) c).2, (atQ Q i).2.2 ++ [UInt8.ofNat c])]) i (c + 1) where
  head := by rw [List.getElem?_append_left (by omega)]; exact h.head
  walk e he := by
    rcases List.mem_append.1 he with he | he
    · exact h.walk e he
    · rw [List.mem_singleton.1 he]
      have hw := h.walk _ (atQ_mem hi)
      have e1 : (UInt8.ofNat c).toNat = c := by simp; omega
      simp only [walkN, List.foldl_append, List.foldl_cons, List.foldl_nil, e1, nx]
      unfold walkN at hw
      rw [← hw.1, ← hw.2]; exact ⟨rfl, rfl⟩
  sorted := by
    refine List.pairwise_append.2 ⟨h.sorted, by simp, fun e he f hf => ?_⟩
    rw [List.mem_singleton.1 hf, rank_snoc]
    have e1 : (UInt8.ofNat c).toNat = c := by simp; omega
    rw [e1]
    exact h.bound hi e he
  nodup := by
    rw [List.map_append, List.nodup_append]
    refine ⟨h.nodup, by simp, fun p hp q hq e => ?_⟩
    simp [prs] at hq
    subst e hq
    exact hn hp
  done j k hjk hk hj := by
    rw [List.length_append, List.length_singleton] at hj
    have hj' : j < Q.length := by omega
    rw [atQ_app hj']
    by_cases e : j = i ∧ k = c
    · obtain ⟨rfl, rfl⟩ := e
      refine .inr ⟨_, List.mem_append_right _ (List.mem_singleton.2 rfl), rfl, ?_⟩
      rw [rank_snoc]
      have e1 : (UInt8.ofNat k).toNat = k := by simp; omega
      rw [e1]; exact Nat.le_refl _
    · rcases h.done j k (by omega) hk hj' with h | ⟨e, he, h1⟩
      · exact .inl h
      · exact .inr ⟨e, List.mem_append_left _ he, h1⟩
  same j hj hjl := by
    rw [atQ_app (by omega)]
    exact h.same j hj (by omega)
  bound hil e he := by
    rw [atQ_app hi]
    rcases List.mem_append.1 he with he | he
    · have := h.bound hi e he; omega
    · rw [List.mem_singleton.1 he, rank_snoc]
      have e1 : (UInt8.ofNat c).toNat = c := by simp; omega
      rw [e1]; omega
  len j hj := by
    rw [List.length_append, List.length_singleton] at hj
    by_cases e : j < Q.length
    · rw [atQ_app e]; exact h.len j e
    · have : j = Q.length := by omega
      subst this
      have := h.len i hi
      simp [atQ, List.getD_eq_getElem?_getD] at this ⊢
      omega
theorem BJ.turn (h : BJ a b D Q i 256) (hs : i < Q.length → accN a (atQ Q i).1 = accN b (atQ Q i).2.1) : BJ a b D Q (i + 1) 0 where
  head := h.head
  walk := h.walk
  sorted := h.sorted
  nodup := h.nodup
  done j k hjk hk hj := h.done j k (by omega) hk hj
  same j hj hjl := by
    by_cases e : j = i
    · subst e; exact hs hjl
    · exact h.same j (by omega) hjl
  bound hil e he := by
    have h1 := h.bound (by omega) e he
    have h2 := List.pairwise_iff_getElem.1 h.sorted i (i + 1) (by omega) hil (by omega)
    have e1 : atQ Q i = Q[i] := by simp [atQ, List.getD_eq_getElem?_getD, show i < Q.length by omega]
    have e2 : atQ Q (i + 1) = Q[i + 1] := by simp [atQ, List.getD_eq_getElem?_getD, hil]
    rw [e1] at h1
    rw [e2]
    exact rnk1 h1 h2
  len := h.len
/-- Every string has an entry that is not greater, or one that is not begun is less. -/
theorem BJ.claim (h : BJ a b D Q i 0) (hD : ∀ p k, D p → k < 256 → D (stepN a p.1 k, stepN b p.2 k)) (w : Str) :
    D (walkN a 0 w, walkN b 0 w) ∨ (∃ j, j < Q.length ∧ prs (atQ Q j) = (walkN a 0 w, walkN b 0 w) ∧ rank (atQ Q j).2.2 ≤ rank w) ∨ (i < Q.length ∧ rank (atQ Q i).2.2 ≤ rank w) := by
  obtain ⟨v, rfl⟩ : ∃ v : Str, w = v.reverse := ⟨w.reverse, by simp⟩
  induction v with
  | nil =>
    have h0 := h.head
    have hl : 0 < Q.length := (List.getElem?_eq_some_iff.1 h0).1
    refine .inr (.inl ⟨0, hl, ?_, ?_⟩) <;> simp [atQ, List.getD_eq_getElem?_getD, h0, prs, walkN]
  | cons x v ih =>
    rw [List.reverse_cons]
    generalize v.reverse = w at ih
    have hx := x.toNat_lt
    have e1 : walkN a 0 (w ++ [x]) = stepN a (walkN a 0 w) x.toNat := by simp [walkN]
    have e2 : walkN b 0 (w ++ [x]) = stepN b (walkN b 0 w) x.toNat := by simp [walkN]
    rw [e1, e2, rank_snoc]
    rcases ih with ih | ⟨j, hj, hp, hr⟩ | ⟨hi, hr⟩
    · exact .inl (hD _ _ ih hx)
    · by_cases hji : j < i
      · have hnx : nx a b (atQ Q j) x.toNat = (stepN a (walkN a 0 w) x.toNat, stepN b (walkN b 0 w) x.toNat) := by
          have hp1 : (atQ Q j).1 = walkN a 0 w := congrArg (·.1) hp
          have hp2 : (atQ Q j).2.1 = walkN b 0 w := congrArg (·.2) hp
          simp only [nx, hp1, hp2]
        rcases h.done j x.toNat (.inl hji) hx hj with h1 | ⟨e, he, h1, h2⟩
        · rw [hnx] at h1; exact .inl h1
        · rw [hnx] at h1
          obtain ⟨k, hk, rfl⟩ := List.mem_iff_getElem.1 he
          have ek : atQ Q k = Q[k] := by simp [atQ, List.getD_eq_getElem?_getD, hk]
          exact .inr (.inl ⟨k, hk, by rw [ek]; exact h1, by rw [ek]; exact rnk2 h2 hr⟩)
      · have : rank (atQ Q i).2.2 ≤ rank (atQ Q j).2.2 := by
          by_cases e : j = i
          · subst e; exact Nat.le_refl _
          · have h2 := List.pairwise_iff_getElem.1 h.sorted i j (by omega) hj (by omega)
            have e1 : atQ Q i = Q[i]'(by omega) := by simp [atQ, List.getD_eq_getElem?_getD, show i < Q.length by omega]
            have e2 : atQ Q j = Q[j] := by simp [atQ, List.getD_eq_getElem?_getD, hj]
            rw [e1, e2]; omega
        exact .inr (.inr ⟨by omega, by omega⟩)
    · exact .inr (.inr ⟨hi, by omega⟩)
theorem BJ.found (h : BJ a b D Q i 0) (hD : ∀ p k, D p → k < 256 → D (stepN a p.1 k, stepN b p.2 k)) (hD2 : ∀ p, D p → accN a p.1 = accN b p.2) (hi : i < Q.length) (hne : accN a (atQ Q i).1 ≠ accN b (atQ Q i).2.1) :
    Least a b ((atQ Q i).2.2, true) := by
  have hw := h.walk _ (atQ_mem hi)
  refine .inl ⟨rfl, ?_, fun w hw => ?_⟩
  · unfold Diff; simp only []; rw [← hw.1, ← hw.2]; exact hne
  · rcases h.claim hD w with h1 | ⟨j, hj, hp, hr⟩ | ⟨_, hr⟩
    · exact (hw (hD2 _ h1)).elim
    · by_cases hji : j < i
      · have hs := h.same j hji hj
        have hp1 : (atQ Q j).1 = walkN a 0 w := congrArg (·.1) hp
        have hp2 : (atQ Q j).2.1 = walkN b 0 w := congrArg (·.2) hp
        rw [hp1, hp2] at hs
        exact (hw hs).elim
      · have : rank (atQ Q i).2.2 ≤ rank (atQ Q j).2.2 := by
          by_cases e : j = i
          · subst e; exact Nat.le_refl _
          · have h2 := List.pairwise_iff_getElem.1 h.sorted i j (by omega) hj (by omega)
            have e1 : atQ Q i = Q[i]'(by omega) := by simp [atQ, List.getD_eq_getElem?_getD, show i < Q.length by omega]
            have e2 : atQ Q j = Q[j] := by simp [atQ, List.getD_eq_getElem?_getD, hj]
            rw [e1, e2]; omega
        simp only []; omega
    · exact hr
theorem BJ.none (h : BJ a b D Q i 0) (hD : ∀ p k, D p → k < 256 → D (stepN a p.1 k, stepN b p.2 k)) (hD2 : ∀ p, D p → accN a p.1 = accN b p.2) (hi : Q.length ≤ i) : Least a b ([], false) := by
  refine .inr ⟨rfl, fun w hw => ?_⟩
  rcases h.claim hD w with h1 | ⟨j, hj, hp, hr⟩ | ⟨h2, _⟩
  · exact hw (hD2 _ h1)
  · have hs := h.same j (by omega) hj
    have hp1 : (atQ Q j).1 = walkN a 0 w := congrArg (·.1) hp
    have hp2 : (atQ Q j).2.1 = walkN b 0 w := congrArg (·.2) hp
    rw [hp1, hp2] at hs
    exact hw hs
  · omega
/-- The entries are no more than the pairs of states. -/
theorem BJ.few (h : BJ a b D Q i c) (ha : Ok a) (hb : Ok b) : Q.length ≤ (a.Next.length + 1) * (b.Next.length + 1) := by
  have hr : ∀ e ∈ Q, inR a e.1 ∧ inR b e.2.1 := fun e he => by
    have := h.walk e he
    rw [this.1, this.2]
    exact ⟨walkN_in ha (zero_in ha) _, walkN_in hb (zero_in hb) _⟩
  let f : Ent → Nat := fun e => (e.1 + 1).toNat * (b.Next.length + 1) + (e.2.1 + 1).toNat
  have := nodup_le ((a.Next.length + 1) * (b.Next.length + 1)) (Q.map f) (by
    refine List.pairwise_map.2 ((List.pairwise_map.1 h.nodup).imp_of_mem fun {e g} he hg hne heq => hne ?_)
    obtain ⟨⟨h1, h2⟩, h3, h4⟩ := hr e he
    obtain ⟨⟨k1, k2⟩, k3, k4⟩ := hr g hg
    have q1 : (e.2.1 + 1).toNat < b.Next.length + 1 := by omega
    have q2 : (g.2.1 + 1).toNat < b.Next.length + 1 := by omega
    have m1 : (e.2.1 + 1).toNat = (g.2.1 + 1).toNat := by
      have := congrArg (· % (b.Next.length + 1)) heq
      simpa [f, Nat.mod_eq_of_lt q1, Nat.mod_eq_of_lt q2, Nat.add_mod] using this
    have m2 : (e.1 + 1).toNat = (g.1 + 1).toNat := by
      have heq : (e.1 + 1).toNat * (b.Next.length + 1) + (e.2.1 + 1).toNat = (g.1 + 1).toNat * (b.Next.length + 1) + (g.2.1 + 1).toNat := heq
      rw [m1] at heq
      exact Nat.eq_of_mul_eq_mul_right (by omega : 0 < b.Next.length + 1) (by omega)
    show (e.1, e.2.1) = (g.1, g.2.1)
    rw [Prod.mk.injEq]
    exact ⟨by omega, by omega⟩) (fun x hx => by
    obtain ⟨e, he, rfl⟩ := List.mem_map.1 hx
    obtain ⟨⟨h1, h2⟩, h3, h4⟩ := hr e he
    have q1 : (e.2.1 + 1).toNat < b.Next.length + 1 := by omega
    have q2 : (e.1 + 1).toNat + 1 ≤ a.Next.length + 1 := by omega
    have := Nat.mul_le_mul_right (b.Next.length + 1) q2
    rw [Nat.succ_mul] at this
    show (e.1 + 1).toNat * (b.Next.length + 1) + (e.2.1 + 1).toNat < _
    omega)
  simpa using this
end
end Go.Proofs.Ytogpainomdfpnaa
