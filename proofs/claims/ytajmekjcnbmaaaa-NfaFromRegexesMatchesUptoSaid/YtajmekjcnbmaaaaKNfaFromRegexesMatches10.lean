/- Part 10 of what the law leans on: my own layer, printed walks, plain facts. -/
import Derived.Test.YtajmekjcnbmaaaaKNfaFromRegexesMatches9
namespace Go.Proofs.Ytajmekjcnbmaaaa
open Go.Lx
mutual
theorem bd_sets : ∀ (x : T_Regex) (b : Bs), okT_Regex x → (∀ v ∈ b.S, W4 v) → ∀ v ∈ (bd x b).2.S, W4 v
  | ⟨k, s, l⟩, b, ok, h => by
    simp only [bd]
    cases k == 3
    · cases k == 4
      · cases k == 5
        · cases k == 6
          · exact h
          · match l, ok with
            | [], _ => exact h
            | y :: l, ok => exact bd_sets y b (ok_kids ok y (by simp)) h
        · exact bdU_sets l _ b (ok_kids ok) h
      · exact bdC_sets l _ b (ok_kids ok) h
    · intro v hv
      rcases List.mem_append.1 hv with hv | hv
      · exact h v hv
      · rw [List.mem_singleton.1 hv]; exact w4_of (ok_set ok)
theorem bdC_sets : ∀ (l : List T_Regex) (x : Pt) (b : Bs), (∀ y ∈ l, okT_Regex y) → (∀ v ∈ b.S, W4 v) → ∀ v ∈ (bdC l x b).2.S, W4 v
  | [], _, _, _, h => by simpa [bdC] using h
  | y :: l, x, b, ok, h => by
    simp only [bdC]
    exact bdC_sets l _ _ (fun z hz => ok z (by simp [hz])) (bd_sets y b (ok y (by simp)) h)
theorem bdU_sets : ∀ (l : List T_Regex) (x : Pt) (b : Bs), (∀ y ∈ l, okT_Regex y) → (∀ v ∈ b.S, W4 v) → ∀ v ∈ (bdU l x b).2.S, W4 v
  | [], _, _, _, h => by simpa [bdU] using h
  | y :: l, x, b, ok, h => by
    simp only [bdU]
    exact bdU_sets l _ _ (fun z hz => ok z (by simp [hz])) (bd_sets y b (ok y (by simp)) h)
end
theorem goF_sets : ∀ (l : List T_Regex) (i : Nat) (s : Bs × List Int), (∀ y ∈ l, okT_Regex y) → (∀ v ∈ s.1.S, W4 v) → ∀ v ∈ (goF i l s).1.S, W4 v
  | [], _, _, _, h => h
  | y :: l, i, s, ok, h => goF_sets l (i + 1) (stF i y s) (fun z hz => ok z (by simp [hz])) (bd_sets y s.1 (ok y (by simp)) h)
theorem nfaOf_fit {l : List T_Regex} (ok : ∀ x ∈ l, okT_Regex x) (hp : partsL l ≤ 500) : FitN (nfaOf l) := by
  obtain ⟨hv, hl⟩ := nfaOf_valid hp
  refine hv.fit (by omega) fun a ha => ?_
  obtain ⟨p, q, _, _, _, rfl⟩ := mem_arcsN.1 ha
  show W4 ((goF 0 l s09).1.S.getD (q - 1) (Vec.zero 4))
  rw [List.getD_eq_getElem?_getD]
  cases h : (goF 0 l s09).1.S[q - 1]? with
  | none => exact W4_zero
  | some v => exact goF_sets l 0 s09 ok (by simp [s09]) v (List.mem_of_getElem? h)
section
variable (l : List T_Regex)
def sJ (j : Nat) : Bs × List Int := goF 0 (l.take j) s09
def xJ (j : Nat) : T_Regex := l.getD j rNone
def pJ (j : Nat) : Pt := (bd (xJ l j) (sJ l j).1).1
def lo (j : Nat) : Nat := (sJ l j).1.S.length
theorem xJ_get {j : Nat} (h : j < l.length) : xJ l j = l[j] := by simp [xJ, List.getD_eq_getElem?_getD, h]
theorem sJ_succ {j : Nat} (h : j < l.length) : sJ l (j + 1) = stF j (xJ l j) (sJ l j) := by
  unfold sJ
  rw [take_snoc h, goF_snoc, xJ_get l h]
  congr 1
  rw [List.length_take]; omega
theorem made_J (j : Nat) : ∃ T Q, Made (sJ l j).1 (bd (xJ l j) (sJ l j).1) T Q (L (xJ l j)) := bd_made _ _
noncomputable def tJ (j : Nat) : List (Vec 4) := (made_J l j).choose
noncomputable def qJ (j : Nat) : List (Nat × Nat) := (made_J l j).choose_spec.choose
theorem mJ (j : Nat) : Made (sJ l j).1 (bd (xJ l j) (sJ l j).1) (tJ l j) (qJ l j) (L (xJ l j)) := (made_J l j).choose_spec.choose_spec
theorem lo_succ {j : Nat} (h : j < l.length) : lo l (j + 1) = (bd (xJ l j) (sJ l j).1).2.S.length := by
  unfold lo
  rw [sJ_succ l h]
  rfl
theorem rng_J {j : Nat} (h : j < l.length) : Rng (inQ (qJ l j)) (pJ l j) (lo l j) (lo l (j + 1)) := by
  rw [lo_succ l h]
  exact (mJ l j).rng
theorem lo_mono {i j : Nat} (hij : i ≤ j) (hj : j ≤ l.length) : lo l i ≤ lo l j := by
  induction hij with
  | refl => exact Nat.le_refl _
  | @step j hij ih => exact Nat.le_trans (ih (by omega)) (rng_J l (j := j) (by omega)).le
theorem pre_J {i j : Nat} (hij : i ≤ j) (hj : j ≤ l.length) : ∃ V, (sJ l j).1.S = (sJ l i).1.S ++ V := by
  induction hij with
  | refl => exact ⟨[], by simp⟩
  | @step j hij ih =>
    obtain ⟨V, hV⟩ := ih (by omega)
    refine ⟨V ++ tJ l j, ?_⟩
    rw [sJ_succ l (by omega)]
    show (bd (xJ l j) (sJ l j).1).2.S = _
    rw [(mJ l j).S, hV, List.append_assoc]
theorem rep_J {j : Nat} (h : j < l.length) : Rep (inS (sJ l l.length).1.S) (inQ (qJ l j)) (pJ l j) (L (xJ l j)) := by
  refine (mJ l j).rep _ ?_
  obtain ⟨V, hV⟩ := pre_J l (i := j + 1) (j := l.length) (by omega) (Nat.le_refl _)
  refine ⟨V, ?_⟩
  rw [hV, sJ_succ l h]
  rfl
theorem edges_J : ∀ k, k ≤ l.length → ∀ p r, (p, r) ∈ (sJ l k).1.P ↔ ∃ j, j < k ∧ (inQ (qJ l j) p r ∨ (p = 0 ∧ r ∈ (pJ l j).fi))
  | 0, _, p, r => by simp [sJ, goF, s09]
  | k + 1, hk, p, r => by
    rw [sJ_succ l (by omega)]
    show (p, r) ∈ (bd (xJ l k) (sJ l k).1).2.P ++ prodP [0] (bd (xJ l k) (sJ l k).1).1.fi ↔ _
    rw [List.mem_append, mem_prodP, (mJ l k).P, List.mem_append, edges_J k (by omega), List.mem_singleton]
    constructor
    · rintro ((⟨j, hj, h⟩ | h) | h)
      · exact ⟨j, by omega, h⟩
      · exact ⟨k, by omega, .inl h⟩
      · exact ⟨k, by omega, .inr h⟩
    · rintro ⟨j, hj, h⟩
      by_cases e : j = k
      · subst e
        rcases h with h | h
        · exact .inl (.inr h)
        · exact .inr h
      · exact .inl (.inl ⟨j, by omega, h⟩)
theorem path_J {M : Nat → Nat → Prop} {j : Nat} (hj : j < l.length) {p q : Nat} (hp : lo l j < p ∧ p ≤ lo l (j + 1)) {w : List Nat} : Pth M (inQ (sJ l l.length).1.P) p w q ↔ Pth M (inQ (qJ l j)) p w q := by
  have hr := rng_J l hj
  refine pth_congr (R := fun p => lo l j < p ∧ p ≤ lo l (j + 1)) (fun p r hp => ?_) (fun p r hp h => ?_) w hp
  · show (p, r) ∈ (sJ l l.length).1.P ↔ _
    rw [edges_J l l.length (Nat.le_refl _)]
    constructor
    · rintro ⟨i, hi, h | h⟩
      · have h1 := ((rng_J l hi).e _ _ h).1
        by_cases e : i = j
        · subst e; exact h
        · exfalso
          rcases Nat.lt_or_gt_of_ne e with h2 | h2
          · have := lo_mono l (i := i + 1) (j := j) h2 (by omega); omega
          · have := lo_mono l (i := j + 1) (j := i) h2 (by omega); omega
      · omega
    · exact fun h => ⟨j, hj, .inl h⟩
  · have h : (p, r) ∈ (sJ l l.length).1.P := h
    rw [edges_J l l.length (Nat.le_refl _)] at h
    obtain ⟨i, hi, h | h⟩ := h
    · have h1 := (rng_J l hi).e _ _ h
      by_cases e : i = j
      · subst e; exact h1.2
      · exfalso
        rcases Nat.lt_or_gt_of_ne e with h2 | h2
        · have := lo_mono l (i := i + 1) (j := j) h2 (by omega); omega
        · have := lo_mono l (i := j + 1) (j := i) h2 (by omega); omega
    · omega
end
theorem setA_in {v : Int} {p : Nat} : ∀ (la : List Nat) (a : List Int), p < a.length → p ∈ la → (setA la v a)[p]? = some v
  | [], _, _, h => by simp at h
  | q :: la, a, hp, h => by
    show (setA la v (a.set q v))[p]? = some v
    by_cases h2 : p ∈ la
    · exact setA_in la _ (by rw [List.length_set]; exact hp) h2
    · obtain rfl : p = q := by
        rcases List.mem_cons.1 h with h | h
        · exact h
        · exact absurd h h2
      have : ∀ (la : List Nat) (a : List Int), p ∉ la → (setA la v a)[p]? = a[p]? := by
        intro la
        induction la with
        | nil => intro a _; rfl
        | cons r la ih =>
          intro a hn
          show (setA la v (a.set r v))[p]? = _
          rw [ih _ (fun h => hn (by simp [h])), List.getElem?_set_ne (fun e => hn (by simp [e]))]
      rw [this la _ h2, List.getElem?_set_self hp]
theorem setA_out {v : Int} {p : Nat} : ∀ (la : List Nat) (a : List Int), p ∉ la → (setA la v a)[p]? = a[p]?
  | [], _, _ => rfl
  | r :: la, a, hn => by
    show (setA la v (a.set r v))[p]? = _
    rw [setA_out la _ (fun h => hn (by simp [h])), List.getElem?_set_ne (fun e => hn (by simp [e]))]
theorem pad_old {a : List Int} {n p : Nat} (h : p < a.length) : (pad a n)[p]? = a[p]? := by unfold pad; rw [List.getElem?_append_left h]
theorem pad_new {a : List Int} {n p : Nat} (h : a.length ≤ p) {v : Int} (hv : (pad a n)[p]? = some v) : v = -1 := by
  unfold pad at hv
  rw [List.getElem?_append_right h, List.getElem?_replicate] at hv
  split at hv <;> cases hv
  rfl
theorem fin0_pos {n : Bool} {v : Int} {a : List Int} {p : Nat} (hp : 0 < p) : (fin0 n v a)[p]? = a[p]? := by
  unfold fin0
  cases n && decide (a.getD 0 0 < 0)
  · rfl
  · rw [cond_true, List.getElem?_set_ne (by omega)]
structure Acc (l : List T_Regex) (k : Nat) (a : List Int) : Prop where
  inn : ∀ j, j < k → ∀ p ∈ (pJ l j).la, a[p]? = some (j : Int)
  out : ∀ p v, 0 < p → a[p]? = some v → 0 ≤ v → ∃ j, j < k ∧ v = (j : Int) ∧ p ∈ (pJ l j).la
  zero : (a[0]? = some (-1) ∧ ∀ j, j < k → (pJ l j).nl = false) ∨ ∃ j, j < k ∧ a[0]? = some (j : Int) ∧ (pJ l j).nl = true ∧ ∀ i, i < j → (pJ l i).nl = false
theorem acc_J (l : List T_Regex) : ∀ k, k ≤ l.length → Acc l k (sJ l k).2
  | 0, _ => by
    refine ⟨fun j h => by omega, fun p v hp h => ?_, .inl ⟨rfl, fun j h => by omega⟩⟩
    have h : ([-1] : List Int)[p]? = some v := h
    rw [List.getElem?_singleton, if_neg (by omega)] at h
    cases h
  | k + 1, hk => by
    have ih := acc_J l k (by omega)
    have hkl : k < l.length := by omega
    have hg : Gd9 (sJ l k) := gd9_go _ _ _ gd9_0
    have hr := rng_J l hkl
    have hlen : (sJ l k).2.length = lo l k + 1 := hg.len
    rw [sJ_succ l hkl]
    have hN : (pad (sJ l k).2 (bd (xJ l k) (sJ l k).1).2.S.length).length = lo l (k + 1) + 1 := by
      rw [lo_succ l hkl, pad_len]
      rw [hlen, ← lo_succ l hkl]
      have := hr.le
      omega
    have hla : ∀ p ∈ (pJ l k).la, lo l k < p ∧ p ≤ lo l (k + 1) := hr.la
    have hz0 : (0 : Nat) ∉ (pJ l k).la := fun h => by have := hla 0 h; omega
    have h0 : (setA (pJ l k).la (k : Int) (pad (sJ l k).2 (bd (xJ l k) (sJ l k).1).2.S.length))[0]? = (sJ l k).2[0]? := by
      rw [setA_out _ _ hz0, pad_old (by omega)]
    show Acc l (k + 1) (fin0 (pJ l k).nl (k : Int) (setA (pJ l k).la (k : Int) (pad (sJ l k).2 (bd (xJ l k) (sJ l k).1).2.S.length)))
    refine ⟨fun j hj p hp => ?_, fun p v hp hv h => ?_, ?_⟩
    · have hjr := (rng_J l (j := j) (by omega)).la p hp
      rw [fin0_pos (by omega)]
      by_cases e : j = k
      · subst e
        exact setA_in _ _ (by rw [hN]; have := hla p hp; omega) hp
      · have h1 := lo_mono l (i := j + 1) (j := k) (by omega) (by omega)
        rw [setA_out _ _ (fun h => by have := hla p h; omega), pad_old (by omega)]
        exact ih.inn j (by omega) p hp
    · rw [fin0_pos hp] at hv
      by_cases h1 : p ∈ (pJ l k).la
      · by_cases h2 : p < (pad (sJ l k).2 (bd (xJ l k) (sJ l k).1).2.S.length).length
        · rw [setA_in _ _ h2 h1] at hv
          exact ⟨k, by omega, (Option.some.inj hv).symm, h1⟩
        · have := hla p h1; omega
      · rw [setA_out _ _ h1] at hv
        rcases Nat.lt_or_ge p (sJ l k).2.length with h2 | h2
        · rw [pad_old h2] at hv
          obtain ⟨j, hj, e, hm⟩ := ih.out p v hp hv h
          exact ⟨j, by omega, e, hm⟩
        · have := pad_new h2 hv; omega
    · generalize hA : setA (pJ l k).la (k : Int) (pad (sJ l k).2 (bd (xJ l k) (sJ l k).1).2.S.length) = A at h0
      have hAl : 0 < A.length := by rw [← hA, setA_len, hN]; omega
      rcases ih.zero with ⟨z1, z2⟩ | ⟨j, hj, z1, z2, z3⟩
      · rw [z1] at h0
        have hd : A.getD 0 0 = -1 := by rw [List.getD_eq_getElem?_getD, h0]; rfl
        cases hn : (pJ l k).nl
        · left
          refine ⟨by unfold fin0; exact h0, fun j hj => ?_⟩
          by_cases e : j = k
          · subst e; exact hn
          · exact z2 j (by omega)
        · right
          refine ⟨k, by omega, ?_, hn, z2⟩
          unfold fin0
          rw [hd]
          show (A.set 0 (k : Int))[0]? = _
          rw [List.getElem?_set_self hAl]
      · right
        rw [z1] at h0
        have hd : A.getD 0 0 = (j : Int) := by rw [List.getD_eq_getElem?_getD, h0]; rfl
        refine ⟨j, by omega, ?_, z2, z3⟩
        unfold fin0
        rw [hd]
        have : decide ((j : Int) < 0) = false := decide_eq_false (by omega)
        rw [this, Bool.and_false]
        exact h0
theorem clo_nfa {l : List T_Regex} (hn : FitN (nfaOf l)) {T : List Int} {s : Int} : s ∈ clo (nfaOf l) T ↔ s ∈ T ∧ 0 ≤ s ∧ s < ((goF 0 l s09).2.length : Int) := by
  rw [mem_clo hn]
  constructor
  · intro h
    cases h with
    | base h1 h2 h3 => exact ⟨h1, h2, h3⟩
    | arc ha he _ =>
      obtain ⟨p, q, _, _, _, rfl⟩ := mem_arcsN.1 ha
      cases he
  · rintro ⟨h1, h2, h3⟩
    exact .base h1 h2 h3
open Classical in
theorem stp_nfa {l : List T_Regex} (hn : FitN (nfaOf l)) {T : List Int} {b : Nat} {r : Nat} (hT : ∀ s ∈ T, 0 ≤ s ∧ s < ((goF 0 l s09).2.length : Int)) :
    (r : Int) ∈ stp (nfaOf l) T b ↔ ∃ p : Nat, (p : Int) ∈ T ∧ (p, r) ∈ (goF 0 l s09).1.P ∧ inS (goF 0 l s09).1.S r b := by
  have hg := gd9_go l 0 s09 gd9_0
  have hal := hg.len
  unfold stp
  rw [clo_nfa hn]
  unfold tgt
  constructor
  · rintro ⟨h1, _, _⟩
    obtain ⟨a, ha, e⟩ := List.mem_map.1 h1
    obtain ⟨ha1, ha2⟩ := List.mem_filter.1 ha
    obtain ⟨p, q, _, _, hR, rfl⟩ := mem_arcsN.1 ha1
    obtain rfl : q = r := by have e : ((q : Nat) : Int) = (r : Int) := e; omega
    simp only [mkA, Bool.not_false, Bool.true_and, Bool.and_eq_true] at ha2
    have hc := hg.cl p q hR
    have hp := hg.pos p q hR
    refine ⟨p, ((clo_nfa hn).1 (of_decide_eq_true ha2.1)).1, hR, _, List.getElem?_eq_getElem (show q - 1 < (goF 0 l s09).1.S.length by omega), ?_⟩
    have h3 := ha2.2
    rw [List.getD_eq_getElem?_getD, List.getElem?_eq_getElem (show q - 1 < (goF 0 l s09).1.S.length by omega)] at h3
    exact h3
  · rintro ⟨p, hp, hR, v, hv, hm⟩
    have hc := hg.cl p r hR
    have hps := hT _ hp
    refine ⟨List.mem_map.2 ⟨mkA (goF 0 l s09).1.S p r, List.mem_filter.2 ⟨mem_arcsN.2 ⟨p, r, by omega, by omega, hR, rfl⟩, ?_⟩, rfl⟩, by omega, by omega⟩
    simp only [mkA, Bool.not_false, Bool.true_and, Bool.and_eq_true]
    refine ⟨decide_eq_true ((clo_nfa hn).2 ⟨hp, hps⟩), ?_⟩
    rw [List.getD_eq_getElem?_getD, hv]
    exact hm
theorem steps_nfa {l : List T_Regex} (hn : FitN (nfaOf l)) : ∀ (w : List Nat) (T : List Int) (q : Nat), (∀ s ∈ T, 0 ≤ s ∧ s < ((goF 0 l s09).2.length : Int)) →
    ((q : Int) ∈ w.foldl (stp (nfaOf l)) T ↔ ∃ p : Nat, (p : Int) ∈ T ∧ Pth (inS (goF 0 l s09).1.S) (inQ (goF 0 l s09).1.P) p w q)
  | [], T, q, _ => by
    simp only [List.foldl_nil, Pth]
    exact ⟨fun h => ⟨q, h, rfl⟩, fun ⟨p, h, e⟩ => e ▸ h⟩
  | b :: w, T, q, hT => by
    rw [List.foldl_cons, steps_nfa hn w (stp (nfaOf l) T b) q (fun s hs => ((clo_nfa hn).1 hs).2)]
    constructor
    · rintro ⟨r, hr, h⟩
      obtain ⟨p, h1, h2, h3⟩ := (stp_nfa hn hT).1 hr
      exact ⟨p, h1, r, h2, h3, h⟩
    · rintro ⟨p, h1, r, h2, h3, h⟩
      exact ⟨r, (stp_nfa hn hT).2 ⟨p, h1, h2, h3⟩, h⟩
theorem best_min (acc : List Int) : ∀ (l : List Int) (o : Int), -1 ≤ o → ((l.foldl (best1 acc) o = o ∧ ∀ s ∈ l, 0 ≤ acc.getD s.toNat 0 → 0 ≤ o ∧ o ≤ acc.getD s.toNat 0) ∨ (0 ≤ l.foldl (best1 acc) o ∧ (∃ s ∈ l, acc.getD s.toNat 0 = l.foldl (best1 acc) o) ∧ (0 ≤ o → l.foldl (best1 acc) o ≤ o) ∧ ∀ s ∈ l, 0 ≤ acc.getD s.toNat 0 → l.foldl (best1 acc) o ≤ acc.getD s.toNat 0))
  | [], o, _ => .inl ⟨rfl, by simp⟩
  | x :: l, o, ho => by
    rw [List.foldl_cons]
    have hb : (best1 acc o x = o ∧ (0 ≤ acc.getD x.toNat 0 → 0 ≤ o ∧ o ≤ acc.getD x.toNat 0)) ∨ (best1 acc o x = acc.getD x.toNat 0 ∧ 0 ≤ acc.getD x.toNat 0 ∧ (0 ≤ o → acc.getD x.toNat 0 ≤ o)) := by
      unfold best1
      by_cases h1 : 0 ≤ acc.getD x.toNat 0
      · by_cases h2 : o < 0
        · right
          rw [decide_eq_true h1, decide_eq_true h2]
          exact ⟨rfl, h1, fun h => by omega⟩
        · by_cases h3 : acc.getD x.toNat 0 < o
          · right
            rw [decide_eq_true h1, decide_eq_true h3, Bool.or_true]
            exact ⟨rfl, h1, fun h => by omega⟩
          · left
            rw [decide_eq_false h2, decide_eq_false h3, Bool.or_false, Bool.and_false]
            exact ⟨rfl, fun h => by omega⟩
      · left
        rw [decide_eq_false h1, Bool.false_and]
        exact ⟨rfl, fun h => absurd h h1⟩
    rcases hb with ⟨e, h1⟩ | ⟨e, h1, h2⟩
    · rw [e]
      rcases best_min acc l o ho with ⟨g1, g2⟩ | ⟨g1, ⟨s, hs, g2⟩, g3, g4⟩
      · refine .inl ⟨g1, fun s hs h => ?_⟩
        rcases List.mem_cons.1 hs with rfl | hs
        · exact h1 h
        · exact g2 s hs h
      · refine .inr ⟨g1, ⟨s, by simp [hs], g2⟩, g3, fun s hs h => ?_⟩
        rcases List.mem_cons.1 hs with rfl | hs
        · have := h1 h; have := g3 this.1; omega
        · exact g4 s hs h
    · rw [e]
      rcases best_min acc l (acc.getD x.toNat 0) (by omega) with ⟨g1, g2⟩ | ⟨g1, ⟨s, hs, g2⟩, g3, g4⟩
      · right
        rw [g1]
        refine ⟨h1, ⟨x, by simp, rfl⟩, h2, fun s hs h => ?_⟩
        rcases List.mem_cons.1 hs with rfl | hs
        · exact Int.le_refl _
        · exact (g2 s hs h).2
      · right
        refine ⟨g1, ⟨s, by simp [hs], g2⟩, fun h => ?_, fun s hs h => ?_⟩
        · have := g3 h1; have := h2 h; omega
        · rcases List.mem_cons.1 hs with rfl | hs
          · exact g3 h1
          · exact g4 s hs h
def Least (l : List T_Regex) (w : List Nat) (r : Int) : Prop :=
  (r = -1 ∧ ∀ j, j < l.length → ¬ L (xJ l j) w) ∨ ∃ j, j < l.length ∧ r = (j : Int) ∧ L (xJ l j) w ∧ ∀ i, i < j → ¬ L (xJ l i) w
theorem least_uniq {l : List T_Regex} {w : List Nat} {r r' : Int} (h : Least l w r) (h' : Least l w r') : r = r' := by
  rcases h with ⟨rfl, h⟩ | ⟨j, hj, rfl, h1, h2⟩ <;> rcases h' with ⟨rfl, h'⟩ | ⟨j', hj', rfl, h1', h2'⟩
  · rfl
  · exact absurd h1' (h j' hj')
  · exact absurd h1 (h' j hj)
  · rcases Nat.lt_trichotomy j j' with h3 | rfl | h3
    · exact absurd h1 (h2' j h3)
    · rfl
    · exact absurd h1' (h2 j' h3)
theorem sJ_end (l : List T_Regex) : sJ l l.length = goF 0 l s09 := by unfold sJ; rw [List.take_length]
theorem accepted_iff {l : List T_Regex} {b : Nat} {w : List Nat} {j : Nat} (hj : j < l.length) :
    L (xJ l j) (b :: w) ↔ ∃ q : Nat, q ∈ (pJ l j).la ∧ Pth (inS (goF 0 l s09).1.S) (inQ (goF 0 l s09).1.P) 0 (b :: w) q := by
  have hr := rng_J l hj
  have hrep := rep_J l hj
  rw [sJ_end] at hrep
  have hE : ∀ p r, inQ (goF 0 l s09).1.P p r ↔ ∃ j, j < l.length ∧ (inQ (qJ l j) p r ∨ (p = 0 ∧ r ∈ (pJ l j).fi)) := by
    intro p r
    have := edges_J l l.length (Nat.le_refl _) p r
    rw [sJ_end] at this
    exact this
  have hpath : ∀ {p q : Nat}, (lo l j < p ∧ p ≤ lo l (j + 1)) → (Pth (inS (goF 0 l s09).1.S) (inQ (goF 0 l s09).1.P) p w q ↔ Pth (inS (goF 0 l s09).1.S) (inQ (qJ l j)) p w q) := by
    intro p q hp
    have := path_J l (M := inS (goF 0 l s09).1.S) hj hp (w := w) (q := q)
    rw [sJ_end] at this
    exact this
  rw [hrep.ac]
  constructor
  · rintro ⟨p, hp, hm, q, hq, h⟩
    exact ⟨q, hq, p, (hE 0 p).2 ⟨j, hj, .inr ⟨rfl, hp⟩⟩, hm, (hpath (hr.fi p hp)).2 h⟩
  · rintro ⟨q, hq, p, h1, hm, h⟩
    obtain ⟨i, hi, h1⟩ := (hE 0 p).1 h1
    have hpi : p ∈ (pJ l i).fi := by
      rcases h1 with h1 | ⟨_, h1⟩
      · have := ((rng_J l hi).e _ _ h1).1; omega
      · exact h1
    have hri := rng_J l hi
    have hpr := hri.fi p hpi
    have h2 := path_J l (M := inS (goF 0 l s09).1.S) hi hpr (w := w) (q := q)
    rw [sJ_end] at h2
    have h3 := h2.1 h
    have hqr : lo l i < q ∧ q ≤ lo l (i + 1) := pth_in (R := fun p => lo l i < p ∧ p ≤ lo l (i + 1)) (fun p r _ h => (hri.e _ _ h).2) w hpr h3
    have hql := hr.la q hq
    obtain rfl : i = j := by
      rcases Nat.lt_trichotomy i j with h4 | h4 | h4
      · have := lo_mono l (i := i + 1) (j := j) h4 (by omega); omega
      · exact h4
      · have := lo_mono l (i := j + 1) (j := i) h4 (by omega); omega
    exact ⟨p, hpi, hm, q, hq, h3⟩
theorem run_least {l : List T_Regex} (hn : FitN (nfaOf l)) (s : Str) : Least l (bytesOf s) (runN (nfaOf l) s) := by
  have hacc := acc_J l l.length (Nat.le_refl _)
  rw [sJ_end] at hacc
  have hg := gd9_go l 0 s09 gd9_0
  have hal := hg.len
  have h0 : ∀ x ∈ ([0] : List Int), 0 ≤ x ∧ x < ((goF 0 l s09).2.length : Int) := by intro x hx; rw [List.mem_singleton.1 hx]; omega
  have hc0 : ∀ x, x ∈ clo (nfaOf l) [0] ↔ x = 0 := by
    intro x
    rw [clo_nfa hn, List.mem_singleton]
    exact ⟨fun h => h.1, fun h => ⟨h, h0 x (by simp [h])⟩⟩
  have hc1 : ∀ x ∈ clo (nfaOf l) [0], 0 ≤ x ∧ x < ((goF 0 l s09).2.length : Int) := fun x hx => ((clo_nfa hn).1 hx).2
  have hst := steps_nfa hn (bytesOf s) (clo (nfaOf l) [0])
  have hreach : ∀ q : Nat, (q : Int) ∈ stps (nfaOf l) [0] s ↔ Pth (inS (goF 0 l s09).1.S) (inQ (goF 0 l s09).1.P) 0 (bytesOf s) q := by
    intro q
    show (q : Int) ∈ (bytesOf s).foldl (stp (nfaOf l)) (clo (nfaOf l) [0]) ↔ _
    rw [hst q hc1]
    constructor
    · rintro ⟨p, hp, h⟩
      obtain rfl : p = 0 := by have := (hc0 _).1 hp; omega
      exact h
    · exact fun h => ⟨0, (hc0 _).2 rfl, h⟩
  have hnat : ∀ x ∈ stps (nfaOf l) [0] s, ∃ q : Nat, x = (q : Int) := by
    obtain ⟨T, hT⟩ := stps_in (n := nfaOf l) (s.map UInt8.toNat) _ ⟨[0], rfl⟩
    have hT : stps (nfaOf l) [0] s = clo (nfaOf l) T := hT
    intro x hx
    rw [hT] at hx
    obtain ⟨q, rfl⟩ := Int.eq_ofNat_of_zero_le ((clo_nfa hn).1 hx).2.1
    exact ⟨q, rfl⟩
  -- numbers of the places that are reached
  have key : ∀ j, (∃ q : Nat, (q : Int) ∈ stps (nfaOf l) [0] s ∧ (goF 0 l s09).2.getD q 0 = (j : Nat)) → j < l.length ∧ L (xJ l j) (bytesOf s) := by
    rintro j ⟨q, hq, hv⟩
    have hp := (hreach q).1 hq
    cases hw : bytesOf s with
    | nil =>
      rw [hw] at hp
      have hp : 0 = q := hp
      subst hp
      rcases hacc.zero with ⟨z1, _⟩ | ⟨i, hi, z1, z2, _⟩
      · rw [List.getD_eq_getElem?_getD, z1] at hv
        have hv : (-1 : Int) = (j : Int) := hv
        omega
      · rw [List.getD_eq_getElem?_getD, z1] at hv
        have hv : (i : Int) = (j : Int) := hv
        obtain rfl : i = j := by omega
        have hrep := rep_J l hi
        exact ⟨hi, hrep.nl.1 z2⟩
    | cons b w =>
      rw [hw] at hp
      obtain ⟨r, h1, h2, h3⟩ := hp
      have hq1 : 0 < q := pth_in (M := inS (goF 0 l s09).1.S) (E := inQ (goF 0 l s09).1.P) (R := fun p => 0 < p) (fun p r _ h => hg.pos p r h) w (hg.pos 0 r h1) h3
      have hlt : q < (goF 0 l s09).2.length := by
        have := pth_in (M := inS (goF 0 l s09).1.S) (E := inQ (goF 0 l s09).1.P) (R := fun p => p < (goF 0 l s09).2.length) (fun p r _ h => by have := hg.cl p r h; omega) w (by have := hg.cl 0 r h1; omega) h3
        exact this
      have hgv : (goF 0 l s09).2[q]? = some (j : Int) := by
        rw [List.getD_eq_getElem?_getD, List.getElem?_eq_getElem hlt] at hv
        rw [List.getElem?_eq_getElem hlt]
        exact congrArg some hv
      obtain ⟨i, hi, e, hm⟩ := hacc.out q _ hq1 hgv (by omega)
      obtain rfl : i = j := by omega
      exact ⟨hi, (accepted_iff hi).2 ⟨q, hm, r, h1, h2, h3⟩⟩
  have key2 : ∀ j, j < l.length → L (xJ l j) (bytesOf s) → ∃ i, i ≤ j ∧ ∃ q : Nat, (q : Int) ∈ stps (nfaOf l) [0] s ∧ (goF 0 l s09).2.getD q 0 = (i : Nat) := by
    intro j hj hL
    cases hw : bytesOf s with
    | nil =>
      rw [hw] at hL
      have hnl := (rep_J l hj).nl.2 hL
      rcases hacc.zero with ⟨_, z2⟩ | ⟨i, hi, z1, z2, z3⟩
      · have := z2 j hj; rw [hnl] at this; cases this
      · refine ⟨i, ?_, 0, (hreach 0).2 (by rw [hw]; rfl), by rw [List.getD_eq_getElem?_getD, z1]; rfl⟩
        rcases Nat.lt_or_ge j i with h | h
        · have := z3 j h; rw [hnl] at this; cases this
        · exact h
    | cons b w =>
      rw [hw] at hL
      obtain ⟨q, hm, hp⟩ := (accepted_iff hj).1 hL
      refine ⟨j, Nat.le_refl _, q, (hreach q).2 (by rw [hw]; exact hp), ?_⟩
      rw [List.getD_eq_getElem?_getD, hacc.inn j hj q hm]
      rfl
  show Least l (bytesOf s) ((stps (nfaOf l) [0] s).foldl (best1 (goF 0 l s09).2) (-1))
  rcases best_min (goF 0 l s09).2 (stps (nfaOf l) [0] s) (-1) (by omega) with ⟨g1, g2⟩ | ⟨g1, ⟨x, hx, g2⟩, _, g4⟩
  · rw [g1]
    refine .inl ⟨rfl, fun j hj hL => ?_⟩
    obtain ⟨i, _, q, hq, e⟩ := key2 j hj hL
    have := g2 _ hq (by rw [Int.toNat_natCast, e]; omega)
    omega
  · obtain ⟨q, rfl⟩ := hnat x hx
    obtain ⟨j, hje⟩ := Int.eq_ofNat_of_zero_le g1
    rw [Int.toNat_natCast] at g2
    obtain ⟨hj, hL⟩ := key j ⟨q, hx, by rw [g2]; exact hje⟩
    rw [hje] at g4 ⊢
    refine .inr ⟨j, hj, rfl, hL, fun i hi hLi => ?_⟩
    obtain ⟨i', hi', q', hq', e⟩ := key2 i (by omega) hLi
    have := g4 _ hq' (by rw [Int.toNat_natCast, e]; omega)
    rw [Int.toNat_natCast, e] at this
    omega
mutual
theorem height_parts : ∀ x : T_Regex, height x ≤ parts x
  | ⟨_, _, l⟩ => by have := heightL_parts l; simp only [height, parts]; omega
theorem heightL_parts : ∀ l : List T_Regex, heightL l ≤ partsL l
  | [] => by simp [heightL]
  | y :: l => by have := height_parts y; have := heightL_parts l; simp only [heightL, partsL]; omega
end
open Classical in
theorem refMatch_least {l : List T_Regex} (ok : ∀ x ∈ l, okT_Regex x) (hv : ∀ y ∈ l, V 30 y = true) (hp : partsL l ≤ 200) {s : Str} (hs : s.length ≤ 1000000) : Is (M.ref09_Match l s) (Least l (bytesOf s)) := by
  have hlen := len_parts l
  unfold M.ref09_Match
  refine Is.bs (P := fun _ : Unit => ∀ j, j < l.length → ¬ L (xJ l j) (bytesOf s)) ?_ fun _ h => Is.pure (.inl ⟨rfl, h⟩)
  refine Is.upto (fun i (st : Int) => st = (i : Int) ∧ ∀ j, j < i → ¬ L (xJ l j) (bytesOf s)) l.length (by omega) ⟨rfl, fun j h => by omega⟩ ?_ ?_
  · rintro i _ hi ⟨rfl, h⟩
    have hm := List.getElem_mem hi
    have hpx := parts_mem hm
    have hFH : FH l[i] := ⟨fit_of_valid _ 30 (ok _ hm) (hv _ hm) (by omega), by have := height_parts l[i]; unfold fuel; omega⟩
    refine Is.dt (by omega) (Is.bnq (idxL_nat hi) (Is.bnq (refMatch_ok hFH hs) (Is.cnd (fun hL => ?_) (fun hL => ?_))))
    · have hL := of_decide_eq_true hL
      refine Is.stop (.inr ⟨i, hi, rfl, ?_, h⟩)
      rw [xJ_get l hi]; exact hL
    · have hL := of_decide_eq_false hL
      refine Is.bnq (chk_succ (by omega)) (Is.next ⟨rfl, fun j hj => ?_⟩)
      by_cases e : j = i
      · subst e; rw [xJ_get l hi]; exact hL
      · exact h j (by omega)
  · rintro _ ⟨rfl, h⟩
    exact Is.df (by omega) (Is.stop h)
theorem few9_is {l : List T_Regex} (ok : ∀ x ∈ l, okT_Regex x) (hp : partsL l ≤ 1048576) : Is (M.law09_few l) (fun b => b = true → (∀ y ∈ l, V 30 y = true) ∧ partsL l ≤ 180) := by
  have hlen := len_parts l
  unfold M.law09_few
  refine Is.dcd (fun _ => Is.pure (by simp)) (fun h6 => ?_)
  refine Is.bs (P := fun _ : Unit => (∀ y ∈ l, V 30 y = true) ∧ partsL l ≤ 30 * l.length) ?_ (fun _ h => Is.pure fun _ => ⟨h.1, by omega⟩)
  refine Is.upto (fun i (st : Int) => st = (i : Int) ∧ (∀ y ∈ l.take i, V 30 y = true) ∧ partsL (l.take i) ≤ 30 * i) l.length (by omega) ⟨rfl, by simp, by simp [partsL]⟩ ?_ ?_
  · rintro i _ hi ⟨rfl, h1, h2⟩
    have hm := List.getElem_mem hi
    have hpx := parts_mem hm
    have hpt := parts_take hi
    refine Is.dt (by omega) (Is.bnd (P := fun b : Bool => b = false → V 30 l[i] = true ∧ parts l[i] ≤ 30) (Is.bnq (idxL_nat hi) (Is.bnq (refValid_ok (ok _ hm)) (Is.cnd (fun _ => Is.pure (by simp)) (fun hv => Is.bnq (refNodes_ok fuel _ (by unfold fuel; omega) (by omega)) (Is.pure fun h => ⟨by simpa using hv, by have := of_decide_eq_false h; omega⟩))))) fun b hb => Is.cnd (fun _ => Is.stop (fun e => by cases e)) (fun h => ?_))
    obtain ⟨g1, g2⟩ := hb h
    refine Is.bnq (chk_succ (by omega)) (Is.next ⟨rfl, fun y hy => ?_, by omega⟩)
    rw [take_snoc hi] at hy
    rcases List.mem_append.1 hy with hy | hy
    · exact h1 y hy
    · rw [List.mem_singleton.1 hy]; exact g1
  · rintro _ ⟨rfl, h1, h2⟩
    rw [List.take_length] at h1 h2
    exact Is.df (by omega) (Is.stop ⟨h1, h2⟩)
theorem law_matches9 (x0 : List T_Regex) (ok0 : (fun l => (∀ x ∈ l, okT_Regex x) ∧ l.length ≤ maxLen) x0) (x1 : Str) (_ : (fun s : Str => s.length ≤ maxLen) x1) (up : partsL x0 ≤ 1048576) : M.law09_NfaFromRegexesMatches x0 x1 = some true := by
  refine Is.eq ?_
  unfold M.law09_NfaFromRegexesMatches
  refine Is.bnq awake_true (Is.cf rfl ?_)
  refine Is.bnd (P := fun b => b = false → ((∀ y ∈ x0, V 30 y = true) ∧ partsL x0 ≤ 180) ∧ x1.length ≤ 12) (Is.bnd (few9_is ok0.1 up) fun b hb => Is.cnd (fun _ => Is.pure (by simp)) (fun h => Is.pure fun h2 => ⟨hb (by simpa using h), by have := of_decide_eq_false h2; omega⟩)) fun b hb => Is.cnd (fun _ => Is.pure rfl) (fun h => ?_)
  obtain ⟨⟨hv, hp⟩, hl⟩ := hb h
  have hn := nfaOf_fit ok0.1 (show partsL x0 ≤ 500 by omega)
  obtain ⟨hV, hA⟩ := nfaOf_valid (show partsL x0 ≤ 500 by omega)
  have hacl : (nfaOf x0).Accept.length ≤ 2000 := by have := hV.acc; have := hV.most; omega
  refine Is.bnd (from_ok ok0.1 up) ?_
  rintro ⟨n, e⟩ hne
  obtain ⟨rfl, rfl⟩ : n = nfaOf x0 ∧ e = 0 := by
    rcases hne with ⟨⟨y, hy, h⟩, _⟩ | ⟨_, h, _⟩ | ⟨_, _, h1, h2⟩
    · rw [hv y hy] at h; cases h
    · omega
    · exact ⟨h2, h1⟩
  refine Is.bnq (refFrom_ok ok0.1 hv (by omega)) (Is.bnq (x := true) (Is.eq (Is.ct rfl ?_)) (Is.pure rfl))
  obtain ⟨b, h1, h2⟩ := validN_is (n := nfaOf x0) (by omega) (by omega)
  refine Is.bnq h1 (Is.ct (h2.2 hV) (Is.bnq (sameNFA_self (by show (nfaOf x0).Arcs.length ≤ _; omega) (by show (nfaOf x0).Accept.length ≤ _; omega)) (Is.ct rfl (Is.bnq (Run9_ok hn (by omega)) (Is.bnd (refMatch_least ok0.1 hv (by omega) (by omega)) fun r hr => Is.pure ?_)))))
  rw [least_uniq (run_least hn x1) hr]
  simp
end Go.Proofs.Ytajmekjcnbmaaaa
