/- Plain facts on layer 10: valid automata, runs. -/
import Derived.Test.YtogpainomdfpnaaMod
import Derived.Test.YtogpainomdfpnaaPlLoop
namespace Go.Proofs.Ytogpainomdfpnaa
open Go.Lx

/-- The number of columns. -/
def cols (d : T_DFA) : Nat := (d.Next.getD 0 []).length
def nst (d : T_DFA) : Nat := d.Next.length
structure Ok (d : T_DFA) : Prop where
  cls : d.Class.length = 256
  pos : 1 ≤ d.Next.length
  max : d.Next.length ≤ 500
  acc : d.Accept.length = d.Next.length
  col : 1 ≤ cols d
  inc : ∀ c ∈ d.Class, 0 ≤ c ∧ c < (cols d : Int)
  row : ∀ r ∈ d.Next, r.length = cols d ∧ ∀ t ∈ r, -1 ≤ t ∧ t < (d.Next.length : Int)
  accs : ∀ a ∈ d.Accept, -1 ≤ a

/-- A search through a list. -/
theorem index_is {s : List Int} {f : Int → Option Bool} {p : Int → Bool} (hf : ∀ x ∈ s, f x = some (p x)) (hl : s.length ≤ 9223372036854775807) :
    Is (M.slices_IndexFunc_int_int s f) (fun r => decide (0 ≤ r) = s.any p) := by
  unfold M.slices_IndexFunc_int_int
  refine Is.bs (P := fun _ => s.any p = false) (Is.upto (fun i st => st = (i : Int) ∧ ∀ x ∈ s.take i, p x = false) s.length hl ⟨rfl, by simp⟩ ?_ ?_) ?_
  · rintro i _ hi ⟨rfl, hno⟩
    refine Is.dt (by omega) (Is.bnq (idxL_nat hi) (Is.bnq (hf _ (List.getElem_mem hi)) (Is.cnd (fun hp => ?_) (fun hp => ?_))))
    · exact Is.stop (show decide _ = _ by rw [List.any_eq_true.2 ⟨_, List.getElem_mem hi, hp⟩]; simp)
    · refine Is.bnq (chk_succ (by omega)) (Is.next ⟨rfl, fun x hx => ?_⟩)
      rw [List.take_succ_eq_append_getElem hi, List.mem_append] at hx
      rcases hx with hx | hx
      · exact hno x hx
      · rw [List.mem_singleton.1 hx]; exact hp
  · rintro _ ⟨rfl, hno⟩
    refine Is.df (by omega) (Is.stop ?_)
    rw [List.take_length] at hno
    exact List.any_eq_false.2 fun x hx => by simp [hno x hx]
  · intro _ h
    exact Is.pure (by rw [h]; rfl)
theorem contains_eq {s : List Int} {f : Int → Option Bool} {p : Int → Bool} (hf : ∀ x ∈ s, f x = some (p x)) (hl : s.length ≤ 9223372036854775807) : M.slices_ContainsFunc_int_int s f = some (s.any p) := by
  obtain ⟨r, hr, h⟩ := index_is hf hl
  unfold M.slices_ContainsFunc_int_int
  rw [hr, ← h]; rfl
theorem between_eq {l : List Int} {lo hi : Int} (hl : l.length ≤ 9223372036854775807) : M.dfa_between l lo hi = some (!l.any fun x => decide (x < lo) || decide (hi < x)) := by
  unfold M.dfa_between
  rw [contains_eq (p := fun x => decide (x < lo) || decide (hi < x)) (fun x _ => ?_) hl]
  · rfl
  · unfold M.dfa_between_1
    cases decide (x < lo) <;> rfl

theorem mlen (l : Nat) (h : l ≤ maxLen) : l ≤ 9223372036854775807 := by simpa [maxLen] using h
def okD (d : T_DFA) : Prop := d.Class.length ≤ 9223372036854775807 ∧ d.Next.length ≤ 9223372036854775807 ∧ (∀ r ∈ d.Next, r.length ≤ 9223372036854775807) ∧ d.Accept.length ≤ 9223372036854775807

theorem head_idx {d : T_DFA} (h : 1 ≤ d.Next.length) : idxL d.Next 0 = some (d.Next.getD 0 []) := by
  have := idxL_nat (l := d.Next) (i := 0) (by omega)
  rw [show (0 : Int) = ((0 : Nat) : Int) from rfl, this]
  simp [List.getD_eq_getElem?_getD, show 0 < d.Next.length by omega]
theorem any_f {l : List Int} {a b : Int} (h : ∀ c ∈ l, a ≤ c ∧ c < b) : (l.any fun x => decide (x < a) || decide (b - 1 < x)) = false := by
  refine List.any_eq_false.2 fun c hc => ?_
  have := h c hc
  simp only [Bool.or_eq_true, decide_eq_true_eq]; omega
theorem any_t {l : List Int} {a b : Int} (h : ¬ ∀ c ∈ l, a ≤ c ∧ c < b) : (l.any fun x => decide (x < a) || decide (b - 1 < x)) = true := by
  obtain ⟨c, hc, h⟩ : ∃ c ∈ l, ¬ (a ≤ c ∧ c < b) := Classical.byContradiction fun hn => h fun c hc => Classical.byContradiction fun h => hn ⟨c, hc, h⟩
  refine List.any_eq_true.2 ⟨c, hc, ?_⟩
  simp only [Bool.or_eq_true, decide_eq_true_eq]; omega
abbrev Says (d : T_DFA) (b : Bool) : Prop := b = true ↔ Ok d
theorem says_f {d : T_DFA} (h : ¬ Ok d) : Says d false := ⟨fun e => (by cases e), fun e => (h e).elim⟩
/-- The test that both begin with. -/
def preOk (d : T_DFA) : Prop := d.Class.length = 256 ∧ 1 ≤ d.Next.length ∧ d.Next.length ≤ 500 ∧ d.Accept.length = d.Next.length
theorem pre_is (d : T_DFA) : Is (bif ((d.Class.length : Int) != 256) then
   some true
  else
   bif (decide ((d.Next.length : Int) < 1)) then
    some true
   else
    bif (decide (500 < (d.Next.length : Int))) then
     some true
    else
     some ((d.Accept.length : Int) != (d.Next.length : Int))) (fun b => (b = true ∧ ¬ Ok d) ∨ (b = false ∧ preOk d)) := by
  refine Is.cnd (fun h => Is.pure (.inl ⟨rfl, fun h' => ?_⟩)) fun h1 => Is.dcd (fun h => Is.pure (.inl ⟨rfl, fun h' => ?_⟩)) fun h2 => Is.dcd (fun h => Is.pure (.inl ⟨rfl, fun h' => ?_⟩)) fun h3 => Is.pure ?_
  · have := h'.cls; simp [this] at h
  · have := h'.pos; omega
  · have := h'.max; omega
  · have h1 : d.Class.length = 256 := by have := of_bne_f h1; omega
    by_cases h4 : d.Accept.length = d.Next.length
    · exact .inr ⟨by simp [h4], h1, by omega, by omega, h4⟩
    · exact .inl ⟨by simp; omega, fun h' => h4 h'.acc⟩
theorem Valid_is {d : T_DFA} (hd : okD d) : Is (M.dfa_Valid d) (Says d) := by
  obtain ⟨h1, h2, h3, h4⟩ := hd
  unfold M.dfa_Valid
  refine Is.bnd (pre_is d) ?_
  rintro _ (⟨rfl, hno⟩ | ⟨rfl, a1, a2, a3, a4⟩)
  · exact Is.ct rfl (Is.pure (says_f hno))
  refine Is.cf rfl (Is.bnq (head_idx a2) ?_)
  have hk : (d.Next.getD 0 []).length ≤ 9223372036854775807 := h3 _ (getD_mem (by omega))
  have hcols : ((d.Next.getD 0 []).length : Int) = (cols d : Int) := rfl
  rw [hcols]
  refine Is.bnd (P := fun b => (b = true ∧ ¬ Ok d) ∨ (b = false ∧ 1 ≤ cols d ∧ ∀ c ∈ d.Class, 0 ≤ c ∧ c < (cols d : Int))) ?_ ?_
  · refine Is.dcd (fun h => Is.pure (.inl ⟨rfl, fun h' => by have := h'.col; omega⟩)) fun h => ?_
    refine Is.bnq (chk_i64 (by omega) (by omega)) (Is.bnq (between_eq h1) (Is.pure ?_))
    by_cases a6 : ∀ c ∈ d.Class, 0 ≤ c ∧ c < (cols d : Int)
    · exact .inr ⟨by rw [any_f a6]; rfl, by omega, a6⟩
    · exact .inl ⟨by rw [any_t a6]; rfl, fun h' => a6 h'.inc⟩
  rintro _ (⟨rfl, hno⟩ | ⟨rfl, a5, a6⟩)
  · exact Is.ct rfl (Is.pure (says_f hno))
  refine Is.cf rfl (Is.bs (P := fun _ => ∀ r ∈ d.Next, r.length = cols d ∧ ∀ t ∈ r, -1 ≤ t ∧ t < (d.Next.length : Int))
    (Is.upto (fun i st => st = (i : Int) ∧ ∀ r ∈ d.Next.take i, r.length = cols d ∧ ∀ t ∈ r, -1 ≤ t ∧ t < (d.Next.length : Int)) d.Next.length h2 ⟨rfl, by simp⟩ ?_ ?_) ?_)
  · rintro i _ hi ⟨rfl, hno⟩
    have hm := List.getElem_mem hi
    refine Is.dt (by omega) (Is.bnq (idxL_nat hi) (Is.bnd (P := fun b => (b = true ∧ ¬ Ok d) ∨ (b = false ∧ d.Next[i].length = cols d ∧ ∀ t ∈ d.Next[i], -1 ≤ t ∧ t < (d.Next.length : Int))) ?_ ?_))
    · refine Is.cnd (fun h => Is.pure (.inl ⟨rfl, fun h' => ?_⟩)) fun h => ?_
      · have := (h'.row _ hm).1; simp [this] at h
      · refine Is.bnq (chk_i64 (by omega) (by omega)) (Is.bnq (between_eq (h3 _ hm)) (Is.pure ?_))
        by_cases b6 : ∀ c ∈ d.Next[i], -1 ≤ c ∧ c < (d.Next.length : Int)
        · exact .inr ⟨by rw [any_f b6]; rfl, by have := of_bne_f h; omega, b6⟩
        · exact .inl ⟨by rw [any_t b6]; rfl, fun h' => b6 (h'.row _ hm).2⟩
    · rintro _ (⟨rfl, hno⟩ | ⟨rfl, b1, b2⟩)
      · exact Is.ct rfl (Is.stop (says_f hno))
      · refine Is.cf rfl (Is.bnq (chk_succ (by omega)) (Is.next ⟨rfl, fun r hr => ?_⟩))
        rw [List.take_succ_eq_append_getElem hi, List.mem_append] at hr
        rcases hr with hr | hr
        · exact hno r hr
        · rw [List.mem_singleton.1 hr]; exact ⟨b1, b2⟩
  · rintro _ ⟨rfl, hno⟩
    refine Is.df (by omega) (Is.stop ?_)
    rwa [List.take_length] at hno
  · intro _ ha
    refine Is.bnq (contains_eq (p := fun a => decide (a < -1)) (fun x _ => by unfold M.dfa_Valid_1; rfl) h4) (Is.pure ?_)
    simp only [Says, Bool.not_eq_true', List.any_eq_false, decide_eq_true_eq]
    constructor
    · intro h
      exact ⟨a1, a2, a3, a4, a5, a6, ha, fun a hx => by have := h a hx; omega⟩
    · intro h a hx; have := h.accs a hx; omega
theorem refValid_is {d : T_DFA} (hd : okD d) : Is (M.ref10_Valid d) (Says d) := by
  obtain ⟨h1, h2, h3, h4⟩ := hd
  unfold M.ref10_Valid
  refine Is.bnd (pre_is d) ?_
  rintro _ (⟨rfl, hno⟩ | ⟨rfl, a1, a2, a3, a4⟩)
  · exact Is.ct rfl (Is.pure (says_f hno))
  refine Is.cf rfl (Is.bnq (head_idx a2) ?_)
  have hk : (d.Next.getD 0 []).length ≤ 9223372036854775807 := h3 _ (getD_mem (by omega))
  have hcols : ((d.Next.getD 0 []).length : Int) = (cols d : Int) := rfl
  have hkc : cols d ≤ 9223372036854775807 := hk
  rw [hcols]
  refine Is.dcd (fun h => Is.pure (says_f fun h' => by have := h'.col; omega)) fun a5 => ?_
  refine Is.bs (P := fun _ => ∀ c ∈ d.Class, 0 ≤ c ∧ c < (cols d : Int)) (Is.upto (fun i st => st = (i : Int) ∧ ∀ c ∈ d.Class.take i, 0 ≤ c ∧ c < (cols d : Int)) 256 (by omega) ⟨rfl, by simp⟩ ?_ ?_) ?_
  · rintro i _ hi ⟨rfl, hno⟩
    have hi' : i < d.Class.length := by omega
    have hm := List.getElem_mem hi'
    refine Is.dt (by omega) (Is.bnd (P := fun b => (b = true ∧ ¬ Ok d) ∨ (b = false ∧ 0 ≤ d.Class[i] ∧ d.Class[i] < (cols d : Int))) ?_ ?_)
    · refine Is.bnq (idxL_nat hi') (Is.dcd (fun h => Is.pure (.inl ⟨rfl, fun h' => ?_⟩)) fun h => Is.pure ?_)
      · have := h'.inc _ hm; omega
      · by_cases h2 : d.Class[i] < (cols d : Int)
        · exact .inr ⟨by simpa using h2, by omega, h2⟩
        · exact .inl ⟨by simp; omega, fun h' => h2 (h'.inc _ hm).2⟩
    · rintro _ (⟨rfl, hno⟩ | ⟨rfl, b⟩)
      · exact Is.ct rfl (Is.stop (says_f hno))
      · refine Is.cf rfl (Is.bnq (chk_succ (by omega)) (Is.next ⟨rfl, fun r hr => ?_⟩))
        rw [List.take_succ_eq_append_getElem hi', List.mem_append] at hr
        rcases hr with hr | hr
        · exact hno r hr
        · rw [List.mem_singleton.1 hr]; exact b
  · rintro _ ⟨rfl, hno⟩
    refine Is.df (by omega) (Is.stop ?_)
    rwa [← a1, List.take_length] at hno
  intro _ a6
  refine Is.bs (P := fun _ => (∀ r ∈ d.Next, r.length = cols d ∧ ∀ t ∈ r, -1 ≤ t ∧ t < (d.Next.length : Int)) ∧ ∀ a ∈ d.Accept, -1 ≤ a)
    (Is.upto (fun i st => st = (i : Int) ∧ (∀ r ∈ d.Next.take i, r.length = cols d ∧ ∀ t ∈ r, -1 ≤ t ∧ t < (d.Next.length : Int)) ∧ ∀ a ∈ d.Accept.take i, -1 ≤ a) d.Next.length h2 ⟨rfl, by simp, by simp⟩ ?_ ?_) ?_
  · rintro i _ hi ⟨rfl, hno, hno2⟩
    have hm := List.getElem_mem hi
    have hi2 : i < d.Accept.length := by omega
    have hm2 := List.getElem_mem hi2
    refine Is.dt (by omega) (Is.bs (P := fun _ => (d.Next[i].length = cols d ∧ ∀ t ∈ d.Next[i], -1 ≤ t ∧ t < (d.Next.length : Int)) ∧ -1 ≤ d.Accept[i]) ?_ ?_)
    · refine Is.bnd (P := fun b => (b = true ∧ ¬ Ok d) ∨ (b = false ∧ d.Next[i].length = cols d ∧ -1 ≤ d.Accept[i])) ?_ ?_
      · refine Is.bnq (idxL_nat hi) (Is.cnd (fun h => Is.pure (.inl ⟨rfl, fun h' => ?_⟩)) fun h => Is.bnq (idxL_nat hi2) (Is.pure ?_))
        · have := (h'.row _ hm).1; simp [this] at h
        · by_cases b : d.Accept[i] < -1
          · exact .inl ⟨by simpa using b, fun h' => by have := h'.accs _ hm2; omega⟩
          · exact .inr ⟨by simpa using b, by have := of_bne_f h; omega, by omega⟩
      · rintro _ (⟨rfl, hno⟩ | ⟨rfl, b1, b2⟩)
        · exact Is.ct rfl (Is.stop (says_f hno))
        · refine Is.cf rfl (Is.upto (fun j st => st = (j : Int) ∧ ∀ t ∈ d.Next[i].take j, -1 ≤ t ∧ t < (d.Next.length : Int)) (cols d) hkc ⟨rfl, by simp⟩ ?_ ?_)
          · rintro j _ hj ⟨rfl, hj2⟩
            have hj' : j < d.Next[i].length := by omega
            have hm' := List.getElem_mem hj'
            refine Is.dt (by omega) (Is.bnd (P := fun b => (b = true ∧ ¬ Ok d) ∨ (b = false ∧ -1 ≤ d.Next[i][j] ∧ d.Next[i][j] < (d.Next.length : Int))) ?_ ?_)
            · refine Is.bnq (idxL_nat hi) (Is.bnq (idxL_nat hj') (Is.dcd (fun h => Is.pure (.inl ⟨rfl, fun h' => ?_⟩)) fun h => Is.pure ?_))
              · have := (h'.row _ hm).2 _ hm'; omega
              · by_cases h2 : d.Next[i][j] < (d.Next.length : Int)
                · exact .inr ⟨by simpa using h2, by omega, h2⟩
                · exact .inl ⟨by simp; omega, fun h' => h2 ((h'.row _ hm).2 _ hm').2⟩
            · rintro _ (⟨rfl, hno⟩ | ⟨rfl, b⟩)
              · exact Is.ct rfl (Is.stop (says_f hno))
              · refine Is.cf rfl (Is.bnq (chk_succ (by omega)) (Is.next ⟨rfl, fun r hr => ?_⟩))
                rw [List.take_succ_eq_append_getElem hj', List.mem_append] at hr
                rcases hr with hr | hr
                · exact hj2 r hr
                · rw [List.mem_singleton.1 hr]; exact b
          · rintro _ ⟨rfl, hj2⟩
            refine Is.df (by omega) (Is.stop ?_)
            rw [← b1, List.take_length] at hj2
            exact ⟨⟨b1, hj2⟩, b2⟩
    · rintro _ ⟨b1, b2⟩
      refine Is.bnq (chk_succ (by omega)) (Is.next ⟨rfl, fun r hr => ?_, fun a ha => ?_⟩)
      · rw [List.take_succ_eq_append_getElem hi, List.mem_append] at hr
        rcases hr with hr | hr
        · exact hno r hr
        · rw [List.mem_singleton.1 hr]; exact b1
      · rw [List.take_succ_eq_append_getElem hi2, List.mem_append] at ha
        rcases ha with ha | ha
        · exact hno2 a ha
        · rw [List.mem_singleton.1 ha]; exact b2
  · rintro _ ⟨rfl, hno, hno2⟩
    refine Is.df (by omega) (Is.stop ?_)
    rw [List.take_length] at hno
    rw [← a4, List.take_length] at hno2
    exact ⟨hno, hno2⟩
  · rintro _ ⟨b1, b2⟩
    exact Is.pure ⟨fun _ => ⟨a1, a2, a3, a4, by omega, a6, b1, b2⟩, fun _ => rfl⟩
end Go.Proofs.Ytogpainomdfpnaa
