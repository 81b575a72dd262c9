/- Plain facts on layer 8: the reference's sets of end positions; Match of the program and of the reference. -/
import Derived.Test.YtffienmbeifioaaDoorPl08e
namespace Go.Proofs.YtffienmbeifioaaDoor
open Go.Lx
open Classical

/-! ### lists of marks -/
def ix (l : List Bool) (j : Nat) : Bool := l.getD j false
theorem ix_get {l : List Bool} {j : Nat} (h : j < l.length) : idxL l (j : Int) = some (ix l j) := by
  rw [idxL_nat h]; simp [ix, List.getD_eq_getElem?_getD, h]
theorem ix_set {l : List Bool} {k j : Nat} {v : Bool} (h : k < l.length) : ix (l.set k v) j = if j = k then v else ix l j := by
  unfold ix
  simp only [List.getD_eq_getElem?_getD, List.getElem?_set]
  by_cases e : k = j
  · subst e; simp [h]
  · rw [if_neg e, if_neg (fun h => e h.symm)]
theorem ix_ext {a b : List Bool} (hl : a.length = b.length) (h : ∀ j, j < a.length → ix a j = ix b j) : a = b := by
  refine List.ext_getElem hl fun i h1 h2 => ?_
  have := h i h1
  simpa [ix, List.getD_eq_getElem?_getD, h1, h2] using this
theorem ix_rep (n j : Nat) : ix (List.replicate n false) j = false := by
  unfold ix
  simp only [List.getD_eq_getElem?_getD, List.getElem?_replicate]
  split <;> rfl
def cntF (p : Nat → Bool) : Nat → Nat
  | 0 => 0
  | n + 1 => cntF p n + (bif p n then 0 else 1)
theorem cntF_le {p q : Nat → Bool} {n : Nat} (h : ∀ j, j < n → p j = true → q j = true) : cntF q n ≤ cntF p n := by
  induction n with
  | zero => exact Nat.le_refl _
  | succ n ih =>
    have h1 := ih fun j hj => h j (by omega)
    have h2 := h n (by omega)
    simp only [cntF]
    cases hp : p n
    · cases q n <;> simp <;> omega
    · rw [h2 hp]; simpa using h1
theorem cntF_lt {p q : Nat → Bool} {n : Nat} (h : ∀ j, j < n → p j = true → q j = true) {i : Nat} (hi : i < n) (hp : p i = false) (hq : q i = true) : cntF q n < cntF p n := by
  induction n with
  | zero => omega
  | succ n ih =>
    have h2 := h n (by omega)
    simp only [cntF]
    by_cases e : i = n
    · subst e
      have := cntF_le (p := p) (q := q) (n := i) fun j hj => h j (by omega)
      rw [hp, hq]; simp; omega
    · have h1 := ih (fun j hj => h j (by omega)) (by omega)
      cases hpn : p n
      · cases q n <;> simp <;> omega
      · rw [h2 hpn]; simpa using h1
theorem cntF_bound (p : Nat → Bool) (n : Nat) : cntF p n ≤ n := by
  induction n with
  | zero => exact Nat.le_refl _
  | succ n ih => simp only [cntF]; cases p n <;> simp <;> omega

/-! ### parts of a string -/
def seg (w : List Nat) (i j : Nat) : List Nat := (w.take j).drop i
theorem seg_split {w : List Nat} {i j : Nat} (hij : i ≤ j) (hj : j ≤ w.length) (P Q : List Nat → Prop) :
    (∃ u v, seg w i j = u ++ v ∧ P u ∧ Q v) ↔ ∃ m, i ≤ m ∧ m ≤ j ∧ P (seg w i m) ∧ Q (seg w m j) := by
  have cut : ∀ m, i ≤ m → m ≤ j → seg w i j = seg w i m ++ seg w m j := by
    intro m h1 h2
    unfold seg
    have e : w.take j = w.take m ++ (w.take j).drop m := by
      have := List.take_append_drop m (w.take j)
      rw [List.take_take, Nat.min_eq_left h2] at this
      exact this.symm
    have hl : (w.take m).length = m := by rw [List.length_take]; omega
    conv => lhs; rw [e]
    rw [List.drop_append, hl, Nat.sub_eq_zero_of_le h1, List.drop_zero]
  constructor
  · rintro ⟨u, v, h, hu, hv⟩
    have hlen : (seg w i j).length = j - i := by unfold seg; rw [List.length_drop, List.length_take]; omega
    have hl := congrArg List.length h
    rw [List.length_append, hlen] at hl
    have h2 := cut (i + u.length) (by omega) (by omega)
    have hlu : (seg w i (i + u.length)).length = u.length := by unfold seg; rw [List.length_drop, List.length_take]; omega
    rw [h] at h2
    obtain ⟨e1, e2⟩ := List.append_inj h2 hlu.symm
    exact ⟨i + u.length, by omega, by omega, e1 ▸ hu, e2 ▸ hv⟩
  · rintro ⟨m, h1, h2, hp, hq⟩
    exact ⟨_, _, cut m h1 h2, hp, hq⟩
theorem seg_self (w : List Nat) (i : Nat) : seg w i i = [] := by
  unfold seg
  exact List.drop_eq_nil_of_le (by rw [List.length_take]; omega)
theorem seg_nil {w : List Nat} {i j : Nat} (hij : i ≤ j) (hj : j ≤ w.length) : seg w i j = [] ↔ i = j := by
  constructor
  · intro h
    have := congrArg List.length h
    unfold seg at this
    rw [List.length_drop, List.length_take, List.length_nil] at this
    omega
  · rintro rfl; exact seg_self w i
theorem seg_one {w : List Nat} {i j b : Nat} (hij : i ≤ j) (hj : j ≤ w.length) : seg w i j = [b] ↔ j = i + 1 ∧ w[i]? = some b := by
  have h1 : i < w.length → seg w i (i + 1) = [w[i]?.getD 0] := by
    intro h
    unfold seg
    rw [List.take_add_one, List.drop_append, List.length_take, Nat.min_eq_left (by omega), Nat.sub_self, List.drop_zero, List.drop_eq_nil_of_le (by rw [List.length_take]; omega), List.getElem?_eq_getElem h]
    rfl
  constructor
  · intro h
    have hl := congrArg List.length h
    unfold seg at hl
    rw [List.length_drop, List.length_take, List.length_singleton] at hl
    have e : j = i + 1 := by omega
    subst e
    rw [h1 (by omega)] at h
    refine ⟨rfl, ?_⟩
    rw [List.getElem?_eq_getElem (by omega)] at h ⊢
    simpa using h
  · rintro ⟨rfl, h⟩
    rw [h1 (by omega), h]; rfl
theorem LC_append {l m : List T_Regex} : ∀ {w : List Nat}, LC (l ++ m) w ↔ ∃ u v, w = u ++ v ∧ LC l u ∧ LC m v := by
  induction l with
  | nil =>
    intro w
    exact ⟨fun h => ⟨[], w, rfl, rfl, h⟩, fun ⟨u, v, e, hu, hv⟩ => by cases hu; subst e; exact hv⟩
  | cons y l ih =>
    intro w
    simp only [List.cons_append, LC, ih]
    constructor
    · rintro ⟨u, v, rfl, hu, u2, v2, rfl, h2, h3⟩
      exact ⟨u ++ u2, v2, by simp, ⟨u, u2, rfl, hu, h2⟩, h3⟩
    · rintro ⟨u, v, rfl, ⟨u1, u2, rfl, h1, h2⟩, h3⟩
      exact ⟨u1, u2 ++ v, by simp, h1, u2, v, rfl, h2, h3⟩
theorem St_snoc {P : List Nat → Prop} {u v : List Nat} (hu : St P u) (hv : P v) : St P (u ++ v) := by
  induction hu with
  | nil => have := St.cons hv .nil; rwa [List.append_nil] at this
  | cons h _ ih => rw [List.append_assoc]; exact .cons h ih
theorem L_6_iff {s y} {fr : List Bool} {W : List Nat} {j : Nat} {z : Bool} : ((z = true) ↔ ∃ i, i ≤ j ∧ ix fr i = true ∧ L ⟨6, s, [y]⟩ (seg W i j)) ↔ ((z = true) ↔ ∃ i, i ≤ j ∧ ix fr i = true ∧ St (L y) (seg W i j)) := by
  simp only [L_6]
  rfl
theorem LC_single {y : T_Regex} {w : List Nat} : LC [y] w ↔ L y w := by simp [LC]

/-! ### the reference -/
theorem refHas_ok {v : Vec 4} (hv : W4 v) {c : Nat} (hc : c < 256) : M.ref08_Has v (c : Int) = some (mem v c) := by
  have e1 := quo_byte (k := .i64) (c := c) (wrap_i64 (by omega) (by omega))
  have e2 := vget_wd hv (i := c / 64) (by omega)
  have e3 : remM (c : Int) 64 = some ((c % 64 : Nat) : Int) := rem_nat (b := 64) (by omega)
  have e4 := shr_u64 (a := wd v (c / 64)) (t := c % 64) (by omega)
  have hlt : wd v (c / 64) >>> (c % 64) < 18446744073709551616 := Nat.lt_of_le_of_lt (Nat.shiftRight_le _ _) (wd_lt hv _)
  have e5 := bits_and_u64 (b := 1) hlt (by omega)
  have e6 : IntKind.u64.wrap ((c % 64 : Nat) : Int) = ((c % 64 : Nat) : Int) := wrap_u64 (by omega) (by omega)
  unfold M.ref08_Has mem
  simp only [e1, e2, e3, e6, e4, Option.bind_some]
  rw [show (1 : Int) = ((1 : Nat) : Int) from rfl, e5]
  congr 1
  rw [Nat.testBit, Nat.and_comm 1, Nat.and_one_is_mod]
  rcases Nat.mod_two_eq_zero_or_one (wd v (c / 64) >>> (c % 64)) with h | h <;> rw [h] <;> rfl

/-- What the marks say. -/
def Ends (R : List Nat → Prop) (w : List Nat) (fr out : List Bool) : Prop := out.length = w.length + 1 ∧ ∀ j, j ≤ w.length → (ix out j = true ↔ ∃ i, i ≤ j ∧ ix fr i = true ∧ R (seg w i j))
theorem Ends.congr {R R' : List Nat → Prop} {w : List Nat} {fr out : List Bool} (h : Ends R w fr out) (e : ∀ u, R u ↔ R' u) : Ends R' w fr out :=
  ⟨h.1, fun j hj => (h.2 j hj).trans ⟨fun ⟨i, a, b, c⟩ => ⟨i, a, b, (e _).1 c⟩, fun ⟨i, a, b, c⟩ => ⟨i, a, b, (e _).2 c⟩⟩⟩
theorem Ends.comp {R Q : List Nat → Prop} {w : List Nat} {fr mid out : List Bool} (h1 : Ends R w fr mid) (h2 : Ends Q w mid out) : Ends (fun x => ∃ u v, x = u ++ v ∧ R u ∧ Q v) w fr out := by
  refine ⟨h2.1, fun j hj => (h2.2 j hj).trans ?_⟩
  constructor
  · rintro ⟨m, hm, hx, hq⟩
    obtain ⟨i, hi, hf, hr⟩ := (h1.2 m (by omega)).1 hx
    exact ⟨i, by omega, hf, (seg_split (by omega) hj R Q).2 ⟨m, hi, hm, hr, hq⟩⟩
  · rintro ⟨i, hi, hf, h⟩
    obtain ⟨m, h3, h4, hr, hq⟩ := (seg_split hi hj R Q).1 h
    exact ⟨m, h4, (h1.2 m (by omega)).2 ⟨i, h3, hf, hr⟩, hq⟩
theorem u8_ok (u : UInt8) : u.toNat < 256 := u.toNat_lt
theorem bytes_len (s : Str) : (bytesOf s).length = s.length := by simp [bytesOf]
theorem bytes_get {s : Str} {i : Nat} (h : i < s.length) : (bytesOf s)[i]? = some (s[i]).toNat := by simp [bytesOf, h]

/-- One round of or. -/
theorem or_loop {ρ : Type} {body : List Bool × Int → Option (Step (List Bool × Int) ρ)} {a b : List Bool} {n : Nat} {Q : ρ → Prop} (hn : n ≤ 4611686018427387903) (ha : a.length = n) (hb : b.length = n)
    (step : ∀ k st, k < n → st.length = n → body (st, (k : Int)) = if ix st k then (some (.next (st.set k true, ((k + 1 : Nat) : Int)))) else some (.next (st.set k (ix b k), ((k + 1 : Nat) : Int))))
    (last : ∀ st, st.length = n → (∀ j, j < n → ix st j = (ix a j || ix b j)) → ∃ r, body (st, (n : Int)) = some (.stop r) ∧ Q r) : Is (loopM body fuel (a, (0 : Int))) Q := by
  refine Is.upto (fun k (st : List Bool × Int) => st.2 = (k : Int) ∧ st.1.length = n ∧ ∀ j, j < n → ix st.1 j = (ix a j || (decide (j < k) && ix b j))) n (by omega) ⟨rfl, ha, by simp⟩ ?_ ?_
  · rintro k ⟨st, _⟩ hk ⟨rfl, hl, hJ⟩
    simp only at hl hJ
    rw [step k st hk hl]
    have hkk := hJ k hk
    rw [dec_f (by omega : ¬ k < k), Bool.false_and, Bool.or_false] at hkk
    split
    · rename_i h
      refine Is.next ⟨rfl, by simpa using hl, fun j hj => ?_⟩
      rw [ix_set (by omega)]
      by_cases e : j = k
      · subst e; rw [if_pos rfl, ← hkk, h]; rfl
      · rw [if_neg e, hJ j hj]
        congr 2
        exact decide_eq_decide.2 (by omega)
    · rename_i h
      refine Is.next ⟨rfl, by simpa using hl, fun j hj => ?_⟩
      rw [ix_set (by omega)]
      have h : ix st k = false := by simpa using h
      by_cases e : j = k
      · subst e; rw [if_pos rfl, ← hkk, h, dec_t (by omega : j < j + 1)]; simp
      · rw [if_neg e, hJ j hj]
        congr 2
        exact decide_eq_decide.2 (by omega)
  · rintro ⟨st, _⟩ ⟨rfl, hl, hJ⟩
    obtain ⟨r, hr, hq⟩ := last st hl fun j hj => by rw [hJ j hj, dec_t hj, Bool.true_and]
    exact ⟨_, hr, hq⟩

theorem ends_ok : ∀ fl x, Fit x → height x < fl → ∀ (s : Str) (fr : List Bool), s.length ≤ 1000000 → fr.length = s.length + 1 → Is (M.ref08_ends fl x s fr) (Ends (L x) (bytesOf s) fr) := by
  intro fl
  induction fl with
  | zero => intro a _ h; omega
  | succ fl ih =>
    rintro ⟨k, st, l⟩ hF hh s fr hs hfr
    have hb := bytes_len s
    have hk : ∀ y ∈ l, ∀ fr : List Bool, fr.length = s.length + 1 → Is (M.ref08_ends fl y s fr) (Ends (L y) (bytesOf s) fr) := fun y hy fr hfr =>
      ih y (hF.kids y hy) (by have := height_kid (x := ⟨k, st, l⟩) hy; omega) s fr hs hfr
    have hll : l.length ≤ 4611686018427387903 := Nat.le_trans hF.len (by decide)
    unfold M.ref08_ends
    refine Is.bnq (chk_succ (i := s.length) (by omega)) (Is.bnq (mkM_nat (n := s.length + 1) (by omega)) ?_)
    have hcopy : copyL (List.replicate (s.length + 1) false) fr = fr := by
      unfold copyL
      rw [List.length_replicate, ← hfr, List.take_length, List.drop_eq_nil_of_le (by rw [List.length_replicate]; omega), List.append_nil]
    simp only [hcopy]
    have hfrE : Ends (fun u => u = []) (bytesOf s) fr fr := by
      refine ⟨by omega, fun j hj => ⟨fun h => ⟨j, Nat.le_refl _, h, seg_self _ _⟩, ?_⟩⟩
      rintro ⟨i, hi, h, e⟩
      rw [(seg_nil hi hj).1 e] at h
      exact h
    refine Is.bnd (P := fun r => Ends (L ⟨k, st, l⟩) (bytesOf s) fr r) ?_ (fun r hr => Is.pure hr)
    rcases dispatch k with rfl | rfl | rfl | rfl | rfl | ⟨h2, h3, h4, h5, h6⟩
    · refine Is.ct rfl (Is.pure (hfrE.congr fun u => L_2.symm))
    · refine Is.cf rfl (Is.ct rfl ?_)
      refine Is.upto (fun i (z : List Bool × Int) => z.2 = (i : Int) ∧ z.1.length = s.length + 1 ∧ ∀ j, j ≤ s.length → (ix z.1 j = true ↔ j ≤ i ∧ ∃ i', j = i' + 1 ∧ ix fr i' = true ∧ ∃ b, (bytesOf s)[i']? = some b ∧ mem st b = true)) s.length (by omega) ⟨rfl, by simp, ?_⟩ ?_ ?_
      · intro j hj
        simp only [ix_rep]
        refine ⟨fun h => by simp at h, ?_⟩
        rintro ⟨h, i', rfl, _⟩
        omega
      · rintro i ⟨z, _⟩ hi ⟨rfl, hl, hJ⟩
        simp only at hl hJ
        dsimp only
        refine Is.dt (show (i : Int) < (s.length : Int) by omega) (Is.bnq (chk_succ (by omega)) (Is.bnq (ix_get (by omega)) ?_))
        have hz : ∀ v, (v = true ↔ ix fr i = true ∧ mem st (s[i]).toNat = true) → ∀ j, j ≤ s.length → (ix (z.set (i + 1) v) j = true ↔ j ≤ i + 1 ∧ ∃ i', j = i' + 1 ∧ ix fr i' = true ∧ ∃ b, (bytesOf s)[i']? = some b ∧ mem st b = true) := by
          intro v hv j hj
          rw [ix_set (by omega)]
          by_cases e : j = i + 1
          · subst e
            rw [if_pos rfl, hv]
            constructor
            · rintro ⟨h1, h2⟩
              exact ⟨Nat.le_refl _, i, rfl, h1, _, bytes_get hi, h2⟩
            · rintro ⟨_, i', e, h1, b, h2, h3⟩
              obtain rfl : i = i' := by omega
              rw [bytes_get hi] at h2
              cases h2
              exact ⟨h1, h3⟩
          · rw [if_neg e, hJ j hj]
            constructor
            · rintro ⟨h1, h2⟩; exact ⟨by omega, h2⟩
            · rintro ⟨h1, h2⟩; exact ⟨by omega, h2⟩
        refine Is.cnd (fun h => ?_) (fun h => ?_)
        · refine Is.bnq (idxS_nat hi) ?_
          rw [wrap_i64 (n := ((s[i]).toNat : Int)) (by omega) (by have := u8_ok s[i]; omega)]
          refine Is.bnq (refHas_ok hF.set (u8_ok _)) (Is.bnq (setL_nat (by omega)) (Is.next ⟨rfl, by simpa using hl, hz _ ?_⟩))
          rw [h]; simp
        · refine Is.bnq (setL_nat (by omega)) (Is.next ⟨rfl, by simpa using hl, hz _ ?_⟩)
          rw [h]; simp
      · rintro ⟨z, _⟩ ⟨rfl, hl, hJ⟩
        simp only at hl hJ
        refine Is.df (show ¬ (s.length : Int) < (s.length : Int) by omega) (Is.stop ⟨by show z.length = _; omega, fun j hj => (hJ j (by omega)).trans ?_⟩)
        constructor
        · rintro ⟨_, i', rfl, h1, b, h2, h3⟩
          exact ⟨i', by omega, h1, L_3.2 ⟨b, (seg_one (by omega) hj).2 ⟨rfl, h2⟩, h3⟩⟩
        · rintro ⟨i, hi, h1, h⟩
          obtain ⟨b, hb2, h3⟩ := L_3.1 h
          obtain ⟨rfl, h2⟩ := (seg_one hi hj).1 hb2
          exact ⟨by omega, i, rfl, h1, b, h2, h3⟩
    · refine Is.cf rfl (Is.cf rfl (Is.ct rfl ?_))
      refine Is.upto (fun i (z : List Bool × Int) => z.2 = (i : Int) ∧ Ends (LC (l.take i)) (bytesOf s) fr z.1) l.length (by omega) ⟨rfl, hfrE⟩ ?_ ?_
      · rintro i ⟨z, _⟩ hi ⟨rfl, hJ⟩
        simp only at hJ
        refine Is.dt (show (i : Int) < (l.length : Int) by omega) (Is.bnq (idxL_nat hi) (Is.bnd (hk _ (List.getElem_mem hi) z (by have := hJ.1; omega)) fun r hr => Is.bnq (chk_succ (by omega)) (Is.next ⟨rfl, ?_⟩)))
        refine (hJ.comp hr).congr fun u => ?_
        rw [List.take_add_one, List.getElem?_eq_getElem hi]
        show _ ↔ LC (l.take i ++ [l[i]]) u
        rw [LC_append]
        simp only [LC_single]
      · rintro ⟨z, _⟩ ⟨rfl, hJ⟩
        refine Is.df (show ¬ (l.length : Int) < (l.length : Int) by omega) (Is.stop ?_)
        rw [List.take_length] at hJ
        exact hJ.congr fun u => L_4.symm
    · refine Is.cf rfl (Is.cf rfl (Is.cf rfl (Is.ct rfl ?_)))
      refine Is.upto (fun i (z : List Bool × Int) => z.2 = (i : Int) ∧ Ends (LU (l.take i)) (bytesOf s) fr z.1) l.length (by omega) ⟨rfl, ?_⟩ ?_ ?_
      · refine ⟨by simp [hb], fun j hj => ?_⟩
        show ix (List.replicate (s.length + 1) false) j = true ↔ _
        rw [ix_rep]
        simp [LU]
      · rintro i ⟨z, _⟩ hi ⟨rfl, hJ⟩
        simp only at hJ
        refine Is.dt (show (i : Int) < (l.length : Int) by omega) ?_
        refine Is.bnd (P := fun r => Ends (LU (l.take (i + 1))) (bytesOf s) fr r) ?_ (fun r hr => Is.bnq (chk_succ (by omega)) (Is.next ⟨rfl, hr⟩))
        refine Is.bnq (idxL_nat hi) (Is.bnd (hk _ (List.getElem_mem hi) fr hfr) fun r hr => ?_)
        have hr1 := hr.1
        have hJ1 := hJ.1
        refine or_loop (n := s.length + 1) (a := z) (b := r) (by omega) (by omega) (by omega) (fun k st hk hl => ?_) (fun st hl hst => ⟨st, ?_, by omega, fun j hj => ?_⟩)
        · simp only [dec_t (show (k : Int) < (r.length : Int) by omega), cond_true, ix_get (show k < st.length by omega), Option.bind_some]
          cases hix : ix st k
          · simp only [cond_false, ix_get (show k < r.length by omega), Option.bind_some, setL_nat (show k < st.length by omega), chk_succ (show k < 9223372036854775807 by omega)]
            rfl
          · simp only [cond_true, Option.bind_some, setL_nat (show k < st.length by omega), chk_succ (show k < 9223372036854775807 by omega)]
            rfl
        · simp only [dec_f (show ¬ (((s.length + 1 : Nat) : Int) < (r.length : Int)) by omega), cond_false]
        · rw [hst j (by omega), Bool.or_eq_true, hJ.2 j hj, hr.2 j hj]
          have e : ∀ u, LU (l.take (i + 1)) u ↔ LU (l.take i) u ∨ L l[i] u := by
            intro u
            rw [LU_iff, LU_iff, List.take_add_one, List.getElem?_eq_getElem hi]
            simp only [Option.toList, List.mem_append, List.mem_singleton]
            constructor
            · rintro ⟨y, hy | rfl, h⟩
              · exact .inl ⟨y, hy, h⟩
              · exact .inr h
            · rintro (⟨y, hy, h⟩ | h)
              · exact ⟨y, .inl hy, h⟩
              · exact ⟨_, .inr rfl, h⟩
          constructor
          · rintro (⟨i0, a, b, c⟩ | ⟨i0, a, b, c⟩)
            · exact ⟨i0, a, b, (e _).2 (.inl c)⟩
            · exact ⟨i0, a, b, (e _).2 (.inr c)⟩
          · rintro ⟨i0, a, b, c⟩
            rcases (e _).1 c with c | c
            · exact .inl ⟨i0, a, b, c⟩
            · exact .inr ⟨i0, a, b, c⟩
      · rintro ⟨z, _⟩ ⟨rfl, hJ⟩
        refine Is.df (show ¬ (l.length : Int) < (l.length : Int) by omega) (Is.stop ?_)
        rw [List.take_length] at hJ
        exact hJ.congr fun u => L_5.symm
    · refine Is.cf rfl (Is.cf rfl (Is.cf rfl (Is.cf rfl (Is.ct rfl ?_))))
      obtain ⟨s', y, e, hy⟩ := star_eq hF.cn rfl
      cases e
      have hky := hk y (by simp)
      refine Is.while (fun (z : List Bool × Bool) => z.1.length = s.length + 1 ∧ (∀ j, j ≤ s.length → ix fr j = true → ix z.1 j = true) ∧ (∀ j, j ≤ s.length → ix z.1 j = true → ∃ i, i ≤ j ∧ ix fr i = true ∧ St (L y) (seg (bytesOf s) i j)) ∧
          (z.2 = false → ∀ i j, i ≤ j → j ≤ s.length → ix z.1 i = true → L y (seg (bytesOf s) i j) → ix z.1 j = true)) (fun z => cntF (ix z.1) (s.length + 1) + (bif z.2 then 1 else 0))
        ⟨hfr, fun _ _ h => h, fun j _ h => ⟨j, Nat.le_refl _, h, by rw [seg_self]; exact .nil⟩, fun h => by cases h⟩ ?_ ?_
      · have := cntF_bound (ix fr) (s.length + 1)
        simp only [cond_true]; omega
      · rintro ⟨z, more⟩ ⟨hzl, hz1, hz2, hz3⟩
        simp only at hzl hz1 hz2 hz3
        cases more with
        | false =>
          refine Is.cf rfl (Is.stop ⟨by show z.length = _; omega, fun j hj => ?_⟩)
          rw [L_6_iff]
          refine ⟨fun h => hz2 j (by omega) h, ?_⟩
          rintro ⟨i, hi, h1, h2⟩
          have key : ∀ u, St (L y) u → ∀ i, i ≤ j → ix z i = true → seg (bytesOf s) i j = u → ix z j = true := by
            intro u hu
            induction hu with
            | nil =>
              intro i hi h1 e
              rw [(seg_nil hi hj).1 e] at h1
              exact h1
            | @cons u v hu hv ihv =>
              intro i hi h1 e
              obtain ⟨m, h2, h3, h4, h5⟩ := (seg_split hi hj (· = u) (· = v)).1 ⟨u, v, e, rfl, rfl⟩
              exact ihv m h3 (hz3 rfl i m h2 (by omega) h1 (h4 ▸ hu)) h5
          exact key _ h2 i hi (hz1 i (by omega) h1) rfl
        | true =>
          refine Is.ct rfl (Is.bnq (idxL_nat (i := 0) (by simp)) ?_)
          refine Is.bnd (hky z hzl) fun r hr => ?_
          have hr1 := hr.1
          refine Is.upto (fun k (q : List Bool × Bool × Int) => q.2.2 = (k : Int) ∧ q.1.length = s.length + 1 ∧ (∀ j, j < s.length + 1 → ix q.1 j = (ix z j || (decide (j < k) && ix r j))) ∧ (q.2.1 = true ↔ ∃ j, j < k ∧ ix r j = true ∧ ix z j = false)) (s.length + 1) (by omega)
            ⟨rfl, hzl, by simp, by simp⟩ ?_ ?_
          · rintro k ⟨q, mo, _⟩ hk ⟨rfl, hl, hJ, hmo⟩
            simp only at hl hJ hmo
            dsimp only
            have hkk := hJ k hk
            rw [dec_f (by omega : ¬ k < k), Bool.false_and, Bool.or_false] at hkk
            refine Is.dt (show (k : Int) < (r.length : Int) by omega) ?_
            refine Is.bnd (P := fun b => b = (mo || (ix r k && !ix z k))) ?_ ?_
            · refine Is.cnd (fun h => Is.pure (by rw [h]; rfl)) (fun h => ?_)
              rw [h]
              refine Is.bnq (ix_get (by omega)) (Is.cnd (fun h => ?_) (fun h => Is.pure (by rw [h]; rfl)))
              rw [h]
              exact Is.bnq (ix_get (by omega)) (Is.pure (by rw [hkk]; rfl))
            · rintro _ rfl
              have hm2 : ((mo || (ix r k && !ix z k)) = true ↔ ∃ j, j < k + 1 ∧ ix r j = true ∧ ix z j = false) := by
                rw [Bool.or_eq_true, hmo]
                constructor
                · rintro (⟨j, a, b⟩ | h)
                  · exact ⟨j, by omega, b⟩
                  · exact ⟨k, by omega, by simpa using h⟩
                · rintro ⟨j, a, b⟩
                  by_cases e : j = k
                  · subst e; right; simpa using b
                  · left; exact ⟨j, by omega, b⟩
              refine Is.bnq (ix_get (by omega)) (Is.cnd (fun h => ?_) (fun h => ?_))
              · refine Is.bnq (setL_nat (by omega)) (Is.bnq (chk_succ (by omega)) (Is.next ⟨rfl, by simpa using hl, fun j hj => ?_, hm2⟩))
                show ix (q.set k true) j = _
                rw [ix_set (by omega)]
                by_cases e : j = k
                · subst e; rw [if_pos rfl, ← hkk, h]; rfl
                · rw [if_neg e, hJ j hj]
                  congr 2
                  exact decide_eq_decide.2 (by omega)
              · refine Is.bnq (ix_get (by omega)) (Is.bnq (setL_nat (by omega)) (Is.bnq (chk_succ (by omega)) (Is.next ⟨rfl, by simpa using hl, fun j hj => ?_, hm2⟩)))
                show ix (q.set k (ix r k)) j = _
                rw [ix_set (by omega)]
                by_cases e : j = k
                · subst e; rw [if_pos rfl, ← hkk, h, dec_t (by omega : j < j + 1)]; simp
                · rw [if_neg e, hJ j hj]
                  congr 2
                  exact decide_eq_decide.2 (by omega)
          · rintro ⟨q, mo, _⟩ ⟨rfl, hl, hJ, hmo⟩
            simp only at hl hJ hmo
            have hJ : ∀ j, j < s.length + 1 → ix q j = (ix z j || ix r j) := fun j hj => by rw [hJ j hj, dec_t hj, Bool.true_and]
            refine Is.df (show ¬ (((s.length + 1 : Nat) : Int) < (r.length : Int)) by omega) (Is.stop ?_)
            refine ⟨⟨hl, fun j hj h => ?_, fun j hj h => ?_, fun hm i j hi hj h1 h2 => ?_⟩, ?_⟩
            · show ix q j = true
              rw [hJ j (by omega), hz1 j hj h]; rfl
            · have h : ix q j = true := h
              rw [hJ j (by omega), Bool.or_eq_true] at h
              rcases h with h | h
              · exact hz2 j hj h
              · obtain ⟨m, hm, h1, h2⟩ := (hr.2 j (by omega)).1 h
                obtain ⟨i, hi, h3, h4⟩ := hz2 m (by omega) h1
                refine ⟨i, by omega, h3, ?_⟩
                obtain ⟨u, v, e, hu, hv⟩ := (seg_split (by omega) (by omega : j ≤ (bytesOf s).length) (St (L y)) (L y)).2 ⟨m, hi, hm, h4, h2⟩
                rw [e]
                exact St_snoc hu hv
            · have hm : mo = false := hm
              have hno : ∀ j, j < s.length + 1 → ix r j = true → ix z j = true := by
                intro j hj h
                cases hz : ix z j
                · rw [hm] at hmo
                  exact absurd (hmo.2 ⟨j, hj, h, hz⟩) (by simp)
                · rfl
              have h1 : ix q i = true := h1
              rw [hJ i (by omega), Bool.or_eq_true] at h1
              have h1 : ix z i = true := h1.elim id (hno i (by omega))
              show ix q j = true
              rw [hJ j (by omega), Bool.or_eq_true]
              right
              exact (hr.2 j (by omega)).2 ⟨i, hi, h1, h2⟩
            · have mono : ∀ j, j < s.length + 1 → ix z j = true → ix q j = true := fun j hj h => by rw [hJ j hj, h]; rfl
              show cntF (ix q) (s.length + 1) + (bif mo then 1 else 0) < cntF (ix z) (s.length + 1) + 1
              cases mo with
              | false => have := cntF_le mono; simp only [cond_false]; omega
              | true =>
                obtain ⟨j, hj, h1, h2⟩ := hmo.1 rfl
                have := cntF_lt mono hj h2 (by rw [hJ j hj, h1, h2]; rfl)
                simp only [cond_true]; omega
    · refine Is.cf (beq_f h2) (Is.cf (beq_f h3) (Is.cf (beq_f h4) (Is.cf (beq_f h5) (Is.cf (beq_f h6) (Is.pure ⟨by simp [hb], fun j hj => ?_⟩)))))
      rw [ix_rep]
      refine ⟨fun h => by simp at h, ?_⟩
      rintro ⟨i, _, _, h⟩
      exact absurd h (L_0 h2 h3 h4 h5 h6)
theorem refMatch_ok {x : T_Regex} (hF : FH x) {s : Str} (hs : s.length ≤ 1000000) : M.ref08_Match x s = some (decide (L x (bytesOf s))) := by
  refine Is.eq ?_
  unfold M.ref08_Match
  refine Is.bnq (chk_succ (i := s.length) (by omega)) (Is.bnq (mkM_nat (n := s.length + 1) (by omega)) (Is.bnq (setL_nat (i := 0) (by simp)) ?_))
  refine Is.bnd (ends_ok fuel x hF.1 hF.2 s _ hs (by simp)) fun r hr => ?_
  have hb := bytes_len s
  have hl := hr.1
  refine Is.bnq (ix_get (by omega)) (Is.pure ?_)
  have h0 : ∀ i, ix ((List.replicate (s.length + 1) false).set 0 true) i = true ↔ i = 0 := by
    intro i
    rw [ix_set (by simp)]
    by_cases e : i = 0
    · rw [if_pos e]; simp [e]
    · rw [if_neg e, ix_rep]; simp [e]
  have hseg : seg (bytesOf s) 0 s.length = bytesOf s := by unfold seg; rw [← hb, List.take_length]; rfl
  have key : ix r s.length = true ↔ L x (bytesOf s) := by
    rw [hr.2 s.length (by omega)]
    constructor
    · rintro ⟨i, _, h1, h2⟩
      rw [(h0 i).1 h1, hseg] at h2
      exact h2
    · exact fun h => ⟨0, by omega, (h0 0).2 rfl, by rw [hseg]; exact h⟩
  rw [Bool.eq_iff_iff, key]
  simp
end Go.Proofs.YtffienmbeifioaaDoor
