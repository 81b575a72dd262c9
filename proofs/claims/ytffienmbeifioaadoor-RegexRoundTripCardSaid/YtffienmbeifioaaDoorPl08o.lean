/- Plain facts on layer 8: the two texts of an expression are equal; the law on Format. -/
import Derived.Test.YtffienmbeifioaaDoorPl08g
import Derived.Test.YtffienmbeifioaaDoorPl08m
namespace Go.Proofs.YtffienmbeifioaaDoor
open Go.Lx

/-- Fit for a text. -/
inductive Fm : T_Regex → Prop where
  | mk (x : T_Regex) : W4 x.Set → (x.Kind = 2 ∨ x.Kind = 3 ∨ x.Kind = 4 ∨ x.Kind = 5 ∨ x.Kind = 6) → (x.Kind = 3 → elems x.Set ≠ [] ∧ (W1 x.Set = true ∨ W1 (vcompl x.Set) = true ∧ elems (vcompl x.Set) ≠ [])) →
      (x.Kind = 6 → ∃ y, x.Kids = [y]) → (∀ y ∈ x.Kids, Fm y) → Fm x
theorem Fm.set {x} (h : Fm x) : W4 x.Set := by cases h; assumption
theorem Fm.kind {x} (h : Fm x) : x.Kind = 2 ∨ x.Kind = 3 ∨ x.Kind = 4 ∨ x.Kind = 5 ∨ x.Kind = 6 := by cases h; assumption
theorem Fm.chars {x} (h : Fm x) : x.Kind = 3 → elems x.Set ≠ [] ∧ (W1 x.Set = true ∨ W1 (vcompl x.Set) = true ∧ elems (vcompl x.Set) ≠ []) := by cases h; assumption
theorem Fm.star {x} (h : Fm x) : x.Kind = 6 → ∃ y, x.Kids = [y] := by cases h; assumption
theorem Fm.kids {x} (h : Fm x) : ∀ y ∈ x.Kids, Fm y := by cases h; assumption
def par (b : Bool) (t : Str) : Str := bif b then 40 :: (t ++ [41]) else t
mutual
def fmt : T_Regex → Str
  | ⟨k, s, l⟩ => bif k == 3 then stxt s else bif k == 6 then (fmtS l [2, 4, 5, 6]).flatten ++ [42] else bif k == 4 then (fmtS l [4, 5]).flatten else bif k == 5 then [124].intercalate (fmtS l [5]) else [40, 41]
def fmtS : List T_Regex → List Int → List Str
  | [], _ => []
  | y :: l, ks => par (ks.contains y.Kind) (fmt y) :: fmtS l ks
end
theorem fmtS_len (l : List T_Regex) (ks : List Int) : (fmtS l ks).length = l.length := by
  induction l with
  | nil => rfl
  | cons y l ih => simp [fmtS, ih]
theorem fmtS_append (l m : List T_Regex) (ks : List Int) : fmtS (l ++ m) ks = fmtS l ks ++ fmtS m ks := by
  induction l with
  | nil => rfl
  | cons y l ih => simp [fmtS, ih]
theorem inter_snoc (sep x : Str) : ∀ xs : List Str, sep.intercalate (xs ++ [x]) = (if xs = [] then x else sep.intercalate xs ++ sep ++ x)
  | [] => by simp [List.intercalate]
  | [a] => by simp [List.intercalate]
  | a :: b :: xs => by
    have := inter_snoc sep x (b :: xs)
    simp only [List.cons_append] at this ⊢
    rw [if_neg (by simp)] at this ⊢
    simp only [List.intercalate, List.intersperse, List.flatten_cons] at this ⊢
    rw [this]
    simp [List.append_assoc]
theorem inter_nil : ∀ xs : List Str, ([] : Str).intercalate xs = xs.flatten
  | [] => rfl
  | [a] => by simp [List.intercalate]
  | a :: b :: xs => by
    have := inter_nil (b :: xs)
    simp only [List.intercalate, List.intersperse, List.flatten_cons] at this ⊢
    rw [this]
    simp
def total (xs : List Str) : Nat := xs.flatten.length
theorem inter_len (xs : List Str) : ([124] : Str).intercalate xs = ([124] : Str).intercalate xs ∧ (([124] : Str).intercalate xs).length ≤ xs.flatten.length + xs.length := by
  refine ⟨rfl, ?_⟩
  match xs with
  | [] => simp [List.intercalate]
  | [a] => simp [List.intercalate]
  | a :: b :: xs =>
    have := (inter_len (b :: xs)).2
    simp only [List.intercalate, List.intersperse, List.flatten_cons, List.length_append, List.length_cons, List.length_nil] at this ⊢
    omega
theorem stxt_len (v : Vec 4) : (stxt v).length ≤ 1300 := by
  unfold stxt
  have h1 := txt_le v
  have h2 := txt_le (vcompl v)
  have h3 := wch_len false ((elems v).headD 0)
  split
  · simp
  · split
    · omega
    · split
      · simp only [List.length_cons, List.length_append, List.length_nil]; omega
      · simp only [List.length_cons, List.length_append, List.length_nil]; omega
theorem par_len (b : Bool) (t : Str) : (par b t).length ≤ t.length + 2 := by
  unfold par
  cases b
  · simp
  · simp only [cond_true, List.length_cons, List.length_append, List.length_nil]; omega
theorem fmtS_total {l : List T_Regex} {ks : List Int} (h : ∀ y ∈ l, (fmt y).length + 3 ≤ 1400 * parts y) : (fmtS l ks).flatten.length + l.length ≤ 1400 * partsL l := by
  induction l with
  | nil => simp [fmtS]
  | cons y l ih =>
    have h1 := h y (by simp)
    have h2 := ih fun z hz => h z (by simp [hz])
    have h3 := par_len (ks.contains y.Kind) (fmt y)
    rw [fmtS, List.flatten_cons, List.length_append, List.length_cons, partsL, Nat.mul_add]
    omega
theorem fmt_len : ∀ x, (fmt x).length + 3 ≤ 1400 * parts x := by
  refine T_Regex.ind fun k s l ih => ?_
  have h1 := stxt_len s
  have h2 := fmtS_total (ks := [2, 4, 5, 6]) ih
  have h3 := fmtS_total (ks := [4, 5]) ih
  have h4 := fmtS_total (ks := [5]) ih
  have h5 := (inter_len (fmtS l [5])).2
  rw [fmtS_len] at h5
  rw [fmt, parts]
  cases k == 3
  · cases k == 6
    · cases k == 4
      · cases k == 5
        · simp only [cond_false, List.length_cons, List.length_nil]; omega
        · simp only [cond_false, cond_true]; omega
      · simp only [cond_false, cond_true]; omega
    · simp only [cond_false, cond_true, List.length_append, List.length_singleton]; omega
  · simp only [cond_true]; omega

/-! ### the program -/
theorem kinds_loop {fl : Nat} {x : T_Regex} {t : Str} (ht : M.regex_Format fl x = some t) (hl : t.length ≤ 100000000) {ks : List Int} (hk : ks.length ≤ 100) : M.regex_Format_1 (fl + 1) x ks = some (par (ks.contains x.Kind) t) := by
  unfold M.regex_Format_1
  refine Is.eq ?_
  refine Is.bs (P := fun _ => ks.contains x.Kind = false) (Q := fun r => r = par (ks.contains x.Kind) t) ?_ (fun _ h => Is.bnq ht (Is.pure (by rw [h]; rfl)))
  refine Is.upto (fun i (st : Int) => st = (i : Int) ∧ (ks.take i).contains x.Kind = false) ks.length (by omega) ⟨rfl, by simp⟩ ?_ ?_
  · rintro i _ hi ⟨rfl, hJ⟩
    refine Is.dt (by omega) (Is.bnq (idxL_nat hi) (Is.cnd (fun h => ?_) (fun h => ?_)))
    · have hc : ks.contains x.Kind = true := by
        rw [of_beq_t h]; simp
      refine Is.bnq ht (Is.bnq (cat_ok (by simp only [List.length_singleton]; omega)) (Is.bnq (cat_ok (by simp only [List.length_append, List.length_singleton]; omega)) (Is.stop ?_)))
      show _ = par (ks.contains x.Kind) t
      rw [hc]
      simp [par]
    · refine Is.bnq (chk_succ (by omega)) (Is.next ⟨rfl, ?_⟩)
      rw [List.take_add_one, List.getElem?_eq_getElem hi, List.contains_append, hJ]
      simpa using of_beq_f h
  · rintro _ ⟨rfl, hJ⟩
    rw [List.take_length] at hJ
    exact Is.df (by omega) (Is.stop hJ)
theorem join_ok {l : List Str} {sep : Str} (h1 : l.length ≤ 100000000) (h2 : (sep.intercalate l).length ≤ 100000000) : M.strings_Join l sep = some (sep.intercalate l) := by
  unfold M.strings_Join
  rw [if_pos ⟨by omega, by show (sep.intercalate l).length ≤ _; omega⟩]
  rfl
theorem list_loop {fl : Nat} {l : List T_Regex} {ks : List Int} (h : ∀ y ∈ l, M.regex_Format_1 fl y ks = some (par (ks.contains y.Kind) (fmt y))) (hl : l.length ≤ 100000) {body : List Str × Int → Option (Step (List Str × Int) (List Str))}
    (hb : ∀ a i, body (a, i) = bif (decide (i < (l.length : Int))) then (idxL l i).bind fun e7 => (M.regex_Format_1 fl e7 ks).bind fun rv9 => (appM 16 a [rv9]).bind fun l4 => (chk .i64 (i + 1)).bind fun t6 => some (.next (l4, t6)) else some (.stop a)) :
    loopM body fuel (([] : List Str), (0 : Int)) = some (fmtS l ks) := by
  refine Is.eq ?_
  refine Is.upto (fun i (st : List Str × Int) => st.2 = (i : Int) ∧ st.1 = fmtS (l.take i) ks) l.length (by omega) ⟨rfl, rfl⟩ ?_ ?_
  · rintro i ⟨a, _⟩ hi ⟨rfl, h1⟩
    obtain rfl : a = _ := h1
    rw [hb]
    refine Is.dt (by omega) (Is.bnq (idxL_nat hi) (Is.bnq (h _ (List.getElem_mem hi)) (Is.bnq (appM_ok (by rw [fmtS_len, List.length_take]; simp only [List.length_singleton]; omega)) (Is.bnq (chk_succ (by omega)) (Is.next ⟨rfl, ?_⟩)))))
    rw [List.take_add_one, List.getElem?_eq_getElem hi, fmtS_append]
    rfl
  · rintro ⟨a, _⟩ ⟨rfl, h1⟩
    obtain rfl : a = _ := h1
    rw [hb]
    refine Is.df (by omega) (Is.stop ?_)
    rw [List.take_length]
theorem Format_ok : ∀ x, Fm x → parts x ≤ 2000 → ∀ fl, 2 * height x < fl → M.regex_Format fl x = some (fmt x) := by
  refine T_Regex.ind fun k s l ih hF hp fl hfl => ?_
  have hpl : partsL l + 1 ≤ 2000 := hp
  have hhl : height (⟨k, s, l⟩ : T_Regex) = heightL l + 1 := rfl
  have hll := len_parts l
  obtain ⟨fl, rfl⟩ : ∃ f, fl = f + 2 := ⟨fl - 2, by omega⟩
  have hk : ∀ y ∈ l, ∀ ks : List Int, ks.length ≤ 100 → M.regex_Format_1 (fl + 1) y ks = some (par (ks.contains y.Kind) (fmt y)) := by
    intro y hy ks hks
    have h1 := parts_mem hy
    have h2 := height_mem hy
    have := fmt_len y
    exact kinds_loop (ih y hy (hF.kids y hy) (by omega) fl (by omega)) (by omega) hks
  have hfy : ∀ y ∈ l, (fmt y).length + 3 ≤ 1400 * parts y := fun y _ => fmt_len y
  unfold M.regex_Format
  refine Is.eq ?_
  rw [fmt]
  have hkind := hF.kind
  simp only at hkind
  rcases hkind with rfl | rfl | rfl | rfl | rfl
  · exact Is.cf rfl (Is.cf rfl (Is.cf rfl (Is.cf rfl (Is.pure rfl))))
  · exact Is.ct rfl (Is.bnq (formatSet_ok hF.set ((hF.chars rfl).2.imp_right And.left)) (Is.pure rfl))
  · refine Is.cf rfl (Is.cf rfl (Is.ct rfl ?_))
    have h3 := fmtS_total (ks := [4, 5]) hfy
    refine Is.bnq (list_loop (fun y hy => hk y hy [4, 5] (by simp)) (by omega) (fun _ _ => rfl)) (Is.bnq (join_ok (by rw [fmtS_len]; omega) (by rw [inter_nil]; omega)) (Is.pure ?_))
    rw [inter_nil]; rfl
  · refine Is.cf rfl (Is.cf rfl (Is.cf rfl (Is.ct rfl ?_)))
    have h3 := fmtS_total (ks := [5]) hfy
    have h5 := (inter_len (fmtS l [5])).2
    rw [fmtS_len] at h5
    exact Is.bnq (list_loop (fun y hy => hk y hy [5] (by simp)) (by omega) (fun _ _ => rfl)) (Is.bnq (join_ok (by rw [fmtS_len]; omega) (by omega)) (Is.pure rfl))
  · refine Is.cf rfl (Is.ct rfl ?_)
    obtain ⟨y, hy⟩ := hF.star rfl
    simp only at hy
    subst hy
    have := fmt_len y
    have h2 := par_len (([2, 4, 5, 6] : List Int).contains y.Kind) (fmt y)
    have hpy : parts y ≤ partsL [y] := parts_mem (by simp)
    refine Is.bnq (idxL_nat (i := 0) (by simp)) (Is.bnq (hk y (by simp) [2, 4, 5, 6] (by simp)) (Is.bnq (cat_ok (by simp only [List.length_singleton]; omega)) (Is.pure ?_)))
    simp [fmtS]

/-! ### the reference -/
theorem group_ok' {fl : Nat} {y : T_Regex} {t : Str} (ht : M.ref08_Format fl y = some t) (hl : t.length ≤ 100000000) (b : Bool) : M.ref08_group (fl + 1) y b = some (par b t) := by
  unfold M.ref08_group
  refine Is.eq (Is.cnd (fun h => ?_) (fun h => ?_))
  · refine Is.bnq ht (Is.bnq (cat_ok (by simp only [List.length_singleton]; omega)) (Is.bnq (cat_ok (by simp only [List.length_append, List.length_singleton]; omega)) (Is.pure ?_)))
    rw [h]; simp [par]
  · refine Is.bnq ht (Is.pure ?_)
    rw [h]; rfl
theorem con45 (k : Int) : ([4, 5] : List Int).contains k = (k == 5 || k == 4) := by
  simp only [List.contains_cons, List.contains_nil, Bool.or_false]
  exact Bool.or_comm _ _
theorem con5 (k : Int) : ([5] : List Int).contains k = (k == 5) := by simp only [List.contains_cons, List.contains_nil, Bool.or_false]
theorem con2456 {k : Int} (h : k = 2 ∨ k = 3 ∨ k = 4 ∨ k = 5 ∨ k = 6) : ([2, 4, 5, 6] : List Int).contains k = (k != 3) := by
  rcases h with rfl | rfl | rfl | rfl | rfl <;> rfl
theorem refFormat_ok : ∀ x, Fm x → parts x ≤ 2000 → ∀ fl, 2 * height x < fl → M.ref08_Format fl x = some (fmt x) := by
  refine T_Regex.ind fun k s l ih hF hp fl hfl => ?_
  have hpl : partsL l + 1 ≤ 2000 := hp
  have hhl : height (⟨k, s, l⟩ : T_Regex) = heightL l + 1 := rfl
  have hll := len_parts l
  obtain ⟨fl, rfl⟩ : ∃ f, fl = f + 2 := ⟨fl - 2, by omega⟩
  have hk : ∀ y ∈ l, ∀ b, M.ref08_group (fl + 1) y b = some (par b (fmt y)) := by
    intro y hy b
    have h1 := parts_mem hy
    have h2 := height_mem hy
    have := fmt_len y
    exact group_ok' (ih y hy (hF.kids y hy) (by omega) fl (by omega)) (by omega) b
  have hfy : ∀ y ∈ l, (fmt y).length + 3 ≤ 1400 * parts y := fun y _ => fmt_len y
  have hpm : ∀ y ∈ l, (fmt y).length ≤ 2800000 := fun y hy => by have := fmt_len y; have := parts_mem hy; omega
  unfold M.ref08_Format
  refine Is.eq ?_
  rw [fmt]
  have hkind := hF.kind
  simp only at hkind
  have pre : ∀ i (m : List Str), m = fmtS (l.take i) (if k = 5 then [5] else [4, 5]) → m.flatten.length + m.length ≤ 2800000 := by
    intro i m hm
    have h1 := fmtS_total (l := l.take i) (ks := if k = 5 then [5] else [4, 5]) fun y hy => hfy y (List.mem_of_mem_take hy)
    rw [← hm] at h1
    have h2 : partsL (l.take i) ≤ partsL l := by
      have := partsL_append (l.take i) (l.drop i)
      rw [List.take_append_drop] at this
      omega
    have h3 : m.length = (l.take i).length := by rw [hm, fmtS_len]
    omega
  rcases hkind with rfl | rfl | rfl | rfl | rfl
  · exact Is.ct rfl (Is.pure rfl)
  · exact Is.cf rfl (Is.ct rfl (Is.bnq (refset_ok hF.set (hF.chars rfl).1 ((hF.chars rfl).2.imp_right And.left)) (Is.pure rfl)))
  · refine Is.cf rfl (Is.cf rfl (Is.cf rfl ?_))
    refine Is.bnd (P := fun r => r = (fmtS l [4, 5]).flatten) ?_ (fun r hr => Is.pure hr)
    refine Is.upto (fun i (st : Str × Int) => st.2 = (i : Int) ∧ st.1 = (fmtS (l.take i) [4, 5]).flatten) l.length (by omega) ⟨rfl, rfl⟩ ?_ ?_
    · rintro i ⟨a, _⟩ hi ⟨rfl, h1⟩
      obtain rfl : a = _ := h1
      have hm := List.getElem_mem hi
      have hpre := pre i _ rfl
      rw [if_neg (by decide)] at hpre
      have hly := hpm _ hm
      have hpl := par_len (([4, 5] : List Int).contains l[i].Kind) (fmt l[i])
      refine Is.dt (show (i : Int) < (l.length : Int) by omega) ?_
      refine Is.bnq (x := (fmtS (l.take i) [4, 5]).flatten ++ par (([4, 5] : List Int).contains l[i].Kind) (fmt l[i])) ?_ (Is.bnq (chk_succ (by omega)) (Is.next ⟨rfl, ?_⟩))
      · refine bind_of (idxL_nat hi) (cnd_f rfl ?_)
        rw [con45] at hpl ⊢
        cases h5 : (l[i].Kind == 5)
        · rw [h5] at hpl
          exact bind_of (hk _ hm _) (bind_of (cat_ok (by simp only [Bool.false_or] at hpl; omega)) rfl)
        · rw [h5] at hpl
          exact bind_of (hk _ hm true) (bind_of (cat_ok (by simp only [Bool.true_or] at hpl; omega)) rfl)
      · rw [List.take_add_one, List.getElem?_eq_getElem hi, fmtS_append]
        simp [fmtS]
    · rintro ⟨a, _⟩ ⟨rfl, h1⟩
      obtain rfl : a = _ := h1
      refine Is.df (show ¬ (l.length : Int) < (l.length : Int) by omega) (Is.stop ?_)
      rw [List.take_length]
  · refine Is.cf rfl (Is.cf rfl (Is.cf rfl ?_))
    refine Is.bnd (P := fun r => r = [124].intercalate (fmtS l [5])) ?_ (fun r hr => Is.pure hr)
    refine Is.upto (fun i (st : Str × Int) => st.2 = (i : Int) ∧ st.1 = [124].intercalate (fmtS (l.take i) [5])) l.length (by omega) ⟨rfl, rfl⟩ ?_ ?_
    · rintro i ⟨a, _⟩ hi ⟨rfl, h1⟩
      obtain rfl : a = _ := h1
      have hm := List.getElem_mem hi
      have hpre := pre i _ rfl
      rw [if_pos rfl] at hpre
      have hin := (inter_len (fmtS (l.take i) [5])).2
      have hly := hpm _ hm
      have hpl := par_len (([5] : List Int).contains l[i].Kind) (fmt l[i])
      refine Is.dt (show (i : Int) < (l.length : Int) by omega) ?_
      refine Is.bnq (x := [124].intercalate (fmtS (l.take (i + 1)) [5])) ?_ (Is.bnq (chk_succ (by omega)) (Is.next ⟨rfl, rfl⟩))
      have e1 : fmtS (l.take (i + 1)) [5] = fmtS (l.take i) [5] ++ [par (([5] : List Int).contains l[i].Kind) (fmt l[i])] := by
        rw [List.take_add_one, List.getElem?_eq_getElem hi, fmtS_append]; rfl
      rw [e1, inter_snoc]
      refine bind_of (idxL_nat hi) (cnd_t rfl ?_)
      rw [con5] at hpl ⊢
      by_cases h0 : i = 0
      · subst h0
        refine bind_of (cnd_f (by simp) rfl) (bind_of (hk _ hm _) (bind_of (cat_ok (by omega)) ?_))
        simp [fmtS, List.intercalate]
      · have hne : fmtS (l.take i) [5] ≠ [] := by
          intro e
          have := congrArg List.length e
          rw [fmtS_len, List.length_take, List.length_nil] at this
          omega
        rw [if_neg hne]
        exact bind_of (cnd_t (dec_t (by omega)) (bind_of (cat_ok (by simp only [List.length_singleton]; omega)) rfl)) (bind_of (hk _ hm _) (bind_of (cat_ok (by simp only [List.length_append, List.length_singleton]; omega)) rfl))
    · rintro ⟨a, _⟩ ⟨rfl, h1⟩
      obtain rfl : a = _ := h1
      refine Is.df (show ¬ (l.length : Int) < (l.length : Int) by omega) (Is.stop ?_)
      rw [List.take_length]
  · refine Is.cf rfl (Is.cf rfl (Is.ct rfl ?_))
    obtain ⟨y, hy⟩ := hF.star rfl
    simp only at hy
    subst hy
    have hly := hpm y (by simp)
    have h2 := par_len (y.Kind != 3) (fmt y)
    refine Is.bnq (idxL_nat (i := 0) (by simp)) (Is.bnq (hk y (by simp) _) (Is.bnq (cat_ok (by simp only [List.length_singleton]; show (par (y.Kind != 3) (fmt y)).length + 1 ≤ _; omega)) (Is.pure ?_)))
    show par (y.Kind != 3) (fmt y) ++ [42] = (fmtS [y] [2, 4, 5, 6]).flatten ++ [42]
    rw [fmtS, con2456 (hF.kids y (by simp)).kind]
    simp [fmtS]

/-! ### printable -/
theorem elems_ne {v : Vec 4} (hv : W4 v) (h : v ≠ Vec.zero 4) : elems v ≠ [] := by
  intro he
  refine h (set_ext hv W4_zero fun b hb => ?_)
  rw [mem_zero]
  cases hm : mem v b
  · rfl
  · have : b ∈ elems v := List.mem_filter.2 ⟨List.mem_range.2 hb, hm⟩
    rw [he] at this; cases this
theorem refwritable_gen {v : Vec 4} (hv : W4 v) : Is (M.ref08_writable v) (fun r => r = true → W1 v = true ∧ elems v ≠ []) := by
  by_cases hne : elems v = []
  · have hz : v = Vec.zero 4 := Classical.byContradiction fun h => elems_ne hv h hne
    have hz2 : (v != Vec.zero 4) = false := by rw [bne, vec_t hz]; rfl
    unfold M.ref08_writable
    refine Is.bs (P := fun _ => True) (Q := fun r => r = true → W1 v = true ∧ elems v ≠ []) ?_ (fun _ _ => Is.pure (by rw [hz2]; simp))
    refine Is.upto (fun b (st : Int) => st = (b : Int)) 256 (by omega) rfl ?_ ?_
    · rintro b _ hb rfl
      have hm : mem v b = false := by rw [hz, mem_zero]
      exact Is.dt (by omega) (Is.bnq (x := false) (bind_of (refHas_ok hv hb) (cnd_f hm rfl)) (Is.cf rfl (Is.bnq (chk_succ (by omega)) (Is.next rfl))))
    · rintro _ rfl
      exact Is.df (by decide) (Is.stop trivial)
  · exact Is.of (refwritable_ok hv hne) fun h => ⟨h, hne⟩
inductive Pr : T_Regex → Prop where
  | mk (x : T_Regex) : x.Kind ≠ 1 → (x.Kind = 3 → W1 x.Set = true ∨ W1 (vcompl x.Set) = true ∧ elems (vcompl x.Set) ≠ []) → (∀ y ∈ x.Kids, Pr y) → Pr x
theorem Printable_ok : ∀ fl x, Fit x → height x < fl → Is (M.ref08_Printable fl x) (fun b => b = true → Pr x) := by
  intro fl
  induction fl with
  | zero => intro a _ h; omega
  | succ fl ih =>
    rintro ⟨k, s, l⟩ hF hh
    have hl : l.length ≤ 9223372036854775807 := Nat.le_trans hF.len (by decide)
    unfold M.ref08_Printable
    refine Is.bnd (P := fun b => b = false → k ≠ 1 ∧ (k = 3 → W1 s = true ∨ W1 (vcompl s) = true ∧ elems (vcompl s) ≠ [])) ?_ fun b hb => Is.cnd (fun _ => Is.pure (by simp)) (fun h => ?_)
    · refine Is.cnd (fun _ => Is.pure (by simp)) (fun h1 => Is.cnd (fun h3 => ?_) (fun h3 => Is.pure fun _ => ⟨of_beq_f h1, fun e => absurd e (of_beq_f h3)⟩))
      refine Is.bnd (refwritable_gen hF.set) fun r hr => Is.cnd (fun hr2 => ?_) (fun hr2 => Is.pure fun _ => ⟨of_beq_f h1, fun _ => .inl (hr (by simpa using hr2)).1⟩)
      refine Is.bnq (refNot_ok hF.set) (Is.bnd (refwritable_gen (W4_compl hF.set)) fun q hq => Is.pure fun h => ⟨of_beq_f h1, fun _ => .inr (hq (by simpa using h))⟩)
    · obtain ⟨h1, h3⟩ := hb h
      refine Is.bs (P := fun _ => ∀ y ∈ l, Pr y) (Q := fun r => r = true → Pr ⟨k, s, l⟩) ?_ (fun _ h => Is.pure fun _ => .mk _ h1 h3 h)
      refine Is.upto (fun i st => st = (i : Int) ∧ ∀ y ∈ l.take i, Pr y) l.length hl ⟨rfl, by simp⟩ ?_ ?_
      · rintro i _ hi ⟨rfl, hJ⟩
        have hk := height_kid (x := ⟨k, s, l⟩) (List.getElem_mem hi)
        refine Is.dt (show (i : Int) < (l.length : Int) by omega) (Is.bnq (idxL_nat hi) (Is.bnd (ih _ (hF.kids _ (List.getElem_mem hi)) (by omega)) fun b hb => Is.cnd (fun _ => Is.stop (fun h => by cases h)) (fun h => ?_)))
        refine Is.bnq (chk_succ (by omega)) (Is.next ⟨rfl, fun y hy => ?_⟩)
        rw [List.take_add_one, List.getElem?_eq_getElem hi, List.mem_append] at hy
        rcases hy with hy | hy
        · exact hJ y hy
        · rw [List.mem_singleton.1 hy]; exact hb (by simpa using h)
      · rintro _ ⟨rfl, hJ⟩
        refine Is.df (show ¬ (l.length : Int) < (l.length : Int) by omega) (Is.stop ?_)
        rw [List.take_length] at hJ
        exact hJ
theorem shape_kind {k : Int} {s : Vec 4} {n : Nat} (h : shape k s n = true) : k = 1 ∨ k = 2 ∨ k = 3 ∨ k = 4 ∨ k = 5 ∨ k = 6 := by
  refine Classical.byContradiction fun hn => ?_
  unfold shape at h
  rw [beq_f (by omega : k ≠ 1), beq_f (by omega : k ≠ 2), beq_f (by omega : k ≠ 3), beq_f (by omega : k ≠ 4), beq_f (by omega : k ≠ 5), beq_f (by omega : k ≠ 6)] at h
  cases h
theorem shape_3 {s : Vec 4} {n : Nat} (h : shape 3 s n = true) : s ≠ Vec.zero 4 := by
  unfold shape at h
  have : (decide (n = 0) && s != Vec.zero 4) = true := h
  rw [Bool.and_eq_true] at this
  exact bne_iff_ne.1 this.2
theorem fm_of : ∀ x d, okT_Regex x → V d x = true → Pr x → Fm x := by
  refine T_Regex.ind fun k s l ih d ok hv hp => ?_
  obtain ⟨_, h1, h3, hk⟩ := hp
  cases d with
  | zero => cases hv
  | succ d =>
    rw [V, Bool.and_eq_true, List.all_eq_true] at hv
    obtain ⟨hs, hv⟩ := hv
    have hw := w4_of (ok_set ok)
    have hkk := shape_kind hs
    refine .mk _ hw ?_ (fun e => ⟨?_, h3 e⟩) (fun e => ?_) (fun y hy => ih y hy d (ok_kids ok y hy) (hv y hy) (hk y hy))
    · simp only at hkk h1 ⊢
      omega
    · obtain rfl : k = 3 := e
      exact elems_ne hw (shape_3 hs)
    · obtain rfl : k = 6 := e
      exact List.length_eq_one_iff.1 (shape_star hs)
theorem small_full {x : T_Regex} {n : Nat} (ok : okT_Regex x) (hn : n ≤ 900) : Is (M.law08_small x n) (fun b => b = true → parts x ≤ n + 1 ∧ height x ≤ 8 ∧ Fit x ∧ V 30 x = true) := by
  unfold M.law08_small
  refine Is.bnd (P := fun b => b = true → parts x ≤ n + 1 ∧ height x ≤ 8 ∧ Fit x ∧ V 30 x = true) ?_ (fun b hb => Is.pure hb)
  refine Is.bnd (Few_ok ok (by omega)) fun b hb => Is.cnd (fun h => ?_) (fun _ => Is.pure (by simp))
  obtain ⟨h1, h2⟩ := hb h
  refine Is.bnq (refValid_ok ok) (Is.cnd (fun hv => ?_) (fun _ => Is.pure (by simp)))
  refine Is.bnq (Depth_ok fuel x ok (by unfold fuel; omega) (by omega)) (Is.pure fun h3 => ?_)
  have := of_decide_eq_true h3
  exact ⟨h1, by omega, fit_of_valid x 30 ok hv (by omega), hv⟩
theorem law_format (x0 : T_Regex) (ok0 : okT_Regex x0) : M.law08_RegexFormat x0 = some true := by
  refine Is.eq ?_
  unfold M.law08_RegexFormat
  refine Is.bnd (P := fun b => b = false → parts x0 ≤ 61 ∧ height x0 ≤ 8 ∧ Fm x0) ?_ fun b hb => ?_
  · refine Is.bnd (small_full (n := 60) ok0 (by omega)) fun b hb => Is.cnd (fun _ => Is.pure (by simp)) (fun h => ?_)
    obtain ⟨h1, h2, h3, h4⟩ := hb (by simpa using h)
    refine Is.bnd (Printable_ok fuel x0 h3 (by unfold fuel; omega)) fun c hc => Is.pure fun h5 => ⟨h1, h2, fm_of x0 30 ok0 h4 (hc (by simpa using h5))⟩
  refine Is.cnd (fun _ => Is.bnq awake_true (Is.pure rfl)) (fun h => ?_)
  obtain ⟨h1, h2, h3⟩ := hb h
  have e1 := Format_ok x0 h3 (by omega) fuel (by unfold fuel; omega)
  have e2 := refFormat_ok x0 h3 (by omega) fuel (by unfold fuel; omega)
  refine Is.bnq (x := true) ?_ (Is.pure rfl)
  simp only [awake_true, e1, e2, Option.bind_some, cond_true, beq_self_eq_true]
end Go.Proofs.YtffienmbeifioaaDoor
