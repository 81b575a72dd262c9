/- Plain facts on layer 8: both texts of a set, whole. -/
import Derived.Test.YtffienmbeifioaaDoorPl08i
import Derived.Test.YtffienmbeifioaaDoorPl08l
namespace Go.Proofs.YtffienmbeifioaaDoor
open Go.Lx

def W1 (v : Vec 4) : Bool := (elems v).all wrt
def dotS : Vec 4 := vcompl (ofL [10])
def stxt (v : Vec 4) : Str := if v = dotS then [46] else if (elems v).length = 1 ∧ W1 v = true then wch false ((elems v).headD 0) else if W1 v = true then 91 :: (txt (elems v) ++ [93]) else 91 :: 94 :: (txt (elems (vcompl v)) ++ [93])
theorem W1_iff {v : Vec 4} : W1 v = true ↔ ∀ c, c < 256 → mem v c = true → wrt c = true := by
  unfold W1
  rw [List.all_eq_true]
  constructor
  · intro h c h1 h2
    exact h c (List.mem_filter.2 ⟨List.mem_range.2 h1, h2⟩)
  · intro h c hc
    obtain ⟨h1, h2⟩ := elems_lt hc
    exact h c h1 h2
theorem elems_W {v : Vec 4} (h : W1 v = true) : ∀ b ∈ elems v, wrt b = true ∧ b < 256 := fun b hb => ⟨W1_iff.1 h b (elems_lt hb).1 (elems_lt hb).2, (elems_lt hb).1⟩
theorem elems_zero : elems (Vec.zero 4) = [] := List.filter_eq_nil_iff.2 fun b _ => by rw [mem_zero]; simp
theorem vec_f {v u : Vec 4} (h : v ≠ u) : (v == u) = false := beq_eq_false_iff_ne.2 h
theorem vec_t {v u : Vec 4} (h : v = u) : (v == u) = true := beq_iff_eq.2 h
theorem bad_ok : ∀ b : Nat, b < 256 → (bif decide ((b : Int) < 32) then bif ((b : Int) != 10) then some ((b : Int) != 9) else some false else bif decide (126 < (b : Int)) then bif ((b : Int) != 10) then some ((b : Int) != 9) else some false else some false) = some (!wrt b) := by decide +kernel
theorem refwritable_ok {v : Vec 4} (hv : W4 v) (hne : elems v ≠ []) : M.ref08_writable v = some (W1 v) := by
  refine Is.eq ?_
  unfold M.ref08_writable
  have hz : (v != Vec.zero 4) = true := by
    have : v ≠ Vec.zero 4 := fun e => hne (by rw [e, elems_zero])
    simpa using this
  refine Is.bs (P := fun _ => W1 v = true) (Q := fun r => r = W1 v) ?_ (fun _ h => Is.pure (by rw [hz, h]))
  refine Is.upto (fun b (st : Int) => st = (b : Int) ∧ ∀ c, c < b → mem v c = true → wrt c = true) 256 (by omega) ⟨rfl, fun c h => by omega⟩ ?_ ?_
  · rintro b _ hb ⟨rfl, hJ⟩
    refine Is.dt (by omega) ?_
    refine Is.bnq (x := (mem v b && !wrt b)) ?_ (Is.cnd (fun h => ?_) (fun h => ?_))
    · refine bind_of (refHas_ok hv hb) ?_
      cases hm : mem v b
      · rfl
      · exact cnd_t rfl (bad_ok b hb)
    · rw [Bool.and_eq_true] at h
      refine Is.stop ?_
      have : ¬ W1 v = true := fun hW => by
        have := W1_iff.1 hW b hb h.1
        rw [this] at h
        simp at h
      have h0 : W1 v = false := by simpa using this
      exact h0.symm
    · refine Is.bnq (chk_succ (by omega)) (Is.next ⟨rfl, fun c hc hm => ?_⟩)
      by_cases e : c = b
      · subst e
        rw [hm, Bool.true_and] at h
        simpa using h
      · exact hJ c (by omega) hm
  · rintro _ ⟨rfl, hJ⟩
    exact Is.df (by decide) (Is.stop (W1_iff.2 hJ))
theorem refset_ok {v : Vec 4} (hv : W4 v) (hne : elems v ≠ []) (hp : W1 v = true ∨ W1 (vcompl v) = true) : M.ref08_set v = some (stxt v) := by
  refine Is.eq ?_
  unfold M.ref08_set
  refine Is.bnq (dot_eq.symm.trans dot_ok) ?_
  have hl := elems_len v
  by_cases hd : v = dotS
  · exact Is.ct (vec_t hd) (Is.pure (by unfold stxt; rw [if_pos hd]))
  refine Is.cf (vec_f hd) ?_
  refine Is.bnd (P := fun r : Int × Int => r.1 = ((elems v).length : Int) ∧ r.2 = (((elems v).getLastD 0 : Nat) : Int)) ?_ ?_
  · refine Is.upto (fun b (st : Int × Int × Int) => st.2.2 = (b : Int) ∧ st.1 = ((((List.range b).filter (mem v)).length : Nat) : Int) ∧ st.2.1 = ((((List.range b).filter (mem v)).getLastD 0 : Nat) : Int)) 256 (by omega) ⟨rfl, rfl, rfl⟩ ?_ ?_
    · rintro b ⟨n, o, _⟩ hb ⟨rfl, h1, h2⟩
      obtain rfl : n = _ := h1
      obtain rfl : o = _ := h2
      have hlb : ((List.range b).filter (mem v)).length ≤ b := Nat.le_trans (List.length_filter_le _ _) (by simp)
      refine Is.dt (show (b : Int) < 256 by omega) ?_
      cases hm : mem v b
      · refine Is.bnq (bind_of (refHas_ok hv hb) (cnd_f hm rfl)) (Is.bnq (chk_succ (by omega)) (Is.next ⟨rfl, ?_, ?_⟩))
        · rw [List.range_succ, List.filter_append, List.filter_cons, if_neg (by rw [hm]; simp)]; simp
        · rw [List.range_succ, List.filter_append, List.filter_cons, if_neg (by rw [hm]; simp)]; simp
      · refine Is.bnq (bind_of (refHas_ok hv hb) (cnd_t hm (bind_of (chk_succ (by omega)) rfl))) (Is.bnq (chk_succ (by omega)) (Is.next ⟨rfl, ?_, ?_⟩))
        · rw [List.range_succ, List.filter_append, List.filter_cons, if_pos hm]; simp
        · rw [List.range_succ, List.filter_append, List.filter_cons, if_pos hm]; simp
    · rintro ⟨n, o, _⟩ ⟨rfl, h1, h2⟩
      obtain rfl : n = _ := h1
      obtain rfl : o = _ := h2
      exact Is.df (by decide) (Is.stop ⟨rfl, rfl⟩)
  · rintro ⟨n, o⟩ ⟨h1, h2⟩
    obtain rfl : n = _ := h1
    obtain rfl : o = _ := h2
    have hw := refwritable_ok hv hne
    refine Is.bnq (x := decide ((elems v).length = 1) && W1 v) ?_ (Is.cnd (fun h => ?_) (fun h => ?_))
    · by_cases h1 : (elems v).length = 1
      · exact cnd_t (beq_t (by omega)) (bind_of hw (by rw [decide_eq_true h1]; rfl))
      · exact cnd_f (beq_f (by omega)) (by rw [decide_eq_false h1]; rfl)
    · rw [Bool.and_eq_true, decide_eq_true_eq] at h
      obtain ⟨x, hx⟩ := List.length_eq_one_iff.1 h.1
      have hx256 : x < 256 := (elems_lt (v := v) (by rw [hx]; simp)).1
      unfold stxt
      rw [if_neg hd, if_pos h, hx]
      exact Is.bnq (written_ok false x hx256) (Is.pure rfl)
    · have hn : ¬ ((elems v).length = 1 ∧ W1 v = true) := by
        rintro ⟨a, b⟩
        rw [a, b] at h
        simp at h
      unfold stxt
      rw [if_neg hd, if_neg hn]
      refine Is.bnq hw (Is.cnd (fun hW => ?_) (fun hW => ?_))
      · rw [if_pos hW]
        have := txt_le v
        exact Is.bnq (elements_ok hv (W1_iff.1 hW)) (Is.bnq (cat_ok (by simp only [List.length_singleton]; omega)) (Is.bnq (cat_ok (by simp only [List.length_append, List.length_singleton]; omega)) (Is.pure (by simp))))
      · rw [if_neg (by rw [hW]; simp)]
        have hc : W1 (vcompl v) = true := hp.resolve_left (by rw [hW]; simp)
        have := txt_le (vcompl v)
        exact Is.bnq (refNot_ok hv) (Is.bnq (elements_ok (W4_compl hv) (W1_iff.1 hc)) (Is.bnq (cat_ok (by simp only [List.length_cons, List.length_nil]; omega)) (Is.bnq (cat_ok (by simp only [List.length_append, List.length_cons, List.length_nil]; omega)) (Is.pure (by simp)))))
theorem formatSet_ok {v : Vec 4} (hv : W4 v) (hp : W1 v = true ∨ W1 (vcompl v) = true) : M.regex_formatSet v = some (stxt v) := by
  refine Is.eq ?_
  unfold M.regex_formatSet
  refine Is.bnq dot_ok ?_
  have hl := elems_len v
  by_cases hd : v = dotS
  · exact Is.ct (vec_t hd) (Is.pure (by unfold stxt; rw [if_pos hd]))
  refine Is.cf (vec_f hd) (Is.bnq (bytes_ok hv) ?_)
  show Is (Option.bind (bif (((toI (elems v)).length : Int) == 1) then (idxL (toI (elems v)) 0).bind fun e2 => (M.regex_writable e2).bind fun rv5 => some rv5 else some false) _) _
  refine Is.bnq (x := decide ((elems v).length = 1) && W1 v) ?_ (Is.cnd (fun h => ?_) (fun h => ?_))
  · by_cases h1 : (elems v).length = 1
    · obtain ⟨x, hx⟩ := List.length_eq_one_iff.1 h1
      have hx256 : x < 256 := (elems_lt (v := v) (by rw [hx]; simp)).1
      have hW : W1 v = wrt x := by unfold W1; rw [hx]; simp
      rw [hW, hx]
      exact cnd_t rfl (bind_of (x := ((x : Nat) : Int)) rfl (bind_of (writable_ok x hx256) rfl))
    · exact cnd_f (beq_f (by rw [toI_len]; omega)) (by rw [decide_eq_false h1]; rfl)
  · rw [Bool.and_eq_true, decide_eq_true_eq] at h
    obtain ⟨x, hx⟩ := List.length_eq_one_iff.1 h.1
    have hm : x ∈ elems v := by rw [hx]; simp
    have hw := elems_W h.2 x hm
    unfold stxt
    rw [if_neg hd, if_pos h, hx]
    exact Is.bnq (x := ((x : Nat) : Int)) rfl (Is.bnq (char_out x hw.2 hw.1) (Is.pure rfl))
  · have hn : ¬ ((elems v).length = 1 ∧ W1 v = true) := by
      rintro ⟨a, b⟩
      rw [a, b] at h
      simp at h
    unfold stxt
    rw [if_neg hd, if_neg hn]
    refine Is.bnd (P := fun r : List Int × Str => r = if W1 v = true then (toI (elems v), [91]) else (toI (elems (vcompl v)), [91, 94])) ?_ ?_
    · refine Is.upto (fun i (st : Int) => st = (i : Int) ∧ ((elems v).take i).all wrt = true) (elems v).length (by omega) ⟨rfl, by simp⟩ ?_ ?_
      · rintro i _ hi ⟨rfl, hJ⟩
        have hx256 := (elems_lt (List.getElem_mem hi)).1
        refine Is.dt (show (i : Int) < ((toI (elems v)).length : Int) by rw [toI_len]; omega) (Is.bnq (idx_toI hi) (Is.bnq (writable_ok _ hx256) (Is.cnd (fun h => ?_) (fun h => ?_))))
        · refine Is.bnq (Complement_eq hv) (Is.bnq (bytes_ok (W4_compl hv)) (Is.stop ?_))
          rw [if_neg]
          · rfl
          · intro hW
            have := List.all_eq_true.1 hW _ (List.getElem_mem hi)
            rw [this] at h
            simp at h
        · refine Is.bnq (chk_succ (by omega)) (Is.next ⟨rfl, ?_⟩)
          rw [List.take_add_one, List.all_append, hJ, List.getElem?_eq_getElem hi]
          simpa using h
      · rintro _ ⟨rfl, hJ⟩
        rw [List.take_length] at hJ
        refine Is.df (show ¬ ((elems v).length : Int) < ((toI (elems v)).length : Int) by rw [toI_len]; omega) (Is.stop ?_)
        rw [if_pos (show W1 v = true from hJ)]
        rfl
    · rintro _ rfl
      by_cases hW : W1 v = true
      · rw [if_pos hW, if_pos hW]
        have := txt_le v
        refine Is.bnq (text_loop hl (elems_W hW) (pre := [91]) (by simp) (fun _ _ => rfl)) (Is.bnq (cat_ok (by simp only [List.length_append, List.length_singleton]; omega)) (Is.pure (by simp)))
      · rw [if_neg hW, if_neg hW]
        have hc : W1 (vcompl v) = true := hp.resolve_left hW
        have := txt_le (vcompl v)
        refine Is.bnq (text_loop (elems_len _) (elems_W hc) (pre := [91, 94]) (by simp) (fun _ _ => rfl)) (Is.bnq (cat_ok (by simp only [List.length_append, List.length_cons, List.length_nil]; omega)) (Is.pure (by simp)))
end Go.Proofs.YtffienmbeifioaaDoor
