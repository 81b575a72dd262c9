/- Plain facts on layer 8: the models of equal, Nullable, union, concat and Derive answer what the plain functions say. -/
import Derived.Test.YtffienmbeifioaaDoorPl08b
namespace Go.Proofs.YtffienmbeifioaaDoor
open Go.Lx
open Classical

def big : Nat := 2199023255552
inductive Fit : T_Regex → Prop where
  | mk (x : T_Regex) : W4 x.Set → x.Kids.length ≤ big → (x.Kind = 6 → ∃ y, x.Kids = [y]) → (x.Kind = 1 → x = rNone) → (x.Kind = 2 → x = rEmpty) → (∀ y ∈ x.Kids, Fit y) → Fit x
theorem Fit.set {x} (h : Fit x) : W4 x.Set := by cases h; assumption
theorem Fit.len {x} (h : Fit x) : x.Kids.length ≤ big := by cases h; assumption
theorem Fit.star {x} (h : Fit x) : x.Kind = 6 → ∃ y, x.Kids = [y] := by cases h; assumption
theorem Fit.none {x} (h : Fit x) : x.Kind = 1 → x = rNone := by cases h; assumption
theorem Fit.empty {x} (h : Fit x) : x.Kind = 2 → x = rEmpty := by cases h; assumption
theorem Fit.kids {x} (h : Fit x) : ∀ y ∈ x.Kids, Fit y := by cases h; assumption
theorem fit_none : Fit rNone := .mk _ W4_zero (by simp [rNone]) (by simp [rNone]) (fun _ => rfl) (by simp [rNone]) (by simp [rNone])
theorem fit_empty : Fit rEmpty := .mk _ W4_zero (by simp [rEmpty]) (by simp [rEmpty]) (by simp [rEmpty]) (fun _ => rfl) (by simp [rEmpty])
theorem height_kid {x y : T_Regex} (h : y ∈ x.Kids) : height y < height x := by
  obtain ⟨k, s, l⟩ := x
  have : height y ≤ heightL l := height_mem h
  simp only [height]
  omega

theorem equal_ok : ∀ fl a b, Fit a → height a < fl → M.regex_equal fl a b = some (decide (a = b)) := by
  intro fl
  induction fl with
  | zero => intro a b _ h; omega
  | succ fl ih =>
    rintro ⟨k, s, l⟩ ⟨k', s', l'⟩ hF hh
    unfold M.regex_equal
    refine Is.eq ?_
    have key : Is (bif k != k' then some true else bif s != s' then some true else some ((l.length : Int) != (l'.length : Int))) (fun r => r = !decide (k = k' ∧ s = s' ∧ l.length = l'.length)) := by
      refine Is.cnd (fun h => Is.pure ?_) (fun h => Is.cnd (fun h2 => Is.pure ?_) (fun h2 => Is.pure ?_))
      · have := of_bne_t h
        simp [this]
      · have : s ≠ s' := by simpa using h2
        simp [this]
      · have h1 := of_bne_f h
        have h3 : s = s' := by simpa using h2
        subst h1; subst h3
        by_cases h4 : l.length = l'.length
        · rw [bne_f (by omega)]; simp [h4]
        · rw [bne_t (by omega)]; simp [h4]
    refine Is.bnd key ?_
    rintro _ rfl
    refine Is.cnd (fun h => Is.pure ?_) (fun h => ?_)
    · have h : ¬ (k = k' ∧ s = s' ∧ l.length = l'.length) := of_decide_eq_false (by simpa only [Bool.not_eq_true'] using h)
      refine (dec_f ?_).symm
      intro e
      injection e with e1 e2 e3
      exact h ⟨e1, e2, by rw [e3]⟩
    · have h : k = k' ∧ s = s' ∧ l.length = l'.length := of_decide_eq_true (by simpa only [Bool.not_eq_false'] using h)
      obtain ⟨rfl, rfl, hl⟩ := h
      refine Is.bs (P := fun _ => l = l') (Q := fun r => r = decide ((⟨k, s, l⟩ : T_Regex) = ⟨k, s, l'⟩)) ?_ (fun _ e => Is.pure (dec_t (by rw [e])).symm)
      have hb := hF.len
      refine Is.upto (fun i st => st = (i : Int) ∧ l.take i = l'.take i) l.length (Nat.le_trans hb (by decide)) ⟨rfl, rfl⟩ ?_ ?_
      · rintro i _ hi ⟨rfl, hJ⟩
        refine Is.dt (show (i : Int) < (l.length : Int) by omega) (Is.bnq (idxL_nat hi) (Is.bnq (idxL_nat (hl ▸ hi)) ?_))
        have hk := height_kid (x := ⟨k, s, l⟩) (List.getElem_mem hi)
        refine Is.bnq (ih _ _ (hF.kids _ (List.getElem_mem hi)) (by omega)) ?_
        refine Is.cnd (fun h => Is.stop ?_) (fun h => ?_)
        · have h : l[i] ≠ l'[i] := by simpa using h
          refine (dec_f ?_).symm
          intro e
          injection e with e1 e2 e3
          subst e3
          exact h rfl
        · have h : l[i] = l'[i] := by simpa using h
          refine Is.bnq (chk_succ (by unfold big at hb; simp only at hb; omega)) (Is.next ⟨rfl, ?_⟩)
          rw [List.take_add_one, List.take_add_one, hJ, List.getElem?_eq_getElem hi, List.getElem?_eq_getElem (hl ▸ hi), h]
      · rintro _ ⟨rfl, hJ⟩
        refine Is.df (show ¬ (l.length : Int) < (l.length : Int) by omega) (Is.stop ?_)
        rw [List.take_length, hl, List.take_length] at hJ
        exact hJ

theorem nullable_ok : ∀ fl x, Fit x → height x < fl → M.regex_Nullable fl x = some (nb x) := by
  intro fl
  induction fl with
  | zero => intro a _ h; omega
  | succ fl ih =>
    rintro ⟨k, s, l⟩ hF hh
    have hl : l.length ≤ 9223372036854775807 := Nat.le_trans hF.len (by decide)
    have hk : ∀ y ∈ l, M.regex_Nullable fl y = some (nb y) := fun y hy => ih y (hF.kids y hy) (by have := height_kid (x := ⟨k, s, l⟩) hy; omega)
    have h1 := loop_all (ρ := Step Unit (Step Unit Bool)) (X := .stop (.stop false)) (Y := .next ()) hk hl
    have h2 := loop_any (ρ := Step Unit Bool) (X := .stop true) (Y := .next ()) hk hl
    unfold M.regex_Nullable
    rcases dispatch k with rfl | rfl | rfl | rfl | rfl | ⟨h2, h3, h4, h5, h6⟩
    · simp [nb, bindStep]
    · simp [nb, bindStep]
    · refine Is.eq (Is.bs (P := fun _ => False) (Is.bnq (x := false) rfl (Is.cf rfl (Is.ct rfl ?_))) (fun _ h => h.elim))
      rw [h1]
      show Is _ (SP _ (fun r => r = nbA l))
      rw [nbA_eq]
      cases l.all nb
      · exact Is.stop rfl
      · exact Is.stop rfl
    · refine Is.eq (Is.bs (P := fun _ => l.any nb = false) (Q := fun r => r = nbO l) (Is.bnq (x := false) rfl (Is.cf rfl (Is.cf rfl (Is.ct rfl ?_)))) (fun _ h => Is.pure (by rw [nbO_eq, h])))
      rw [h2, nbO_eq]
      cases l.any nb
      · exact Is.next rfl
      · exact Is.stop rfl
    · simp [nb, bindStep]
    · simp [nb, bindStep, beq_f h2, beq_f h4, beq_f h5, beq_f h6]

/-- Fits, and is not too deep for a call. -/
def FH (x : T_Regex) : Prop := Fit x ∧ height x < fuel
theorem FH.kid {x y : T_Regex} (h : FH x) (hy : y ∈ x.Kids) : FH y := ⟨h.1.kids y hy, by have := height_kid hy; have := h.2; omega⟩
theorem len_foldU (l : List T_Regex) : ∀ ks, ks.length ≤ (l.foldl addU ks).length := by
  induction l with
  | nil => exact fun _ => Nat.le_refl _
  | cons y l ih =>
    intro ks
    refine Nat.le_trans ?_ (ih (addU ks y))
    unfold addU
    split <;> simp
theorem appM_big {l m : List T_Regex} (h : l.length + m.length ≤ big) : appM 64 l m = some (l ++ m) := appM_ok (by unfold big at h; omega)
theorem alts_FH {r a : T_Regex} (h : FH r) (ha : a ∈ alts r) : FH a := by
  unfold alts at ha
  rw [List.mem_filter] at ha
  cases hk : r.Kind == 5
  · rw [hk, cond_false, List.mem_singleton] at ha; exact ha.1 ▸ h
  · rw [hk, cond_true] at ha; exact h.kid ha.1

theorem union_ok {l : List T_Regex} (hF : ∀ r ∈ l, FH r) (hl : l.length ≤ big) (hn : (unl l).length ≤ big) : M.regex_union l = some (un l) := by
  refine Is.eq ?_
  unfold M.regex_union
  refine Is.bnd (P := fun r => r = unl l) ?_ ?_
  · refine Is.upto (fun i (st : List T_Regex × Int) => st.2 = (i : Int) ∧ st.1 = unl (l.take i)) l.length (Nat.le_trans hl (by decide)) ⟨rfl, rfl⟩ ?_ ?_
    · rintro i ⟨_, _⟩ hi ⟨rfl, rfl⟩
      refine Is.dt (show (i : Int) < (l.length : Int) by omega) ?_
      have hi' : i < 9223372036854775807 := by unfold big at hl; omega
      refine Is.bnd (P := fun r => r = unl (l.take (i + 1))) ?_ (fun r hr => Is.bnq (chk_succ hi') (Is.next ⟨rfl, hr⟩))
      refine Is.bnq (idxL_nat hi) ?_
      have hf := hF _ (List.getElem_mem hi)
      have hun : unl (l.take (i + 1)) = (alts l[i]).foldl addU (unl (l.take i)) := by
        unfold unl
        rw [List.take_add_one, List.getElem?_eq_getElem hi, List.flatMap_append, List.foldl_append]
        simp
      have hsum : unl l = ((l.drop (i + 1)).flatMap alts).foldl addU (unl (l.take (i + 1))) := by
        unfold unl
        rw [← List.foldl_append, ← List.flatMap_append, List.take_append_drop]
      have hle : (unl (l.take (i + 1))).length ≤ big := Nat.le_trans (by rw [hsum]; exact len_foldU _ _) hn
      generalize hm : (bif l[i].Kind == 5 then l[i].Kids else [l[i]]) = m
      have hmF : ∀ y ∈ m, FH y := by
        intro y hy
        subst hm
        cases hk : l[i].Kind == 5
        · rw [hk, cond_false, List.mem_singleton] at hy; exact hy ▸ hf
        · rw [hk, cond_true] at hy; exact hf.kid hy
      have hml : m.length ≤ big := by
        subst hm
        cases hk : l[i].Kind == 5
        · rw [cond_false]; show 1 ≤ big; decide
        · rw [cond_true]; exact hf.1.len
      have ha : alts l[i] = m.filter (·.Kind != 1) := by subst hm; rfl
      refine Is.bnd (P := fun r => r = m) ?_ ?_
      · subst hm
        refine Is.cnd (fun h => Is.pure (by rw [h]; rfl)) (fun h => Is.pure (by rw [h]; rfl))
      intro r hr
      rw [hr, hun, ha]
      rw [hun, ha] at hle
      refine Is.upto (fun j (st : List T_Regex × Int) => st.2 = (j : Int) ∧ st.1 = ((m.take j).filter (·.Kind != 1)).foldl addU (unl (l.take i))) m.length (Nat.le_trans hml (by decide)) ⟨rfl, rfl⟩ ?_ ?_
      · rintro j ⟨_, _⟩ hj ⟨rfl, rfl⟩
        refine Is.dt (show (j : Int) < (m.length : Int) by omega) ?_
        have hj' : j < 9223372036854775807 := by unfold big at hml; omega
        refine Is.bnd (P := fun r => r = ((m.take (j + 1)).filter (·.Kind != 1)).foldl addU (unl (l.take i))) ?_ (fun r hr => Is.bnq (chk_succ hj') (Is.next ⟨rfl, hr⟩))
        have hs1 : (m.take (j + 1)).filter (·.Kind != 1) = (m.take j).filter (·.Kind != 1) ++ [m[j]].filter (·.Kind != 1) := by
          rw [List.take_add_one, List.getElem?_eq_getElem hj, List.filter_append]; rfl
        have hs2 : m.filter (·.Kind != 1) = (m.take (j + 1)).filter (·.Kind != 1) ++ (m.drop (j + 1)).filter (·.Kind != 1) := by
          rw [← List.filter_append, List.take_append_drop]
        have hle2 : (((m.take (j + 1)).filter (·.Kind != 1)).foldl addU (unl (l.take i))).length ≤ big := by
          refine Nat.le_trans ?_ hle
          rw [hs2, List.foldl_append]
          exact len_foldU _ _
        rw [hs1, List.foldl_append] at hle2 ⊢
        generalize hks : ((m.take j).filter (·.Kind != 1)).foldl addU (unl (l.take i)) = ks at hle2 ⊢
        have hksF : ∀ y ∈ ks, FH y := by
          intro y hy
          rw [← hks, mem_foldU] at hy
          rcases hy with hy | hy
          · obtain ⟨r, hr, hy⟩ := mem_unl.1 hy
            exact alts_FH (hF r (List.mem_of_mem_take hr)) hy
          · exact hmF y (List.mem_of_mem_take (List.mem_filter.1 hy).1)
        have hksl : ks.length ≤ big := Nat.le_trans (len_foldU _ _) hle2
        refine Is.bnq (idxL_nat hj) ?_
        refine Is.cnd (fun h => Is.pure ?_) (fun h => ?_)
        · rw [List.filter_cons, if_neg (by simp [of_beq_t h])]; rfl
        · have hfl : [m[j]].filter (·.Kind != 1) = [m[j]] := by rw [List.filter_cons, if_pos (by simpa using of_beq_f h)]; rfl
          rw [hfl] at hle2 ⊢
          have hloop := loop_any (ρ := Step Unit (List T_Regex)) (l := ks) (f := fun e => M.regex_equal fuel e m[j]) (p := fun e => decide (e = m[j])) (X := .stop ks) (Y := .next ())
            (fun y hy => equal_ok fuel y m[j] (hksF y hy).1 (hksF y hy).2) (Nat.le_trans hksl (by decide))
          rw [hloop]
          by_cases hc : m[j] ∈ ks
          · rw [if_pos (List.any_eq_true.2 ⟨_, hc, by simp⟩)]
            refine Is.pure ?_
            show ks = addU ks m[j]
            unfold addU
            rw [if_pos hc]
          · rw [if_neg (by
              intro h
              obtain ⟨y, hy, he⟩ := List.any_eq_true.1 h
              exact hc (of_decide_eq_true he ▸ hy))]
            have he : addU ks m[j] = ks ++ [m[j]] := by unfold addU; rw [if_neg hc]
            have hlen : ks.length + 1 ≤ big := by
              have : ([m[j]].foldl addU ks).length ≤ big := hle2
              rw [List.foldl_cons, List.foldl_nil, he, List.length_append] at this
              exact this
            refine Is.bnq (appM_big hlen) (Is.pure ?_)
            show ks ++ [m[j]] = addU ks m[j]
            rw [he]
      · rintro ⟨_, _⟩ ⟨rfl, rfl⟩
        refine Is.df (show ¬ (m.length : Int) < (m.length : Int) by omega) (Is.stop ?_)
        rw [List.take_length]
    · rintro ⟨_, _⟩ ⟨rfl, rfl⟩
      refine Is.df (show ¬ (l.length : Int) < (l.length : Int) by omega) (Is.stop ?_)
      rw [List.take_length]
  · rintro _ rfl
    unfold un
    generalize unl l = ks
    match ks with
    | [] => exact Is.pure rfl
    | [y] => exact Is.cf (by simp) (Is.ct (by simp) (Is.bnq (idxL_nat (i := 0) (by simp)) (Is.pure rfl)))
    | y :: z :: ks => exact Is.cf (beq_f (by simp only [List.length_cons]; omega)) (Is.cf (beq_f (by simp only [List.length_cons]; omega)) (Is.pure rfl))

theorem concat_ok {l : List T_Regex} (hl : l.length ≤ big) : M.regex_concat l = some (ct l) := by
  refine Is.eq ?_
  unfold M.regex_concat
  refine Is.bs (P := fun r => r = ne l ∧ l.find? (·.Kind == 1) = none) ?_ ?_
  · refine Is.upto (fun i (st : List T_Regex × Int) => st.2 = (i : Int) ∧ st.1 = ne (l.take i) ∧ (l.take i).find? (·.Kind == 1) = none) l.length (Nat.le_trans hl (by decide)) ⟨rfl, rfl, rfl⟩ ?_ ?_
    · rintro i ⟨_, _⟩ hi ⟨rfl, rfl, hJ⟩
      refine Is.dt (show (i : Int) < (l.length : Int) by omega) ?_
      have hi' : i < 9223372036854775807 := by unfold big at hl; omega
      have hnl : (ne (l.take i)).length ≤ i := Nat.le_trans (List.length_filter_le _ _) (by rw [List.length_take]; omega)
      have hs : l.take (i + 1) = l.take i ++ [l[i]] := by rw [List.take_add_one, List.getElem?_eq_getElem hi]; rfl
      refine Is.bs (P := fun r => r = ne (l.take (i + 1)) ∧ (l.take (i + 1)).find? (·.Kind == 1) = none) ?_ (fun r hr => Is.bnq (chk_succ hi') (Is.next ⟨rfl, hr.1, hr.2⟩))
      refine Is.bnq (idxL_nat hi) (Is.cnd (fun h => Is.stop ?_) (fun h => ?_))
      · have hf : l.find? (·.Kind == 1) = some l[i] := by
          have : l = l.take i ++ l[i] :: l.drop (i + 1) := by rw [List.getElem_cons_drop, List.take_append_drop]
          refine (congrArg (List.find? (fun x => x.Kind == 1)) this).trans ?_
          rw [List.find?_append, hJ, List.find?_cons, h]
          rfl
        show l[i] = ct l
        unfold ct
        rw [hf]
      · have hf : (l.take (i + 1)).find? (·.Kind == 1) = none := by
          rw [hs, List.find?_append, hJ, List.find?_cons, h]; rfl
        refine Is.cnd (fun h2 => ?_) (fun h2 => Is.next ⟨?_, hf⟩)
        · refine Is.bnq (appM_big (by simp only [List.length_singleton]; omega)) (Is.next ⟨?_, hf⟩)
          unfold ne
          rw [hs, List.filter_append]
          congr 1
          rw [List.filter_cons, if_pos h2]; rfl
        · unfold ne
          rw [hs, List.filter_append, List.filter_cons, if_neg (by rw [h2]; simp)]
          simp
    · rintro ⟨_, _⟩ ⟨rfl, rfl, hJ⟩
      refine Is.df (show ¬ (l.length : Int) < (l.length : Int) by omega) (Is.stop ⟨?_, ?_⟩)
      · rw [List.take_length]
      · rw [List.take_length] at hJ; exact hJ
  · rintro _ ⟨rfl, hf⟩
    unfold ct
    rw [hf]
    generalize ne l = ks
    match ks with
    | [] => exact Is.pure rfl
    | [y] => exact Is.cf (by simp) (Is.ct (by simp) (Is.bnq (idxL_nat (i := 0) (by simp)) (Is.pure rfl)))
    | y :: z :: ks => exact Is.cf (beq_f (by simp only [List.length_cons]; omega)) (Is.cf (beq_f (by simp only [List.length_cons]; omega)) (Is.pure rfl))

/-- Derive answers. -/
def Gd (x : T_Regex) : Prop := ∀ b : Nat, b < 256 → ∀ fl, height x < fl → M.regex_Derive fl x b = some (dr x b)
theorem gd_other {x : T_Regex} (hF : Fit x) (h4 : x.Kind ≠ 4) (h5 : x.Kind ≠ 5) (h6 : x.Kind ≠ 6) : Gd x := by
  intro b hb fl hfl
  obtain ⟨fl, rfl⟩ : ∃ f, fl = f + 1 := ⟨fl - 1, by omega⟩
  obtain ⟨k, s, l⟩ := x
  unfold M.regex_Derive
  have hm := has_eq hF.set hb
  simp only at hm h4 h5 h6
  by_cases h3 : k = 3
  · subst h3
    simp only [beq_self_eq_true, cond_true, hm, Option.bind_some, dr]
    cases mem s b <;> rfl
  · simp only [beq_f h3, beq_f h4, beq_f h5, beq_f h6, cond_false, bindStep, dr]
    rfl
theorem gd_star {s : Vec 4} {y : T_Regex} (hy : Gd y) : Gd ⟨6, s, [y]⟩ := by
  intro b hb fl hfl
  obtain ⟨fl, rfl⟩ : ∃ f, fl = f + 1 := ⟨fl - 1, by omega⟩
  unfold M.regex_Derive
  have hh : height y < fl := by simp only [height, heightL] at hfl; omega
  refine Is.eq ?_
  refine Is.bs (P := fun _ => False) (Is.cf rfl (Is.cf rfl (Is.cf rfl (Is.ct rfl ?_)))) (fun _ h => h.elim)
  refine Is.bnq (idxL_nat (i := 0) (by simp)) (Is.bnq (hy b hb fl hh) (Is.bnq (concat_ok (by show 2 ≤ big; decide)) (Is.stop rfl)))
theorem drC_len (l : List T_Regex) (b : Nat) : (drC l b).length ≤ l.length := by
  induction l with
  | nil => simp [drC]
  | cons y l ih =>
    rw [drC]
    cases nb y
    · simp
    · simp only [cond_true, List.length_cons]; omega
theorem drL_len (l : List T_Regex) (b : Nat) : (drL l b).length = l.length := by
  induction l with
  | nil => simp [drL]
  | cons y l ih => simp [drL, ih]
theorem sub_drop {l : List T_Regex} {i : Nat} (h : i ≤ l.length) : subL l (i : Int) (l.length : Int) = some (l.drop i) := by
  unfold subL
  rw [if_pos ⟨by omega, by omega, by omega⟩]
  simp
theorem gd_concat {s : Vec 4} {l : List T_Regex} (hF : ∀ y ∈ l, FH y ∧ Gd y) (hl : l.length ≤ big) (hd : ∀ b < 256, (unl (drC l b)).length ≤ big ∧ ∀ r ∈ drC l b, FH r) : Gd ⟨4, s, l⟩ := by
  intro b hb fl hfl
  obtain ⟨fl, rfl⟩ : ∃ f, fl = f + 1 := ⟨fl - 1, by omega⟩
  unfold M.regex_Derive
  have hh : ∀ y ∈ l, height y < fl := fun y hy => by have := height_kid (x := ⟨4, s, l⟩) hy; omega
  refine Is.eq ?_
  refine Is.bs (P := fun _ => False) (Is.cf rfl (Is.ct rfl ?_)) (fun _ h => h.elim)
  refine Is.bnd (P := fun r => r = drC l b) ?_ (fun r hr => by
    subst hr
    exact Is.bnq (union_ok (hd b hb).2 (Nat.le_trans (drC_len l b) hl) (hd b hb).1) (Is.stop rfl))
  refine Is.upto (fun i (st : List T_Regex × Int) => st.2 = (i : Int) ∧ st.1 ++ drC (l.drop i) b = drC l b ∧ st.1.length ≤ i) l.length (Nat.le_trans hl (by decide)) ⟨rfl, by simp, by simp⟩ ?_ ?_
  · rintro i ⟨out, _⟩ hi ⟨rfl, hJ, hlen⟩
    simp only at hJ hlen
    have hi' : i < 9223372036854775807 := by unfold big at hl; omega
    have hm := List.getElem_mem hi
    have hds : l.drop i = l[i] :: l.drop (i + 1) := (List.getElem_cons_drop hi).symm
    refine Is.dt (show (i : Int) < (l.length : Int) by omega) (Is.bnq (idxL_nat hi) (Is.bnq (chk_succ hi') (Is.bnq (sub_drop (l := l) (i := i + 1) hi) ?_)))
    refine Is.bnq ((hF _ hm).2 b hb fl (hh _ hm)) (Is.bnq (appM_big (by show 1 + (l.drop (i + 1)).length ≤ big; rw [List.length_drop]; omega)) ?_)
    refine Is.bnq (concat_ok (by simp only [List.length_append, List.length_singleton, List.length_drop]; omega)) (Is.bnq (appM_big (by simp only [List.length_singleton]; omega)) ?_)
    refine Is.bnq (nullable_ok fuel _ (hF _ hm).1.1 (hF _ hm).1.2) ?_
    rw [hds, drC] at hJ
    refine Is.cnd (fun h => Is.stop ?_) (fun h => Is.next ⟨rfl, ?_, ?_⟩)
    · have h : nb l[i] = false := by simpa using h
      rw [h] at hJ
      exact hJ
    · have h : nb l[i] = true := by simpa using h
      rw [h] at hJ
      rw [List.append_assoc]
      exact hJ
    · simp only [List.length_append, List.length_singleton]; omega
  · rintro ⟨out, _⟩ ⟨rfl, hJ, hlen⟩
    refine Is.df (show ¬ (l.length : Int) < (l.length : Int) by omega) (Is.stop ?_)
    rw [List.drop_length] at hJ
    simpa [drC] using hJ
theorem gd_union {s : Vec 4} {l : List T_Regex} (hF : ∀ y ∈ l, Gd y) (hl : l.length ≤ big) (hd : ∀ b < 256, (unl (drL l b)).length ≤ big ∧ ∀ r ∈ drL l b, FH r) : Gd ⟨5, s, l⟩ := by
  intro b hb fl hfl
  obtain ⟨fl, rfl⟩ : ∃ f, fl = f + 1 := ⟨fl - 1, by omega⟩
  unfold M.regex_Derive
  have hh : ∀ y ∈ l, height y < fl := fun y hy => by have := height_kid (x := ⟨4, s, l⟩) hy; simp only [height] at hfl this; omega
  refine Is.eq ?_
  refine Is.bs (P := fun _ => False) (Is.cf rfl (Is.cf rfl (Is.ct rfl ?_))) (fun _ h => h.elim)
  refine Is.bnd (P := fun r => r = drL l b) ?_ (fun r hr => by
    subst hr
    exact Is.bnq (union_ok (hd b hb).2 (by rw [drL_len]; exact hl) (hd b hb).1) (Is.stop rfl))
  refine Is.upto (fun i (st : List T_Regex × Int) => st.2 = (i : Int) ∧ st.1 ++ drL (l.drop i) b = drL l b ∧ st.1.length ≤ i) l.length (Nat.le_trans hl (by decide)) ⟨rfl, by simp, by simp⟩ ?_ ?_
  · rintro i ⟨out, _⟩ hi ⟨rfl, hJ, hlen⟩
    simp only at hJ hlen
    have hi' : i < 9223372036854775807 := by unfold big at hl; omega
    have hm := List.getElem_mem hi
    have hds : l.drop i = l[i] :: l.drop (i + 1) := (List.getElem_cons_drop hi).symm
    refine Is.dt (show (i : Int) < (l.length : Int) by omega) (Is.bnq (idxL_nat hi) ?_)
    refine Is.bnq (hF _ hm b hb fl (hh _ hm)) (Is.bnq (appM_big (by simp only [List.length_singleton]; omega)) (Is.bnq (chk_succ hi') (Is.next ⟨rfl, ?_, ?_⟩)))
    · rw [hds, drL] at hJ
      rw [List.append_assoc]
      exact hJ
    · simp only [List.length_append, List.length_singleton]; omega
  · rintro ⟨out, _⟩ ⟨rfl, hJ, hlen⟩
    refine Is.df (show ¬ (l.length : Int) < (l.length : Int) by omega) (Is.stop ?_)
    rw [List.drop_length] at hJ
    simpa [drL] using hJ
end Go.Proofs.YtffienmbeifioaaDoor
