/- Plain facts on layer 34: the reference's Format. -/
import Derived.Test.YtbfmbiapjgpfhaaGreatDoorPl34i
set_option linter.unusedVariables false
set_option linter.unusedSimpArgs false
namespace Go.Proofs.YtbfmbiapjgpfhaaGreatDoor
open Go.Lx

theorem cat_ok {a b : Str} (h : a.length + b.length ≤ 10000000) : catS a b = some (a ++ b) := by unfold catS; rw [if_pos (by omega)]
theorem dec_ok {x : Int} (h : 0 ≤ x ∧ x ≤ 1000) : M.ref16_Decimal x = some (numW x) ∧ (numW x).length ≤ 5 := by
  refine ⟨?_, numW_len (.inr h)⟩
  obtain ⟨n, rfl⟩ := Int.eq_ofNat_of_zero_le h.1
  rw [(num_all n (by omega)).1]
  unfold numW
  rw [if_neg (by omega)]; rfl
theorem getN {l : List Int} {i : Nat} (h : i < l.length) : l.getD i 0 = l[i] := by simp [List.getD_eq_getElem?_getD, h]
theorem line2T {w t : Str} {u n : Int} (h : n ≠ u) : lineT [w, t] u n = w ++ (32 :: (t ++ (32 :: (numW n ++ [10])))) := by
  unfold lineT; rw [if_neg h]; simp [lineW]
theorem line3T {w t t2 : Str} {u n : Int} (h : n ≠ u) : lineT [w, t, t2] u n = w ++ (32 :: (t ++ (32 :: (t2 ++ (32 :: (numW n ++ [10])))))) := by
  unfold lineT; rw [if_neg h]; simp [lineW]
theorem line1T {w : Str} {u n : Int} (h : n ≠ u) : lineT [w] u n = w ++ (32 :: (numW n ++ [10])) := by
  unfold lineT; rw [if_neg h]; simp [lineW]
section
variable {terms : List Str} (hT : terms.length < 20) (ht : ∀ t ∈ terms, t.length ≤ 30)
include hT ht
theorem rf_ins {ns : List Int} (hns : ns.length = terms.length) (hv : ∀ x ∈ ns, 1 ≤ x ∧ x ≤ 1000) {b0 : Str} (hb : b0.length ≤ 500000) :
    Is (loopM (fun (st9 : Str × Int) => match st9 with
   | (xv11, xv12) =>
    bif (decide (xv12 < (terms.length : Int))) then
     (
      (idxL ns xv12).bind fun e23 =>
      bif (e23 != 10) then
       (catS xv11 [105, 110, 115, 101, 114, 116, 32]).bind fun s62 =>
       (idxL terms xv12).bind fun e24 =>
       (catS s62 e24).bind fun s63 =>
       (catS s63 [32]).bind fun s64 =>
       (M.ref16_Decimal e23).bind fun rv16 =>
       (catS s64 rv16).bind fun s65 =>
       (catS s65 [10]).bind fun s66 =>
       some s66
      else
       some xv11).bind fun (s61 : Str) =>
     (chk .i64 (xv12 + 1)).bind fun t6 =>
     (some (.next (s61, t6)) : Option (Step (Str × Int) Str))
    else
     some (.stop xv11)) fuel (b0, (0 : Int))) (fun b => b = b0 ++ oneT insW ns terms ∧ b.length ≤ b0.length + 2000) := by
  refine Is.upto (fun i (st : Str × Int) => st.2 = (i : Int) ∧ st.1.length ≤ b0.length + 100 * i ∧ st.1 ++ oneT insW (ns.drop i) (terms.drop i) = b0 ++ oneT insW ns terms) terms.length (by omega) ⟨rfl, by simp, rfl⟩ ?_ ?_
  · rintro i ⟨b, _⟩ hi2 ⟨rfl, h1, h2⟩
    simp only at h1 h2
    have hi : i < ns.length := by omega
    have hp := hv _ (List.getElem_mem hi)
    have htl := ht _ (List.getElem_mem hi2)
    obtain ⟨hd, hdl⟩ := dec_ok (x := ns[i]) ⟨by omega, hp.2⟩
    rw [oneT_step hi hi2] at h2
    refine Is.dt (by omega) (Is.bnd (P := fun x => x.length ≤ b.length + 100 ∧ x = b ++ lineT [insW, terms[i]] 10 ns[i]) (Is.bnq (idxL_nat hi) (Is.cnd (fun e => ?_) (fun e => Is.pure ⟨by omega, ?_⟩))) ?_)
    · rw [line2T (of_bne_t e)]
      refine Is.bnq (cat_ok (by simp; omega)) (Is.bnq (idxL_nat hi2) (Is.bnq (cat_ok (by simp; omega)) (Is.bnq (cat_ok (by simp; omega)) (Is.bnq hd (Is.bnq (cat_ok (by simp; omega)) (Is.bnq (cat_ok (by simp; omega)) (Is.pure ⟨by simp; omega, ?_⟩)))))))
      simp [insW]
    · unfold lineT; rw [if_pos (of_bne_f e)]; simp
    · rintro _ ⟨hx, rfl⟩
      refine Is.bnq (chk_succ (by omega)) (Is.next ⟨rfl, ?_, ?_⟩)
      · exact Nat.le_trans hx (by clear h2 hx; omega)
      · simp only [List.append_assoc]; exact h2
  · rintro ⟨b, _⟩ ⟨rfl, h1, h2⟩
    simp only at h1 h2
    have e : oneT insW (ns.drop terms.length) (terms.drop terms.length) = [] := by rw [List.drop_length, ← hns, List.drop_length]; unfold oneT; rfl
    rw [e] at h2
    exact Is.df (by omega) (Is.stop ⟨by simpa using h2, by clear h2; omega⟩)
theorem rf_del {ns : List Int} (hns : ns.length = terms.length) (hv : ∀ x ∈ ns, 1 ≤ x ∧ x ≤ 1000) {b0 : Str} (hb : b0.length ≤ 500000) :
    Is (loopM (fun (st9 : Str × Int) => match st9 with
   | (xv24, xv25) =>
    bif (decide (xv25 < (terms.length : Int))) then
     (
      (idxL ns xv25).bind fun e47 =>
      bif (e47 != 10) then
       (catS xv24 [100, 101, 108, 101, 116, 101, 32]).bind fun s128 =>
       (idxL terms xv25).bind fun e48 =>
       (catS s128 e48).bind fun s129 =>
       (catS s129 [32]).bind fun s130 =>
       (M.ref16_Decimal e47).bind fun rv28 =>
       (catS s130 rv28).bind fun s131 =>
       (catS s131 [10]).bind fun s132 =>
       some s132
      else
       some xv24).bind fun (s127 : Str) =>
     (chk .i64 (xv25 + 1)).bind fun t12 =>
     (some (.next (s127, t12)) : Option (Step (Str × Int) Str))
    else
     some (.stop xv24)) fuel (b0, (0 : Int))) (fun b => b = b0 ++ oneT delW ns terms ∧ b.length ≤ b0.length + 2000) := by
  refine Is.upto (fun i (st : Str × Int) => st.2 = (i : Int) ∧ st.1.length ≤ b0.length + 100 * i ∧ st.1 ++ oneT delW (ns.drop i) (terms.drop i) = b0 ++ oneT delW ns terms) terms.length (by omega) ⟨rfl, by simp, rfl⟩ ?_ ?_
  · rintro i ⟨b, _⟩ hi2 ⟨rfl, h1, h2⟩
    simp only at h1 h2
    have hi : i < ns.length := by omega
    have hp := hv _ (List.getElem_mem hi)
    have htl := ht _ (List.getElem_mem hi2)
    obtain ⟨hd, hdl⟩ := dec_ok (x := ns[i]) ⟨by omega, hp.2⟩
    rw [oneT_step hi hi2] at h2
    refine Is.dt (by omega) (Is.bnd (P := fun x => x.length ≤ b.length + 100 ∧ x = b ++ lineT [delW, terms[i]] 10 ns[i]) (Is.bnq (idxL_nat hi) (Is.cnd (fun e => ?_) (fun e => Is.pure ⟨by omega, ?_⟩))) ?_)
    · rw [line2T (of_bne_t e)]
      refine Is.bnq (cat_ok (by simp; omega)) (Is.bnq (idxL_nat hi2) (Is.bnq (cat_ok (by simp; omega)) (Is.bnq (cat_ok (by simp; omega)) (Is.bnq hd (Is.bnq (cat_ok (by simp; omega)) (Is.bnq (cat_ok (by simp; omega)) (Is.pure ⟨by simp; omega, ?_⟩)))))))
      simp [delW]
    · unfold lineT; rw [if_pos (of_bne_f e)]; simp
    · rintro _ ⟨hx, rfl⟩
      refine Is.bnq (chk_succ (by omega)) (Is.next ⟨rfl, ?_, ?_⟩)
      · exact Nat.le_trans hx (by clear h2 hx; omega)
      · simp only [List.append_assoc]; exact h2
  · rintro ⟨b, _⟩ ⟨rfl, h1, h2⟩
    simp only at h1 h2
    have e : oneT delW (ns.drop terms.length) (terms.drop terms.length) = [] := by rw [List.drop_length, ← hns, List.drop_length]; unfold oneT; rfl
    rw [e] at h2
    exact Is.df (by omega) (Is.stop ⟨by simpa using h2, by clear h2; omega⟩)
theorem rf_row {rs : List (List Int)} {i : Nat} (hi : i < terms.length) (hir : i < rs.length) (hr : rs[i].length = terms.length) (hv : ∀ x ∈ rs[i], PrOk x) {b0 : Str} (hb : b0.length ≤ 500000) :
    Is (loopM (fun (st9 : Str × Int) => match st9 with
      | (xv217, xv218) =>
       bif (decide (xv218 < (terms.length : Int))) then
        (
         (
          bif ((i : Int) == xv218) then
           some true
          else
           (idxL rs (i : Int)).bind fun e611 =>
           (idxL e611 xv218).bind fun e612 =>
           some (e612 == 15)).bind fun (xv226 : Bool) =>
         bif xv226 then
          some xv217
         else
          (catS xv217 [114, 101, 112, 108, 97, 99, 101, 32]).bind fun s701 =>
          (idxL terms (i : Int)).bind fun e613 =>
          (catS s701 e613).bind fun s702 =>
          (catS s702 [32]).bind fun s703 =>
          (idxL terms xv218).bind fun e614 =>
          (catS s703 e614).bind fun s704 =>
          (catS s704 [32]).bind fun s705 =>
          (idxL rs (i : Int)).bind fun e615 =>
          (idxL e615 xv218).bind fun e616 =>
          bif (decide (e616 < 0)) then
           (catS s705 [110, 101, 118, 101, 114, 10]).bind fun s706 =>
           some s706
          else
           (M.ref16_Decimal e616).bind fun rv100 =>
           (catS s705 rv100).bind fun s707 =>
           (catS s707 [10]).bind fun s708 =>
           some s708).bind fun (xv225 : Str) =>
        (chk .i64 (xv218 + 1)).bind fun t53 =>
        (some (.next (xv225, t53)) : Option (Step (Str × Int) Str))
       else
        some (.stop xv217)) fuel (b0, (0 : Int))) (fun b => b = b0 ++ rowT terms i 0 rs[i] ∧ b.length ≤ b0.length + 2000) := by
  refine Is.upto (fun j (st : Str × Int) => st.2 = (j : Int) ∧ st.1.length ≤ b0.length + 100 * j ∧ st.1 ++ rowT terms i j (rs[i].drop j) = b0 ++ rowT terms i 0 rs[i]) terms.length (by omega) ⟨rfl, by simp, rfl⟩ ?_ ?_
  · rintro j ⟨b, _⟩ hj2 ⟨rfl, h1, h2⟩
    simp only at h1 h2
    have hj : j < rs[i].length := by omega
    have hp := hv _ (List.getElem_mem hj)
    obtain ⟨g1, g2⟩ := getT hi
    obtain ⟨g3, g4⟩ := getT hj2
    have t1 := ht _ g2
    have t2 := ht _ g4
    rw [rowT_step hj] at h2
    clear g2 g4
    generalize terms.getD i [] = ti at *
    generalize terms.getD j [] = tj at *
    refine Is.dt (by omega) (Is.bnd (P := fun x => x.length ≤ b.length + 100 ∧ x = b ++ (if i = j then [] else lineT [repW, ti, tj] 15 rs[i][j])) (Is.bnd (P := fun q => q = (decide (i = j) || decide (rs[i][j] = 15))) ?_ ?_) ?_)
    · by_cases hij : i = j
      · exact Is.ct (beq_t (by omega)) (Is.pure (by rw [decide_eq_true hij]; rfl))
      · refine Is.cf (beq_f (by omega)) (Is.bnq (idxL_nat hir) (Is.bnq (idxL_nat hj) (Is.pure ?_)))
        rw [decide_eq_false hij]
        rw [Bool.eq_iff_iff]; simp
    · rintro _ rfl
      by_cases hij : i = j
      · rw [if_pos hij]
        exact Is.ct (by rw [decide_eq_true hij]; rfl) (Is.pure ⟨by omega, by simp⟩)
      · rw [if_neg hij]
        by_cases h15 : rs[i][j] = 15
        · refine Is.ct (by rw [decide_eq_true h15]; simp) (Is.pure ⟨by omega, ?_⟩)
          unfold lineT; rw [if_pos h15]; simp
        · rw [line3T h15]
          refine Is.cf (by rw [decide_eq_false h15, decide_eq_false hij]; rfl) ?_
          refine Is.bnq (cat_ok (by simp; omega)) (Is.bnq g1 (Is.bnq (cat_ok (by simp; omega)) (Is.bnq (cat_ok (by simp; omega)) (Is.bnq g3 (Is.bnq (cat_ok (by simp; omega)) (Is.bnq (cat_ok (by simp; omega)) (Is.bnq (idxL_nat hir) (Is.bnq (idxL_nat hj) ?_))))))))
          refine Is.dcd (fun hneg => ?_) (fun hneg => ?_)
          · have e : numW rs[i][j] = nevW := by unfold numW; rw [if_pos hneg]
            rw [e]
            refine Is.bnq (cat_ok (by simp; omega)) (Is.pure ⟨by simp; omega, ?_⟩)
            simp [repW, nevW]
          · obtain ⟨hd, hdl⟩ := dec_ok (x := rs[i][j]) (by rcases hp with h | h <;> omega)
            refine Is.bnq hd (Is.bnq (cat_ok (by simp; omega)) (Is.bnq (cat_ok (by simp; omega)) (Is.pure ⟨by simp; omega, ?_⟩)))
            simp [repW]
    · rintro _ ⟨hx, rfl⟩
      refine Is.bnq (chk_succ (by omega)) (Is.next ⟨rfl, ?_, ?_⟩)
      · exact Nat.le_trans hx (by clear h2 hx; omega)
      · simp only [List.append_assoc]; exact h2
  · rintro ⟨b, _⟩ ⟨rfl, h1, h2⟩
    simp only at h1 h2
    rw [← hr, List.drop_length] at h2
    exact Is.df (by omega) (Is.stop ⟨by simpa [rowT] using h2, by clear h2; omega⟩)
theorem rf_rep {rs : List (List Int)} (hrs : rs.length = terms.length) (hrl : ∀ r ∈ rs, r.length = terms.length) (hv : ∀ r ∈ rs, ∀ x ∈ r, PrOk x) {b0 : Str} (hb : b0.length ≤ 400000) :
    Is (loopM (fun (st9 : Str × Int) => match st9 with
   | (xv161, xv162) =>
    bif (decide (xv162 < (terms.length : Int))) then
     (
      loopM (fun (st9 : Str × Int) => match st9 with
      | (xv217, xv218) =>
       bif (decide (xv218 < (terms.length : Int))) then
        (
         (
          bif (xv162 == xv218) then
           some true
          else
           (idxL rs xv162).bind fun e611 =>
           (idxL e611 xv218).bind fun e612 =>
           some (e612 == 15)).bind fun (xv226 : Bool) =>
         bif xv226 then
          some xv217
         else
          (catS xv217 [114, 101, 112, 108, 97, 99, 101, 32]).bind fun s701 =>
          (idxL terms xv162).bind fun e613 =>
          (catS s701 e613).bind fun s702 =>
          (catS s702 [32]).bind fun s703 =>
          (idxL terms xv218).bind fun e614 =>
          (catS s703 e614).bind fun s704 =>
          (catS s704 [32]).bind fun s705 =>
          (idxL rs xv162).bind fun e615 =>
          (idxL e615 xv218).bind fun e616 =>
          bif (decide (e616 < 0)) then
           (catS s705 [110, 101, 118, 101, 114, 10]).bind fun s706 =>
           some s706
          else
           (M.ref16_Decimal e616).bind fun rv100 =>
           (catS s705 rv100).bind fun s707 =>
           (catS s707 [10]).bind fun s708 =>
           some s708).bind fun (xv225 : Str) =>
        (chk .i64 (xv218 + 1)).bind fun t53 =>
        some (.next (xv225, t53))
       else
        some (.stop xv217)) fuel (xv161, (0 : Int))).bind fun (xv211 : Str) =>
     (chk .i64 (xv162 + 1)).bind fun t54 =>
     (some (.next (xv211, t54)) : Option (Step (Str × Int) Str))
    else
     some (.stop xv161)) fuel (b0, (0 : Int))) (fun b => b = b0 ++ repT terms 0 rs ∧ b.length ≤ b0.length + 40000) := by
  refine Is.upto (fun i (st : Str × Int) => st.2 = (i : Int) ∧ st.1.length ≤ b0.length + 2000 * i ∧ st.1 ++ repT terms i (rs.drop i) = b0 ++ repT terms 0 rs) terms.length (by omega) ⟨rfl, by simp, rfl⟩ ?_ ?_
  · rintro i ⟨b, _⟩ hi ⟨rfl, h1, h2⟩
    simp only at h1 h2
    have hir : i < rs.length := by omega
    rw [repT_step hir] at h2
    refine Is.dt (by omega) (Is.bnd (rf_row hT ht (i := i) (rs := rs) hi hir (hrl _ (List.getElem_mem hir)) (hv _ (List.getElem_mem hir)) (by omega)) ?_)
    rintro _ ⟨rfl, hl⟩
    refine Is.bnq (chk_succ (by omega)) (Is.next ⟨rfl, ?_, ?_⟩)
    · exact Nat.le_trans hl (by clear h2 hl; omega)
    · simp only [List.append_assoc]; exact h2
  · rintro ⟨b, _⟩ ⟨rfl, h1, h2⟩
    simp only at h1 h2
    rw [← hrs, List.drop_length] at h2
    exact Is.df (by omega) (Is.stop ⟨by simpa [repT] using h2, by clear h2; omega⟩)
end
theorem rformat_ok {p : T_Prices} {terms : List Str} (hT : terms.length < 20) (ht : ∀ t ∈ terms, t.length ≤ 30) (hl : p.Insert.length ≤ 1073741824) (hr : ∀ r ∈ p.Replace, r.length ≤ 1073741824) : M.ref34_Format p terms = some (fmtB p terms) := by
  refine Is.eq ?_
  unfold M.ref34_Format fmtB
  refine Is.bnd (P := fun b => b = !(namesB terms && validB p (terms.length : Int))) (Is.bnq (rnames_ok (by omega) (fun x hx => by have := ht x hx; omega)) ?_) fun b hb => ?_
  · cases namesB terms with
    | false => exact Is.ct rfl (Is.pure rfl)
    | true => exact Is.cf rfl (Is.bnq (rvalid_ok hl hr) (Is.pure rfl))
  · subst hb
    by_cases hc : namesB terms = true ∧ validB p (terms.length : Int) = true
    · rw [if_pos hc]
      have hv := valid_iff.1 hc.2
      refine Is.cf (by rw [hc.1, hc.2]; rfl) ?_
      refine Is.bnd (rf_ins hT ht hv.sh.ins hv.insP (by simp)) ?_
      rintro _ ⟨rfl, l1⟩
      refine Is.bnd (rf_del hT ht hv.sh.del hv.delP (by simp only [List.length_nil] at l1; omega)) ?_
      rintro _ ⟨rfl, l2⟩
      refine Is.bnd (rf_rep hT ht hv.sh.rep hv.sh.row hv.repP (by simp only [List.length_nil] at l1; omega)) ?_
      rintro b3 ⟨hb3, l3⟩
      have l4 : b3.length ≤ 44000 := by simp only [List.length_nil] at l1; omega
      have hs := inB_pr0 hv.swp
      have hu := inB_pr hv.unk
      obtain ⟨d1, d2⟩ := dec_ok hs
      obtain ⟨d3, d4⟩ := dec_ok (x := p.Unknown) (by omega)
      refine Is.bnd (P := fun b => b = b3 ++ lineT [swpW] 12 p.Swap ∧ b.length ≤ 45000) (Is.cnd (fun e => ?_) (fun e => Is.pure ⟨?_, by omega⟩)) ?_
      · rw [line1T (of_bne_t e)]
        refine Is.bnq (cat_ok (by simp; omega)) (Is.bnq d1 (Is.bnq (cat_ok (by simp; omega)) (Is.bnq (cat_ok (by simp; omega)) (Is.pure ⟨?_, by simp; omega⟩))))
        simp [swpW]
      · unfold lineT; rw [if_pos (of_bne_f e)]; simp
      · rintro b4 ⟨hb4, l5⟩
        refine Is.bnd (P := fun b => b = b4 ++ lineT [unkW] 8 p.Unknown) (Is.cnd (fun e => ?_) (fun e => Is.pure ?_)) ?_
        · rw [line1T (of_bne_t e)]
          refine Is.bnq (cat_ok (by simp; omega)) (Is.bnq d3 (Is.bnq (cat_ok (by simp; omega)) (Is.bnq (cat_ok (by simp; omega)) (Is.pure ?_))))
          simp [unkW]
        · unfold lineT; rw [if_pos (of_bne_f e)]; simp
        · rintro _ rfl
          refine Is.pure ?_
          rw [hb4, hb3]
          unfold formatB
          simp only [List.append_assoc, List.nil_append]
    · rw [if_neg hc]
      refine Is.ct ?_ (Is.pure rfl)
      rw [Bool.not_eq_true', Bool.and_eq_false_iff]
      by_cases h1 : namesB terms = true
      · right
        cases h2 : validB p (terms.length : Int) with
        | true => exact absurd ⟨h1, h2⟩ hc
        | false => rfl
      · left; simpa using h1
end Go.Proofs.YtbfmbiapjgpfhaaGreatDoor
