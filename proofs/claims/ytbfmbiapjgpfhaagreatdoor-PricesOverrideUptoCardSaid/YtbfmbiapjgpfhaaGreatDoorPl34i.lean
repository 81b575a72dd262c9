/- Plain facts on layer 34: valid prices entry by entry; both Format. -/
import Derived.Test.YtbfmbiapjgpfhaaGreatDoorPl34h
set_option linter.unusedVariables false
set_option linter.unusedSimpArgs false
namespace Go.Proofs.YtbfmbiapjgpfhaaGreatDoor
open Go.Lx

structure VP (p : T_Prices) (n : Nat) : Prop where
  sh : Sh p n
  ins : ∀ i, i < n → inB 1 (p.Insert.getD i 0) = true
  del : ∀ i, i < n → inB 1 (p.Delete.getD i 0) = true
  rep : ∀ i j, i < n → j < n → entB i j ((p.Replace.getD i []).getD j 0) = true
  swp : inB 0 p.Swap = true
  unk : inB 1 p.Unknown = true
theorem rowB_iff (i : Nat) : ∀ (r : List Int) (j : Nat), rowB i j r = true ↔ ∀ k, k < r.length → entB i (j + k) (r.getD k 0) = true
  | [], j => by simp [rowB]
  | x :: r, j => by
    rw [rowB, Bool.and_eq_true, rowB_iff i r (j + 1)]
    constructor
    · rintro ⟨h1, h2⟩ k hk
      cases k with
      | zero => exact h1
      | succ k =>
        have := h2 k (by simpa using hk)
        rw [show j + (k + 1) = j + 1 + k by omega]; exact this
    · intro h
      refine ⟨h 0 (by simp), fun k hk => ?_⟩
      have := h (k + 1) (by simpa using hk)
      rw [show j + 1 + k = j + (k + 1) by omega]; exact this
theorem rowsB_iff (n : Nat) : ∀ (a d : List Int) (r : List (List Int)) (i : Nat), d.length = a.length → r.length = a.length → (rowsB n i a d r = true ↔ ∀ k, k < a.length → inB 1 (a.getD k 0) = true ∧ inB 1 (d.getD k 0) = true ∧ (r.getD k []).length = n ∧ rowB (i + k) 0 (r.getD k []) = true)
  | [], d, r, i, h1, h2 => by
    have : rowsB n i [] d r = true := by unfold rowsB; rfl
    simp [this]
  | x :: a, [], r, i, h1, h2 => by simp at h1
  | x :: a, y :: d, [], i, h1, h2 => by simp at h2
  | x :: a, y :: d, z :: r, i, h1, h2 => by
    rw [rowsB]
    simp only [Bool.and_eq_true, decide_eq_true_eq]
    rw [rowsB_iff n a d r (i + 1) (by simpa using h1) (by simpa using h2)]
    constructor
    · rintro ⟨g1, g2, g3, g4, g5⟩ k hk
      cases k with
      | zero => exact ⟨g1, g2, g3, g4⟩
      | succ k =>
        have := g5 k (by simpa using hk)
        rw [show i + (k + 1) = i + 1 + k by omega]; exact this
    · intro h
      have h0 := h 0 (by simp)
      refine ⟨h0.1, h0.2.1, h0.2.2.1, h0.2.2.2, fun k hk => ?_⟩
      have := h (k + 1) (by simpa using hk)
      rw [show i + 1 + k = i + (k + 1) by omega]; exact this
theorem getL {p : T_Prices} {n k : Nat} (h : p.Replace.length = n) (hk : k < n) : p.Replace.getD k [] ∈ p.Replace := getD_mem (by omega)
theorem valid_iff {p : T_Prices} {n : Nat} : validB p (n : Int) = true ↔ VP p n := by
  unfold validB
  rw [Bool.and_eq_true, Int.toNat_natCast]
  constructor
  · rintro ⟨h1, h2⟩
    obtain ⟨m, hm, g1, g2, g3⟩ := headV_ok h1
    have hm : n = m := by omega
    subst hm
    rw [rowsB_iff n _ _ _ 0 (by omega) (by omega)] at h2
    unfold headV at h1
    simp only [Bool.and_eq_true] at h1
    refine ⟨⟨g1, g2, g3, fun r hr => ?_⟩, fun i hi => (h2 i (by omega)).1, fun i hi => (h2 i (by omega)).2.1, fun i j hi hj => ?_, h1.2.1, h1.2.2⟩
    · obtain ⟨k, hk, rfl⟩ := List.getElem_of_mem hr
      have := (h2 k (by omega)).2.2.1
      have e : p.Replace.getD k [] = p.Replace[k] := by simp [List.getD_eq_getElem?_getD, hk]
      rwa [e] at this
    · have g := h2 i (by omega)
      rw [rowB_iff] at g
      have := g.2.2.2 j (by omega)
      simpa using this
  · intro h
    refine ⟨?_, ?_⟩
    · unfold headV
      rw [h.swp, h.unk, decide_eq_true ⟨by omega, by rw [h.sh.ins], by rw [h.sh.del], by rw [h.sh.rep]⟩]; rfl
    · rw [rowsB_iff n _ _ _ 0 (by rw [h.sh.ins, h.sh.del]) (by rw [h.sh.ins, h.sh.rep]), h.sh.ins]
      intro k hk
      refine ⟨h.ins k hk, h.del k hk, h.sh.row _ (getL h.sh.rep hk), ?_⟩
      rw [rowB_iff]
      intro j hj
      rw [h.sh.row _ (getL h.sh.rep hk)] at hj
      have := h.rep k j hk hj
      simpa using this
theorem inB_pr {x : Int} (h : inB 1 x = true) : 1 ≤ x ∧ x ≤ 1000 := of_decide_eq_true h
theorem inB_pr0 {x : Int} (h : inB 0 x = true) : 0 ≤ x ∧ x ≤ 1000 := of_decide_eq_true h
theorem entB_pr {i j : Nat} {x : Int} (h : entB i j x = true) : PrOk x := by
  unfold entB at h
  split at h
  · have : x = 0 := by simpa using h
    exact .inr (by omega)
  · rw [Bool.or_eq_true] at h
    rcases h with h | h
    · exact .inl (by simpa using h)
    · have := inB_pr h
      exact .inr (by omega)
theorem mem_getD {α : Type} {l : List α} {x d : α} (h : x ∈ l) : ∃ k, k < l.length ∧ l.getD k d = x := by
  obtain ⟨k, hk, rfl⟩ := List.getElem_of_mem h
  exact ⟨k, hk, by simp [List.getD_eq_getElem?_getD, hk]⟩
theorem VP.insP {p : T_Prices} {n : Nat} (h : VP p n) : ∀ x ∈ p.Insert, 1 ≤ x ∧ x ≤ 1000 := fun x hx => by
  obtain ⟨k, hk, rfl⟩ := mem_getD (d := 0) hx
  exact inB_pr (h.ins k (by rw [← h.sh.ins]; exact hk))
theorem VP.delP {p : T_Prices} {n : Nat} (h : VP p n) : ∀ x ∈ p.Delete, 1 ≤ x ∧ x ≤ 1000 := fun x hx => by
  obtain ⟨k, hk, rfl⟩ := mem_getD (d := 0) hx
  exact inB_pr (h.del k (by rw [← h.sh.del]; exact hk))
theorem VP.repP {p : T_Prices} {n : Nat} (h : VP p n) : ∀ r ∈ p.Replace, ∀ x ∈ r, PrOk x := fun r hr x hx => by
  have hl := h.sh.row r hr
  obtain ⟨k, hk, rfl⟩ := mem_getD (d := []) hr
  obtain ⟨j, hj, rfl⟩ := mem_getD (d := 0) hx
  exact entB_pr (h.rep k j (by rw [← h.sh.rep]; exact hk) (by omega))
theorem pr_of {x : Int} (h : 1 ≤ x ∧ x ≤ 1000) : PrOk x := .inr (by omega)
/-! ### the program -/
section
variable {terms : List Str} (hT : terms.length < 20) (ht : ∀ t ∈ terms, t.length ≤ 30)
include hT ht
theorem f_rep {rs : List (List Int)} (hrs : rs.length = terms.length) (hrl : ∀ r ∈ rs, r.length = terms.length) (hv : ∀ r ∈ rs, ∀ x ∈ r, PrOk x) {b0 : List Int} (hb : b0.length ≤ 400000) :
    Is (loopM (fun (st9 : (List Int) × Int) => match st9 with
   | (xv113, xv114) =>
    bif (decide (xv114 < (rs.length : Int))) then
     (
      (idxL rs xv114).bind fun e226 =>
      loopM (fun (st9 : (List Int) × Int) => match st9 with
      | (xv149, xv150) =>
       bif (decide (xv150 < (e226.length : Int))) then
        (
         (idxL e226 xv150).bind fun e242 =>
         bif (xv114 != xv150) then
          (idxL terms xv114).bind fun e243 =>
          (idxL terms xv150).bind fun e244 =>
          (M.prices_Format_1 e242 15 [[114, 101, 112, 108, 97, 99, 101], e243, e244] (T_strings_Builder.mk () xv149)).bind fun rv88 =>
          some rv88.buf
         else
          some xv149).bind fun (xv154 : (List Int)) =>
        (chk .i64 (xv150 + 1)).bind fun t53 =>
        some (.next (xv154, t53))
       else
        some (.stop xv149)) fuel (xv113, (0 : Int))).bind fun (xv145 : (List Int)) =>
     (chk .i64 (xv114 + 1)).bind fun t54 =>
     (some (.next (xv145, t54)) : Option (Step (List Int × Int) (List Int)))
    else
     some (.stop xv113)) fuel (b0, (0 : Int))) (fun b => b = b0 ++ bytesL (repT terms 0 rs) ∧ b.length ≤ b0.length + 40000) := by
  refine Is.upto (fun i (st : List Int × Int) => st.2 = (i : Int) ∧ st.1.length ≤ b0.length + 2000 * i ∧ st.1 ++ bytesL (repT terms i (rs.drop i)) = b0 ++ bytesL (repT terms 0 rs)) rs.length (by omega) ⟨rfl, by simp, rfl⟩ ?_ ?_
  · rintro i ⟨b, _⟩ hi ⟨rfl, h1, h2⟩
    simp only at h1 h2
    rw [repT_step hi, bytes_app] at h2
    refine Is.dt (by omega) (Is.bnd (Is.bnq (idxL_nat hi) (f_row hT ht (i := i) (by omega) (hrl _ (List.getElem_mem hi)) (hv _ (List.getElem_mem hi)) (by omega))) ?_)
    rintro _ ⟨rfl, hl⟩
    refine Is.bnq (chk_succ (by omega)) (Is.next ⟨rfl, ?_, ?_⟩)
    · exact Nat.le_trans hl (by clear h2 hl; omega)
    · simp only [List.append_assoc]; exact h2
  · rintro ⟨b, _⟩ ⟨rfl, h1, h2⟩
    simp only at h1 h2
    rw [List.drop_length] at h2
    exact Is.df (by omega) (Is.stop ⟨by simpa [bytesL, repT] using h2, by clear h2; omega⟩)
end
theorem bytes_all (s : Str) : (bytesL s).all (fun n => decide (0 ≤ n ∧ n < 256)) = true := by
  rw [List.all_eq_true]
  intro x hx
  unfold bytesL at hx
  obtain ⟨c, _, rfl⟩ := List.mem_map.1 hx
  have := UInt8.toNat_lt c
  simp only [decide_eq_true_eq]
  omega
theorem string_ok (s : Str) : M.strings_Builder_String (T_strings_Builder.mk () (bytesL s)) = some s := by
  unfold M.strings_Builder_String
  rw [if_pos (bytes_all s), toStr_bytes]
def fmtB (p : T_Prices) (terms : List Str) : Str × Int := if namesB terms = true ∧ validB p (terms.length : Int) = true then (formatB p terms, 0) else ([], 1)
theorem format_ok {p : T_Prices} {terms : List Str} (hT : terms.length < 20) (ht : ∀ t ∈ terms, t.length ≤ 30) (hl : p.Insert.length ≤ 1073741824) (hr : ∀ r ∈ p.Replace, r.length ≤ 1073741824) : M.prices_Format p terms = some (fmtB p terms) := by
  refine Is.eq ?_
  unfold M.prices_Format fmtB
  refine Is.bnd (P := fun b => b = !(namesB terms && validB p (terms.length : Int))) (Is.bnq (names_ok (by omega) (fun x hx => by have := ht x hx; omega)) ?_) fun b hb => ?_
  · cases namesB terms with
    | false => exact Is.ct rfl (Is.pure rfl)
    | true => exact Is.cf rfl (Is.bnq (valid_ok hl hr) (Is.pure rfl))
  · subst hb
    by_cases hc : namesB terms = true ∧ validB p (terms.length : Int) = true
    · rw [if_pos hc]
      have hv := valid_iff.1 hc.2
      refine Is.cf (by rw [hc.1, hc.2]; rfl) ?_
      refine Is.bnd (f_one hT ht (w := insW) (by decide) hv.sh.ins (fun x hx => pr_of (hv.insP x hx)) (by simp)) ?_
      rintro _ ⟨rfl, l1⟩
      refine Is.bnd (f_one hT ht (w := delW) (by decide) hv.sh.del (fun x hx => pr_of (hv.delP x hx)) (by simp only [List.length_nil] at l1; omega)) ?_
      rintro _ ⟨rfl, l2⟩
      refine Is.bnd (f_rep hT ht hv.sh.rep hv.sh.row hv.repP (by simp only [List.length_nil] at l1; omega)) ?_
      rintro _ ⟨rfl, l3⟩
      simp only [List.length_nil] at l1
      have hs := inB_pr0 hv.swp
      have hu := inB_pr hv.unk
      have s1 := len1 (w := swpW) (n := p.Swap) (.inr hs) (by decide)
      have s2 := len1 (w := unkW) (n := p.Unknown) (pr_of hu) (by decide)
      have s3 := lineT_len (u := 12) s1
      refine Is.bnq (f1_ok (ws := [swpW]) (.inr hs) (by simp) (by omega) (by omega)) (Is.bnq (f1_ok (ws := [unkW]) (pr_of hu) (by simp) ?_ (by omega)) ?_)
      · simp only [List.length_append, bytes_len] at l1 l2 l3 ⊢; omega
      · refine Is.bnq (x := formatB p terms) ?_ (Is.pure rfl)
        rw [← string_ok (formatB p terms)]
        congr 2
        unfold formatB
        simp only [bytes_app, List.append_assoc, List.nil_append]
    · rw [if_neg hc]
      refine Is.ct ?_ (Is.pure rfl)
      rw [Bool.not_eq_true', Bool.and_eq_false_iff]
      by_cases h1 : namesB terms = true
      · right
        cases h2 : validB p (terms.length : Int) with
        | true => exact absurd ⟨h1, h2⟩ hc
        | false => rfl
      · left; simpa using h1
end Go.Proofs.YtbfmbiapjgpfhaaGreatDoor
