/- Plain facts on layer 34: what Format computes, in the program and in the reference. -/
import Derived.Test.YtbfmbiapjgpfhaaGreatDoorPl34g
set_option linter.unusedVariables false
set_option linter.unusedSimpArgs false
namespace Go.Proofs.YtbfmbiapjgpfhaaGreatDoor
open Go.Lx

/-! ### numbers as text -/
def decF : Nat → Nat → Str
  | 0, n => [UInt8.ofNat (48 + n)]
  | f + 1, n => if n < 10 then [UInt8.ofNat (48 + n)] else decF f (n / 10) ++ [UInt8.ofNat (48 + n % 10)]
theorem decF_eq : ∀ (f n : Nat), n < 10 ^ (f + 1) → Lib.decDigits n = decF f n
  | 0, n, h => by rw [Lib.decDigits, dif_pos (by simpa using h)]; rfl
  | f + 1, n, h => by
    rw [Lib.decDigits, decF]
    by_cases h2 : n < 10
    · rw [dif_pos h2, if_pos h2]
    · rw [dif_neg h2, if_neg h2, decF_eq f (n / 10) (by rw [Nat.pow_succ] at h; omega)]
def numT (n : Nat) : Str := decF 3 n
theorem num_all : ∀ n : Nat, n < 1001 → M.ref16_Decimal (n : Int) = some (numT n) ∧ numB (numT n) = some n ∧ (numT n).length ≤ 4 ∧ (numT n).all digB = true := by decide +kernel
theorem itoa_num {n : Nat} (h : n ≤ 1000) : Lib.itoa (n : Int) = numT n := by
  unfold Lib.itoa
  rw [if_neg (by omega), Int.toNat_natCast]
  exact decF_eq 3 n (by omega)
/-! ### lines as text -/
def lineW : List Str → Str
  | [] => []
  | x :: r => x ++ r.flatMap (fun y => 32 :: y)
theorem join_line : ∀ l : List Str, Lib.join l [32] = lineW l
  | [] => rfl
  | x :: r => by
    rw [Lib.join_cons]
    show x ++ Lib.joinTail [32] r = x ++ r.flatMap (fun y => 32 :: y)
    rw [List.flatMap_def]
    rfl
def numW (n : Int) : Str := if n < 0 then nevW else numT n.toNat
def PrOk (n : Int) : Prop := n = -1 ∨ (0 ≤ n ∧ n ≤ 1000)
theorem numW_len {n : Int} (h : PrOk n) : (numW n).length ≤ 5 := by
  unfold numW
  rcases h with rfl | ⟨h0, h1⟩
  · decide
  · rw [if_neg (by omega)]
    have := (num_all n.toNat (by omega)).2.2.1
    omega
def lineT (ws : List Str) (u n : Int) : Str := if n = u then [] else lineW (ws ++ [numW n]) ++ [10]
theorem toStr_bytes (s : Str) : toStr (bytesL s) = s := by
  unfold toStr bytesL
  rw [List.map_map]
  conv => rhs; rw [← List.map_id s]
  refine List.map_congr_left fun c _ => ?_
  simp
theorem bytes_app (a b : Str) : bytesL (a ++ b) = bytesL a ++ bytesL b := by simp [bytesL]
theorem bytes_len (a : Str) : (bytesL a).length = a.length := by simp [bytesL]
theorem f1_ok {ws : List Str} {u n : Int} {buf : List Int} (hn : PrOk n) (hws : ws.length ≤ 3) (hb : buf.length ≤ 1000000) (hl : (lineW (ws ++ [numW n])).length ≤ 200) :
    M.prices_Format_1 n u ws (T_strings_Builder.mk () buf) = some (T_strings_Builder.mk () (buf ++ bytesL (lineT ws u n))) := by
  refine Is.eq ?_
  unfold M.prices_Format_1 lineT
  refine Is.cnd (fun e => Is.pure ?_) (fun e => ?_)
  · rw [if_pos (of_beq_t e)]; simp [bytesL]
  · rw [if_neg (of_beq_f e)]
    refine Is.bnq (x := Lib.itoa n) ?_ ?_
    · unfold M.strconv_Itoa itoaM
      rw [if_pos (by rcases hn with rfl | h <;> omega)]
    · refine Is.bnq (x := numW n) ?_ ?_
      · unfold numW
        rcases hn with rfl | ⟨h0, h1⟩
        · rfl
        · refine Is.eq (Is.df (by omega) (Is.pure ?_))
          rw [if_neg (by omega)]
          obtain ⟨m, rfl⟩ := Int.eq_ofNat_of_zero_le h0
          rw [itoa_num (by omega), Int.toNat_natCast]
      · refine Is.bnq (appM_ok (by simp; omega)) (Is.bnq (x := lineW (ws ++ [numW n])) ?_ (Is.bnq (x := lineW (ws ++ [numW n]) ++ [10]) ?_ (Is.bnq (x := (((lineW (ws ++ [numW n]) ++ [10]).length : Int), (), T_strings_Builder.mk () (buf ++ bytesL (lineW (ws ++ [numW n]) ++ [10])))) ?_ (Is.pure rfl))))
        · unfold M.strings_Join
          rw [join_line, if_pos ⟨by simp; omega, by omega⟩]
        · unfold catS; rw [if_pos (by simp; omega)]
        · refine Is.eq ?_
          unfold M.strings_Builder_WriteString
          exact Is.bnq (x := T_strings_Builder.mk () buf) rfl (Is.bnq (appM_ok (by rw [bytes_len]; simp; omega)) (Is.pure rfl))
theorem lineT_len {ws : List Str} {u n : Int} (hl : (lineW (ws ++ [numW n])).length ≤ 90) : (lineT ws u n).length ≤ 91 := by
  unfold lineT
  split
  · simp
  · simp; omega
theorem len2 {w t : Str} {n : Int} (hn : PrOk n) (hw : w.length ≤ 7) (ht : t.length ≤ 30) : (lineW ([w, t] ++ [numW n])).length ≤ 90 := by
  have := numW_len hn
  simp [lineW]; omega
theorem len3 {w t t2 : Str} {n : Int} (hn : PrOk n) (hw : w.length ≤ 7) (ht : t.length ≤ 30) (ht2 : t2.length ≤ 30) : (lineW ([w, t, t2] ++ [numW n])).length ≤ 90 := by
  have := numW_len hn
  simp [lineW]; omega
theorem len1 {w : Str} {n : Int} (hn : PrOk n) (hw : w.length ≤ 7) : (lineW ([w] ++ [numW n])).length ≤ 90 := by
  have := numW_len hn
  simp [lineW]; omega
/-! ### the whole text -/
def oneT (w : Str) : List Int → List Str → Str
  | n :: ns, t :: ts => lineT [w, t] 10 n ++ oneT w ns ts
  | _, _ => []
def rowT (terms : List Str) (i : Nat) : Nat → List Int → Str
  | _, [] => []
  | j, n :: ns => (if i = j then [] else lineT [repW, terms.getD i [], terms.getD j []] 15 n) ++ rowT terms i (j + 1) ns
def repT (terms : List Str) : Nat → List (List Int) → Str
  | _, [] => []
  | i, r :: rs => rowT terms i 0 r ++ repT terms (i + 1) rs
def formatB (p : T_Prices) (terms : List Str) : Str := oneT insW p.Insert terms ++ (oneT delW p.Delete terms ++ (repT terms 0 p.Replace ++ (lineT [swpW] 12 p.Swap ++ lineT [unkW] 8 p.Unknown)))
theorem oneT_step {w : Str} {ns : List Int} {ts : List Str} {i : Nat} (h1 : i < ns.length) (h2 : i < ts.length) : oneT w (ns.drop i) (ts.drop i) = lineT [w, ts[i]] 10 ns[i] ++ oneT w (ns.drop (i + 1)) (ts.drop (i + 1)) := by
  rw [List.drop_eq_getElem_cons h1, List.drop_eq_getElem_cons h2, oneT]
theorem rowT_step {terms : List Str} {i j : Nat} {r : List Int} (h : j < r.length) : rowT terms i j (r.drop j) = (if i = j then [] else lineT [repW, terms.getD i [], terms.getD j []] 15 r[j]) ++ rowT terms i (j + 1) (r.drop (j + 1)) := by
  rw [List.drop_eq_getElem_cons h, rowT]
theorem repT_step {terms : List Str} {i : Nat} {r : List (List Int)} (h : i < r.length) : repT terms i (r.drop i) = rowT terms i 0 r[i] ++ repT terms (i + 1) (r.drop (i + 1)) := by
  rw [List.drop_eq_getElem_cons h, repT]
theorem getT {terms : List Str} {i : Nat} (h : i < terms.length) : idxL terms (i : Int) = some (terms.getD i []) ∧ (terms.getD i []) ∈ terms := by
  have e : terms.getD i [] = terms[i] := by simp [List.getD_eq_getElem?_getD, h]
  rw [e]; exact ⟨idxL_nat h, List.getElem_mem _⟩
section
variable {terms : List Str} (hT : terms.length < 20) (ht : ∀ t ∈ terms, t.length ≤ 30)
include hT ht
theorem f_one {w : Str} (hw : w.length ≤ 7) {ns : List Int} (hns : ns.length = terms.length) (hv : ∀ x ∈ ns, PrOk x) {b0 : List Int} (hb : b0.length ≤ 500000) :
    Is (loopM (fun (st9 : (List Int) × Int) => match st9 with
   | (xv11, xv12) =>
    bif (decide (xv12 < (ns.length : Int))) then
     (idxL ns xv12).bind fun e11 =>
     (idxL terms xv12).bind fun e12 =>
     (M.prices_Format_1 e11 10 [w, e12] (T_strings_Builder.mk () xv11)).bind fun rv10 =>
     (chk .i64 (xv12 + 1)).bind fun t6 =>
     (some (.next (rv10.buf, t6)) : Option (Step (List Int × Int) (List Int)))
    else
     some (.stop xv11)) fuel (b0, (0 : Int))) (fun b => b = b0 ++ bytesL (oneT w ns terms) ∧ b.length ≤ b0.length + 2000) := by
  refine Is.upto (fun i (st : List Int × Int) => st.2 = (i : Int) ∧ st.1.length ≤ b0.length + 100 * i ∧ st.1 ++ bytesL (oneT w (ns.drop i) (terms.drop i)) = b0 ++ bytesL (oneT w ns terms)) ns.length (by omega) ⟨rfl, by simp, rfl⟩ ?_ ?_
  · rintro i ⟨b, _⟩ hi ⟨rfl, h1, h2⟩
    simp only at h1 h2
    have hi2 : i < terms.length := by omega
    have hp := hv _ (List.getElem_mem hi)
    have htl := ht _ (List.getElem_mem hi2)
    have hl := len2 (w := w) (t := terms[i]) hp hw htl
    have hll := lineT_len (u := 10) hl
    rw [oneT_step hi hi2, bytes_app] at h2
    refine Is.dt (by omega) (Is.bnq (idxL_nat hi) (Is.bnq (idxL_nat hi2) (Is.bnq (f1_ok hp (by simp) (by omega) (by omega)) (Is.bnq (chk_succ (by omega)) (Is.next ⟨rfl, ?_, ?_⟩)))))
    · simp only [List.length_append, bytes_len]; omega
    · simp only [List.append_assoc]; exact h2
  · rintro ⟨b, _⟩ ⟨rfl, h1, h2⟩
    simp only at h1 h2
    rw [List.drop_length] at h2
    have e : oneT w [] (terms.drop ns.length) = [] := by unfold oneT; rfl
    rw [e] at h2
    exact Is.df (by omega) (Is.stop ⟨by simpa [bytesL] using h2, by omega⟩)
theorem f_row {i : Nat} (hi : i < terms.length) {r : List Int} (hr : r.length = terms.length) (hv : ∀ x ∈ r, PrOk x) {b0 : List Int} (hb : b0.length ≤ 500000) :
    Is (loopM (fun (st9 : (List Int) × Int) => match st9 with
      | (xv149, xv150) =>
       bif (decide (xv150 < (r.length : Int))) then
        (
         (idxL r xv150).bind fun e242 =>
         bif ((i : Int) != xv150) then
          (idxL terms (i : Int)).bind fun e243 =>
          (idxL terms xv150).bind fun e244 =>
          (M.prices_Format_1 e242 15 [[114, 101, 112, 108, 97, 99, 101], e243, e244] (T_strings_Builder.mk () xv149)).bind fun rv88 =>
          some rv88.buf
         else
          some xv149).bind fun (xv154 : (List Int)) =>
        (chk .i64 (xv150 + 1)).bind fun t53 =>
        (some (.next (xv154, t53)) : Option (Step (List Int × Int) (List Int)))
       else
        some (.stop xv149)) fuel (b0, (0 : Int))) (fun b => b = b0 ++ bytesL (rowT terms i 0 r) ∧ b.length ≤ b0.length + 2000) := by
  refine Is.upto (fun j (st : List Int × Int) => st.2 = (j : Int) ∧ st.1.length ≤ b0.length + 100 * j ∧ st.1 ++ bytesL (rowT terms i j (r.drop j)) = b0 ++ bytesL (rowT terms i 0 r)) r.length (by omega) ⟨rfl, by simp, rfl⟩ ?_ ?_
  · rintro j ⟨b, _⟩ hj ⟨rfl, h1, h2⟩
    simp only at h1 h2
    have hp := hv _ (List.getElem_mem hj)
    obtain ⟨g1, g2⟩ := getT hi
    obtain ⟨g3, g4⟩ := getT (terms := terms) (i := j) (by omega)
    rw [rowT_step hj, bytes_app] at h2
    refine Is.dt (by omega) (Is.bnd (P := fun x => x.length ≤ b.length + 100 ∧ x = b ++ bytesL (if i = j then [] else lineT [repW, terms.getD i [], terms.getD j []] 15 r[j])) (Is.bnq (idxL_nat hj) ?_) ?_)
    · by_cases hij : i = j
      · rw [if_pos hij]
        exact Is.cf (bne_f (by omega)) (Is.pure ⟨by omega, by simp [bytesL]⟩)
      · rw [if_neg hij]
        have hl := len3 (w := repW) hp (by decide) (ht _ g2) (ht _ g4)
        have hll := lineT_len (u := 15) hl
        refine Is.ct (bne_t (by omega)) (Is.bnq g1 (Is.bnq g3 (Is.bnq (f1_ok (ws := [repW, terms.getD i [], terms.getD j []]) hp (by simp) (by omega) (by omega)) (Is.pure ⟨?_, rfl⟩))))
        simp only [List.length_append, bytes_len]; omega
    · rintro _ ⟨hx, rfl⟩
      refine Is.bnq (chk_succ (by omega)) (Is.next ⟨rfl, ?_, ?_⟩)
      · show (b ++ _).length ≤ _
        omega
      · simp only [List.append_assoc]; exact h2
  · rintro ⟨b, _⟩ ⟨rfl, h1, h2⟩
    simp only at h1 h2
    rw [List.drop_length] at h2
    exact Is.df (by omega) (Is.stop ⟨by simpa [bytesL, rowT] using h2, by omega⟩)
end
end Go.Proofs.YtbfmbiapjgpfhaaGreatDoor
