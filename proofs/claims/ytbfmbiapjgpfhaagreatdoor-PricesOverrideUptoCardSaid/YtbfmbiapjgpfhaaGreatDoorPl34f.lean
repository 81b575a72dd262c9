/- Plain facts on layer 34: the default prices; what Parse computes, in the program and in the reference. -/
import Derived.Test.YtbfmbiapjgpfhaaGreatDoorPl34e
set_option linter.unusedVariables false
set_option linter.unusedSimpArgs false
namespace Go.Proofs.YtbfmbiapjgpfhaaGreatDoor
open Go.Lx

def rowP (n a : Nat) : List Int := (List.replicate n 15).set a 0
def defP (n : Nat) : T_Prices := ⟨List.replicate n 10, List.replicate n 10, (List.range n).map (rowP n), 12, 8⟩
theorem def_all : ∀ n : Nat, n < 20 → M.prices_Default (n : Int) = some (defP n) ∧ M.ref34_Default (n : Int) = some (defP n) := by decide +kernel
theorem sh_def (n : Nat) : Sh (defP n) n := ⟨by simp [defP], by simp [defP], by simp [defP], fun r hr => by
  simp only [defP, List.mem_map] at hr
  obtain ⟨a, _, rfl⟩ := hr
  simp [rowP]⟩
theorem sh_rep {p : T_Prices} {n i j : Nat} {v : Int} (h : Sh p n) : Sh (setRep p i j v) n := by
  refine ⟨h.ins, h.del, by simp [setRep, h.rep], fun r hr => ?_⟩
  simp only [setRep] at hr
  by_cases hi : i < p.Replace.length
  · rcases List.mem_or_eq_of_mem_set hr with hr | rfl
    · exact h.row r hr
    · rw [List.length_set]
      have e : p.Replace.getD i [] = p.Replace[i] := by simp [List.getD_eq_getElem?_getD, hi]
      rw [e]
      exact h.row _ (List.getElem_mem _)
  · rw [List.set_eq_of_length_le (by omega)] at hr
    exact h.row r hr
theorem sh_range {p : T_Prices} {n least v : Nat} {f : Int → T_Prices} (h : Sh p n) (hf : ∀ m, Sh (f m) n) : Sh (rangeB least p v f).2 n := by
  unfold rangeB; split
  · exact hf _
  · exact h
theorem sh_one {terms : List Str} {p : T_Prices} {a x : Str} {n : Nat} {f : Nat → Int → T_Prices} (h : Sh p n) (hf : ∀ i m, Sh (f i m) n) : Sh (oneB terms p a x f).2 n := by
  unfold oneB
  cases numB x with
  | none => exact h
  | some v =>
    cases idxB terms a with
    | none => exact h
    | some i => exact sh_range h (hf i)
theorem sh_line {terms : List Str} {p : T_Prices} {n : Nat} (h : Sh p n) (l : List Str) : Sh (lineB terms p l).2 n := by
  rcases l with _ | ⟨k, _ | ⟨a, _ | ⟨b, _ | ⟨c, _ | ⟨d, t⟩⟩⟩⟩⟩
  · exact h
  · exact h
  · rw [line2]
    split
    · cases numB a with
      | none => exact h
      | some v => exact sh_range h (fun m => ⟨h.ins, h.del, h.rep, h.row⟩)
    · split
      · cases numB a with
        | none => exact h
        | some v => exact sh_range h (fun m => ⟨h.ins, h.del, h.rep, h.row⟩)
      · exact h
  · rw [line3]
    split
    · exact sh_one h (fun i m => ⟨by simp [h.ins], h.del, h.rep, h.row⟩)
    · split
      · exact sh_one h (fun i m => ⟨h.ins, by simp [h.del], h.rep, h.row⟩)
      · exact h
  · rw [line4]
    split
    · unfold twoB
      split
      · exact h
      · cases idxB terms a with
        | none => exact h
        | some i =>
          cases idxB terms b with
          | none => exact h
          | some j =>
            simp only
            split
            · exact h
            · cases numB c with
              | none => exact sh_rep h
              | some v => exact sh_range h (fun m => sh_rep h)
    · exact h
  · exact h
/-! ### sizes -/
theorem fldGo_len : ∀ (s cur : Str), (fldGo cur s).length ≤ s.length + 1 ∧ ∀ x ∈ fldGo cur s, x.length ≤ cur.length + s.length
  | [], cur => by
    rw [fldGo_end]
    split
    · simp
    · simp
  | c :: s, cur => by
    rw [fldGo]
    split
    · split
      · have h := fldGo_len s []
        refine ⟨by simp only [List.length_cons]; omega, fun x hx => ?_⟩
        have := h.2 x hx
        simp only [List.length_cons, List.length_nil] at *; omega
      · have h := fldGo_len s []
        refine ⟨by simp only [List.length_cons]; omega, fun x hx => ?_⟩
        rcases List.mem_cons.1 hx with rfl | hx
        · simp only [List.length_cons]; omega
        · have := h.2 x hx
          simp only [List.length_cons, List.length_nil] at *; omega
    · have h := fldGo_len s (cur ++ [c])
      refine ⟨by simp only [List.length_cons]; omega, fun x hx => ?_⟩
      have := h.2 x hx
      simp only [List.length_cons, List.length_append, List.length_nil] at *; omega
theorem linesGo_len : ∀ (s cur : Str), (linesGo cur s).length ≤ s.length + 1 ∧ ∀ x ∈ linesGo cur s, x.length ≤ cur.length + s.length
  | [], cur => by simp [linesGo]
  | c :: s, cur => by
    rw [linesGo]
    split
    · have h := linesGo_len s []
      refine ⟨by simp only [List.length_cons]; omega, fun x hx => ?_⟩
      rcases List.mem_cons.1 hx with rfl | hx
      · simp only [List.length_cons]; omega
      · have := h.2 x hx
        simp only [List.length_cons, List.length_nil] at *; omega
    · have h := linesGo_len s (cur ++ [c])
      refine ⟨by simp only [List.length_cons]; omega, fun x hx => ?_⟩
      have := h.2 x hx
      simp only [List.length_cons, List.length_append, List.length_nil] at *; omega
theorem cut_le (c : UInt8) (s : Str) : (cutB c s).length ≤ s.length := (List.takeWhile_sublist _).length_le
theorem lines_len (s : Str) : (linesB s).length ≤ s.length + 1 ∧ ∀ x ∈ linesB s, x.length ≤ s.length := by
  have h := linesGo_len s []
  refine ⟨h.1, fun x hx => ?_⟩
  have := h.2 x hx
  simpa using this
/-! ### Parse -/
def zeroP : T_Prices := ⟨[], [], [], 0, 0⟩
def goB (terms : List Str) : T_Prices → List Str → Nat → T_Prices × Int × Int
  | p, [], _ => (p, 0, 0)
  | p, line :: rest, at_ =>
    if fieldsB (cutB 35 line) = [] then goB terms p rest (at_ + 1)
    else if (lineB terms p (fieldsB (cutB 35 line))).1 = 0 then goB terms (lineB terms p (fieldsB (cutB 35 line))).2 rest (at_ + 1)
    else (zeroP, (at_ : Int), (lineB terms p (fieldsB (cutB 35 line))).1)
def parseB (s : Str) (terms : List Str) : T_Prices × Int × Int := if namesB terms = true then goB terms (defP terms.length) (linesB s) 1 else (zeroP, 0, 1)
theorem parse_ok {s : Str} {terms : List Str} (hs : s.length ≤ 1073741824) (ht : terms.length < 20) (hl : ∀ x ∈ terms, x.length ≤ 1073741824) : M.prices_Parse s terms = some (parseB s terms) := by
  refine Is.eq ?_
  unfold M.prices_Parse parseB
  refine Is.bnq (names_ok (by omega) (fun x hx => by have := hl x hx; omega)) ?_
  cases hnm : namesB terms with
  | false => exact Is.ct rfl (Is.pure rfl)
  | true =>
    refine Is.cf rfl (Is.bnq (def_all _ ht).1 ?_)
    simp only [if_true]
    have hL := lines_len s
    refine Is.bs (P := fun q => (⟨q.1, q.2.1, q.2.2.1, q.2.2.2.1, q.2.2.2.2⟩, (0 : Int), (0 : Int)) = goB terms (defP terms.length) (linesB s) 1) (Is.bnq (split_ok (by omega)) (Is.upto (fun i (st : List Int × List Int × List (List Int) × Int × Int × Int) => ∃ p, Sh p terms.length ∧ st = (p.Insert, p.Delete, p.Replace, p.Swap, p.Unknown, (i : Int)) ∧ goB terms (defP terms.length) (linesB s) 1 = goB terms p ((linesB s).drop i) (i + 1)) (linesB s).length (by omega) ⟨defP terms.length, sh_def _, rfl, rfl⟩ ?_ ?_)) ?_
    · rintro i _ hi ⟨p, hsh, rfl, hg⟩
      rw [List.drop_eq_getElem_cons hi, goB] at hg
      have hline : (linesB s)[i].length ≤ 1073741824 := Nat.le_trans (hL.2 _ (List.getElem_mem _)) hs
      have hcl := cut_le 35 (linesB s)[i]
      have hF := fldGo_len (cutB 35 (linesB s)[i]) []
      have hFl : ∀ x ∈ fieldsB (cutB 35 (linesB s)[i]), x.length ≤ 4294967296 := fun x hx => by have := hF.2 x hx; simp only [List.length_nil] at this; omega
      have hil : i < 4294967296 := by omega
      refine Is.dt (show (i : Int) < ((linesB s).length : Int) by omega) (Is.bs (P := fun q => ∃ p2, Sh p2 terms.length ∧ q = (p2.Insert, p2.Delete, p2.Replace, p2.Swap, p2.Unknown) ∧ goB terms (defP terms.length) (linesB s) 1 = goB terms p2 ((linesB s).drop (i + 1)) (i + 1 + 1)) (Is.bnq (idxL_nat hi) (Is.bnq (fields_ok (by omega)) ?_)) ?_)
      · by_cases hnil : fieldsB (cutB 35 (linesB s)[i]) = []
        · rw [if_pos hnil] at hg
          rw [hnil]
          exact Is.ct rfl (Is.next ⟨p, hsh, rfl, hg⟩)
        · rw [if_neg hnil] at hg
          obtain ⟨f, hf1, hf2, hf3⟩ := pline (terms := terms) (p := p) hnil hsh rfl (by omega) hFl
          refine Is.cf (beq_f ?_) (Is.bnq hf1 ?_)
          · have := List.length_pos_iff.2 hnil; omega
          · cases f with
            | false =>
              rw [hf2 rfl, if_neg (show ¬ ((3 : Int) = 0) by decide)] at hg
              exact Is.ct rfl (Is.bnq (chk_succ (by omega)) (Is.stop hg.symm))
            | true =>
              refine Is.cf rfl (Is.bnq (hf3 rfl) ?_)
              by_cases he : (lineB terms p (fieldsB (cutB 35 (linesB s)[i]))).1 = 0
              · rw [if_pos he] at hg
                exact Is.cf (bne_f he) (Is.next ⟨_, sh_line hsh _, rfl, hg⟩)
              · rw [if_neg he] at hg
                exact Is.ct (bne_t he) (Is.bnq (chk_succ (by omega)) (Is.stop hg.symm))
      · rintro _ ⟨p2, hsh2, rfl, hg2⟩
        exact Is.bnq (chk_succ (by omega)) (Is.next ⟨p2, hsh2, rfl, hg2⟩)
    · rintro _ ⟨p, hsh, rfl, hg⟩
      rw [List.drop_length, goB] at hg
      exact Is.df (show ¬ (((linesB s).length : Int) < ((linesB s).length : Int)) by omega) (Is.stop hg.symm)
    · rintro ⟨a, b, c, d, e⟩ h
      exact Is.pure h
theorem cutB_snoc (cur : Str) (c : UInt8) : cutB 35 (cur ++ [c]) = if 35 ∈ cur ∨ c = 35 then cutB 35 cur else cutB 35 cur ++ [c] := by
  unfold cutB
  induction cur with
  | nil =>
    by_cases h : c = 35
    · subst h; rfl
    · simp [h]
  | cons b t ih =>
    by_cases hb : b = 35
    · subst hb; simp
    · have e : (b != 35) = true := by simpa using hb
      rw [List.cons_append, List.takeWhile_cons, if_pos e, ih, List.takeWhile_cons, if_pos e]
      by_cases h : 35 ∈ t ∨ c = 35
      · rw [if_pos h, if_pos (h.elim (fun h => .inl (List.mem_cons_of_mem _ h)) .inr)]
      · rw [if_neg h, if_neg (fun h2 => h (h2.elim (fun h3 => by rcases List.mem_cons.1 h3 with h4 | h4; exact absurd h4.symm hb; exact .inl h4) .inr))]; rfl
theorem goB_cons (terms : List Str) (p : T_Prices) (line : Str) (rest : List Str) (k : Nat) : goB terms p (line :: rest) k = if fieldsB (cutB 35 line) = [] then goB terms p rest (k + 1)
    else if (lineB terms p (fieldsB (cutB 35 line))).1 = 0 then goB terms (lineB terms p (fieldsB (cutB 35 line))).2 rest (k + 1)
    else (zeroP, (k : Int), (lineB terms p (fieldsB (cutB 35 line))).1) := rfl
theorem subL_one {s : Str} {i : Nat} (hi : i < s.length) : subL s (i : Int) ((i + 1 : Nat) : Int) = some [s[i]] := by
  unfold subL
  rw [if_pos (by omega)]
  simp only [Int.toNat_natCast]
  rw [List.take_succ_eq_append_getElem hi, List.drop_left' (by rw [List.length_take]; omega)]
/-- What holds ahead of sign i of the reference's loop. -/
def RJ (s : Str) (terms : List Str) (i : Nat) (st : List Int × List Int × List (List Int) × Int × Int × Str × Bool × Int × Int) : Prop :=
  ∃ (p : T_Prices) (row : Str) (skip : Bool) (k : Nat), Sh p terms.length ∧ st = (p.Insert, p.Delete, p.Replace, p.Swap, p.Unknown, row, skip, (k : Int), (i : Int)) ∧ k ≤ i + 1 ∧ row.length ≤ i ∧
    (if i ≤ s.length then ∃ cur : Str, row = cutB 35 cur ∧ skip = decide (35 ∈ cur) ∧ goB terms (defP terms.length) (linesB s) 1 = goB terms p (linesGo cur (s.drop i)) k
     else goB terms (defP terms.length) (linesB s) 1 = (p, 0, 0))
theorem rparse_ok {s : Str} {terms : List Str} (hs : s.length ≤ 1073741824) (ht : terms.length < 20) (hl : ∀ x ∈ terms, x.length ≤ 1073741824) : M.ref34_Parse s terms = some (parseB s terms) := by
  refine Is.eq ?_
  unfold M.ref34_Parse parseB
  refine Is.bnq (rnames_ok (by omega) (fun x hx => by have := hl x hx; omega)) ?_
  cases hnm : namesB terms with
  | false => exact Is.ct rfl (Is.pure rfl)
  | true =>
    refine Is.cf rfl (Is.bnq (def_all _ ht).2 ?_)
    simp only [if_true]
    refine Is.bs (P := fun q => (⟨q.1, q.2.1, q.2.2.1, q.2.2.2.1, q.2.2.2.2⟩, (0 : Int), (0 : Int)) = goB terms (defP terms.length) (linesB s) 1) (Is.upto (RJ s terms) (s.length + 1) (by omega) ⟨defP terms.length, [], false, 1, sh_def _, rfl, by omega, by simp, ?_⟩ ?_ ?_) ?_
    · rw [if_pos (Nat.zero_le _)]
      exact ⟨[], rfl, by simp, rfl⟩
    · rintro i _ hi ⟨p, row, skip, k, hsh, rfl, hk, hr, hJ⟩
      rw [if_pos (by omega)] at hJ
      obtain ⟨cur, rfl, rfl, hg⟩ := hJ
      refine Is.dt (show (i : Int) ≤ (s.length : Int) by omega) (Is.bs (P := fun q => ∃ (p2 : T_Prices) (row2 : Str) (skip2 : Bool) (k2 : Nat), Sh p2 terms.length ∧ q = (p2.Insert, p2.Delete, p2.Replace, p2.Swap, p2.Unknown, row2, skip2, (k2 : Int)) ∧ k2 ≤ i + 1 + 1 ∧ row2.length ≤ i + 1 ∧
          (if i + 1 ≤ s.length then ∃ cur : Str, row2 = cutB 35 cur ∧ skip2 = decide (35 ∈ cur) ∧ goB terms (defP terms.length) (linesB s) 1 = goB terms p2 (linesGo cur (s.drop (i + 1))) k2
           else goB terms (defP terms.length) (linesB s) 1 = (p2, 0, 0))) ?_ ?_)
      · have hflush : ∀ rest : List Str, goB terms (defP terms.length) (linesB s) 1 = goB terms p (cur :: rest) k → (∀ p2, Sh p2 terms.length → goB terms (defP terms.length) (linesB s) 1 = goB terms p2 rest (k + 1) → (if i + 1 ≤ s.length then ∃ cur2 : Str, ([] : Str) = cutB 35 cur2 ∧ false = decide (35 ∈ cur2) ∧ goB terms (defP terms.length) (linesB s) 1 = goB terms p2 (linesGo cur2 (s.drop (i + 1))) (k + 1) else goB terms (defP terms.length) (linesB s) 1 = (p2, 0, 0))) →
            Is (bindStep (
              (M.ref34_fields (cutB 35 cur)).bind fun rv49 =>
              bif (decide (0 < (rv49.length : Int))) then
               (M.ref34_line (T_Prices.mk p.Insert p.Delete p.Replace p.Swap p.Unknown) rv49 terms).bind fun rv50 =>
               bif (rv50.2 != 0) then
                (some (.stop (.stop (.stop (.stop ((T_Prices.mk [] [] [] 0 0), (k : Int), rv50.2))))) : Option (Step (List Int × List Int × List (List Int) × Int × Int) (Step (List Int × List Int × List (List Int) × Int × Int × Str × Bool × Int) (Step (List Int × List Int × List (List Int) × Int × Int × Str × Bool × Int × Int) (Step (List Int × List Int × List (List Int) × Int × Int) (T_Prices × Int × Int))))))
               else
                some (.next (rv50.1.Insert, rv50.1.Delete, rv50.1.Replace, rv50.1.Swap, rv50.1.Unknown))
              else
               some (.next (p.Insert, p.Delete, p.Replace, p.Swap, p.Unknown))) fun (l73, l74, l75, xv109, xv110) =>
             (chk .i64 ((k : Int) + 1)).bind fun t41 =>
             some (.next (l73, l74, l75, xv109, xv110, ([] : Str), false, t41)))
             (SP (fun q => ∃ (p2 : T_Prices) (row2 : Str) (skip2 : Bool) (k2 : Nat), Sh p2 terms.length ∧ q = (p2.Insert, p2.Delete, p2.Replace, p2.Swap, p2.Unknown, row2, skip2, (k2 : Int)) ∧ k2 ≤ i + 1 + 1 ∧ row2.length ≤ i + 1 ∧
          (if i + 1 ≤ s.length then ∃ cur : Str, row2 = cutB 35 cur ∧ skip2 = decide (35 ∈ cur) ∧ goB terms (defP terms.length) (linesB s) 1 = goB terms p2 (linesGo cur (s.drop (i + 1))) k2
           else goB terms (defP terms.length) (linesB s) 1 = (p2, 0, 0))) (SP (RJ s terms (i + 1)) (SP (fun q => (⟨q.1, q.2.1, q.2.2.1, q.2.2.2.1, q.2.2.2.2⟩, (0 : Int), (0 : Int)) = goB terms (defP terms.length) (linesB s) 1) (fun r => r = goB terms (defP terms.length) (linesB s) 1)))) := by
          intro rest h1 h2
          rw [goB_cons] at h1
          have hF := fldGo_len (cutB 35 cur) []
          have hFl : ∀ x ∈ fieldsB (cutB 35 cur), x.length ≤ 4294967296 := fun x hx => by have := hF.2 x hx; simp only [List.length_nil] at this; omega
          have hF1 : (fieldsB (cutB 35 cur)).length ≤ (cutB 35 cur).length + 1 := hF.1
          refine Is.bs (P := fun q => ∃ p2, Sh p2 terms.length ∧ q = (p2.Insert, p2.Delete, p2.Replace, p2.Swap, p2.Unknown) ∧ goB terms (defP terms.length) (linesB s) 1 = goB terms p2 rest (k + 1)) (Is.bnq (rfields_ok (by omega)) ?_) ?_
          · by_cases hnil : fieldsB (cutB 35 cur) = []
            · rw [if_pos hnil] at h1
              rw [hnil]
              exact Is.df (by decide) (Is.next ⟨p, hsh, rfl, h1⟩)
            · rw [if_neg hnil] at h1
              have := List.length_pos_iff.2 hnil
              refine Is.dt (by omega) (Is.bnq (rline (p := p) hnil hsh rfl (by omega) (by omega) hFl) ?_)
              by_cases he : (lineB terms p (fieldsB (cutB 35 cur))).1 = 0
              · rw [if_pos he] at h1
                exact Is.cf (bne_f he) (Is.next ⟨_, sh_line hsh _, rfl, h1⟩)
              · rw [if_neg he] at h1
                exact Is.ct (bne_t he) (Is.stop h1.symm)
          · rintro _ ⟨p2, hsh2, rfl, hg2⟩
            exact Is.bnq (chk_succ (by omega)) (Is.next ⟨p2, [], false, k + 1, hsh2, rfl, by omega, by simp, h2 p2 hsh2 hg2⟩)
        by_cases hlt : i < s.length
        · rw [List.drop_eq_getElem_cons hlt, linesGo] at hg
          by_cases hc : s[i] = 10
          · rw [if_pos hc] at hg
            refine Is.bnq (x := false) (Is.eq (Is.dt (show (i : Int) < (s.length : Int) by omega) (Is.bnq (idxS_nat hlt) (Is.pure (by rw [hc]; rfl))))) (Is.cf rfl (hflush _ hg fun p2 _ h => ?_))
            rw [if_pos (by omega)]
            exact ⟨[], rfl, by simp, h⟩
          · rw [if_neg hc] at hg
            have hc2 : s[i].toNat ≠ 10 := fun h => hc (UInt8.toNat_inj.1 h)
            refine Is.bnq (x := true) (Is.eq (Is.dt (show (i : Int) < (s.length : Int) by omega) (Is.bnq (idxS_nat hlt) (Is.pure (bne_t (by omega)))))) (Is.ct rfl ?_)
            refine Is.bnq (x := decide (35 ∈ cur ++ [s[i]])) ?_ ?_
            · refine Is.eq ?_
              by_cases hm : 35 ∈ cur
              · rw [decide_eq_true hm]
                exact Is.ct rfl (Is.pure (by rw [decide_eq_true (List.mem_append_left _ hm)]))
              · rw [decide_eq_false hm]
                refine Is.cf rfl (Is.bnq (idxS_nat hlt) (Is.pure ?_))
                by_cases h35 : s[i] = 35
                · rw [h35, decide_eq_true (show (35 : UInt8) ∈ cur ++ [35] from List.mem_append_right _ (List.mem_singleton.2 rfl))]; rfl
                · have h9 : s[i].toNat ≠ 35 := fun h => h35 (UInt8.toNat_inj.1 h)
                  rw [decide_eq_false (show ¬ (35 : UInt8) ∈ cur ++ [s[i]] from fun h => by
                    rcases List.mem_append.1 h with h | h
                    · exact hm h
                    · exact h35 (List.mem_singleton.1 h).symm)]
                  exact beq_f (by omega)
            · refine Is.bnd (P := fun w => w = cutB 35 (cur ++ [s[i]])) ?_ ?_
              · rw [cutB_snoc]
                by_cases hm : 35 ∈ cur ++ [s[i]]
                · have h8 : 35 ∈ cur ∨ s[i] = 35 := by
                    rcases List.mem_append.1 hm with h | h
                    · exact .inl h
                    · exact .inr (List.mem_singleton.1 h).symm
                  rw [decide_eq_true hm, if_pos h8]
                  exact Is.cf rfl (Is.pure rfl)
                · have h8 : ¬ (35 ∈ cur ∨ s[i] = 35) := fun h => hm (h.elim (List.mem_append_left _) (fun h => List.mem_append_right _ (List.mem_singleton.2 h.symm)))
                  rw [decide_eq_false hm, if_neg h8]
                  refine Is.ct rfl (Is.bnq (chk_succ (by omega)) (Is.bnq (subL_one hlt) (Is.bnq (x := cutB 35 cur ++ [s[i]]) ?_ (Is.pure rfl))))
                  unfold catS; rw [if_pos (by simp; omega)]
              · rintro _ rfl
                refine Is.next ⟨p, _, _, k, hsh, rfl, by omega, ?_, ?_⟩
                · rw [cutB_snoc]; split
                  · omega
                  · rw [List.length_append]; simp; omega
                · rw [if_pos (by omega)]
                  exact ⟨_, rfl, rfl, hg⟩
        · have hi2 : i = s.length := by omega
          rw [List.drop_eq_nil_iff.2 (by omega), linesGo] at hg
          refine Is.bnq (x := false) (Is.eq (Is.df (show ¬ ((i : Int) < (s.length : Int)) by omega) (Is.pure rfl))) (Is.cf rfl (hflush [] hg fun p2 _ h => ?_))
          rw [if_neg (by omega)]
          exact h
      · rintro _ ⟨p2, row2, skip2, k2, hsh2, rfl, hk2, hr2, h⟩
        exact Is.bnq (chk_succ (by omega)) (Is.next ⟨p2, row2, skip2, k2, hsh2, rfl, hk2, hr2, h⟩)
    · rintro _ ⟨p, row, skip, k, hsh, rfl, hk, hr, hJ⟩
      rw [if_neg (by omega)] at hJ
      exact Is.df (show ¬ (((s.length + 1 : Nat) : Int) ≤ (s.length : Int)) by omega) (Is.stop hJ.symm)
    · rintro ⟨a, b, c, d, e⟩ h
      exact Is.pure h
end Go.Proofs.YtbfmbiapjgpfhaaGreatDoor
