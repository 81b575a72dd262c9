/- Plain facts on layer 34: lines one after another; what Parse keeps. -/
import Derived.Test.YtbfmbiapjgpfhaaGreatDoorPl34k
set_option linter.unusedVariables false
set_option linter.unusedSimpArgs false
namespace Go.Proofs.YtbfmbiapjgpfhaaGreatDoor
open Go.Lx

/-! ### lines -/
theorem linesGo_app : ∀ (a cur b : Str), linesGo cur (a ++ 10 :: b) = linesGo cur a ++ linesGo [] b
  | [], cur, b => by simp [linesGo]
  | c :: a, cur, b => by
    rw [List.cons_append, linesGo, linesGo]
    split
    · rw [linesGo_app a [] b]; rfl
    · exact linesGo_app a _ b
theorem linesB_app (a b : Str) : linesB (a ++ 10 :: b) = linesB a ++ linesB b := linesGo_app a [] b
theorem linesB_one {a : Str} (h : 10 ∉ a) : linesB a = [a] := linesGo_none a [] h
theorem linesB_at {a b : Str} (h : 10 ∉ a) : linesB (a ++ 10 :: b) = a :: linesB b := by rw [linesB_app, linesB_one h]; rfl
theorem goB_app {terms : List Str} : ∀ (l1 l2 : List Str) (p : T_Prices) (k : Nat), goB terms p (l1 ++ l2) k = if (goB terms p l1 k).2.2 = 0 then goB terms (goB terms p l1 k).1 l2 (k + l1.length) else goB terms p l1 k
  | [], l2, p, k => by simp [goB]
  | x :: l1, l2, p, k => by
    rw [List.cons_append, goB_cons, goB_cons, List.length_cons, show k + (l1.length + 1) = k + 1 + l1.length by omega]
    split
    · exact goB_app l1 l2 p (k + 1)
    · split
      · exact goB_app l1 l2 _ (k + 1)
      · rfl
theorem goB_k {terms : List Str} : ∀ (l : List Str) (p : T_Prices) (k k2 : Nat), (goB terms p l k).1 = (goB terms p l k2).1 ∧ (goB terms p l k).2.2 = (goB terms p l k2).2.2
  | [], p, k, k2 => ⟨rfl, rfl⟩
  | x :: l, p, k, k2 => by
    rw [goB_cons, goB_cons]
    split
    · exact goB_k l p _ _
    · split
      · exact goB_k l _ _ _
      · exact ⟨rfl, rfl⟩
theorem goB_ok {terms : List Str} : ∀ (l : List Str) (p : T_Prices) (k : Nat), (goB terms p l k).2.2 = 0 → (goB terms p l k).2.1 = 0
  | [], p, k, _ => rfl
  | x :: l, p, k, h => by
    rw [goB_cons] at h ⊢
    split
    · rename_i h1; rw [if_pos h1] at h; exact goB_ok l p _ h
    · rename_i h1
      rw [if_neg h1] at h
      split
      · rename_i h2; rw [if_pos h2] at h; exact goB_ok l _ _ h
      · rename_i h2; rw [if_neg h2] at h; exact absurd h h2
def runL (terms : List Str) : T_Prices → List (List Str) → Option T_Prices
  | p, [] => some p
  | p, ws :: r => if (lineB terms p ws).1 = 0 then runL terms (lineB terms p ws).2 r else none
theorem runL_app {terms : List Str} : ∀ (a b : List (List Str)) (p : T_Prices), runL terms p (a ++ b) = (runL terms p a).bind fun q => runL terms q b
  | [], b, p => rfl
  | x :: a, b, p => by
    rw [List.cons_append, runL, runL]
    split
    · exact runL_app a b _
    · rfl
def okC (c : UInt8) : Bool := !sepB c && (c != 35 && c != 10)
def okW (w : Str) : Prop := w ≠ [] ∧ w.all okC = true
theorem okW_sep {w : Str} (h : w.all okC = true) : (∀ c ∈ w, sepB c = false) ∧ 35 ∉ w ∧ 10 ∉ w := by
  rw [List.all_eq_true] at h
  refine ⟨fun c hc => ?_, fun hc => ?_, fun hc => ?_⟩
  · have := h c hc
    unfold okC at this
    simp only [Bool.and_eq_true, Bool.not_eq_true'] at this
    exact this.1
  · have := h 35 hc
    exact absurd this (by decide)
  · have := h 10 hc
    exact absurd this (by decide)
theorem fld_one {w : Str} (h : w ≠ []) (h2 : ∀ c ∈ w, sepB c = false) : fieldsB w = [w] := by
  unfold fieldsB
  have := fldGo_skip w [] [] h2
  rw [List.append_nil, List.nil_append] at this
  rw [this, fldGo_end, if_neg h]
theorem fld_cons {w r : Str} (h : w ≠ []) (h2 : ∀ c ∈ w, sepB c = false) : fieldsB (w ++ 32 :: r) = w :: fieldsB r := by
  unfold fieldsB
  rw [fldGo_skip w [] _ h2, List.nil_append, fldGo, if_pos (by rfl), if_neg h]
theorem lineW_cons {w y : Str} {r : List Str} : lineW (w :: y :: r) = w ++ 32 :: lineW (y :: r) := by simp [lineW]
theorem lineW_ok : ∀ {ws : List Str}, ws ≠ [] → (∀ w ∈ ws, okW w) → fieldsB (lineW ws) = ws ∧ 35 ∉ lineW ws ∧ 10 ∉ lineW ws
  | [], h, _ => absurd rfl h
  | [w], _, h => by
    have h1 := h w (by simp)
    have h2 := okW_sep h1.2
    have e : lineW [w] = w := by simp [lineW]
    rw [e]
    exact ⟨fld_one h1.1 h2.1, h2.2⟩
  | w :: y :: r, _, h => by
    have h1 := h w (by simp)
    have h2 := okW_sep h1.2
    have ih := lineW_ok (ws := y :: r) (by simp) (fun x hx => h x (List.mem_cons_of_mem _ hx))
    rw [lineW_cons, fld_cons h1.1 h2.1, ih.1]
    refine ⟨rfl, fun hm => ?_, fun hm => ?_⟩
    · rcases List.mem_append.1 hm with hm | hm
      · exact h2.2.1 hm
      · rcases List.mem_cons.1 hm with hm | hm
        · exact absurd hm (by decide)
        · exact ih.2.1 hm
    · rcases List.mem_append.1 hm with hm | hm
      · exact h2.2.2 hm
      · rcases List.mem_cons.1 hm with hm | hm
        · exact absurd hm (by decide)
        · exact ih.2.2 hm
def wsOk (L : List (List Str)) : Prop := ∀ ws ∈ L, ws ≠ [] ∧ ∀ w ∈ ws, okW w
def txtB (L : List (List Str)) : Str := L.flatMap fun ws => lineW ws ++ [10]
theorem txt_app (a b : List (List Str)) : txtB (a ++ b) = txtB a ++ txtB b := by simp [txtB]
theorem lines_txt : ∀ {L : List (List Str)}, wsOk L → linesB (txtB L) = L.map lineW ++ [[]]
  | [], _ => rfl
  | ws :: L, h => by
    have h1 := h ws (by simp)
    have h2 := lineW_ok h1.1 h1.2
    have e : txtB (ws :: L) = lineW ws ++ 10 :: txtB L := by simp [txtB]
    rw [e, linesB_at h2.2.2, lines_txt fun x hx => h x (List.mem_cons_of_mem _ hx)]; rfl
theorem goB_run {terms : List Str} : ∀ {L : List (List Str)} {p q : T_Prices} {k : Nat} (rest : List Str), wsOk L → runL terms p L = some q → goB terms p (L.map lineW ++ rest) k = goB terms q rest (k + L.length)
  | [], p, q, k, rest, _, h => by cases h; rfl
  | ws :: L, p, q, k, rest, h, hr => by
    have h1 := h ws (by simp)
    have h2 := lineW_ok h1.1 h1.2
    rw [runL] at hr
    split at hr
    · rename_i h0
      rw [List.map_cons, List.cons_append, goB_cons, cutB_all h2.2.1, h2.1, if_neg h1.1, if_pos h0, goB_run rest (fun x hx => h x (List.mem_cons_of_mem _ hx)) hr, List.length_cons]
      congr 1; omega
    · cases hr
/-! ### what Parse keeps -/
theorem getD_set {α : Type} {l : List α} {i k : Nat} {v d : α} : (l.set i v).getD k d = if i = k ∧ k < l.length then v else l.getD k d := by
  rw [List.getD_eq_getElem?_getD, List.getElem?_set, List.getD_eq_getElem?_getD]
  by_cases h : i = k
  · subst h
    by_cases h2 : i < l.length
    · rw [if_pos rfl, if_pos h2, if_pos ⟨rfl, h2⟩]; rfl
    · rw [if_pos rfl, if_neg h2, if_neg (fun h => h2 h.2), List.getElem?_eq_none (by omega)]
  · rw [if_neg h, if_neg (fun h2 => h h2.1)]
theorem vp_rep {p : T_Prices} {n i j : Nat} {v : Int} (h : VP p n) (hi : i < n) (hj : j < n) (hv : entB i j v = true) : VP (setRep p i j v) n := by
  refine ⟨sh_rep h.sh, h.ins, h.del, fun a b ha hb => ?_, h.swp, h.unk⟩
  show entB a b (((p.Replace.set i ((p.Replace.getD i []).set j v)).getD a []).getD b 0) = true
  rw [getD_set]
  by_cases hc : i = a ∧ a < p.Replace.length
  · rw [if_pos hc, getD_set]
    obtain ⟨rfl, _⟩ := hc
    by_cases hd : j = b ∧ b < (p.Replace.getD i []).length
    · rw [if_pos hd]; obtain ⟨rfl, _⟩ := hd; exact hv
    · rw [if_neg hd]; exact h.rep _ _ ha hb
  · rw [if_neg hc]; exact h.rep _ _ ha hb
theorem inB_nat {least v : Nat} (h : least ≤ v ∧ v ≤ 1000) : inB (least : Int) (v : Int) = true := decide_eq_true (by omega)
theorem vp_range {p : T_Prices} {n least v : Nat} {f : Int → T_Prices} (h : VP p n) (hf : least ≤ v ∧ v ≤ 1000 → VP (f v) n) : VP (rangeB least p v f).2 n := by
  unfold rangeB; split
  · rename_i hc; exact hf hc
  · exact h
theorem vp_one {terms : List Str} {p : T_Prices} {a x : Str} {n : Nat} {f : Nat → Int → T_Prices} (h : VP p n) (hf : ∀ i (v : Nat), 1 ≤ v ∧ v ≤ 1000 → VP (f i v) n) : VP (oneB terms p a x f).2 n := by
  unfold oneB
  cases numB x with
  | none => exact h
  | some v =>
    cases idxB terms a with
    | none => exact h
    | some i => exact vp_range h (hf i v)
theorem vp_line {terms : List Str} {p : T_Prices} (h : VP p terms.length) (l : List Str) : VP (lineB terms p l).2 terms.length := by
  rcases l with _ | ⟨k, _ | ⟨a, _ | ⟨b, _ | ⟨c, _ | ⟨d, t⟩⟩⟩⟩⟩
  · exact h
  · exact h
  · rw [line2]
    split
    · cases numB a with
      | none => exact h
      | some v => exact vp_range h (fun hc => ⟨⟨h.sh.ins, h.sh.del, h.sh.rep, h.sh.row⟩, h.ins, h.del, h.rep, inB_nat hc, h.unk⟩)
    · split
      · cases numB a with
        | none => exact h
        | some v => exact vp_range h (fun hc => ⟨⟨h.sh.ins, h.sh.del, h.sh.rep, h.sh.row⟩, h.ins, h.del, h.rep, h.swp, inB_nat hc⟩)
      · exact h
  · rw [line3]
    split
    · refine vp_one h (fun i v hc => ⟨⟨by simp [h.sh.ins], h.sh.del, h.sh.rep, h.sh.row⟩, fun k hk => ?_, h.del, h.rep, h.swp, h.unk⟩)
      show inB 1 ((p.Insert.set i (v : Int)).getD k 0) = true
      rw [getD_set]; split
      · exact inB_nat hc
      · exact h.ins k hk
    · split
      · refine vp_one h (fun i v hc => ⟨⟨h.sh.ins, by simp [h.sh.del], h.sh.rep, h.sh.row⟩, h.ins, fun k hk => ?_, h.rep, h.swp, h.unk⟩)
        show inB 1 ((p.Delete.set i (v : Int)).getD k 0) = true
        rw [getD_set]; split
        · exact inB_nat hc
        · exact h.del k hk
      · exact h
  · rw [line4]
    split
    · unfold twoB
      split
      · exact h
      · cases hi : idxB terms a with
        | none => exact h
        | some i =>
          cases hj : idxB terms b with
          | none => exact h
          | some j =>
            simp only
            split
            · exact h
            · rename_i hij
              have g1 := idxB_lt hi
              have g2 := idxB_lt hj
              cases numB c with
              | none => exact vp_rep h g1 g2 (by unfold entB; rw [if_neg hij]; rfl)
              | some v => exact vp_range h (fun hc => vp_rep h g1 g2 (by unfold entB; rw [if_neg hij, show inB 1 (v : Int) = true from inB_nat hc]; simp))
    · exact h
  · exact h
theorem vp_go {terms : List Str} : ∀ {l : List Str} {p : T_Prices} {k : Nat}, VP p terms.length → (goB terms p l k).2.2 = 0 → VP (goB terms p l k).1 terms.length
  | [], p, k, h, _ => h
  | x :: l, p, k, h, he => by
    rw [goB_cons] at he ⊢
    split
    · rename_i h1; rw [if_pos h1] at he; exact vp_go h he
    · rename_i h1
      rw [if_neg h1] at he
      split
      · rename_i h2; rw [if_pos h2] at he; exact vp_go (vp_line h _) he
      · rename_i h2; rw [if_neg h2] at he; exact absurd he h2
theorem vp_def {n : Nat} (h : n < 20) : VP (defP n) n := valid_iff.1 (def_valid n h)
theorem parse_names {s : Str} {terms : List Str} (h : (parseB s terms).2.2 = 0) : namesB terms = true := by
  unfold parseB at h
  split at h
  · assumption
  · cases h
theorem vp_parse {s : Str} {terms : List Str} (ht : terms.length < 20) (h : (parseB s terms).2.2 = 0) : VP (parseB s terms).1 terms.length := by
  have hn := parse_names h
  unfold parseB at h ⊢
  rw [if_pos hn] at h ⊢
  exact vp_go (vp_def ht) h
end Go.Proofs.YtbfmbiapjgpfhaaGreatDoor
