/- Plain facts on layer 34: text: the part before a comment, fields, lines. -/
import Derived.Test.YtbfmbiapjgpfhaaGreatDoorPl34a
import Derived.Lib.TrimUEq
import Derived.Lib.SpaceUEq
set_option linter.unusedVariables false
set_option linter.unusedSimpArgs false
namespace Go.Proofs.YtbfmbiapjgpfhaaGreatDoor
open Go.Lx

/-! ### the part before a sign -/
theorem indexByte_tw (c : UInt8) : ∀ s : Str, (Lib.indexByte s c = -1 ∧ c ∉ s) ∨ ∃ i : Nat, Lib.indexByte s c = (i : Int) ∧ i < s.length ∧ c ∉ s.take i ∧ s[i]? = some c
  | [] => .inl ⟨rfl, by simp⟩
  | b :: s => by
    unfold Lib.indexByte
    by_cases hb : b = c
    · refine .inr ⟨0, ?_, by simp, by simp, by simp [hb]⟩
      rw [if_pos (by simpa using hb)]; rfl
    · have hb2 : ¬ (b == c) = true := by simpa using hb
      rw [if_neg hb2]
      rcases indexByte_tw c s with ⟨h1, h2⟩ | ⟨i, h1, h2, h3, h4⟩
      · left
        rw [h1]
        exact ⟨rfl, by simp [h2, Ne.symm hb]⟩
      · right
        refine ⟨i + 1, ?_, by simpa using h2, by simp [h3, Ne.symm hb], by simpa using h4⟩
        rw [h1, if_neg (by simp)]
        omega
def cutB (c : UInt8) (s : Str) : Str := s.takeWhile (· != c)
theorem cutB_all {c : UInt8} {s : Str} (h : c ∉ s) : cutB c s = s := by
  unfold cutB
  induction s with
  | nil => rfl
  | cons b s ih =>
    simp only [List.mem_cons, not_or] at h
    rw [List.takeWhile_cons, if_pos (by simpa using Ne.symm h.1), ih h.2]
theorem cutB_at {c : UInt8} : ∀ {s : Str} {i : Nat}, c ∉ s.take i → s[i]? = some c → cutB c s = s.take i
  | [], i, _, h => by simp at h
  | b :: s, 0, _, h => by
    simp at h; subst h
    simp [cutB]
  | b :: s, i + 1, h, h2 => by
    simp only [List.take_succ_cons, List.mem_cons, not_or] at h
    have ih := cutB_at (s := s) (i := i) h.2 (by simpa using h2)
    unfold cutB at ih ⊢
    rw [List.takeWhile_cons, if_pos (by simpa using Ne.symm h.1), ih]
    rfl
theorem cut_ok {s : Str} (hl : s.length ≤ 4611686018427387903) (c : UInt8) : Is (M.strings_Cut s [c]) (fun r => r.1 = cutB c s) := by
  unfold M.strings_Cut
  refine Is.bnd (P := fun r => r.1 = cutB c s) ?_ fun r hr => Is.pure hr
  unfold M.internal_stringslite_Cut
  refine Is.bnq (x := Lib.indexByte s c) rfl ?_
  rcases indexByte_tw c s with ⟨h1, h2⟩ | ⟨i, h1, h2, h3, h4⟩
  · rw [h1]
    exact Is.df (by decide) (Is.pure (cutB_all h2).symm)
  · rw [h1]
    refine Is.dt (by omega) (Is.bnq (x := s.take i) ?_ (Is.bnq (x := ((i + 1 : Nat) : Int)) ?_ (Is.bnq (x := s.drop (i + 1)) ?_ (Is.pure (cutB_at h3 h4).symm))))
    · unfold subL; rw [if_pos (by omega)]; simp
    · rw [show ((i : Int) + (([c] : Str).length : Int)) = ((i + 1 : Nat) : Int) from rfl, chk_i64 (by omega) (by omega)]
    · unfold subL; rw [if_pos (by omega)]; simp
/-! ### fields -/
def sepB (c : UInt8) : Bool := c == 32 || c == 9
def fldGo : Str → Str → List Str
  | cur, [] => if cur = [] then [] else [cur]
  | cur, c :: s => if sepB c then (if cur = [] then fldGo [] s else cur :: fldGo [] s) else fldGo (cur ++ [c]) s
def fieldsB (s : Str) : List Str := fldGo [] s
theorem fldGo_skip : ∀ (xs cur rest : Str), (∀ c ∈ xs, sepB c = false) → fldGo cur (xs ++ rest) = fldGo (cur ++ xs) rest
  | [], cur, rest, _ => by simp
  | c :: xs, cur, rest, h => by
    have h0 := h c (by simp)
    rw [List.cons_append, fldGo, if_neg (by simp [h0]), fldGo_skip xs (cur ++ [c]) rest (fun d hd => h d (by simp [hd])), List.append_assoc]
    rfl
def sepR (x : Nat) : Bool := x == 32 || x == 9
theorem sep_nat (c : UInt8) : sepB c = sepR c.toNat := by
  unfold sepB sepR
  rw [Bool.eq_iff_iff]
  simp only [Bool.or_eq_true, beq_iff_eq]
  rw [← UInt8.toNat_inj, ← UInt8.toNat_inj]
  rfl
theorem rune_step (s : ByteArray) (pos : Nat) (hp : pos < s.data.toList.length) :
    (sepR (Utf8.decode s pos).1 = true → (Utf8.decode s pos).2 = 1 ∧ sepB s.data.toList[pos] = true) ∧
    (sepR (Utf8.decode s pos).1 = false → pos + (Utf8.decode s pos).2 ≤ s.data.toList.length ∧ ∀ c ∈ (s.data.toList.drop pos).take (Utf8.decode s pos).2, sepB c = false) := by
  rw [Lib.decode_N]
  generalize hl : s.data.toList = l at *
  have b0 : (l.getD pos 0).toNat = l[pos].toNat := by simp [List.getD_eq_getElem?_getD, hp]
  have hc := Lib.decodeN_conts (l.length - pos) (l.getD pos 0).toNat (l.getD (pos + 1) 0).toNat (l.getD (pos + 2) 0).toNat (l.getD (pos + 3) 0).toNat
  have hcs := Lib.decodeN_cases (l.length - pos) (l.getD pos 0).toNat (l.getD (pos + 1) 0).toNat (l.getD (pos + 2) 0).toNat (l.getD (pos + 3) 0).toNat
  have hg := Lib.decodeN_ge1 (l.length - pos) (l.getD pos 0).toNat (l.getD (pos + 1) 0).toNat (l.getD (pos + 2) 0).toNat (l.getD (pos + 3) 0).toNat
  generalize hd : Lib.decodeN (l.length - pos) (l.getD pos 0).toNat (l.getD (pos + 1) 0).toNat (l.getD (pos + 2) 0).toNat (l.getD (pos + 3) 0).toNat = d at *
  have big : ∀ c : UInt8, 64 ≤ c.toNat → sepB c = false := by
    intro c h
    rw [sep_nat]
    unfold sepR
    simp; omega
  constructor
  · intro h
    have h1 : d.1 = 32 ∨ d.1 = 9 := by unfold sepR at h; simpa using h
    rcases hcs with ⟨c1, e⟩ | ⟨_, _, _, c, e⟩ | ⟨_, _, _, _, c, e⟩ | ⟨c, _⟩ | e
    · rw [e] at h h1 ⊢
      refine ⟨rfl, ?_⟩
      rw [sep_nat, ← b0]; exact h
    · rw [e] at h1; simp only at h1; omega
    · rw [e] at h1; simp only at h1; omega
    · omega
    · rw [e] at h1; simp at h1
  · intro h
    have hw : pos + d.2 ≤ l.length := by
      have := hc.2.2.2
      by_cases h4 : 4 ≤ d.2
      · have := (hc.2.2.1 h4).2; omega
      · by_cases h3 : 3 ≤ d.2
        · have := (hc.2.1 h3).2; omega
        · by_cases h2 : 2 ≤ d.2
          · have := (hc.1 h2).2; omega
          · omega
    refine ⟨hw, fun c hcm => ?_⟩
    obtain ⟨j, hj, rfl⟩ := List.mem_iff_getElem.1 hcm
    simp only [List.length_take, List.length_drop] at hj
    simp only [List.getElem_take, List.getElem_drop]
    have hjd : j < d.2 := by omega
    have gj : ∀ k, pos + k < l.length → (l.getD (pos + k) 0) = l.getD (pos + k) 0 := fun _ _ => rfl
    by_cases h0 : j = 0
    · subst h0
      rcases hcs with ⟨c1, e⟩ | ⟨c1, _⟩ | ⟨c1, _⟩ | ⟨c, _⟩ | e
      · rw [e] at h
        simp only [Nat.add_zero]
        rw [sep_nat, ← b0]; exact h
      · apply big; simp only [Nat.add_zero]; omega
      · apply big; simp only [Nat.add_zero]; omega
      · by_cases hb : l[pos].toNat < 128
        · exfalso
          have e := Lib.decodeN_ascii (l.length - pos) (l.getD pos 0).toNat (l.getD (pos + 1) 0).toNat (l.getD (pos + 2) 0).toNat (l.getD (pos + 3) 0).toNat (by rw [b0]; exact hb)
          rw [hd] at e
          rw [e] at c
          simp only at c
          omega
        · apply big; simp only [Nat.add_zero]; omega
      · by_cases hb : l[pos].toNat < 128
        · exfalso
          have e2 := Lib.decodeN_ascii (l.length - pos) (l.getD pos 0).toNat (l.getD (pos + 1) 0).toNat (l.getD (pos + 2) 0).toNat (l.getD (pos + 3) 0).toNat (by rw [b0]; exact hb)
          rw [hd, e] at e2
          have := congrArg Prod.fst e2
          simp only at this
          omega
        · apply big; simp only [Nat.add_zero]; omega
    · have h4 := hc.2.2.2
      have g1 : ∀ k, (h : pos + k < l.length) → (l.getD (pos + k) 0).toNat = (l[pos + k]).toNat := fun k h => by simp [List.getD_eq_getElem?_getD, h]
      apply big
      have hlt : pos + j < l.length := by omega
      rw [← g1 j hlt]
      have : j = 1 ∨ j = 2 ∨ j = 3 := by omega
      rcases this with rfl | rfl | rfl
      · have := (hc.1 (by omega)).1; omega
      · have := (hc.2.1 (by omega)).1; omega
      · have := (hc.2.2.1 (by omega)).1; omega
theorem fldGo_end (cur : Str) : fldGo cur [] = if cur = [] then [] else [cur] := by unfold fldGo; rfl
set_option maxRecDepth 100000 in
theorem spans34 (s : ByteArray) : ∀ (f pos : Nat) (st : Option Nat) (acc : List (Nat × Nat)), s.data.toList.length ≤ pos + f → pos ≤ s.data.toList.length → (∀ a, st = some a → a < pos) →
    (Lib.closeSpans s (Lib.spansFromP sepR s f pos st acc)).map (fun q => Lib.pieceU s.data.toList q.1 q.2) = acc.map (fun q => Lib.pieceU s.data.toList q.1 q.2) ++ fldGo (Lib.openPiece s.data.toList st pos) (s.data.toList.drop pos) := by
  have hsz : s.size = s.data.toList.length := by rw [Array.length_toList]; rfl
  intro f
  have fin : ∀ (st : Option Nat) (acc : List (Nat × Nat)), (∀ a, st = some a → a < s.data.toList.length) → (Lib.closeSpans s (acc, st)).map (fun q => Lib.pieceU s.data.toList q.1 q.2) = acc.map (fun q => Lib.pieceU s.data.toList q.1 q.2) ++ fldGo (Lib.openPiece s.data.toList st s.data.toList.length) [] := by
    intro st acc hst
    rw [fldGo_end]
    cases st with
    | none => simp [Lib.closeSpans, Lib.openPiece]
    | some a =>
      have hne := Lib.pieceU_ne s.data.toList a s.data.toList.length (hst a rfl) (Nat.le_refl _)
      have e : Lib.closeSpans s (acc, some a) = acc ++ [(a, s.data.toList.length)] := by rw [← hsz]; rfl
      rw [e, List.map_append, show Lib.openPiece s.data.toList (some a) s.data.toList.length = Lib.pieceU s.data.toList a s.data.toList.length from rfl, if_neg hne]
      rfl
  induction f with
  | zero =>
    intro pos st acc h hp hst
    obtain rfl : pos = s.data.toList.length := by omega
    rw [List.drop_length]
    exact fin st acc hst
  | succ f ih =>
    intro pos st acc h hp hst
    by_cases hlt : pos < s.data.toList.length
    · obtain ⟨hA, hB⟩ := rune_step s pos hlt
      unfold Lib.spansFromP
      rw [if_pos (by rw [hsz]; exact hlt)]
      cases hs : sepR (Utf8.decode s pos).1 with
      | true =>
        obtain ⟨hw, hsep⟩ := hA hs
        simp only [if_true, hw]
        rw [List.drop_eq_getElem_cons hlt, fldGo, if_pos hsep]
        cases st with
        | none =>
          rw [ih (pos + 1) none acc (by omega) (by omega) (fun a h => by cases h)]
          simp [Lib.openPiece]
        | some a =>
          have hne := Lib.pieceU_ne s.data.toList a pos (hst a rfl) (by omega)
          rw [ih (pos + 1) none (acc ++ [(a, pos)]) (by omega) (by omega) (fun a h => by cases h)]
          simp [Lib.openPiece, hne]
      | false =>
        obtain ⟨hw, hns⟩ := hB hs
        simp only [Bool.false_eq_true, if_false]
        have e : s.data.toList.drop pos = (s.data.toList.drop pos).take (Utf8.decode s pos).2 ++ s.data.toList.drop (pos + (Utf8.decode s pos).2) := by
          rw [← List.drop_drop, List.take_append_drop]
        have hg := Lib.width_pos s pos
        cases st with
        | none =>
          rw [ih _ (some pos) acc (by omega) hw (fun a h => by cases h; omega)]
          conv => rhs; rw [e]
          rw [fldGo_skip _ _ _ hns]
          simp only [Lib.openPiece, List.nil_append, Lib.pieceU, Nat.add_sub_cancel_left]
        | some a =>
          rw [ih _ (some a) acc (by omega) hw (fun b h => by cases h; have := hst a rfl; omega)]
          conv => rhs; rw [e]
          rw [fldGo_skip _ _ _ hns]
          simp only [Lib.openPiece]
          rw [Lib.pieceU_grow _ _ _ _ (Nat.le_of_lt (hst a rfl))]
    · obtain rfl : pos = s.data.toList.length := by omega
      rw [Lib.spansFromP_end _ _ _ _ _ _ (by rw [hsz]; omega), List.drop_length]
      exact fin st acc hst
theorem sepf_ok (x : Int) : M.prices_fields_1 x = some (x == 32 || x == 9) := by
  unfold M.prices_fields_1
  cases x == 32 <;> rfl
theorem goFields34 (s : Str) : (Lib.goFieldsP sepR ⟨s.toArray⟩).map (·.data.toList) = fieldsB s := by
  have h := spans34 ⟨s.toArray⟩ (ByteArray.mk s.toArray).size 0 none [] (by simp [ByteArray.size]) (Nat.zero_le _) (fun a h => by cases h)
  simp only [List.map_nil, List.nil_append, List.drop_zero, Lib.openPiece] at h
  unfold Lib.goFieldsP Lib.spansOfP
  rw [List.map_map]
  unfold fieldsB
  rw [← h]
  refine List.map_congr_left fun q _ => ?_
  simp [Lib.pieceU, ByteArray.data_extract, Array.toList_extract, List.extract_eq_take_drop]
theorem fields_ok {s : Str} (hl : s.length ≤ 4294967296) : M.prices_fields s = some (fieldsB (cutB 35 s)) := by
  refine Is.eq ?_
  unfold M.prices_fields
  refine Is.bnd (cut_ok (by omega) 35) fun r hr => ?_
  rw [hr]
  have hc : (cutB 35 s).length ≤ 4294967296 := Nat.le_trans (List.takeWhile_sublist _).length_le hl
  refine Is.bnq (x := fieldsB (cutB 35 s)) ?_ (Is.pure rfl)
  unfold M.strings_FieldsFunc fieldsFuncM
  rw [if_pos ⟨hc, fun x _ => by rw [sepf_ok]; rfl⟩]
  have e : (fun x : Nat => (M.prices_fields_1 (x : Int)).getD false) = sepR := by
    funext x
    rw [sepf_ok]
    show ((x : Int) == 32 || (x : Int) == 9) = (x == 32 || x == 9)
    rw [Bool.eq_iff_iff]; simp; omega
  rw [e, goFields34]
theorem rfields_ok {s : Str} (hl : s.length ≤ 1099511627776) : M.ref34_fields s = some (fieldsB s) := by
  refine Is.eq ?_
  unfold M.ref34_fields
  refine Is.bnd (P := fun l => l = fieldsB s) (Is.upto (fun i (st : List Str × Str × Int) => st.2.2 = (i : Int) ∧ st.1.length ≤ i ∧ st.2.1.length ≤ i ∧ st.1 ++ (if i ≤ s.length then fldGo st.2.1 (s.drop i) else []) = fieldsB s) (s.length + 1) (by omega) ⟨rfl, by simp, by simp, by simp [fieldsB]⟩ ?_ ?_) fun l h => Is.pure h
  · rintro i ⟨l, w, _⟩ hi ⟨rfl, h1, h2, h3⟩
    simp only at h1 h2 h3
    rw [if_pos (by omega)] at h3
    refine Is.dt (by omega) (Is.bnd (P := fun q => q.1.length ≤ i + 1 ∧ q.2.length ≤ i + 1 ∧ q.1 ++ (if i + 1 ≤ s.length then fldGo q.2 (s.drop (i + 1)) else []) = fieldsB s) (Is.bnd (P := fun b => b = (decide (i = s.length) || (s[i]?.map sepB).getD false)) ?_ fun b hb => ?_) fun q hq => Is.bnq (chk_succ (by omega)) (Is.next ⟨rfl, hq⟩))
    · refine Is.cnd (fun e => Is.pure ?_) (fun e => ?_)
      · have := of_beq_t e
        rw [decide_eq_true (by omega)]; rfl
      · have := of_beq_f e
        have hi2 : i < s.length := by omega
        rw [decide_eq_false (by omega), Bool.false_or, List.getElem?_eq_getElem hi2]
        simp only [Option.map_some, Option.getD_some, sep_nat, sepR]
        refine Is.bnq (idxS_nat hi2) (Is.cnd (fun e => Is.pure ?_) (fun e => Is.pure ?_))
        · have := of_beq_t e
          have : s[i].toNat = 32 := by omega
          rw [this]; rfl
        · have := of_beq_f e
          have : s[i].toNat ≠ 32 := by omega
          rw [Bool.eq_iff_iff]; simp; omega
    · have hcase : i = s.length ∨ i < s.length := by omega
      refine Is.cnd (fun e => ?_) (fun e => ?_)
      · rw [e] at hb
        -- a word ends
        have hend : l ++ (if w = [] then [] else [w]) ++ (if i + 1 ≤ s.length then fldGo [] (s.drop (i + 1)) else []) = fieldsB s := by
          rcases hcase with rfl | hlt
          · rw [← h3, List.drop_length, fldGo_end, if_neg (show ¬ (s.length + 1 ≤ s.length) by omega), List.append_nil]
          · rw [decide_eq_false (by omega), Bool.false_or, List.getElem?_eq_getElem hlt] at hb
            simp only [Option.map_some, Option.getD_some] at hb
            rw [← h3, List.drop_eq_getElem_cons hlt, fldGo, if_pos hb.symm, if_pos (show i + 1 ≤ s.length by omega)]
            by_cases hw : w = [] <;> simp [hw]
        refine Is.bnd (P := fun l2 => l2 = l ++ (if w = [] then [] else [w])) ?_ fun l2 hl2 => Is.pure ?_
        · refine Is.cnd (fun e => Is.bnq (appM_ok (by simp; omega)) (Is.pure ?_)) (fun e => Is.pure ?_)
          · have : w ≠ [] := by simpa using e
            rw [if_neg this]
          · have : w = [] := by simpa using e
            rw [if_pos this]; simp
        · subst hl2
          refine ⟨?_, by simp, hend⟩
          rw [List.length_append]
          split <;> simp <;> omega
      · rw [e] at hb
        have hb2 := hb.symm
        simp only [Bool.or_eq_false_iff, decide_eq_false_iff_not] at hb2
        have hlt : i < s.length := by omega
        have hs : sepB s[i] = false := by have := hb2.2; rw [List.getElem?_eq_getElem hlt] at this; simpa using this
        refine Is.bnq (chk_succ (by omega)) (Is.bnq (x := [s[i]]) ?_ (Is.bnq (x := w ++ [s[i]]) ?_ (Is.pure ⟨(by show l.length ≤ i + 1; omega), (by simp; omega), ?_⟩)))
        · unfold subL
          rw [if_pos (by omega)]
          simp only [Int.toNat_natCast]
          rw [List.take_succ_eq_append_getElem hlt, List.drop_left' (by rw [List.length_take]; omega)]
        · unfold catS; rw [if_pos (by simp; omega)]
        · show l ++ (if i + 1 ≤ s.length then fldGo (w ++ [s[i]]) (s.drop (i + 1)) else []) = fieldsB s
          rw [if_pos (show i + 1 ≤ s.length by omega), ← h3, List.drop_eq_getElem_cons hlt, fldGo, if_neg (by simp [hs])]
  · rintro ⟨l, w, _⟩ ⟨rfl, h1, h2, h3⟩
    simp only at h3
    rw [if_neg (by omega), List.append_nil] at h3
    exact Is.df (by omega) (Is.stop h3)
/-! ### lines -/
def linesGo : Str → Str → List Str
  | cur, [] => [cur]
  | cur, c :: s => if c = 10 then cur :: linesGo [] s else linesGo (cur ++ [c]) s
def linesB (s : Str) : List Str := linesGo [] s
theorem linesGo_none : ∀ (s cur : Str), 10 ∉ s → linesGo cur s = [cur ++ s]
  | [], cur, _ => by simp [linesGo]
  | c :: s, cur, h => by
    simp only [List.mem_cons, not_or] at h
    rw [linesGo, if_neg (Ne.symm h.1), linesGo_none s _ h.2]; simp
theorem linesGo_at : ∀ (s cur : Str) (i : Nat), 10 ∉ s.take i → s[i]? = some 10 → linesGo cur s = (cur ++ s.take i) :: linesGo [] (s.drop (i + 1))
  | [], _, i, _, h => by simp at h
  | c :: s, cur, 0, _, h => by simp at h; subst h; simp [linesGo]
  | c :: s, cur, i + 1, h, h2 => by
    simp only [List.take_succ_cons, List.mem_cons, not_or] at h
    rw [linesGo, if_neg (Ne.symm h.1), linesGo_at s _ i h.2 (by simpa using h2)]
    simp
theorem splitK_lines : ∀ (n : Nat) (s : Str), s.length ≤ n → Lib.splitK [10] 0 (s.count 10) s = linesGo [] s
  | n, s, hn => by
    rcases indexByte_tw 10 s with ⟨h1, h2⟩ | ⟨i, h1, h2, h3, h4⟩
    · rw [List.count_eq_zero_of_not_mem h2, linesGo_none _ _ h2]; rfl
    · have e : s = s.take i ++ 10 :: s.drop (i + 1) := by
        conv => lhs; rw [← List.take_append_drop i s, List.drop_eq_getElem_cons h2]
        have : s[i] = 10 := by rw [List.getElem?_eq_getElem h2] at h4; exact Option.some.inj h4
        rw [this]
      have hc : s.count 10 = (s.drop (i + 1)).count 10 + 1 := by
        conv => lhs; rw [e]
        rw [List.count_append, List.count_eq_zero_of_not_mem h3, List.count_cons_self]; omega
      rw [hc, Lib.splitK, Lib.index_one, h1, if_neg (by simp), linesGo_at s [] i h3 h4]
      match n, hn with
      | 0, hn => omega
      | n + 1, hn =>
        have ih := splitK_lines n (s.drop (i + 1)) (by simp; omega)
        simp only [Int.toNat_natCast, List.nil_append, Nat.add_zero, List.length_singleton]
        rw [ih]
theorem split_ok {s : Str} (hl : s.length < 4294967281) : M.strings_Split s [10] = some (linesB s) := by
  refine Is.eq ?_
  unfold M.strings_Split
  refine Is.bnq (x := linesB s) ?_ (Is.pure rfl)
  unfold M.strings_genSplit genSplitM
  show (if (0 : Int) = 0 ∧ (-1 : Int) = -1 ∧ s.length < 4294967281 then some (Lib.splitK [10] 0 (Lib.count s [10]) s) else none) = some (linesB s)
  rw [if_pos ⟨rfl, rfl, hl⟩, Lib.count_one, splitK_lines _ s (Nat.le_refl _)]
  rfl
end Go.Proofs.YtbfmbiapjgpfhaaGreatDoor
