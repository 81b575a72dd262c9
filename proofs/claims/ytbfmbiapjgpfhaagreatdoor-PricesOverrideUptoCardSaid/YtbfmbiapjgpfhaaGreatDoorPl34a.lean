/- Plain facts on layer 34: names. -/
import Derived.Test.YtbfmbiapjgpfhaaGreatDoorMod
import Derived.Test.YtbfmbiapjgpfhaaGreatDoorPlLoop
set_option linter.unusedVariables false
set_option linter.unusedSimpArgs false
namespace Go.Proofs.YtbfmbiapjgpfhaaGreatDoor
open Go.Lx

theorem not_inv {a b : Bool} (h : b = !a) : a = !b := by cases a <;> cases b <;> simp_all
def toI : Option Nat → Int
  | some k => (k : Int)
  | none => -1
theorem search_loop {l : List Str} (p : Str → Bool) (hl : l.length ≤ 9223372036854775807) :
    loopM (fun (i : Int) => bif (decide (i < (l.length : Int))) then (idxL l i).bind fun e => bif p e then (some (.stop (.stop i)) : Option (Step Int (Step Unit Int))) else (chk .i64 (i + 1)).bind fun t => some (.next t) else some (.stop (.next ()))) fuel (0 : Int) =
      some (match l.findIdx? p with | some k => .stop (k : Int) | none => .next ()) := by
  refine Is.eq (Is.upto (fun i st => st = (i : Int) ∧ (l.take i).findIdx? p = none) l.length hl ⟨rfl, by simp⟩ ?_ ?_)
  · rintro i _ hi ⟨rfl, h⟩
    refine Is.dt (by omega) (Is.bnq (idxL_nat hi) (Is.cnd (fun e => Is.stop ?_) (fun e => Is.bnq (chk_succ (by omega)) (Is.next ⟨rfl, ?_⟩))))
    · have h2 : l.findIdx? p = some i := by
        rw [List.findIdx?_eq_some_iff_getElem]
        refine ⟨hi, e, fun j hj => ?_⟩
        rw [List.findIdx?_eq_none_iff] at h
        have := h l[j] (List.mem_of_getElem (i := j) (by simp) (h := by simp; omega))
        simpa using this
      rw [h2]
    · rw [List.take_succ_eq_append_getElem hi]
      rw [List.findIdx?_eq_none_iff] at h ⊢
      intro x hx
      rcases List.mem_append.1 hx with hx | hx
      · exact h x hx
      · rw [List.mem_singleton.1 hx]; exact e
  · rintro _ ⟨rfl, h⟩
    rw [List.take_length] at h
    refine Is.df (by omega) (Is.stop ?_)
    rw [h]
def idxB (l : List Str) (v : Str) : Option Nat := l.findIdx? (fun e => e == v)
theorem idxB_lt {l : List Str} {v : Str} {k : Nat} (h : idxB l v = some k) : k < l.length := by
  unfold idxB at h
  rw [List.findIdx?_eq_some_iff_getElem] at h
  exact h.1
theorem ix_ok {l : List Str} {v : Str} (hl : l.length ≤ 9223372036854775807) : M.slices_Index_string_string l v = some (toI (idxB l v)) := by
  have e : (fun e : Str => v == e) = (fun e => e == v) := by funext x; exact Bool.beq_comm
  have h := search_loop (fun e => v == e) hl
  rw [e] at h
  refine Is.eq ?_
  unfold M.slices_Index_string_string
  rw [← e] at h
  unfold idxB
  rw [← e]
  cases hf : l.findIdx? (fun e => v == e) with
  | none => rw [hf] at h; exact Is.bs (P := fun _ => True) (Is.of h trivial) (fun _ _ => Is.pure rfl)
  | some k => rw [hf] at h; exact Is.bs (P := fun _ => False) (Is.of h rfl) (fun _ h => h.elim)
theorem rix_ok {l : List Str} {v : Str} (hl : l.length ≤ 9223372036854775807) : M.ref19_index l v = some (toI (idxB l v)) := by
  have h := search_loop (fun e => e == v) hl
  refine Is.eq ?_
  unfold M.ref19_index idxB
  cases hf : l.findIdx? (fun e => e == v) with
  | none => rw [hf] at h; exact Is.bs (P := fun _ => True) (Is.of h trivial) (fun _ _ => Is.pure rfl)
  | some k => rw [hf] at h; exact Is.bs (P := fun _ => False) (Is.of h rfl) (fun _ h => h.elim)
theorem rix34_ok {l : List Str} {v : Str} (hl : l.length ≤ 9223372036854775807) : M.ref34_index l v = some (toI (idxB l v)) := rix_ok hl
theorem cont_ok {l : List Str} {v : Str} (hl : l.length ≤ 9223372036854775807) : M.slices_Contains_string_string l v = some (idxB l v).isSome := by
  refine Is.eq ?_
  unfold M.slices_Contains_string_string
  refine Is.bnq (ix_ok hl) (Is.pure ?_)
  cases idxB l v with
  | none => rfl
  | some k => simp [toI]
/-! ### names -/
def keyW : List Str := [[115, 116, 97, 114, 116], [108, 101, 102, 116], [114, 105, 103, 104, 116], [110, 111, 110, 101], [112, 114, 105, 99, 101]]
def letB (c : UInt8) : Bool := decide (97 ≤ c.toNat ∧ c.toNat ≤ 122) || decide (65 ≤ c.toNat ∧ c.toNat ≤ 90)
def idB (c : UInt8) : Bool := letB c || decide (48 ≤ c.toNat ∧ c.toNat ≤ 57) || decide (c.toNat = 95)
def headB : Str → Bool
  | [] => false
  | c :: _ => letB c
def nameB (s : Str) : Bool := decide (s.length ≤ 24) && headB s && (idxB keyW s).isNone && s.all idB
theorem let_ok (c : UInt8) : M.grammarfile_letter (c.toNat : Int) = some (letB c) := by
  refine Is.eq ?_
  unfold M.grammarfile_letter letB
  refine Is.bnd (P := fun b => b = (decide (97 ≤ c.toNat ∧ c.toNat ≤ 122) || decide (65 ≤ c.toNat ∧ c.toNat ≤ 90))) ?_ fun b hb => Is.pure hb
  refine Is.dcd (fun h1 => Is.dcd (fun h2 => Is.pure ?_) (fun h2 => Is.dcd (fun h3 => Is.pure ?_) (fun h3 => Is.pure ?_))) (fun h1 => Is.dcd (fun h3 => Is.pure ?_) (fun h3 => Is.pure ?_)) <;> rw [Bool.eq_iff_iff] <;> simp <;> omega
theorem name_ok {s : Str} (hl : s.length ≤ 4611686018427387903) : M.grammarfile_name s = some (nameB s) := by
  refine Is.eq ?_
  unfold M.grammarfile_name
  refine Is.bnd (P := fun b => b = !(decide (s.length ≤ 24) && headB s && (idxB keyW s).isNone)) ?_ fun b hb => ?_
  · cases s with
    | nil => exact Is.ct rfl (Is.pure rfl)
    | cons c t =>
      refine Is.cf rfl (Is.dcd (fun h => Is.pure ?_) (fun h => Is.bnq (idxS_nat (i := 0) (by simp)) (Is.bnq (let_ok c) ?_)))
      · rw [decide_eq_false (by omega)]; rfl
      · rw [decide_eq_true (show (c :: t).length ≤ 24 by omega)]
        refine Is.cnd (fun e => Is.pure ?_) (fun e => Is.bnq (cont_ok (l := keyW) (by decide)) (Is.pure ?_))
        · have : letB c = false := by simpa using e
          simp [headB, this]
        · have : letB c = true := by simpa using e
          simp only [headB, this, Bool.and_self, Bool.true_and]
          cases idxB keyW (c :: t) <;> rfl
  · refine Is.cnd (fun e => Is.pure ?_) (fun e => ?_)
    · rw [e] at hb
      unfold nameB
      rw [not_inv hb]; rfl
    · rw [e] at hb
      have h9 := not_inv hb
      unfold nameB
      rw [h9, Bool.not_false, Bool.true_and]
      have key : Is (loopM (fun (xv10 : Int) =>
          bif (decide (xv10 < (s.length : Int))) then
           (
            (idxS s xv10).bind fun c14 =>
            (M.grammarfile_letter c14).bind fun rv16 =>
            bif (!rv16) then
             bif (decide (48 ≤ c14)) then
              bif (!(decide (c14 ≤ 57))) then
               some (c14 != 95)
              else
               some false
             else
              bif (!false) then
               some (c14 != 95)
              else
               some false
            else
             some false).bind fun (xv13 : Bool) =>
           bif xv13 then
            (some (.stop (.stop false)) : Option (Step Int (Step Unit Bool)))
           else
            (chk .i64 (xv10 + 1)).bind fun t6 =>
            some (.next t6)
          else
           some (.stop (.next ()))) fuel (0 : Int)) (fun o => o = if s.all idB = true then .next () else .stop false) := by
        refine Is.upto (fun i st => st = (i : Int) ∧ (s.take i).all idB = true) s.length (by omega) ⟨rfl, by simp⟩ ?_ ?_
        · rintro i _ hi ⟨rfl, h⟩
          refine Is.dt (by omega) (Is.bnd (P := fun b => b = !idB s[i]) (Is.bnq (idxS_nat hi) (Is.bnq (let_ok _) ?_)) fun b hb => Is.cnd (fun e => Is.stop ?_) (fun e => Is.bnq (chk_succ (by omega)) (Is.next ⟨rfl, ?_⟩)))
          · refine Is.cnd (fun e => ?_) (fun e => Is.pure ?_)
            · have hle : letB s[i] = false := by simpa using e
              refine Is.dcd (fun h1 => Is.cnd (fun h2 => Is.pure ?_) (fun h2 => Is.pure ?_)) (fun h1 => Is.ct rfl (Is.pure ?_))
              · have h2 : ¬ ((s[i].toNat : Int) ≤ 57) := by simpa using h2
                unfold idB
                rw [hle, decide_eq_false (show ¬ (48 ≤ s[i].toNat ∧ s[i].toNat ≤ 57) by omega)]
                simp only [Bool.false_or]
                by_cases h3 : s[i].toNat = 95
                · rw [h3]; rfl
                · rw [decide_eq_false h3]; simp; omega
              · have h2 : ((s[i].toNat : Int) ≤ 57) := by simpa using h2
                unfold idB
                rw [hle, decide_eq_true (show (48 ≤ s[i].toNat ∧ s[i].toNat ≤ 57) by omega)]
                rfl
              · unfold idB
                rw [hle, decide_eq_false (show ¬ (48 ≤ s[i].toNat ∧ s[i].toNat ≤ 57) by omega)]
                simp only [Bool.false_or]
                by_cases h3 : s[i].toNat = 95
                · rw [h3]; rfl
                · rw [decide_eq_false h3]; simp; omega
            · have hle : letB s[i] = true := by simpa using e
              unfold idB
              rw [hle]; rfl
          · rw [e] at hb
            have : idB s[i] = false := by simpa using hb.symm
            have h2 : s.all idB = false := by
              rw [List.all_eq_false]
              exact ⟨s[i], List.getElem_mem _, by simp [this]⟩
            rw [h2]; rfl
          · rw [e] at hb
            have : idB s[i] = true := by simpa using hb.symm
            rw [List.take_succ_eq_append_getElem hi, List.all_append, h, Bool.true_and]
            simp [this]
        · rintro _ ⟨rfl, h⟩
          rw [List.take_length] at h
          exact Is.df (by omega) (Is.stop (by rw [h]; rfl))
      obtain ⟨o, ho, hp⟩ := key
      cases ha : s.all idB with
      | true =>
        rw [ha] at hp
        simp only [if_true] at hp
        subst hp
        exact Is.bs (P := fun _ => True) (Is.of ho trivial) (fun _ _ => Is.pure rfl)
      | false =>
        rw [ha] at hp
        simp at hp
        subst hp
        exact Is.bs (P := fun _ => False) (Is.of ho rfl) (fun _ h => h.elim)
theorem keyW_none {s : Str} : (idxB keyW s).isNone = (s != [115, 116, 97, 114, 116] && (s != [108, 101, 102, 116] && (s != [114, 105, 103, 104, 116] && (s != [110, 111, 110, 101] && s != [112, 114, 105, 99, 101])))) := by
  have e : ∀ a : Str, (s != a) = !(a == s) := fun a => by rw [bne, Bool.beq_comm]
  simp only [idxB, keyW, List.findIdx?_cons, List.findIdx?_nil, e]
  cases ([115, 116, 97, 114, 116] == s) <;> cases ([108, 101, 102, 116] == s) <;> cases ([114, 105, 103, 104, 116] == s) <;> cases ([110, 111, 110, 101] == s) <;> cases ([112, 114, 105, 99, 101] == s) <;> rfl
theorem rname_ok {s : Str} (hl : s.length ≤ 4611686018427387903) : M.ref16_Name s = some (nameB s) := by
  refine Is.eq ?_
  unfold M.ref16_Name
  refine Is.bs (P := fun _ => s.all idB = true ∧ (s ≠ [] → headB s = true)) (Is.upto (fun i st => st = (i : Int) ∧ (s.take i).all idB = true ∧ (0 < i → headB s = true)) s.length (by omega) ⟨rfl, by simp, by omega⟩ ?_ ?_) ?_
  · rintro i _ hi ⟨rfl, h, h0⟩
    refine Is.dt (by omega) (Is.bnd (P := fun b => b = letB s[i]) (Is.bnq (idxS_nat hi) ?_) fun b hb => ?_)
    · unfold letB
      refine Is.dcd (fun h1 => Is.dcd (fun h2 => Is.pure ?_) (fun h2 => Is.dcd (fun h3 => Is.pure ?_) (fun h3 => Is.pure ?_))) (fun h1 => Is.dcd (fun h3 => Is.pure ?_) (fun h3 => Is.pure ?_)) <;> rw [Bool.eq_iff_iff] <;> simp <;> omega
    · subst hb
      have hh : 0 < s.length := by omega
      have hd : headB s = letB s[0] := by cases s with | nil => cases hi | cons c t => rfl
      refine Is.bnd (P := fun b => b = !(letB s[i] || (decide (i ≠ 0) && idB s[i]))) ?_ fun b hb => ?_
      · refine Is.cnd (fun e => ?_) (fun e => Is.pure ?_)
        · have hle : letB s[i] = false := by simpa using e
          rw [hle, Bool.false_or]
          have e3 : idB s[i] = (decide (48 ≤ s[i].toNat ∧ s[i].toNat ≤ 57) || decide (s[i].toNat = 95)) := by unfold idB; rw [hle, Bool.false_or]
          refine Is.cnd (fun e2 => Is.pure ?_) (fun e2 => Is.bnq (idxS_nat hi) ?_)
          · have hi0 : i = 0 := by have := of_beq_t e2; omega
            rw [decide_eq_false (by omega)]; rfl
          · have hi0 : i ≠ 0 := by have := of_beq_f e2; omega
            rw [decide_eq_true hi0, Bool.true_and, e3]
            refine Is.dcd (fun h1 => Is.pure ?_) (fun h1 => Is.dcd (fun h2 => Is.pure ?_) (fun h2 => Is.pure ?_))
            · rw [decide_eq_false (show ¬ (48 ≤ s[i].toNat ∧ s[i].toNat ≤ 57) by omega), Bool.false_or, bne, Bool.eq_iff_iff]; simp; omega
            · rw [decide_eq_false (show ¬ (48 ≤ s[i].toNat ∧ s[i].toNat ≤ 57) by omega), Bool.false_or, bne, Bool.eq_iff_iff]; simp; omega
            · rw [decide_eq_true (show (48 ≤ s[i].toNat ∧ s[i].toNat ≤ 57) by omega)]; rfl
        · have hle : letB s[i] = true := by simpa using e
          rw [hle]; rfl
      · refine Is.cnd (fun e => Is.stop ?_) (fun e => Is.bnq (chk_succ (by omega)) (Is.next ⟨rfl, ?_, fun _ => ?_⟩))
        · show false = nameB s
          rw [e] at hb
          have h9 := not_inv hb
          simp only [Bool.not_true, Bool.or_eq_false_iff, Bool.and_eq_false_iff, decide_eq_false_iff_not] at h9
          unfold nameB
          rcases h9.2 with h8 | h8
          · have hi0 : i = 0 := by omega
            subst hi0
            rw [hd, h9.1]; simp
          · have h4 : s.all idB = false := by rw [List.all_eq_false]; exact ⟨s[i], List.getElem_mem _, by simp [h8]⟩
            rw [h4]; simp
        · rw [e] at hb
          have h9 := not_inv hb
          have h8 : idB s[i] = true := by
            cases hl : letB s[i] with
            | true => unfold idB; rw [hl]; rfl
            | false => rw [hl] at h9; simp at h9; exact h9.2
          rw [List.take_succ_eq_append_getElem hi, List.all_append, h, Bool.true_and]
          simp [h8]
        · by_cases hi0 : i = 0
          · subst hi0
            rw [e] at hb
            have h9 := not_inv hb
            rw [hd]
            simpa using h9
          · exact h0 (by omega)
  · rintro _ ⟨rfl, h, h0⟩
    rw [List.take_length] at h
    exact Is.df (by omega) (Is.stop ⟨h, fun hne => h0 (List.length_pos_iff.2 hne)⟩)
  · rintro _ ⟨ha, hh⟩
    refine Is.bnd (P := fun b => b = nameB s) ?_ fun b hb => Is.pure hb
    by_cases hs : s = []
    · subst hs
      exact Is.cf rfl (Is.pure rfl)
    · have hn : nameB s = (decide (s.length ≤ 24) && (s != [115, 116, 97, 114, 116] && (s != [108, 101, 102, 116] && (s != [114, 105, 103, 104, 116] && (s != [110, 111, 110, 101] && s != [112, 114, 105, 99, 101]))))) := by
        unfold nameB; rw [hh hs, ha, keyW_none]; simp
      rw [hn]
      refine Is.ct (by simpa using hs) (Is.dcd (fun h => ?_) (fun h => Is.pure ?_))
      · rw [decide_eq_true (show s.length ≤ 24 by omega), Bool.true_and]
        refine Is.cnd (fun e => ?_) (fun e => Is.pure (by rw [e]; rfl))
        rw [e, Bool.true_and]
        refine Is.cnd (fun e => ?_) (fun e => Is.pure (by rw [e]; rfl))
        rw [e, Bool.true_and]
        refine Is.cnd (fun e => ?_) (fun e => Is.pure (by rw [e]; rfl))
        rw [e, Bool.true_and]
        refine Is.cnd (fun e => ?_) (fun e => Is.pure (by rw [e]; rfl))
        rw [e, Bool.true_and]
        exact Is.pure rfl
      · rw [decide_eq_false (show ¬ s.length ≤ 24 by omega)]; rfl
/-! ### lists of names -/
def freshB : List Str → List Str → Bool
  | _, [] => true
  | pre, s :: r => nameB s && (idxB pre s).isNone && freshB (pre ++ [s]) r
def namesB (terms : List Str) : Bool := decide (terms.length ≤ 120) && freshB [] terms
theorem freshB_step {l : List Str} {i : Nat} (hi : i < l.length) : freshB (l.take i) (l.drop i) = (nameB l[i] && (idxB (l.take i) l[i]).isNone && freshB (l.take (i + 1)) (l.drop (i + 1))) := by
  rw [List.drop_eq_getElem_cons hi, List.take_succ_eq_append_getElem hi]
  rfl
theorem valid1_ok {e : Str} (hl : e.length ≤ 4611686018427387903) : M.grammarfile_Valid (T_GrammarFile.mk e [] [(T_GRule.mk e [(T_GAlternative.mk (T_GExpr.mk 2 [] []) 0)])]) = some (nameB e) := by
  refine Is.eq ?_
  unfold M.grammarfile_Valid
  refine Is.bnq (x := false) rfl (Is.cf rfl ?_)
  refine Is.bs (P := fun l => l = [e]) (Is.upto (fun i (st : List Str × Int) => st = ((if i = 0 then [] else [e]), (i : Int))) 1 (by decide) rfl ?_ ?_) ?_
  · rintro i ⟨l, _⟩ hi h
    obtain rfl : i = 0 := by omega
    cases h
    refine Is.dt (by simp) (Is.bnq (x := T_GRule.mk e [(T_GAlternative.mk (T_GExpr.mk 2 [] []) 0)]) rfl (Is.bnq (x := true) (by kernel_rfl) (Is.cf rfl (Is.bnq (x := [e]) rfl (Is.bnq (x := 1) (by kernel_rfl) (Is.next rfl))))))
  · rintro ⟨l, _⟩ h
    cases h
    exact Is.df (by simp) (Is.stop rfl)
  · rintro _ rfl
    refine Is.bs (P := fun l => l = []) (Is.of (x := .next []) (by kernel_rfl) rfl) ?_
    rintro _ rfl
    refine Is.bnd (P := fun b => b = nameB e) ?_ fun b hb => Is.pure hb
    have hd : M.grammarfile_distinct [e] = some (nameB e) := by
      refine Is.eq ?_
      unfold M.grammarfile_distinct
      refine Is.bs (P := fun _ => nameB e = true) (Is.upto (fun i st => st = (i : Int) ∧ (0 < i → nameB e = true)) 1 (by decide) ⟨rfl, by omega⟩ ?_ ?_) (fun _ h => Is.pure h.symm)
      · rintro i _ hi ⟨rfl, _⟩
        obtain rfl : i = 0 := by omega
        refine Is.dt (by simp) (Is.bnq (x := e) rfl (Is.bnd (P := fun b => b = !nameB e) (Is.bnq (name_ok hl) (Is.cnd (fun h => Is.pure h.symm) (fun h => Is.bnq (x := []) rfl (Is.bnq (x := false) (cont_ok (l := []) (by decide)) (Is.pure h.symm))))) fun b hb => Is.cnd (fun h => Is.stop ?_) (fun h => Is.bnq (x := 1) (by kernel_rfl) (Is.next ⟨rfl, fun _ => ?_⟩))))
        · rw [h] at hb; exact (not_inv hb).symm
        · rw [h] at hb; exact not_inv hb
      · rintro _ ⟨rfl, h⟩
        exact Is.df (by simp) (Is.stop (h (by decide)))
    refine Is.bnq hd (Is.cnd (fun h => ?_) (fun h => Is.pure h.symm))
    refine Is.bnq (x := true) (by kernel_rfl) (Is.ct rfl (Is.bnq (cont_ok (l := [e]) (by simp)) (Is.pure ?_)))
    rw [h]
    simp [idxB]
theorem names_ok {terms : List Str} (hl : terms.length ≤ 9223372036854775807) (ht : ∀ s ∈ terms, s.length ≤ 4611686018427387903) : M.prices_names terms = some (namesB terms) := by
  refine Is.eq ?_
  unfold M.prices_names namesB
  refine Is.dcd (fun h => Is.pure (by rw [decide_eq_false (by omega)]; rfl)) (fun h => ?_)
  rw [decide_eq_true (show terms.length ≤ 120 by omega), Bool.true_and]
  refine Is.bs (P := fun _ => freshB [] terms = true) (Is.upto (fun i st => st = (i : Int) ∧ freshB [] terms = freshB (terms.take i) (terms.drop i)) terms.length (by omega) ⟨rfl, rfl⟩ ?_ ?_) (fun _ h => Is.pure h.symm)
  · rintro i _ hi ⟨rfl, hf⟩
    rw [freshB_step hi] at hf
    refine Is.dt (by omega) (Is.bnq (idxL_nat hi) (Is.bnd (P := fun b => b = !(nameB terms[i] && (idxB (terms.take i) terms[i]).isNone)) (Is.bnq (valid1_ok (ht _ (List.getElem_mem _))) (Is.cnd (fun e => Is.pure ?_) (fun e => Is.bnq (x := terms.take i) ?_ (Is.bnq (cont_ok (by simp; omega)) (Is.pure ?_))))) fun b hb => Is.cnd (fun e => Is.stop ?_) (fun e => Is.bnq (chk_succ (by omega)) (Is.next ⟨rfl, ?_⟩))))
    · have : nameB terms[i] = false := by simpa using e
      rw [this]; rfl
    · unfold subL; rw [if_pos (by omega)]; simp
    · have : nameB terms[i] = true := by simpa using e
      rw [this]; cases idxB (terms.take i) terms[i] <;> rfl
    · rw [e] at hb
      rw [hf, not_inv hb]; rfl
    · rw [e] at hb
      rw [hf, not_inv hb]; rfl
  · rintro _ ⟨rfl, h⟩
    refine Is.df (by omega) (Is.stop ?_)
    rw [h, List.drop_length]; rfl
theorem rnames_ok {terms : List Str} (hl : terms.length ≤ 9223372036854775807) (ht : ∀ s ∈ terms, s.length ≤ 4611686018427387903) : M.ref34_names terms = some (namesB terms) := by
  refine Is.eq ?_
  unfold M.ref34_names namesB
  refine Is.bnd (P := fun b => b = (decide (terms.length ≤ 120) && freshB [] terms)) ?_ fun b hb => Is.pure hb
  refine Is.dcd (fun h => ?_) (fun h => Is.pure (by rw [decide_eq_false (by omega)]; rfl))
  rw [decide_eq_true (show terms.length ≤ 120 by omega), Bool.true_and]
  refine Is.bnd (P := fun b => b = freshB [] terms) ?_ fun b hb => Is.pure hb
  unfold M.ref19_Terms
  refine Is.bs (P := fun _ => freshB [] terms = true) (Is.upto (fun i st => st = (i : Int) ∧ freshB [] terms = freshB (terms.take i) (terms.drop i)) terms.length (by omega) ⟨rfl, rfl⟩ ?_ ?_) (fun _ h => Is.pure h.symm)
  · rintro i _ hi ⟨rfl, hf⟩
    rw [freshB_step hi] at hf
    refine Is.dt (by omega) (Is.bnd (P := fun b => b = !(nameB terms[i] && (idxB (terms.take i) terms[i]).isNone)) (Is.bnq (idxL_nat hi) (Is.bnq (rname_ok (ht _ (List.getElem_mem _))) (Is.cnd (fun e => Is.pure ?_) (fun e => Is.bnq (x := terms.take i) ?_ (Is.bnq (rix_ok (by simp; omega)) (Is.pure ?_)))))) fun b hb => Is.cnd (fun e => Is.stop ?_) (fun e => Is.bnq (chk_succ (by omega)) (Is.next ⟨rfl, ?_⟩)))
    · have : nameB terms[i] = false := by simpa using e
      rw [this]; rfl
    · unfold subL; rw [if_pos (by omega)]; simp
    · have : nameB terms[i] = true := by simpa using e
      rw [this]; cases idxB (terms.take i) terms[i] with
      | none => rfl
      | some k => simp [toI]
    · rw [e] at hb
      rw [hf, not_inv hb]; rfl
    · rw [e] at hb
      rw [hf, not_inv hb]; rfl
  · rintro _ ⟨rfl, h⟩
    refine Is.df (by omega) (Is.stop ?_)
    rw [h, List.drop_length]; rfl
end Go.Proofs.YtbfmbiapjgpfhaaGreatDoor
