/- Plain facts on layer 7: the classes. -/
import Derived.Test.YtogpainomdfpnaaPl07s
set_option linter.unusedVariables false
namespace Go.Proofs.Ytogpainomdfpnaa
open Go.Lx

/-! ### the values of a function, in the order of first occurrence -/
def D (σ : Nat → List Bool) : Nat → List (List Bool) | 0 => [] | i + 1 => bif (D σ i).contains (σ i) then D σ i else D σ i ++ [σ i]
theorem mem_D {σ : Nat → List Bool} {i : Nat} {s : List Bool} : s ∈ D σ i ↔ ∃ a, a < i ∧ σ a = s := by
  induction i with
  | zero => simp [D]
  | succ i ih =>
    have key : (∃ a, a < i + 1 ∧ σ a = s) ↔ (s ∈ D σ i ∨ s = σ i) := by
      rw [ih]
      constructor
      · rintro ⟨a, h1, h2⟩
        by_cases h : a = i
        · subst h; exact .inr h2.symm
        · exact .inl ⟨a, by omega, h2⟩
      · rintro (⟨a, h1, h2⟩ | h)
        · exact ⟨a, by omega, h2⟩
        · exact ⟨i, by omega, h.symm⟩
    rw [key, D]
    cases hc : (D σ i).contains (σ i)
    · simp
    · simp only [cond_true]
      have : σ i ∈ D σ i := by simpa using hc
      constructor
      · exact .inl
      · rintro (h | rfl)
        · exact h
        · exact this
theorem D_prefix {σ : Nat → List Bool} {i j : Nat} (h : i ≤ j) : ∃ r, D σ j = D σ i ++ r := by
  obtain ⟨k, rfl⟩ := Nat.le.dest h
  clear h
  induction k with
  | zero => exact ⟨[], by simp⟩
  | succ k ih =>
    obtain ⟨r, hr⟩ := ih
    rw [← Nat.add_assoc, D]
    cases (D σ (i + k)).contains (σ (i + k))
    · exact ⟨r ++ [σ (i + k)], by simp [hr]⟩
    · exact ⟨r, by simpa using hr⟩
theorem D_len {σ : Nat → List Bool} (i : Nat) : (D σ i).length ≤ i := by
  induction i with
  | zero => simp [D]
  | succ i ih =>
    rw [D]
    cases (D σ i).contains (σ i)
    · simp; omega
    · simp only [cond_true]; omega
/-- The class of a byte. -/
def cls (σ : Nat → List Bool) (i : Nat) : Nat := (D σ 256).idxOf (σ i)
theorem cls_at {σ : Nat → List Bool} {i j : Nat} (hj : j ≤ 256) (hi : i < j) : cls σ i = (D σ j).idxOf (σ i) := by
  obtain ⟨r, hr⟩ := D_prefix (σ := σ) hj
  unfold cls
  rw [hr, List.idxOf_append, if_pos (mem_D.2 ⟨i, hi, rfl⟩)]
theorem cls_old {σ : Nat → List Bool} {i : Nat} (hi : i < 256) (h : σ i ∈ D σ i) : cls σ i = (D σ i).idxOf (σ i) ∧ cls σ i < (D σ i).length := by
  have e : D σ (i + 1) = D σ i := by rw [D]; simp [h]
  have := cls_at (σ := σ) (i := i) (j := i + 1) (by omega) (by omega)
  rw [e] at this
  rw [this]
  exact ⟨rfl, List.idxOf_lt_length_of_mem h⟩
theorem cls_new {σ : Nat → List Bool} {i : Nat} (hi : i < 256) (h : σ i ∉ D σ i) : cls σ i = (D σ i).length ∧ D σ (i + 1) = D σ i ++ [σ i] := by
  have e : D σ (i + 1) = D σ i ++ [σ i] := by rw [D]; simp [h]
  have := cls_at (σ := σ) (i := i) (j := i + 1) (by omega) (by omega)
  rw [e, List.idxOf_append, if_neg h] at this
  rw [this]
  refine ⟨by simp, e⟩
theorem D_old {σ : Nat → List Bool} {i : Nat} (h : σ i ∈ D σ i) : D σ (i + 1) = D σ i := by rw [D]; simp [h]
theorem idxOf_inj {l : List (List Bool)} {a b : List Bool} (ha : a ∈ l) (h : l.idxOf a = l.idxOf b) : a = b := by
  have h1 := List.idxOf_lt_length_of_mem ha
  have e1 : l[l.idxOf a]'h1 = a := by simp
  have h2 : l.idxOf b < l.length := by omega
  have e2 : l[l.idxOf b]'h2 = b := by simp
  rw [← e1, ← e2]
  congr 1
theorem cls_inj {σ : Nat → List Bool} {a b : Nat} (ha : a < 256) (hb : b < 256) : cls σ a = cls σ b ↔ σ a = σ b :=
  ⟨fun h => idxOf_inj (mem_D.2 ⟨a, ha, rfl⟩) h, fun h => by unfold cls; rw [h]⟩

/-! ### a list that is filled from its start -/
def tab (f : Nat → Int) (n i : Nat) : List Int := (List.range i).map f ++ List.replicate (n - i) 0
theorem tab_len {f : Nat → Int} {n i : Nat} (h : i ≤ n) : (tab f n i).length = n := by simp [tab]; omega
theorem tab_get {f : Nat → Int} {n i k : Nat} (hk : k < i) (h : k < (tab f n i).length) : (tab f n i)[k] = f k := by
  simp [tab, hk]
theorem tab_set {f : Nat → Int} {n i : Nat} (hi : i < n) (x : Int) (hx : f i = x) : (tab f n i).set i x = tab f n (i + 1) := by
  unfold tab
  rw [List.set_append, if_neg (by simp), List.range_succ, List.map_append, List.append_assoc]
  congr 1
  simp only [List.length_map, List.length_range, Nat.sub_self]
  obtain ⟨k, hk⟩ : ∃ k, n - i = k + 1 := ⟨n - i - 1, by omega⟩
  rw [hk, List.replicate_succ, List.set_cons_zero, show n - (i + 1) = k by omega, ← hx]
  rfl
theorem tab_zero {f : Nat → Int} {n : Nat} : tab f n 0 = List.replicate n 0 := by simp [tab]
theorem tab_all {f : Nat → Int} {n : Nat} : tab f n n = (List.range n).map f := by simp [tab]

/-! ### keys -/
def b2i (b : Bool) : Int := bif b then 1 else 0
def key (s : List Bool) : Str := toStr (s.map b2i)
theorem key_inj : ∀ {s t : List Bool}, key s = key t → s = t
  | [], [], _ => rfl
  | [], _ :: _, h => by simp [key, toStr] at h
  | _ :: _, [], h => by simp [key, toStr] at h
  | a :: s, b :: t, h => by
    simp only [key, toStr, List.map_cons, List.cons.injEq] at h
    have h2 : s = t := key_inj h.2
    have h1 : a = b := by
      have := h.1
      revert this
      cases a <;> cases b <;> decide
    rw [h1, h2]
theorem key_beq (s t : List Bool) : (key s == key t) = (s == t) := by
  rw [Bool.eq_iff_iff, beq_iff_eq, beq_iff_eq]
  exact ⟨key_inj, fun h => by rw [h]⟩
def enc : List (List Bool) → Nat → List (Str × Int) | [], _ => [] | s :: L, k => (key s, (k : Int)) :: enc L (k + 1)
theorem enc_len (L : List (List Bool)) : ∀ k, (enc L k).length = L.length := by
  induction L with
  | nil => exact fun _ => rfl
  | cons s L ih => intro k; simp [enc, ih]
theorem enc_get (s : List Bool) (L : List (List Bool)) : ∀ k, mget (enc L k) (key s) = bif L.contains s then some ((k + L.idxOf s : Nat) : Int) else none := by
  induction L with
  | nil => intro k; rfl
  | cons t L ih =>
    intro k
    unfold enc mget
    rw [List.find?_cons]
    simp only [key_beq]
    cases h : t == s
    · have hi := ih (k + 1)
      unfold mget at hi
      simp only []
      rw [hi, List.contains_cons, show (s == t) = false by rw [Bool.beq_comm]; exact h, Bool.false_or, List.idxOf_cons, h]
      cases L.contains s <;> simp <;> omega
    · have : t = s := by simpa using h
      subst this
      simp
theorem enc_set (s : List Bool) (L : List (List Bool)) : ∀ k, s ∉ L → mset (enc L k) (key s) ((k + L.length : Nat) : Int) = enc (L ++ [s]) k := by
  induction L with
  | nil => intro k _; simp [enc, mset]
  | cons t L ih =>
    intro k h
    have hne : (t == s) = false := by rw [beq_eq_false_iff_ne]; rintro rfl; simp at h
    simp only [enc, mset, key_beq, hne, cond_false, List.cons_append, List.length_cons]
    congr 1
    have := ih (k + 1) (by simp at h; exact h.2)
    rw [← this]; congr 2; omega

/-! ### what the program and the reference compute -/
def sig (l : List (Vec 4)) (i : Nat) : List Bool := l.map (fun v => mem v i)
def clsL (l : List (Vec 4)) : List Int := (List.range 256).map fun i => (cls (sig l) i : Int)
theorem chk_succ' {i : Nat} (h : i < 9223372036854775807) : chk .i64 ((i : Int) + 1) = some ((i + 1 : Nat) : Int) := by rw [chk_i64 (by omega) (by omega)]; rfl

theorem Classes_eq {l : List (Vec 4)} (hl : ∀ v ∈ l, W4 v) (hn : l.length ≤ 1000) : M.byteset_Classes l = some (clsL l) := by
  unfold M.byteset_Classes
  refine bind_of (mkM_nat (n := 256) (by omega)) ?_
  simp only [List.length_replicate]
  let f : Nat → Int := fun i => (cls (sig l) i : Int)
  refine bind_of (loopM_count (fun i => (tab f 256 i, enc (D (sig l) i) 0, (i : Int))) 256 (r := clsL l) (fun i hi => ?_) ?_ fuel (lt_fuel (by omega))) rfl
  · have hlen : (tab f 256 i).length = 256 := tab_len (by omega)
    let fk : Nat → Int := fun j => b2i ((sig l i).getD j false)
    have hinner : loopM (fun (st9 : (List Int) × Int) => match st9 with
      | (key305, xv77) =>
       bif (decide (xv77 < (l.length : Int))) then
        (
         (idxL l xv77).bind fun e144 =>
         (M.byteset_Has e144 (IntKind.u8.wrap (i : Int))).bind fun rv144 =>
         bif rv144 then
          (setL key305 xv77 1).bind fun key312 =>
          some key312
         else
          some key305).bind fun (key311 : (List Int)) =>
        (chk .i64 (xv77 + 1)).bind fun t77 =>
        some (.next (key311, t77))
       else
        some (.stop key305)) fuel (List.replicate l.length (0 : Int), (0 : Int)) = some ((sig l i).map b2i) := by
      have hfin : tab fk l.length l.length = (sig l i).map b2i := by
        rw [tab_all]
        apply List.ext_getElem
        · simp [sig]
        · intro k h1 h2
          have : k < l.length := by simpa using h1
          simp [fk, sig, this, List.getD_eq_getElem?_getD]
      rw [← tab_zero (f := fk)]
      refine loopM_count (fun j => (tab fk l.length j, (j : Int))) l.length (fun j hj => ?_) ?_ fuel (lt_fuel (by omega))
      · have hsj : fk j = b2i (mem l[j] i) := by simp [fk, sig, hj, List.getD_eq_getElem?_getD]
        have e1 := has_eq (hl l[j] (List.getElem_mem hj)) (c := i) hi
        have hl2 : (tab fk l.length j).length = l.length := tab_len (by omega)
        simp only [dec_t (show (j : Int) < (l.length : Int) by omega), cond_true, idxL_nat hj, Option.bind_some, wrap_u8 (show (0 : Int) ≤ (i : Int) by omega) (by omega), e1]
        cases hm : mem l[j] i
        · rw [hm] at hsj
          have : tab fk l.length j = tab fk l.length (j + 1) := by
            rw [← tab_set hj (fk j) rfl]
            apply List.ext_getElem (by simp)
            intro k h1 h2
            rw [List.getElem_set]
            split
            · rename_i h; subst h
              rw [hsj]
              simp [tab, b2i]
            · rfl
          simp only [cond_false, Option.bind_some, chk_succ' (show j < _ by omega), ← this]
        · rw [hm] at hsj
          have e2 : setL (tab fk l.length j) (j : Int) 1 = some ((tab fk l.length j).set j 1) := setL_nat (by omega)
          rw [tab_set hj 1 hsj] at e2
          simp only [cond_true, e2, Option.bind_some, chk_succ' (show j < _ by omega)]
      · simp only [dec_f (show ¬ (l.length : Int) < (l.length : Int) by omega), cond_false, hfin]
    have hmk : mkM 1 (l.length : Int) (0 : Int) = some (List.replicate l.length 0) := mkM_nat (by omega)
    have hg := enc_get (sig l i) (D (sig l) i) 0
    simp only [dec_t (show (i : Int) < ((256 : Nat) : Int) by omega), cond_true, hmk, Option.bind_some]
    refine bind_of (x := (tab f 256 (i + 1), enc (D (sig l) (i + 1)) 0)) (bind_of hinner ?_) ?_
    · simp only [show toStr ((sig l i).map b2i) = key (sig l i) from rfl, hg, Nat.zero_add, enc_len]
      cases hc : (D (sig l) i).contains (sig l i)
      · have hnm : sig l i ∉ D (sig l) i := by intro h; rw [List.contains_iff_mem.2 h] at hc; cases hc
        obtain ⟨c1, c2⟩ := cls_new hi hnm
        have hs := enc_set (sig l i) (D (sig l) i) 0 hnm
        rw [Nat.zero_add] at hs
        have e3 : setL (tab f 256 i) (i : Int) ((D (sig l) i).length : Int) = some ((tab f 256 i).set i ((D (sig l) i).length : Int)) := setL_nat (by omega)
        rw [tab_set hi _ (by simp only [f, c1])] at e3
        simp only [cond_false, Option.isSome_none, Bool.not_false, cond_true, Option.bind_some, hs, e3, c2]
      · have hm : sig l i ∈ D (sig l) i := List.contains_iff_mem.1 hc
        obtain ⟨c1, c2⟩ := cls_old hi hm
        have e3 : setL (tab f 256 i) (i : Int) ((D (sig l) i).idxOf (sig l i) : Int) = some ((tab f 256 i).set i ((D (sig l) i).idxOf (sig l i) : Int)) := setL_nat (by omega)
        rw [tab_set hi _ (by simp only [f, c1])] at e3
        simp only [cond_true, Option.isSome_some, Bool.not_true, cond_false, Option.getD_some, Option.bind_some, e3, D_old hm]
    · simp only [chk_succ' (show i < _ by omega), Option.bind_some]
  · simp only [dec_f (show ¬ ((256 : Nat) : Int) < ((256 : Nat) : Int) by omega), cond_false]
    rw [tab_all]; rfl

theorem equivalent_eq {l : List (Vec 4)} (hl : ∀ v ∈ l, W4 v) (hn : l.length ≤ 1000) {a b : Nat} (ha : a < 256) (hb : b < 256) : M.ref07_equivalent l (a : Int) (b : Int) = some (sig l a == sig l b) := by
  unfold M.ref07_equivalent
  have key := loopM_inv (body := (fun (i5 : Int) =>
   bif (decide (i5 < (l.length : Int))) then
    (idxL l i5).bind fun e6 =>
    (M.ref07_Has e6 (a : Int)).bind fun rv11 =>
    (M.ref07_Has e6 (b : Int)).bind fun rv12 =>
    bif (!(rv11 == rv12)) then
     some (.stop (.stop false))
    else
     (chk .i64 (i5 + 1)).bind fun t6 =>
     some (.next t6)
   else
    some (.stop (.next ())) : Int → Option (Step Int (Step Unit Bool))))
    (fun s => ∃ i : Nat, s = (i : Int) ∧ i ≤ l.length ∧ ∀ (k : Nat) (h : k < l.length), k < i → mem l[k] a = mem l[k] b) (fun s => l.length - s.toNat)
    (fun r => (r = .next () ∧ sig l a = sig l b) ∨ (r = .stop false ∧ sig l a ≠ sig l b)) ?_ fuel 0 ⟨0, rfl, by omega, fun k _ h => by omega⟩ (lt_fuel (by omega))
  · obtain ⟨r, hr, h | h⟩ := key
    · rw [hr, h.1, h.2]; simp [bindStep]
    · rw [hr, h.1]
      have : (sig l a == sig l b) = false := by rw [beq_eq_false_iff_ne]; exact h.2
      rw [this]; rfl
  · rintro s ⟨i, rfl, hi, hP⟩
    by_cases hlt : i < l.length
    · have e1 := has_eq' (hl l[i] (List.getElem_mem hlt)) ha
      have e2 := has_eq' (hl l[i] (List.getElem_mem hlt)) hb
      simp only [dec_t (show (i : Int) < (l.length : Int) by omega), cond_true, idxL_nat hlt, Option.bind_some, e1, e2]
      by_cases hm : mem l[i] a = mem l[i] b
      · refine .inl ⟨((i + 1 : Nat) : Int), ?_, ⟨i + 1, rfl, by omega, fun k h1 h2 => ?_⟩, by omega⟩
        · rw [hm]; simp only [beq_self_eq_true, Bool.not_true, cond_false, chk_succ' (show i < _ by omega), Option.bind_some]
        · by_cases hk : k = i
          · subst hk; exact hm
          · exact hP k h1 (by omega)
      · refine .inr ⟨_, ?_, .inr ⟨rfl, fun h => hm ?_⟩⟩
        · rw [show (mem l[i] a == mem l[i] b) = false by rw [beq_eq_false_iff_ne]; exact hm]; rfl
        · have := congrArg (fun z => z[i]?) h
          simpa [sig, hlt] using this
    · refine .inr ⟨_, by simp only [dec_f (show ¬ (i : Int) < (l.length : Int) by omega), cond_false], .inl ⟨rfl, ?_⟩⟩
      unfold sig
      apply List.ext_getElem (by simp)
      intro k h1 h2
      have : k < l.length := by simpa using h1
      simpa using hP k this (by omega)

theorem refClasses_eq {l : List (Vec 4)} (hl : ∀ v ∈ l, W4 v) (hn : l.length ≤ 1000) : M.ref07_Classes l = some (clsL l) := by
  unfold M.ref07_Classes
  refine bind_of (mkM_nat (n := 256) (by omega)) ?_
  let f : Nat → Int := fun i => (cls (sig l) i : Int)
  refine bind_of (loopM_count (fun i => (tab f 256 i, ((D (sig l) i).length : Int), (i : Int))) 256 (r := clsL l) (fun b hb => ?_) ?_ fuel (lt_fuel (by omega))) rfl
  · have hlen : (tab f 256 b).length = 256 := tab_len (by omega)
    have e1 : setL (tab f 256 b) (b : Int) ((D (sig l) b).length : Int) = some ((tab f 256 b).set b ((D (sig l) b).length : Int)) := setL_nat (by omega)
    have hD := D_len (σ := sig l) b
    have hX : ((tab f 256 b).set b ((D (sig l) b).length : Int)).length = 256 := by rw [List.length_set, hlen]
    have hinner := loopM_inv (body := (fun (a71 : Int) =>
       bif (decide (a71 < (b : Int))) then
        (M.ref07_equivalent l (IntKind.u8.wrap a71) (IntKind.u8.wrap (b : Int))).bind fun rv72 =>
        bif rv72 then
         (idxL ((tab f 256 b).set b ((D (sig l) b).length : Int)) a71).bind fun e83 =>
         (setL ((tab f 256 b).set b ((D (sig l) b).length : Int)) (b : Int) e83).bind fun out110 =>
         some (.stop out110)
        else
         (chk .i64 (a71 + 1)).bind fun t88 =>
         some (.next t88)
       else
        some (.stop ((tab f 256 b).set b ((D (sig l) b).length : Int))) : Int → Option (Step Int (List Int))))
      (fun s => ∃ a : Nat, s = (a : Int) ∧ a ≤ b ∧ ∀ k, k < a → sig l k ≠ sig l b) (fun s => b - s.toNat) (fun r => r = tab f 256 (b + 1)) ?_ fuel 0 ⟨0, rfl, by omega, fun k h => by omega⟩ (lt_fuel (by omega))
    · obtain ⟨r, hr, rfl⟩ := hinner
      have hl2 : (tab f 256 (b + 1)).length = 256 := tab_len (by omega)
      have e2 : idxL (tab f 256 (b + 1)) (b : Int) = some (f b) := by rw [idxL_nat (by omega), tab_get (by omega)]
      simp only [dec_t (show (b : Int) < 256 by omega), cond_true, e1, Option.bind_some]
      refine bind_of (x := (tab f 256 (b + 1), ((D (sig l) (b + 1)).length : Int))) (bind_of hr ?_) ?_
      · simp only [e2, Option.bind_some]
        by_cases hm : sig l b ∈ D (sig l) b
        · obtain ⟨c1, c2⟩ := cls_old hb hm
          rw [show (f b == ((D (sig l) b).length : Int)) = false by rw [beq_eq_false_iff_ne]; simp only [f]; omega, D_old hm]
          rfl
        · obtain ⟨c1, c2⟩ := cls_new hb hm
          rw [show (f b == ((D (sig l) b).length : Int)) = true by rw [beq_iff_eq]; simp only [f]; omega, c2]
          simp only [cond_true, chk_succ' (show (D (sig l) b).length < _ by omega), Option.bind_some, List.length_append, List.length_singleton]
      · simp only [chk_succ' (show b < _ by omega), Option.bind_some]
    · rintro s ⟨a, rfl, ha, hP⟩
      by_cases hlt : a < b
      · have e2 := equivalent_eq hl hn (a := a) (b := b) (by omega) hb
        simp only [dec_t (show (a : Int) < (b : Int) by omega), cond_true, wrap_u8 (show (0 : Int) ≤ (a : Int) by omega) (by omega), wrap_u8 (show (0 : Int) ≤ (b : Int) by omega) (by omega), e2, Option.bind_some]
        by_cases he : sig l a = sig l b
        · refine .inr ⟨tab f 256 (b + 1), ?_, rfl⟩
          have e3 : idxL ((tab f 256 b).set b ((D (sig l) b).length : Int)) (a : Int) = some (f a) := by
            rw [idxL_nat (by omega), List.getElem_set, if_neg (by omega), tab_get hlt]
          have e4 : setL ((tab f 256 b).set b ((D (sig l) b).length : Int)) (b : Int) (f a) = some (((tab f 256 b).set b ((D (sig l) b).length : Int)).set b (f a)) := setL_nat (by omega)
          rw [List.set_set, tab_set (f := f) hb (f a) (by simp only [f, cls, he])] at e4
          rw [he]
          simp only [beq_self_eq_true, cond_true, e3, e4, Option.bind_some]
        · refine .inl ⟨((a + 1 : Nat) : Int), ?_, ⟨a + 1, rfl, by omega, fun k hk => ?_⟩, by omega⟩
          · rw [show (sig l a == sig l b) = false by rw [beq_eq_false_iff_ne]; exact he]
            simp only [cond_false, chk_succ' (show a < _ by omega), Option.bind_some]
          · by_cases h : k = a
            · subst h; exact he
            · exact hP k (by omega)
      · refine .inr ⟨(tab f 256 b).set b ((D (sig l) b).length : Int), by simp only [dec_f (show ¬ (a : Int) < (b : Int) by omega), cond_false], ?_⟩
        refine tab_set hb _ ?_
        have hm : sig l b ∉ D (sig l) b := by
          intro h
          obtain ⟨k, h1, h2⟩ := mem_D.1 h
          exact hP k (by omega) h2
        simp only [f, (cls_new hb hm).1]
  · simp only [dec_f (show ¬ ((256 : Nat) : Int) < 256 by omega), cond_false]
    rw [tab_all]; rfl

theorem Ints_same {l : List Int} (h : l.length ≤ 1000) : M.ref07_Ints l l = some true := by
  unfold M.ref07_Ints
  simp only [bne_self_eq_false, cond_false]
  refine bindStep_next (loopM_count (fun i => (i : Int)) l.length (r := (Step.next () : Step Unit Bool)) (fun i hi => ?_) ?_ fuel (lt_fuel (by omega))) rfl
  · simp only [dec_t (show (i : Int) < (l.length : Int) by omega), cond_true, idxL_nat hi, Option.bind_some, bne_self_eq_false, cond_false, chk_succ' (show i < _ by omega)]
  · simp only [dec_f (show ¬ (l.length : Int) < (l.length : Int) by omega), cond_false]

end Go.Proofs.Ytogpainomdfpnaa
