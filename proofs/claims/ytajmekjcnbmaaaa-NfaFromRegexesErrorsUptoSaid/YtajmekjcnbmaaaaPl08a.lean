/- Plain facts on layer 8: validity, parts, depth; the law on Valid. -/
import Derived.Test.YtajmekjcnbmaaaaMod
import Derived.Test.YtajmekjcnbmaaaaTyp
import Derived.Test.YtajmekjcnbmaaaaPlLoop
import Derived.Test.YtajmekjcnbmaaaaPl09n
namespace Go.Proofs.Ytajmekjcnbmaaaa
open Go.Lx

theorem T_Regex.ind {P : T_Regex → Prop} (h : ∀ k s l, (∀ y ∈ l, P y) → P ⟨k, s, l⟩) : ∀ x, P x
  | ⟨k, s, l⟩ => h k s l fun y _ => T_Regex.ind h y
theorem ok_kids {k s l} (h : okT_Regex ⟨k, s, l⟩) : ∀ y ∈ l, okT_Regex y := by cases h; assumption
theorem ok_len {k s l} (h : okT_Regex ⟨k, s, l⟩) : l.length ≤ maxLen := by cases h; assumption
theorem ok_set {k s l} (h : okT_Regex ⟨k, s, l⟩) : ∀ x ∈ s.1, IOk .u64 x := by cases h; assumption

/-- The kind, the set and the number of kids fit. -/
def shape (k : Int) (s : Vec 4) (n : Nat) : Bool :=
  bif k == 1 || k == 2 then n == 0 && s == Vec.zero 4
  else bif k == 3 then n == 0 && s != Vec.zero 4
  else bif k == 4 || k == 5 then decide (2 ≤ n) && s == Vec.zero 4
  else bif k == 6 then n == 1 && s == Vec.zero 4
  else false
/-- Valid, with at most d levels. -/
def V : Nat → T_Regex → Bool
  | 0, _ => false
  | d + 1, x => shape x.Kind x.Set x.Kids.length && x.Kids.all (V d)

/-- A loop over a list that asks a question of each. -/
theorem loop_all {α ρ : Type} {l : List α} {f : α → Option Bool} {p : α → Bool} {X Y : ρ} (hf : ∀ y ∈ l, f y = some (p y)) (hl : l.length ≤ 9223372036854775807) :
    loopM (fun (i : Int) => bif decide (i < (l.length : Int)) then (idxL l i).bind fun e => (f e).bind fun r => bif (!r) then some (.stop X) else (chk .i64 (i + 1)).bind fun t => some (.next t)
      else some (.stop Y)) fuel (0 : Int) = some (if l.all p then Y else X) := by
  refine Is.eq ?_
  refine Is.upto (fun i s => s = (i : Int) ∧ (l.take i).all p = true) l.length hl ⟨rfl, by simp⟩ ?_ ?_
  · rintro i _ hi ⟨rfl, hJ⟩
    refine Is.dt (by omega) (Is.bnq (idxL_nat hi) (Is.bnq (hf _ (List.getElem_mem hi)) ?_))
    refine Is.cnd (fun h => ?_) (fun h => ?_)
    · have h : p l[i] = false := by simpa using h
      refine Is.stop ?_
      rw [if_neg]
      intro h2
      have := List.all_eq_true.1 h2 _ (List.getElem_mem hi)
      rw [h] at this; exact absurd this (by simp)
    · have h : p l[i] = true := by simpa using h
      refine Is.bnq (chk_succ (by omega)) (Is.next ⟨rfl, ?_⟩)
      rw [List.take_add_one, List.all_append, hJ, List.getElem?_eq_getElem hi]
      simp [h]
  · rintro _ ⟨rfl, hJ⟩
    refine Is.df (by omega) (Is.stop ?_)
    rw [List.take_length] at hJ
    rw [if_pos hJ]
theorem loop_any {α ρ : Type} {l : List α} {f : α → Option Bool} {p : α → Bool} {X Y : ρ} (hf : ∀ y ∈ l, f y = some (p y)) (hl : l.length ≤ 9223372036854775807) :
    loopM (fun (i : Int) => bif decide (i < (l.length : Int)) then (idxL l i).bind fun e => (f e).bind fun r => bif r then some (.stop X) else (chk .i64 (i + 1)).bind fun t => some (.next t)
      else some (.stop Y)) fuel (0 : Int) = some (if l.any p then X else Y) := by
  refine Is.eq ?_
  refine Is.upto (fun i s => s = (i : Int) ∧ (l.take i).any p = false) l.length hl ⟨rfl, by simp⟩ ?_ ?_
  · rintro i _ hi ⟨rfl, hJ⟩
    refine Is.dt (by omega) (Is.bnq (idxL_nat hi) (Is.bnq (hf _ (List.getElem_mem hi)) ?_))
    refine Is.cnd (fun h => ?_) (fun h => ?_)
    · refine Is.stop ?_
      rw [if_pos]
      exact List.any_eq_true.2 ⟨_, List.getElem_mem hi, h⟩
    · refine Is.bnq (chk_succ (by omega)) (Is.next ⟨rfl, ?_⟩)
      rw [List.take_add_one, List.any_append, hJ, List.getElem?_eq_getElem hi]
      simp [h]
  · rintro _ ⟨rfl, hJ⟩
    refine Is.df (by omega) (Is.stop ?_)
    rw [List.take_length] at hJ
    rw [if_neg (by simp [hJ])]

theorem valid_ok : ∀ (d fl : Nat) (x : T_Regex), okT_Regex x → d ≤ 30 → d < fl → M.regex_valid fl x d = some (V d x) := by
  intro d
  induction d with
  | zero =>
    intro fl x _ _ hf
    obtain ⟨fl, rfl⟩ : ∃ f, fl = f + 1 := ⟨fl - 1, by omega⟩
    simp [M.regex_valid, V]
  | succ d ih =>
    intro fl x ok hd hf
    obtain ⟨fl, rfl⟩ : ∃ f, fl = f + 1 := ⟨fl - 1, by omega⟩
    obtain ⟨k, s, l⟩ := x
    have hl : l.length ≤ 9223372036854775807 := Nat.le_trans (ok_len ok) (by decide)
    have e1 : chk .i64 ((d + 1 : Nat) - 1 : Int) = some (d : Int) := by rw [chk_i64 (by omega) (by omega)]; congr 1; omega
    have e0 : (((d + 1 : Nat) : Int) == 0) = false := beq_f (by omega)
    have hloop := loop_all (ρ := Step Unit Bool) (f := fun e => M.regex_valid fl e d) (X := .stop false) (Y := .next ()) (fun y hy => ih fl y (ok_kids ok y hy) (by omega) (by omega)) hl
    have hb : (s != Vec.zero 4) = !(s == Vec.zero 4) := rfl
    unfold M.regex_valid V shape
    simp only [e1, e0, Option.bind_some, cond_false, hb]
    rw [hloop]
    have hA0 : l.length = 0 → l.all (V d) = true := by intro h; rw [List.eq_nil_of_length_eq_zero h]; rfl
    generalize l.all (V d) = A at hA0 ⊢
    generalize (s == Vec.zero 4) = z
    generalize l.length = n at hA0 ⊢
    have dispatch : k = 1 ∨ k = 2 ∨ k = 3 ∨ k = 4 ∨ k = 5 ∨ k = 6 ∨ (k ≠ 1 ∧ k ≠ 2 ∧ k ≠ 3 ∧ k ≠ 4 ∧ k ≠ 5 ∧ k ≠ 6) := by omega
    clear hloop hl ok ih hb
    have u1 : ∀ m : Nat, decide ((m : Int) + 1 + 1 < 2) = false := fun m => dec_f (by omega)
    have u2 : ∀ m : Nat, decide ((m : Int) + 1 + 1 ≤ 0) = false := fun m => dec_f (by omega)
    have u3 : ∀ m : Nat, ((m : Int) + 1 + 1 == 0) = false := fun m => beq_f (by omega)
    have u4 : ∀ m : Nat, ((m : Int) + 1 + 1 == 1) = false := fun m => beq_f (by omega)
    have v4 : ∀ m : Nat, ((m : Int) + 1 + 1 != 1) = true := fun m => bne_t (by omega)
    have u5 : ∀ m : Nat, decide ((0 : Int) < (m : Int) + 1 + 1) = true := fun m => dec_t (by omega)
    have u6 : ∀ m : Nat, decide ((1 : Int) < (m : Int) + 1 + 1) = true := fun m => dec_t (by omega)
    have u7 : ∀ m : Nat, decide ((m : Int) + 1 + 1 < 0) = false := fun m => dec_f (by omega)
    have u8 : ∀ m : Nat, decide ((m : Int) + 1 + 1 < 1) = false := fun m => dec_f (by omega)
    rcases dispatch with rfl | rfl | rfl | rfl | rfl | rfl | ⟨n1, n2, n3, n4, n5, n6⟩ <;> rcases n with _ | _ | n <;> cases z <;> cases A <;> first | exact absurd (hA0 rfl) (by decide) | (simp [bindStep, *]; done) | (have m1 := beq_f n1; have m2 := beq_f n2; have m3 := beq_f n3; have m4 := beq_f n4; have m5 := beq_f n5; have m6 := beq_f n6; have m7 := bne_t n3; simp [bindStep, *])
/-- The reference. -/
theorem refvalid_ok : ∀ (d fl : Nat) (x : T_Regex), okT_Regex x → d ≤ 30 → d < fl → M.ref08_valid fl x ((30 - d : Nat) : Int) = some (V d x) := by
  intro d
  induction d with
  | zero =>
    intro fl x _ _ hf
    obtain ⟨fl, rfl⟩ : ∃ f, fl = f + 1 := ⟨fl - 1, by omega⟩
    simp [M.ref08_valid, V]
  | succ d ih =>
    intro fl x ok hd hf
    obtain ⟨fl, rfl⟩ : ∃ f, fl = f + 1 := ⟨fl - 1, by omega⟩
    obtain ⟨k, s, l⟩ := x
    have hl : l.length ≤ 9223372036854775807 := Nat.le_trans (ok_len ok) (by decide)
    have e1 : chk .i64 (((30 - (d + 1) : Nat) : Int) + 1) = some ((30 - d : Nat) : Int) := by rw [chk_i64 (by omega) (by omega)]; congr 1; omega
    have e0 : decide (30 ≤ ((30 - (d + 1) : Nat) : Int)) = false := decide_eq_false (by omega)
    have hloop := loop_all (ρ := Step Unit Bool) (f := fun e => M.ref08_valid fl e ((30 - d : Nat) : Int)) (X := .stop false) (Y := .next ()) (fun y hy => ih fl y (ok_kids ok y hy) (by omega) (by omega)) hl
    have hb : (s != Vec.zero 4) = !(s == Vec.zero 4) := rfl
    unfold M.ref08_valid V shape
    simp only [e1, e0, Option.bind_some, cond_false, hb]
    rw [hloop]
    have hA0 : l.length = 0 → l.all (V d) = true := by intro h; rw [List.eq_nil_of_length_eq_zero h]; rfl
    generalize l.all (V d) = A at hA0 ⊢
    generalize (s == Vec.zero 4) = z
    generalize l.length = n at hA0 ⊢
    have dispatch : k = 1 ∨ k = 2 ∨ k = 3 ∨ k = 4 ∨ k = 5 ∨ k = 6 ∨ (k ≠ 1 ∧ k ≠ 2 ∧ k ≠ 3 ∧ k ≠ 4 ∧ k ≠ 5 ∧ k ≠ 6) := by omega
    clear hloop hl ok ih hb
    have u1 : ∀ m : Nat, decide ((m : Int) + 1 + 1 < 2) = false := fun m => dec_f (by omega)
    have u2 : ∀ m : Nat, decide ((m : Int) + 1 + 1 ≤ 0) = false := fun m => dec_f (by omega)
    have u3 : ∀ m : Nat, ((m : Int) + 1 + 1 == 0) = false := fun m => beq_f (by omega)
    have u4 : ∀ m : Nat, ((m : Int) + 1 + 1 == 1) = false := fun m => beq_f (by omega)
    have v4 : ∀ m : Nat, ((m : Int) + 1 + 1 != 1) = true := fun m => bne_t (by omega)
    have u5 : ∀ m : Nat, decide ((0 : Int) < (m : Int) + 1 + 1) = true := fun m => dec_t (by omega)
    have u6 : ∀ m : Nat, decide ((1 : Int) < (m : Int) + 1 + 1) = true := fun m => dec_t (by omega)
    have u7 : ∀ m : Nat, decide ((m : Int) + 1 + 1 < 0) = false := fun m => dec_f (by omega)
    have u8 : ∀ m : Nat, decide ((m : Int) + 1 + 1 < 1) = false := fun m => dec_f (by omega)
    rcases dispatch with rfl | rfl | rfl | rfl | rfl | rfl | ⟨n1, n2, n3, n4, n5, n6⟩ <;> rcases n with _ | _ | n <;> cases z <;> cases A <;> first | exact absurd (hA0 rfl) (by decide) | (simp [bindStep, *]; done) | (have m1 := beq_f n1; have m2 := beq_f n2; have m3 := beq_f n3; have m4 := beq_f n4; have m5 := beq_f n5; have m6 := beq_f n6; have m7 := bne_t n3; simp [bindStep, *])
theorem Valid_ok {x : T_Regex} (ok : okT_Regex x) : M.regex_Valid x = some (V 30 x) := by
  unfold M.regex_Valid
  rw [show M.regex_valid fuel x 30 = some (V 30 x) from valid_ok 30 fuel x ok (by omega) (by unfold fuel; omega)]
  rfl
theorem refValid_ok {x : T_Regex} (ok : okT_Regex x) : M.ref08_Valid x = some (V 30 x) := by
  unfold M.ref08_Valid
  rw [show M.ref08_valid fuel x 0 = some (V 30 x) from refvalid_ok 30 fuel x ok (by omega) (by unfold fuel; omega)]
  rfl

/-! ### parts and levels -/
mutual
def parts : T_Regex → Nat
  | ⟨_, _, l⟩ => partsL l + 1
def partsL : List T_Regex → Nat
  | [] => 0
  | y :: l => parts y + partsL l
end
mutual
def height : T_Regex → Nat
  | ⟨_, _, l⟩ => heightL l + 1
def heightL : List T_Regex → Nat
  | [] => 0
  | y :: l => max (height y) (heightL l)
end
theorem partsL_append (l m : List T_Regex) : partsL (l ++ m) = partsL l + partsL m := by
  induction l with
  | nil => simp [partsL]
  | cons y l ih => simp only [List.cons_append, partsL, ih]; omega
theorem heightL_append (l m : List T_Regex) : heightL (l ++ m) = max (heightL l) (heightL m) := by
  induction l with
  | nil => simp [heightL]
  | cons y l ih => simp only [List.cons_append, heightL, ih]; omega
theorem parts_mem {l : List T_Regex} {y : T_Regex} (h : y ∈ l) : parts y ≤ partsL l := by
  induction l with
  | nil => cases h
  | cons z l ih =>
    simp only [partsL]
    rcases List.mem_cons.1 h with rfl | h
    · omega
    · have := ih h; omega
theorem height_mem {l : List T_Regex} {y : T_Regex} (h : y ∈ l) : height y ≤ heightL l := by
  induction l with
  | nil => cases h
  | cons z l ih =>
    simp only [heightL]
    rcases List.mem_cons.1 h with rfl | h
    · omega
    · have := ih h; omega
theorem parts_pos (x : T_Regex) : 1 ≤ parts x := by obtain ⟨k, s, l⟩ := x; simp [parts]
theorem len_parts (l : List T_Regex) : l.length ≤ partsL l := by
  induction l with
  | nil => simp
  | cons y l ih => simp only [List.length_cons, partsL]; have := parts_pos y; omega

end Go.Proofs.Ytajmekjcnbmaaaa
