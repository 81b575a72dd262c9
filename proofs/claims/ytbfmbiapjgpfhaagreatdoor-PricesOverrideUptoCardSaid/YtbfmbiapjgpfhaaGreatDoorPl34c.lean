/- Plain facts on layer 34: numbers. -/
import Derived.Test.YtbfmbiapjgpfhaaGreatDoorPl34b
set_option linter.unusedVariables false
set_option linter.unusedSimpArgs false
namespace Go.Proofs.YtbfmbiapjgpfhaaGreatDoor
open Go.Lx

def digB (c : UInt8) : Bool := decide (48 ≤ c.toNat ∧ c.toNat ≤ 57)
def valB (s : Str) : Nat := s.foldl (fun n c => 10 * n + (c.toNat - 48)) 0
def numB (s : Str) : Option Nat := if 1 ≤ s.length ∧ s.length ≤ 9 ∧ s.all digB = true then some (valB s) else none
theorem valB_snoc (s : Str) (c : UInt8) : valB (s ++ [c]) = 10 * valB s + (c.toNat - 48) := by simp [valB]
theorem valB_lt (s : Str) (h : s.all digB = true) : valB s < 10 ^ s.length := by
  rw [← List.reverse_reverse s] at h ⊢
  generalize s.reverse = r at *
  induction r with
  | nil => simp [valB]
  | cons c r ih =>
    rw [List.reverse_cons, List.all_append] at h
    have h1 : r.reverse.all digB = true := by revert h; cases r.reverse.all digB <;> simp
    have h2 : digB c = true := by revert h; rw [h1]; simp
    have ih := ih h1
    rw [List.reverse_cons, valB_snoc, List.length_append, List.length_singleton, Nat.pow_succ]
    unfold digB at h2
    have := of_decide_eq_true h2
    omega
theorem pow9 {n : Nat} (h : n ≤ 9) : 10 ^ n ≤ 1000000000 := by
  have := Nat.pow_le_pow_right (show 0 < 10 by decide) h
  simpa using this
theorem dig_contains (c : UInt8) : ([48, 49, 50, 51, 52, 53, 54, 55, 56, 57] : Str).contains c = digB c := by
  unfold digB
  rw [Bool.eq_iff_iff]
  simp only [List.contains_eq_mem, List.mem_cons, List.not_mem_nil, or_false, decide_eq_true_eq, ← UInt8.toNat_inj]
  show c.toNat = 48 ∨ c.toNat = 49 ∨ c.toNat = 50 ∨ c.toNat = 51 ∨ c.toNat = 52 ∨ c.toNat = 53 ∨ c.toNat = 54 ∨ c.toNat = 55 ∨ c.toNat = 56 ∨ c.toNat = 57 ↔ _
  omega
theorem dropW_nil {p : UInt8 → Bool} : ∀ {l : Str}, l.dropWhile p = [] ↔ ∀ x ∈ l, p x = true
  | [] => by simp
  | a :: l => by
    rw [List.dropWhile_cons]
    cases h : p a with
    | true => simp [h, dropW_nil (l := l)]
    | false => simp [h]
theorem dropW_head {p : UInt8 → Bool} : ∀ {l : Str} {a : UInt8} {r : Str}, l.dropWhile p = a :: r → p a = false
  | [], _, _, h => by simp at h
  | b :: l, a, r, h => by
    rw [List.dropWhile_cons] at h
    cases hb : p b with
    | true => rw [if_pos hb] at h; exact dropW_head h
    | false => rw [if_neg (by simp [hb])] at h; cases h; exact hb
theorem trim_nil (s cs : Str) : (Lib.trimS s cs = []) ↔ s.all (cs.contains ·) = true := by
  unfold Lib.trimS Lib.trimLeftS Lib.trimRightS
  rw [dropW_nil]
  constructor
  · intro h
    cases hd : s.reverse.dropWhile (cs.contains ·) with
    | nil =>
      rw [dropW_nil] at hd
      rw [List.all_eq_true]
      intro x hx
      exact hd x (List.mem_reverse.2 hx)
    | cons a r =>
      exfalso
      have h1 := h a (by rw [hd]; simp)
      have h2 := dropW_head hd
      rw [h1] at h2; cases h2
  · intro h x hx
    rw [List.all_eq_true] at h
    exact h x (List.mem_reverse.1 ((List.dropWhile_sublist _).subset (List.mem_reverse.1 hx)))
theorem decFrom_val : ∀ (s : Str) (acc : Nat), s.all digB = true → Lib.decFrom acc s = some (s.foldl (fun n c => 10 * n + (c.toNat - 48)) acc)
  | [], acc, _ => rfl
  | c :: s, acc, h => by
    rw [List.all_cons, Bool.and_eq_true] at h
    have hd := of_decide_eq_true h.1
    have e : Lib.digitVal c = some (c.toNat - 48) := by unfold Lib.digitVal; rw [if_pos hd]
    rw [Lib.decFrom, e]
    show Lib.decFrom (acc * 10 + (c.toNat - 48)) s = _
    rw [decFrom_val s _ h.2, Nat.mul_comm]
    rfl
theorem atoi_ok {s : Str} {n : Nat} (h : numB s = some n) : M.strconv_Atoi s = some ((n : Int), ()) := by
  unfold numB at h
  split at h
  · rename_i hc
    obtain rfl := Option.some.inj h
    unfold M.strconv_Atoi atoiM
    rw [if_pos (by omega)]
    match s, hc with
    | c :: r, hc =>
      have h1 := hc.2.2
      rw [List.all_cons, Bool.and_eq_true] at h1
      have hd := of_decide_eq_true h1.1
      have e1 : (c == 45) = false := by
        rw [beq_eq_false_iff_ne]
        rintro rfl; revert hd; decide
      have e2 : (c == 43) = false := by
        rw [beq_eq_false_iff_ne]
        rintro rfl; revert hd; decide
      rw [Lib.atoi, e1, e2]
      simp only [Bool.false_eq_true, if_false]
      rw [Lib.decNat, if_neg (by simp), decFrom_val _ _ hc.2.2]
      rfl
  · cases h
theorem number_ok {s : Str} (hl : s.length ≤ 140737488355328) : M.prices_number s = some (match numB s with | some n => ((n : Int), true) | none => (0, false)) := by
  refine Is.eq ?_
  unfold M.prices_number
  refine Is.bnd (P := fun b => b = (numB s).isNone) ?_ fun b hb => ?_
  · unfold numB
    refine Is.dcd (fun h => Is.pure ?_) (fun h => Is.dcd (fun h2 => Is.pure ?_) (fun h2 => Is.bnq (x := Lib.trimS s [48, 49, 50, 51, 52, 53, 54, 55, 56, 57]) ?_ (Is.pure ?_)))
    · rw [if_neg (by omega)]; rfl
    · rw [if_neg (by omega)]; rfl
    · unfold M.strings_Trim trimM
      rw [if_pos ⟨hl, by decide, by decide⟩]
    · have e : s.all digB = s.all (([48, 49, 50, 51, 52, 53, 54, 55, 56, 57] : Str).contains ·) := by congr 1; funext c; exact (dig_contains c).symm
      rw [e]
      by_cases ha : s.all (([48, 49, 50, 51, 52, 53, 54, 55, 56, 57] : Str).contains ·) = true
      · rw [if_pos ⟨by omega, by omega, ha⟩, (trim_nil _ _).2 ha]; rfl
      · rw [if_neg (by intro h3; exact ha h3.2.2)]
        have := mt (trim_nil s [48, 49, 50, 51, 52, 53, 54, 55, 56, 57]).1 ha
        simpa using this
  · cases hn : numB s with
    | none => rw [hn] at hb; exact Is.ct hb (Is.pure rfl)
    | some n => rw [hn] at hb; exact Is.cf hb (Is.bnq (atoi_ok hn) (Is.pure rfl))
theorem rnumber_ok {s : Str} (hl : s.length ≤ 140737488355328) : M.ref34_number s = some (match numB s with | some n => (n : Int) | none => -1) := by
  refine Is.eq ?_
  unfold M.ref34_number
  refine Is.bnd (P := fun b => b = !decide (1 ≤ s.length ∧ s.length ≤ 9)) (Is.dcd (fun h => Is.pure ?_) (fun h => Is.pure ?_)) fun b hb => Is.cnd (fun e => Is.pure ?_) (fun e => ?_)
  · have h2 : ¬ (1 ≤ s.length ∧ s.length ≤ 9) := fun h3 => by omega
    rw [decide_eq_false h2]; rfl
  · by_cases h3 : s.length ≤ 9
    · rw [decide_eq_true (show 1 ≤ s.length ∧ s.length ≤ 9 by omega), decide_eq_false (by omega)]; rfl
    · rw [decide_eq_false (show ¬ (1 ≤ s.length ∧ s.length ≤ 9) by omega), decide_eq_true (by omega)]; rfl
  · rw [e] at hb
    have := of_decide_eq_false (not_inv hb)
    have hn : numB s = none := by unfold numB; rw [if_neg (by intro h3; exact this ⟨h3.1, h3.2.1⟩)]
    rw [hn]
  · rw [e] at hb
    have hlen := of_decide_eq_true (not_inv hb)
    refine Is.bs (P := fun n => s.all digB = true ∧ n = (valB s : Int)) (Is.upto (fun i (st : Int × Int) => st.2 = (i : Int) ∧ (s.take i).all digB = true ∧ st.1 = (valB (s.take i) : Int)) s.length (by omega) ⟨rfl, by simp, by simp [valB]⟩ ?_ ?_) fun n h => Is.pure ?_
    · rintro i ⟨n, _⟩ hi ⟨rfl, ha, hv⟩
      simp only at hv
      subst hv
      have hlt := valB_lt _ ha
      have hp := pow9 (n := (s.take i).length) (by simp; omega)
      refine Is.dt (by omega) (Is.bnd (P := fun b => b = !digB s[i]) (Is.bnq (idxS_nat hi) (Is.dcd (fun h => Is.pure ?_) (fun h => Is.pure ?_))) fun b hb => Is.cnd (fun e => Is.stop ?_) (fun e => ?_))
      · unfold digB; rw [decide_eq_false (show ¬ (48 ≤ s[i].toNat ∧ s[i].toNat ≤ 57) by omega)]; rfl
      · unfold digB; rw [Bool.eq_iff_iff]; simp; omega
      · rw [e] at hb
        have hd := not_inv hb
        have hn : numB s = none := by
          unfold numB
          rw [if_neg]
          intro h3
          have := List.all_eq_true.1 h3.2.2 s[i] (List.getElem_mem _)
          rw [hd] at this; cases this
        show (-1 : Int) = _
        rw [hn]
      · rw [e] at hb
        have hd := of_decide_eq_true (not_inv hb)
        have hd2 : digB s[i] = true := not_inv hb
        have hw : IntKind.i64.wrap (IntKind.u8.wrap ((s[i].toNat : Int) - 48)) = ((s[i].toNat - 48 : Nat) : Int) := by
          rw [show ((s[i].toNat : Int) - 48) = ((s[i].toNat - 48 : Nat) : Int) by omega, wrap_u8 (by omega) (by omega), wrap_i64 (by omega) (by omega)]
        have hi64 : (10 : Int) * ((valB (s.take i) : Nat) : Int) = ((10 * valB (s.take i) : Nat) : Int) := by omega
        refine Is.bnq (x := ((10 * valB (s.take i) : Nat) : Int)) (by rw [hi64]; exact chk_i64 (by omega) (by omega)) (Is.bnq (idxS_nat hi) ?_)
        rw [hw]
        refine Is.bnq (x := ((10 * valB (s.take i) + (s[i].toNat - 48) : Nat) : Int)) (by rw [show ((10 * valB (s.take i) : Nat) : Int) + ((s[i].toNat - 48 : Nat) : Int) = ((10 * valB (s.take i) + (s[i].toNat - 48) : Nat) : Int) by omega]; exact chk_i64 (by omega) (by omega)) (Is.bnq (chk_succ (by omega)) (Is.next ⟨rfl, ?_, ?_⟩))
        · rw [List.take_succ_eq_append_getElem hi, List.all_append, ha, Bool.true_and]; simp [hd2]
        · rw [List.take_succ_eq_append_getElem hi, valB_snoc]
    · rintro ⟨n, _⟩ ⟨rfl, ha, hv⟩
      rw [List.take_length] at ha hv
      exact Is.df (by omega) (Is.stop ⟨ha, hv⟩)
    · have hn : numB s = some (valB s) := by unfold numB; rw [if_pos ⟨hlen.1, hlen.2, h.1⟩]
      rw [hn]; exact h.2
end Go.Proofs.YtbfmbiapjgpfhaaGreatDoor
