/- Plain facts on sets of bytes: the number of trailing zeros; All calls its function with the elements in increasing order, until it says stop. -/
import Derived.Test.YtjjinpgjfabemaaDoorPl07s
namespace Go.Proofs.YtjjinpgjfabemaaDoor
open Go.Lx

theorem odd_part : ∀ w : Nat, 0 < w → ∃ k m, w = 2 ^ k * (2 * m + 1) := by
  intro w
  induction w using Nat.strongRecOn with
  | _ w ih =>
    intro hw
    by_cases h : w % 2 = 1
    · exact ⟨0, w / 2, by rw [Nat.pow_zero, Nat.one_mul]; omega⟩
    · obtain ⟨k, m, hk⟩ := ih (w / 2) (by omega) (by omega)
      refine ⟨k + 1, m, ?_⟩
      rw [Nat.pow_succ, Nat.mul_comm (2 ^ k), Nat.mul_assoc, ← hk]
      omega
theorem bits_of_odd {k m w : Nat} (h : w = 2 ^ k * (2 * m + 1)) (j : Nat) : w.testBit j = (decide (k ≤ j) && (2 * m + 1).testBit (j - k)) := by
  have := Nat.testBit_two_pow_mul_add (2 * m + 1) (Nat.two_pow_pos k) j
  rw [Nat.add_zero, ← h] at this
  rw [this]
  by_cases hj : j < k
  · rw [if_pos hj, Nat.zero_testBit, decide_eq_false (by omega)]; rfl
  · rw [if_neg hj, decide_eq_true (by omega)]; rfl
theorem bits_of_pred {k m w : Nat} (h : w = 2 ^ k * (2 * m + 1)) (j : Nat) : (w - 1).testBit j = (decide (j < k) || (decide (k < j) && (2 * m + 1).testBit (j - k))) := by
  have hp := Nat.two_pow_pos k
  have e : w - 1 = 2 ^ k * (2 * m) + (2 ^ k - 1) := by rw [h, Nat.mul_add, Nat.mul_one]; omega
  have := Nat.testBit_two_pow_mul_add (2 * m) (show 2 ^ k - 1 < 2 ^ k by omega) j
  rw [e, this]
  by_cases hj : j < k
  · rw [if_pos hj, Nat.testBit_two_pow_sub_one]; simp [hj]
  · rw [if_neg hj]
    by_cases h2 : j = k
    · subst h2; simp
    · obtain ⟨d, rfl⟩ : ∃ d, j = k + (d + 1) := ⟨j - k - 1, by omega⟩
      rw [show k + (d + 1) - k = d + 1 by omega, Nat.testBit_succ, Nat.testBit_succ, show 2 * m / 2 = m by omega, show (2 * m + 1) / 2 = m by omega, dec_f (show ¬ k + (d + 1) < k by omega), dec_t (show k < k + (d + 1) by omega)]
      simp
theorem low_bit {k m w : Nat} (h : w = 2 ^ k * (2 * m + 1)) (hw : w < 18446744073709551616) : w &&& (18446744073709551616 - w) = 2 ^ k := by
  have hp := Nat.two_pow_pos k
  have h1 : 1 ≤ w := by rw [h]; exact Nat.mul_pos hp (by omega)
  refine Nat.eq_of_testBit_eq fun j => ?_
  have e : 18446744073709551616 - w = 2 ^ 64 - ((w - 1) + 1) := by omega
  rw [Nat.testBit_and, e, Nat.testBit_two_pow_sub_succ (by omega), bits_of_pred h, bits_of_odd h, Nat.testBit_two_pow]
  by_cases hj : j = k
  · subst hj
    have hk : j < 64 := by
      refine Nat.lt_of_not_le fun h2 => ?_
      have := Nat.pow_le_pow_right (show 0 < 2 by omega) h2
      have : 2 ^ j ≤ w := by rw [h]; exact Nat.le_mul_of_pos_right _ (by omega)
      omega
    simp [hk]
  · by_cases h2 : j < k
    · simp [show ¬ k ≤ j by omega, show ¬ k = j by omega]
    · simp [show k < j by omega, show ¬ j < k by omega, show ¬ k = j by omega]
      intro _ h3 _
      exact h3
theorem clear_bit {k m w : Nat} (h : w = 2 ^ k * (2 * m + 1)) (j : Nat) : (w &&& (w - 1)).testBit j = (w.testBit j && decide (j ≠ k)) := by
  rw [Nat.testBit_and, bits_of_pred h, bits_of_odd h]
  by_cases hj : j = k
  · subst hj; simp
  · by_cases h2 : j < k
    · simp [show ¬ k ≤ j by omega]
    · simp [show k < j by omega, show k ≤ j by omega, show ¬ j < k by omega, hj]
theorem tz_table : ∀ k : Nat, k < 64 → ((shrM .u64 (IntKind.u64.wrap (((2 ^ k : Nat) : Int) * 285870213051353865)) 58).bind fun t1 => (vget M.deBruijn t1).bind fun c1 => some (IntKind.i64.wrap c1)) = some (k : Int) := by decide +kernel
theorem exp_lt {k m w : Nat} (h : w = 2 ^ k * (2 * m + 1)) (hw : w < 18446744073709551616) : k < 64 := by
  refine Nat.lt_of_not_le fun h2 => ?_
  have := Nat.pow_le_pow_right (show 0 < 2 by omega) h2
  have : 2 ^ k ≤ w := by rw [h]; exact Nat.le_mul_of_pos_right _ (by omega)
  omega
theorem tz_ok {k m w : Nat} (h : w = 2 ^ k * (2 * m + 1)) (hw : w < 18446744073709551616) : M.math_bits_TrailingZeros64 (w : Int) = some (k : Int) := by
  have h1 : 1 ≤ w := by rw [h]; exact Nat.mul_pos (Nat.two_pow_pos k) (by omega)
  unfold M.math_bits_TrailingZeros64
  have e : IntKind.u64.wrap (-(w : Int)) = ((18446744073709551616 - w : Nat) : Int) := by
    simp [IntKind.wrap, IntKind.bits, IntKind.signed]; omega
  rw [beq_f (show (w : Int) ≠ 0 by omega), cond_false, e, bits_and_u64 hw (by omega), low_bit h hw]
  exact tz_table k (exp_lt h hw)

/-! ### filters of ranges -/
theorem filter_first {p : Nat → Bool} {n k : Nat} (hk : k < n) (hp : p k = true) (hlow : ∀ j, j < k → p j = false) : (List.range n).filter p = k :: (List.range n).filter (fun j => p j && decide (j ≠ k)) := by
  have hr : List.range n = List.range k ++ k :: (List.range (n - (k + 1))).map (k + 1 + ·) := by
    have h1 : n = k + (n - k) := by omega
    have h2 : List.range n = List.range k ++ (List.range (n - k)).map (k + ·) := by
      conv => lhs; rw [h1, List.range_add]
    rw [h2, show n - k = (n - (k + 1)) + 1 by omega, List.range_succ_eq_map, List.map_cons, List.map_map]
    simp [Function.comp_def, Nat.add_comm, Nat.add_left_comm]
  have h0 : (List.range k).filter p = [] := List.filter_eq_nil_iff.2 fun j hj => by rw [hlow j (List.mem_range.1 hj)]; simp
  have h0' : (List.range k).filter (fun j => p j && decide (j ≠ k)) = [] := List.filter_eq_nil_iff.2 fun j hj => by rw [hlow j (List.mem_range.1 hj)]; simp
  rw [hr, List.filter_append, List.filter_append, h0, h0', List.filter_cons, if_pos hp, List.filter_cons, if_neg (by simp)]
  simp only [List.nil_append, List.cons.injEq, true_and]
  refine List.filter_congr fun j hj => ?_
  obtain ⟨i, _, rfl⟩ := List.mem_map.1 hj
  have : decide (k + 1 + i ≠ k) = true := decide_eq_true (by omega)
  rw [this, Bool.and_true]
def bitsL (w : Nat) : List Nat := (List.range 64).filter w.testBit
theorem bitsL_zero : bitsL 0 = [] := List.filter_eq_nil_iff.2 fun j _ => by simp
theorem bitsL_cons {k m w : Nat} (h : w = 2 ^ k * (2 * m + 1)) (hw : w < 18446744073709551616) : bitsL w = k :: bitsL (w &&& (w - 1)) := by
  unfold bitsL
  rw [filter_first (exp_lt h hw) (by rw [bits_of_odd h]; simp) (fun j hj => by rw [bits_of_odd h, decide_eq_false (by omega)]; rfl)]
  congr 1
  exact List.filter_congr fun j _ => (clear_bit h j).symm

/-! ### All -/
def runY {σ : Type} (y : Int → σ → Option (Bool × σ)) : List Nat → σ → Option (Bool × σ)
  | [], s => some (true, s)
  | b :: l, s => (y (b : Int) s).bind fun r => bif r.1 then runY y l r.2 else some (false, r.2)
theorem runY_append {σ : Type} {y : Int → σ → Option (Bool × σ)} (l m : List Nat) : ∀ s, runY y (l ++ m) s = (runY y l s).bind fun r => bif r.1 then runY y m r.2 else some (false, r.2) := by
  induction l with
  | nil => intro s; rfl
  | cons b l ih =>
    intro s
    simp only [List.cons_append, runY]
    cases y (b : Int) s with
    | none => rfl
    | some r =>
      simp only [Option.bind_some]
      cases hr : r.1
      · simp
      · simp only [cond_true]; exact ih r.2
def elems (v : Vec 4) : List Nat := (List.range 256).filter (mem v)
theorem elems_words (v : Vec 4) : elems v = (List.range 4).flatMap (fun i => (bitsL (wd v i)).map (64 * i + ·)) := by
  have key : ∀ i, i < 4 → ((List.range 64).map (64 * i + ·)).filter (mem v) = (bitsL (wd v i)).map (64 * i + ·) := by
    intro i hi
    unfold bitsL
    rw [List.filter_map]
    congr 1
    refine List.filter_congr fun j hj => ?_
    have hj := List.mem_range.1 hj
    show mem v (64 * i + j) = _
    unfold mem
    rw [show (64 * i + j) / 64 = i by omega, show (64 * i + j) % 64 = j by omega]
  have hr : List.range 256 = (List.range 4).flatMap (fun i => (List.range 64).map (64 * i + ·)) := by decide +kernel
  unfold elems
  rw [hr, List.filter_flatMap]
  simp only [List.flatMap]
  congr 1
  refine List.map_congr_left fun i hi => ?_
  exact key i (List.mem_range.1 hi)
theorem word_loop {σ ρ : Type} {y : Int → σ → Option (Bool × σ)} {i : Nat} (hi : i < 4) {X : σ → ρ} {Y : σ → ρ} {body : Int × σ → Option (Step (Int × σ) ρ)}
    (hb : ∀ w s, body (w, s) = bif (w != 0) then (chk .i64 (64 * (i : Int))).bind fun t37 => (M.math_bits_TrailingZeros64 w).bind fun rv18 => (chk .i64 (t37 + rv18)).bind fun t38 => (y (IntKind.u8.wrap t38) s).bind fun y18 =>
      bif (!y18.1) then some (.stop (X y18.2)) else some (.next ((bits .and .u64 w (IntKind.u64.wrap (w - 1))), y18.2)) else some (.stop (Y s))) :
    ∀ w k : Nat, w < 18446744073709551616 → w < k → ∀ s, loopM body k ((w : Int), s) = (runY y ((bitsL w).map (64 * i + ·)) s).bind fun r => some (bif r.1 then Y r.2 else X r.2) := by
  intro w
  induction w using Nat.strongRecOn with
  | _ w ih =>
    intro k hw hk s
    obtain ⟨k, rfl⟩ : ∃ k', k = k' + 1 := ⟨k - 1, by omega⟩
    by_cases h0 : w = 0
    · subst h0
      rw [bitsL_zero]
      have hbody : body (((0 : Nat) : Int), s) = some (.stop (Y s)) := (hb _ s).trans rfl
      simp only [loopM, hbody, runY, List.map_nil, Option.bind_some, cond_true]
    · obtain ⟨e, m, he⟩ := odd_part w (by omega)
      have hlt := exp_lt he hw
      have hle : w &&& (w - 1) ≤ w - 1 := Nat.and_le_right
      have e1 : chk .i64 (64 * (i : Int)) = some ((64 * i : Nat) : Int) := by rw [chk_i64 (by omega) (by omega)]; rfl
      have e2 : chk .i64 (((64 * i : Nat) : Int) + (e : Int)) = some ((64 * i + e : Nat) : Int) := by rw [chk_i64 (by omega) (by omega)]; rfl
      have e3 : IntKind.u8.wrap ((64 * i + e : Nat) : Int) = ((64 * i + e : Nat) : Int) := wrap_u8 (by omega) (by omega)
      have e4 : IntKind.u64.wrap ((w : Int) - 1) = ((w - 1 : Nat) : Int) := by rw [wrap_u64 (by omega) (by omega)]; omega
      have e5 : bits .and .u64 (w : Int) ((w - 1 : Nat) : Int) = ((w &&& (w - 1) : Nat) : Int) := bits_and_u64 hw (by omega)
      rw [bitsL_cons he hw, List.map_cons]
      have hbody := hb (w : Int) s
      rw [bne_t (show (w : Int) ≠ 0 by omega), cond_true, e1, Option.bind_some, tz_ok he hw, Option.bind_some, e2, Option.bind_some, e3, e4, e5] at hbody
      unfold loopM runY
      rw [hbody]
      cases y ((64 * i + e : Nat) : Int) s with
      | none => rfl
      | some r =>
        simp only [Option.bind_some]
        cases hr : r.1
        · simp only [Bool.not_false, cond_true, cond_false, Option.bind_some]
        · simp only [Bool.not_true, cond_true, cond_false]
          exact ih (w &&& (w - 1)) (by omega) k (by omega) (by omega) r.2
theorem wd_nat {v : Vec 4} (hv : W4 v) {i : Nat} (hi : i < 4) : vget v (i : Int) = some ((wd v i : Nat) : Int) := vget_wd hv hi
theorem cond_true_of {α : Type} {b : Bool} {x y : α} (h : b = true) : (bif b then x else y) = x := by subst h; rfl
theorem loopM_stop {σ ρ : Type} {body : σ → Option (Step σ ρ)} {k : Nat} {a : σ} {r : ρ} (h : body a = some (.stop r)) : loopM body (k + 1) a = some r := by simp only [loopM, h]
theorem loopM_next {σ ρ : Type} {body : σ → Option (Step σ ρ)} {k : Nat} {a b : σ} (h : body a = some (.next b)) : loopM body (k + 1) a = loopM body k b := by simp only [loopM, h]
theorem loopM_none {σ ρ : Type} {body : σ → Option (Step σ ρ)} {k : Nat} {a : σ} (h : body a = none) : loopM body (k + 1) a = none := by simp only [loopM, h]
theorem All_ok {σ : Type} {y : Int → σ → Option (Bool × σ)} {v : Vec 4} (hv : W4 v) (s0 : σ) : M.byteset_All_1 y v s0 = (runY y (elems v) s0).bind fun r => some r.2 := by
  unfold M.byteset_All_1
  generalize hb : (fun (st9 : Int × σ) => match st9 with
    | (xv2, s9) => bif (decide (xv2 < 4)) then bindStep ((vget v xv2).bind fun c7 => loopM (fun (st9 : Int × σ) => match st9 with
        | (wv49, s23) => bif (wv49 != 0) then (chk .i64 (64 * xv2)).bind fun t37 => (M.math_bits_TrailingZeros64 wv49).bind fun rv18 => (chk .i64 (t37 + rv18)).bind fun t38 => (y (IntKind.u8.wrap t38) s23).bind fun y18 =>
            bif (!y18.1) then some (Step.stop (Step.stop (Step.stop y18.2))) else some (Step.next ((bits .and .u64 wv49 (IntKind.u64.wrap (wv49 - 1))), y18.2)) else some (Step.stop (Step.next s23))) fuel (c7, s9)) fun (s21 : σ) =>
          (chk .i64 (xv2 + 1)).bind fun t39 => some (Step.next (t39, s21))
        else some (Step.stop s9) : Int × σ → Option (Step (Int × σ) σ)) = body
  have step : ∀ i k : Nat, i < 4 → ∀ s, loopM body (k + 1) ((i : Int), s) = (runY y ((bitsL (wd v i)).map (64 * i + ·)) s).bind fun r => bif r.1 then loopM body k (((i + 1 : Nat) : Int), r.2) else some r.2 := by
    intro i k hi s
    have hlt := wd_lt hv i
    have hbody : body ((i : Int), s) = bindStep ((runY y ((bitsL (wd v i)).map (64 * i + ·)) s).bind fun r => some (bif r.1 then (.next r.2 : Step σ (Step (Int × σ) σ)) else .stop (.stop r.2))) fun (s21 : σ) => some (.next (((i + 1 : Nat) : Int), s21)) := by
      rw [← hb]
      refine (cond_true_of (dec_t (by omega))).trans ?_
      rw [wd_nat hv hi, Option.bind_some, chk_succ (show i < 9223372036854775807 by omega)]
      refine (congrArg (fun o => bindStep o _) (word_loop (y := y) hi (ρ := Step σ (Step (Int × σ) σ)) (X := fun s => Step.stop (Step.stop s)) (Y := fun s => Step.next s) ?_ (wd v i) fuel hlt (by unfold fuel; omega) s)).trans ?_
      · intro _ _; rfl
      · rfl
    revert hbody
    cases runY y ((bitsL (wd v i)).map (64 * i + ·)) s with
    | none => intro hbody; exact loopM_none hbody
    | some r =>
      obtain ⟨b, r⟩ := r
      cases b
      · intro hbody; exact loopM_stop hbody
      · intro hbody; exact loopM_next hbody
  have last : ∀ k s, loopM body (k + 1) (((4 : Nat) : Int), s) = some s := by
    intro k s
    refine loopM_stop ?_
    rw [← hb]
    rfl
  have he : elems v = (bitsL (wd v 0)).map (64 * 0 + ·) ++ ((bitsL (wd v 1)).map (64 * 1 + ·) ++ ((bitsL (wd v 2)).map (64 * 2 + ·) ++ (bitsL (wd v 3)).map (64 * 3 + ·))) := by
    rw [elems_words, show List.range 4 = [0, 1, 2, 3] from rfl]
    simp only [List.flatMap_cons, List.flatMap_nil, List.append_nil]
  have hf : fuel = 18446744073709551611 + 1 + 1 + 1 + 1 + 1 := by unfold fuel; rfl
  rw [he, hf]
  have s1 := fun s => step 0 (18446744073709551611 + 1 + 1 + 1 + 1) (by omega) s
  have s2 := fun s => step 1 (18446744073709551611 + 1 + 1 + 1) (by omega) s
  have s3 := fun s => step 2 (18446744073709551611 + 1 + 1) (by omega) s
  have s4 := fun s => step 3 (18446744073709551611 + 1) (by omega) s
  have s5 := last 18446744073709551611
  generalize 18446744073709551611 = K at *
  refine (s1 s0).trans ?_
  rw [runY_append]
  cases runY y ((bitsL (wd v 0)).map (64 * 0 + ·)) s0 with
  | none => rfl
  | some r =>
    obtain ⟨b, r⟩ := r
    cases b
    · rfl
    refine (s2 r).trans ?_
    show _ = (runY y _ r).bind _
    rw [runY_append]
    cases runY y ((bitsL (wd v 1)).map (64 * 1 + ·)) r with
    | none => rfl
    | some r =>
      obtain ⟨b, r⟩ := r
      cases b
      · rfl
      refine (s3 r).trans ?_
      show _ = (runY y _ r).bind _
      rw [runY_append]
      cases runY y ((bitsL (wd v 2)).map (64 * 2 + ·)) r with
      | none => rfl
      | some r =>
        obtain ⟨b, r⟩ := r
        cases b
        · rfl
        refine (s4 r).trans ?_
        show _ = (runY y _ r).bind _
        cases runY y ((bitsL (wd v 3)).map (64 * 3 + ·)) r with
        | none => rfl
        | some r =>
          obtain ⟨b, r⟩ := r
          cases b
          · rfl
          exact s5 r
end Go.Proofs.YtjjinpgjfabemaaDoor
