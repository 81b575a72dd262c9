/- Plain facts: loops, numbers that wrap, lists. No program in sight. -/
import Derived.Test.YtbfmbiapjgpfhaaGreatDoorLxMisc
namespace Go.Lx

/-! ### loops -/
theorem loopM_count {σ ρ : Type} {body : σ → Option (Step σ ρ)} (S : Nat → σ) (n : Nat) {r : ρ} (h : ∀ i, i < n → body (S i) = some (.next (S (i + 1)))) (hn : body (S n) = some (.stop r)) :
    ∀ k, n < k → loopM body k (S 0) = some r := by
  have key : ∀ m i k, i + m = n → m < k → loopM body k (S i) = some r := by
    intro m
    induction m with
    | zero =>
      intro i k hi hk
      match k, hk with
      | k + 1, _ =>
        have : i = n := by omega
        subst this
        simp only [loopM, hn]
    | succ m ih =>
      intro i k hi hk
      match k, hk with
      | k + 1, hk =>
        simp only [loopM, h i (by omega)]
        exact ih (i + 1) k (by omega) (by omega)
  intro k hk
  exact key n 0 k (by omega) hk
theorem loopM_inv {σ ρ : Type} {body : σ → Option (Step σ ρ)} (I : σ → Prop) (μ : σ → Nat) (Post : ρ → Prop)
    (h : ∀ s, I s → (∃ s', body s = some (.next s') ∧ I s' ∧ μ s' < μ s) ∨ (∃ r, body s = some (.stop r) ∧ Post r)) :
    ∀ k s, I s → μ s < k → ∃ r, loopM body k s = some r ∧ Post r := by
  intro k
  induction k with
  | zero => intro s _ hk; omega
  | succ k ih =>
    intro s hI hk
    rcases h s hI with ⟨s', hb, hI', hlt⟩ | ⟨r, hb, hp⟩
    · obtain ⟨r, hr, hp⟩ := ih s' hI' (by omega)
      exact ⟨r, by simp only [loopM, hb]; exact hr, hp⟩
    · exact ⟨r, by simp only [loopM, hb], hp⟩
theorem bind_of {α β : Type} {o : Option α} {x : α} {k : α → Option β} {r : Option β} (h : o = some x) (hk : k x = r) : o.bind k = r := by rw [h]; exact hk
theorem bindStep_next {σ ρ : Type} {o : Option (Step σ ρ)} {x : σ} {k : σ → Option ρ} {r : Option ρ} (h : o = some (.next x)) (hk : k x = r) : bindStep o k = r := by rw [h]; exact hk
theorem bindStep_stop {σ ρ : Type} {o : Option (Step σ ρ)} {x : ρ} {k : σ → Option ρ} (h : o = some (.stop x)) : bindStep o k = some x := by rw [h]; rfl
theorem lt_fuel {n : Nat} (h : n ≤ 4611686018427387903) : n < fuel := by unfold fuel; omega

/-! ### numbers -/
theorem wrap_i64 {n : Int} (h0 : -9223372036854775808 ≤ n) (h1 : n ≤ 9223372036854775807) : IntKind.i64.wrap n = n := by rw [IntKind.wrap_i64]; omega
theorem wrap_u8 {n : Int} (h0 : 0 ≤ n) (h1 : n ≤ 255) : IntKind.u8.wrap n = n := by simp [IntKind.wrap, IntKind.bits, IntKind.signed]; omega
theorem wrap_u64 {n : Int} (h0 : 0 ≤ n) (h1 : n < 18446744073709551616) : IntKind.u64.wrap n = n := by simp [IntKind.wrap, IntKind.bits, IntKind.signed]; omega
theorem chk_i64 {n : Int} (h0 : -9223372036854775808 ≤ n) (h1 : n ≤ 9223372036854775807) : chk .i64 n = some n := by unfold chk; rw [if_pos (wrap_i64 h0 h1)]
theorem bits_or_u64 {a b : Nat} (ha : a < 18446744073709551616) (hb : b < 18446744073709551616) : bits .or .u64 (a : Int) (b : Int) = ((a ||| b : Nat) : Int) := by
  simp only [bits]
  have h : a ||| b < 18446744073709551616 := Nat.or_lt_two_pow (n := 64) ha hb
  have e : ((BitVec.ofInt 64 (a : Int) ||| BitVec.ofInt 64 (b : Int)).toNat) = a ||| b := by
    rw [BitVec.toNat_or, BitVec.toNat_ofInt, BitVec.toNat_ofInt]
    have h1 : ((a : Int) % (2 ^ 64 : Nat)).toNat = a := by omega
    have h2 : ((b : Int) % (2 ^ 64 : Nat)).toNat = b := by omega
    rw [h1, h2]
  show IntKind.u64.wrap _ = _
  rw [show (BitVec.ofInt (IntKind.u64.bits) (a : Int) ||| BitVec.ofInt (IntKind.u64.bits) (b : Int)).toNat = a ||| b from e]
  exact wrap_u64 (by omega) (by omega)
theorem bits_and_u64 {a b : Nat} (ha : a < 18446744073709551616) (hb : b < 18446744073709551616) : bits .and .u64 (a : Int) (b : Int) = ((a &&& b : Nat) : Int) := by
  simp only [bits]
  have h : a &&& b < 18446744073709551616 := Nat.lt_of_le_of_lt Nat.and_le_left ha
  have e : ((BitVec.ofInt 64 (a : Int) &&& BitVec.ofInt 64 (b : Int)).toNat) = a &&& b := by
    rw [BitVec.toNat_and, BitVec.toNat_ofInt, BitVec.toNat_ofInt]
    have h1 : ((a : Int) % (2 ^ 64 : Nat)).toNat = a := by omega
    have h2 : ((b : Int) % (2 ^ 64 : Nat)).toNat = b := by omega
    rw [h1, h2]
  show IntKind.u64.wrap _ = _
  rw [show (BitVec.ofInt (IntKind.u64.bits) (a : Int) &&& BitVec.ofInt (IntKind.u64.bits) (b : Int)).toNat = a &&& b from e]
  exact wrap_u64 (by omega) (by omega)
theorem bits_xor_u64 {a b : Nat} (ha : a < 18446744073709551616) (hb : b < 18446744073709551616) : bits .xor .u64 (a : Int) (b : Int) = ((a ^^^ b : Nat) : Int) := by
  simp only [bits]
  have h : a ^^^ b < 18446744073709551616 := Nat.xor_lt_two_pow (n := 64) ha hb
  have e : ((BitVec.ofInt 64 (a : Int) ^^^ BitVec.ofInt 64 (b : Int)).toNat) = a ^^^ b := by
    rw [BitVec.toNat_xor, BitVec.toNat_ofInt, BitVec.toNat_ofInt]
    have h1 : ((a : Int) % (2 ^ 64 : Nat)).toNat = a := by omega
    have h2 : ((b : Int) % (2 ^ 64 : Nat)).toNat = b := by omega
    rw [h1, h2]
  show IntKind.u64.wrap _ = _
  rw [show (BitVec.ofInt (IntKind.u64.bits) (a : Int) ^^^ BitVec.ofInt (IntKind.u64.bits) (b : Int)).toNat = a ^^^ b from e]
  exact wrap_u64 (by omega) (by omega)
theorem compl_u64 {a : Nat} (ha : a < 18446744073709551616) : complM .u64 (a : Int) = ((18446744073709551615 ^^^ a : Nat) : Int) :=
  bits_xor_u64 (a := 18446744073709551615) (b := a) (by omega) ha
theorem shl1_u64 {t : Nat} (h : t < 64) : shlM .u64 1 (t : Int) = some ((2 ^ t : Nat) : Int) := by
  unfold shlM
  rw [if_pos (by omega)]
  have e : min ((t : Int).toNat) IntKind.u64.bits = t := by show min ((t : Int).toNat) 64 = t; omega
  rw [e]
  have h2 : 2 ^ t < 18446744073709551616 := by
    have : 2 ^ t < 2 ^ 64 := Nat.pow_lt_pow_right (by omega) h
    omega
  have h3 : (2 : Int) ^ t = ((2 ^ t : Nat) : Int) := by rw [Int.natCast_pow]; rfl
  have key : ∀ p : Nat, p < 18446744073709551616 → IntKind.u64.wrap (p : Int) = (p : Int) := fun p hp => wrap_u64 (by omega) (by omega)
  rw [Int.one_mul, h3, key _ h2]
theorem shr_u64 {a t : Nat} (h : t < 64) : shrM .u64 (a : Int) (t : Int) = some ((a >>> t : Nat) : Int) := by
  unfold shrM
  rw [if_pos (by omega)]
  have e : min ((t : Int).toNat) IntKind.u64.bits = t := by show min ((t : Int).toNat) 64 = t; omega
  rw [e, Nat.shiftRight_eq_div_pow]
  simp
theorem quo_nat {k : IntKind} {a b : Nat} (hb : b ≠ 0) (hw : k.wrap ((a / b : Nat) : Int) = ((a / b : Nat) : Int)) : quoM k (a : Int) (b : Int) = some ((a / b : Nat) : Int) := by
  unfold quoM
  have e : (a : Int).tdiv (b : Int) = ((a / b : Nat) : Int) := by rw [Int.tdiv_eq_ediv_of_nonneg (by omega)]; rfl
  rw [e, if_pos ⟨by omega, hw⟩]
theorem rem_nat {a b : Nat} (hb : b ≠ 0) : remM (a : Int) (b : Int) = some ((a % b : Nat) : Int) := by
  unfold remM
  rw [if_pos (by omega), Int.tmod_eq_emod_of_nonneg (by omega)]
  rfl

/-! ### lists -/
theorem idxS_nat {s : Str} {i : Nat} (h : i < s.length) : idxS s (i : Int) = some ((s[i]).toNat : Int) := by
  unfold idxS
  rw [if_pos (by omega)]
  simp [h]
theorem idxL_nat {α : Type} {l : List α} {i : Nat} (h : i < l.length) : idxL l (i : Int) = some l[i] := by
  unfold idxL
  rw [if_pos (by omega)]
  simp [h]
theorem setL_nat {α : Type} {l : List α} {i : Nat} {x : α} (h : i < l.length) : setL l (i : Int) x = some (l.set i x) := by
  unfold setL
  rw [if_pos ⟨by omega, by simpa using h⟩]
  simp
theorem appM_ok {α : Type} {B : Nat} {l m : List α} (h : (l.length + m.length) * B ≤ 140737488355328) : appM B l m = some (l ++ m) := by unfold appM; rw [if_pos h]
theorem mkM_nat {α : Type} {B n : Nat} {z : α} (h : n * B ≤ 140737488355328) : mkM B (n : Int) z = some (List.replicate n z) := by
  unfold mkM
  rw [if_pos ⟨by omega, by rw [← Int.natCast_mul]; omega⟩, Int.toNat_natCast]
end Go.Lx
