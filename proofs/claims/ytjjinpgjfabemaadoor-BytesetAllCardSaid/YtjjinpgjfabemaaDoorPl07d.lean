/- Plain facts on layer 7: union, intersection, complement, number of elements; the laws on them. -/
import Derived.Test.YtjjinpgjfabemaaDoorPl07c
set_option linter.unusedVariables false
namespace Go.Proofs.YtjjinpgjfabemaaDoor
open Go.Lx

/-! ### how many -/
theorem bits_and_i64 {a b : Nat} (ha : a < 9223372036854775808) (hb : b < 9223372036854775808) : bits .and .i64 (a : Int) (b : Int) = ((a &&& b : Nat) : Int) := by
  simp only [bits]
  have h : a &&& b < 9223372036854775808 := Nat.lt_of_le_of_lt Nat.and_le_left ha
  have e : ((BitVec.ofInt 64 (a : Int) &&& BitVec.ofInt 64 (b : Int)).toNat) = a &&& b := by
    rw [BitVec.toNat_and, BitVec.toNat_ofInt, BitVec.toNat_ofInt]
    have h1 : ((a : Int) % (2 ^ 64 : Nat)).toNat = a := by omega
    have h2 : ((b : Int) % (2 ^ 64 : Nat)).toNat = b := by omega
    rw [h1, h2]
  show IntKind.i64.wrap _ = _
  rw [show (BitVec.ofInt (IntKind.i64.bits) (a : Int) &&& BitVec.ofInt (IntKind.i64.bits) (b : Int)).toNat = a &&& b from e]
  exact wrap_i64 (by omega) (by omega)
theorem m0_8 : m0 8 = 6148914691236517205 := by decide
theorem m1_8 : m1 8 = 3689348814741910323 := by decide
theorem m2_8 : m2 8 = 1085102592571150095 := by decide
theorem and127 (x : Nat) : x &&& 127 = x % 128 := Nat.and_two_pow_sub_one_eq_mod x 7
theorem div_of {n q r m : Nat} (h : n = r + m * q) (hr : r < m) : n / m = q := by
  rw [h, Nat.add_mul_div_left _ _ (by omega), Nat.div_eq_of_lt hr, Nat.zero_add]
theorem mod_of {n q r m : Nat} (h : n = r + m * q) (hr : r < m) : n % m = r := by
  rw [h, Nat.add_mul_mod_self_left, Nat.mod_eq_of_lt hr]
theorem fold_lanes {L p0 p1 p2 p3 p4 p5 p6 p7 r1 r2 r3 r4 r5 r6 : Nat} (hL : L = p0 + 256 * r1) (q1 : r1 = p1 + 256 * r2) (q2 : r2 = p2 + 256 * r3) (q3 : r3 = p3 + 256 * r4) (q4 : r4 = p4 + 256 * r5) (q5 : r5 = p5 + 256 * r6) (q6 : r6 = p6 + 256 * p7)
    (h0 : p0 ≤ 8) (h1 : p1 ≤ 8) (h2 : p2 ≤ 8) (h3 : p3 ≤ 8) (h4 : p4 ≤ 8) (h5 : p5 ≤ 8) (h6 : p6 ≤ 8) (h7 : p7 ≤ 8) :
    ∃ A B C, L / 256 = A ∧ (L + A) / 65536 = B ∧ (L + A + B) / 4294967296 = C ∧ (L + A + B + C) % 128 = p0 + p1 + p2 + p3 + p4 + p5 + p6 + p7 ∧ L + A + B + C < 9223372036854775808 := by
  have b6 : r6 ≤ 8 * 257 := by omega
  have b5 : r5 ≤ 8 * 65793 := by omega
  have b4 : r4 ≤ 8 * 16843009 := by omega
  have b3 : r3 ≤ 8 * 4311810305 := by omega
  have b2 : r2 ≤ 8 * 1103823438081 := by omega
  have b1 : r1 ≤ 8 * 282578800148737 := by omega
  have b0 : L ≤ 8 * 72340172838076673 := by omega
  refine ⟨r1, r2 + r3, r4 + r5 + r6 + p7, div_of hL (by omega), ?_, ?_, ?_, ?_⟩
  · refine div_of (r := p0 + p1 + 256 * (p1 + p2)) ?_ (by clear hL q1 q2 q3 q4 q5 q6; omega)
    rw [hL, q1, q2]; clear hL q1 q2 q3 q4 q5 q6; omega
  · refine div_of (r := p0 + p1 + p2 + p3 + 256 * (p1 + p2 + p3 + p4) + 65536 * (p2 + p3 + p4 + p5) + 16777216 * (p3 + p4 + p5 + p6)) ?_ (by clear hL q1 q2 q3 q4 q5 q6; omega)
    clear b0 b1 b2 b3 b4 b5 b6 h0 h1 h2 h3 h4 h5 h6 h7
    subst hL; subst q1; subst q2; subst q3; subst q4; subst q5; subst q6; omega
  · have e : L + r1 + (r2 + r3) + (r4 + r5 + r6 + p7) = (p0 + p1 + p2 + p3 + p4 + p5 + p6 + p7) + 128 * (2 * (r1 + r2 + r3 + r4 + r5 + r6 + p7)) := by
      clear b0 b1 b2 b3 b4 b5 b6 h0 h1 h2 h3 h4 h5 h6 h7
      subst hL; omega
    exact mod_of e (by clear e hL q1 q2 q3 q4 q5 q6; omega)
  · clear hL q1 q2 q3 q4 q5 q6; omega
theorem OnesCount_eq {x : Nat} (hx : x < 18446744073709551616) : M.math_bits_OnesCount64 (x : Int) = some ((cnt x.testBit 64 : Nat) : Int) := by
  have hS := swar 8 x
  obtain ⟨p0, p1, p2, p3, p4, p5, p6, p7, hL, hc, h0, h1, h2, h3, h4, h5, h6, h7⟩ := sum8 x
  have e1 : shrM .u64 (x : Int) 1 = some ((x >>> 1 : Nat) : Int) := shr_u64 (t := 1) (by omega)
  have l1 : x >>> 1 < 18446744073709551616 := Nat.lt_of_le_of_lt (Nat.shiftRight_le _ _) hx
  have a1 := bits_and_u64 (b := 6148914691236517205) l1 (by omega)
  have a2 := bits_and_u64 (b := 6148914691236517205) hx (by omega)
  have b1 : (x >>> 1) &&& 6148914691236517205 ≤ 6148914691236517205 := Nat.and_le_right
  have b2 : x &&& 6148914691236517205 ≤ 6148914691236517205 := Nat.and_le_right
  have eA : IntKind.u64.wrap ((((x >>> 1) &&& 6148914691236517205 : Nat) : Int) + ((x &&& 6148914691236517205 : Nat) : Int)) = ((sA 8 x : Nat) : Int) := by
    rw [wrap_u64 (by omega) (by omega)]; unfold sA; rw [m0_8]; omega
  have lA : sA 8 x < 18446744073709551616 := by unfold sA; rw [m0_8]; omega
  have e2 : shrM .u64 ((sA 8 x : Nat) : Int) 2 = some ((sA 8 x >>> 2 : Nat) : Int) := shr_u64 (t := 2) (by omega)
  have l2 : sA 8 x >>> 2 < 18446744073709551616 := Nat.lt_of_le_of_lt (Nat.shiftRight_le _ _) lA
  have a3 := bits_and_u64 (b := 3689348814741910323) l2 (by omega)
  have a4 := bits_and_u64 (b := 3689348814741910323) lA (by omega)
  have b3 : (sA 8 x >>> 2) &&& 3689348814741910323 ≤ 3689348814741910323 := Nat.and_le_right
  have b4 : sA 8 x &&& 3689348814741910323 ≤ 3689348814741910323 := Nat.and_le_right
  have eB : IntKind.u64.wrap ((((sA 8 x >>> 2) &&& 3689348814741910323 : Nat) : Int) + ((sA 8 x &&& 3689348814741910323 : Nat) : Int)) = ((sB 8 (sA 8 x) : Nat) : Int) := by
    rw [wrap_u64 (by omega) (by omega)]; unfold sB; rw [m1_8]; omega
  have lB : sB 8 (sA 8 x) ≤ 7378697629483820646 := by unfold sB; rw [m1_8]; omega
  have e3 : shrM .u64 ((sB 8 (sA 8 x) : Nat) : Int) 4 = some ((sB 8 (sA 8 x) >>> 4 : Nat) : Int) := shr_u64 (t := 4) (by omega)
  have l3 : sB 8 (sA 8 x) >>> 4 ≤ sB 8 (sA 8 x) := Nat.shiftRight_le _ _
  have eC : IntKind.u64.wrap (((sB 8 (sA 8 x) >>> 4 : Nat) : Int) + ((sB 8 (sA 8 x) : Nat) : Int)) = ((sB 8 (sA 8 x) >>> 4 + sB 8 (sA 8 x) : Nat) : Int) := by
    rw [wrap_u64 (by omega) (by omega)]; omega
  have a5 := bits_and_u64 (a := sB 8 (sA 8 x) >>> 4 + sB 8 (sA 8 x)) (b := 1085102592571150095) (by omega) (by omega)
  have eC' : (sB 8 (sA 8 x) >>> 4 + sB 8 (sA 8 x)) &&& 1085102592571150095 = lanes 8 x := by rw [← hS]; unfold sC; rw [m2_8]
  rw [eC'] at a5
  obtain ⟨A, B, C, wA, wB, wC, wD, wE⟩ := fold_lanes hL rfl rfl rfl rfl rfl rfl h0 h1 h2 h3 h4 h5 h6 h7
  rw [← hc] at wD
  generalize lanes 8 x = L at *
  clear hL hc h0 h1 h2 h3 h4 h5 h6 h7
  have e5 : shrM .u64 ((L : Nat) : Int) 8 = some ((A : Nat) : Int) := by rw [← wA]; exact (shr_u64 (a := L) (t := 8) (by omega)).trans (by rw [Nat.shiftRight_eq_div_pow])
  have f5 : IntKind.u64.wrap (((L : Nat) : Int) + ((A : Nat) : Int)) = ((L + A : Nat) : Int) := by
    rw [wrap_u64 (by omega) (by omega)]; omega
  have e6 : shrM .u64 ((L + A : Nat) : Int) 16 = some ((B : Nat) : Int) := by rw [← wB]; exact (shr_u64 (a := L + A) (t := 16) (by omega)).trans (by rw [Nat.shiftRight_eq_div_pow])
  have f6 : IntKind.u64.wrap (((L + A : Nat) : Int) + ((B : Nat) : Int)) = ((L + A + B : Nat) : Int) := by
    rw [wrap_u64 (by omega) (by omega)]; omega
  have e7 : shrM .u64 ((L + A + B : Nat) : Int) 32 = some ((C : Nat) : Int) := by rw [← wC]; exact (shr_u64 (a := L + A + B) (t := 32) (by omega)).trans (by rw [Nat.shiftRight_eq_div_pow])
  have f7 : IntKind.i64.wrap (IntKind.u64.wrap (((L + A + B : Nat) : Int) + ((C : Nat) : Int))) = ((L + A + B + C : Nat) : Int) := by
    rw [wrap_u64 (by omega) (by omega), wrap_i64 (by omega) (by omega)]; omega
  have a8 := bits_and_i64 (a := L + A + B + C) (b := 127) wE (by omega)
  have fin : (L + A + B + C) &&& 127 = cnt x.testBit 64 := by rw [and127, wD]
  have n1 : (6148914691236517205 : Int) = ((6148914691236517205 : Nat) : Int) := by omega
  have n2 : (3689348814741910323 : Int) = ((3689348814741910323 : Nat) : Int) := by omega
  have n3 : (1085102592571150095 : Int) = ((1085102592571150095 : Nat) : Int) := by omega
  have n4 : (127 : Int) = ((127 : Nat) : Int) := by omega
  unfold M.math_bits_OnesCount64
  rw [← n1] at a1 a2
  rw [← n2] at a3 a4
  rw [← n3] at a5
  rw [← n4] at a8
  refine bind_of e1 ?_
  rw [a1, a2, eA]
  refine bind_of e2 ?_
  rw [a3, a4]
  refine bind_of rfl ?_
  rw [eB]
  refine bind_of e3 ?_
  rw [eC, a5]
  refine bind_of rfl ?_
  refine bind_of e5 ?_
  rw [f5]
  refine bind_of e6 ?_
  rw [f6]
  refine bind_of e7 ?_
  rw [f7, a8, fin]
  rfl

def size (v : Vec 4) : Nat := cnt (mem v) 256
theorem size_words (v : Vec 4) : size v = cnt (wd v 0).testBit 64 + cnt (wd v 1).testBit 64 + cnt (wd v 2).testBit 64 + cnt (wd v 3).testBit 64 := by
  unfold size
  rw [show (256 : Nat) = 64 + (64 + (64 + 64)) from rfl, cnt_split, cnt_split, cnt_split]
  have key : ∀ k, cnt (fun i => mem v (64 * k + i)) 64 = cnt (wd v k).testBit 64 := by
    intro k
    unfold cnt
    apply List.countP_congr
    intro i hi
    have : i < 64 := by simpa using hi
    unfold mem
    rw [show (64 * k + i) / 64 = k by omega, show (64 * k + i) % 64 = i by omega]
  have k2 := key 2; have k3 := key 3
  have k0 : cnt (mem v) 64 = cnt (wd v 0).testBit 64 := by have := key 0; simpa using this
  have k1 : cnt (fun i => mem v (64 + i)) 64 = cnt (wd v 1).testBit 64 := by have := key 1; simpa using this
  have k2' : cnt (fun i => mem v (64 + (64 + i))) 64 = cnt (wd v 2).testBit 64 := by rw [← k2]; congr 1; funext i; congr 1; omega
  have k3' : cnt (fun i => mem v (64 + (64 + (64 + i)))) 64 = cnt (wd v 3).testBit 64 := by rw [← k3]; congr 1; funext i; congr 1; omega
  rw [k0, k1, k2', k3']
  omega
theorem Len_eq {v : Vec 4} (hv : W4 v) : M.byteset_Len v = some ((size v : Nat) : Int) := by
  unfold M.byteset_Len
  let f : Nat → Nat := fun i => cnt (wd v i).testBit 64
  let s : Nat → Nat := fun i => ((List.range i).map f).sum
  have hs : ∀ i, s (i + 1) = s i + f i := fun i => by simp [s, List.range_succ]
  have hb : ∀ i, s i ≤ 64 * i := by
    intro i
    induction i with
    | zero => simp [s]
    | succ i ih => have := cnt_le (wd v i).testBit 64; rw [hs]; simp only [f]; omega
  have hsz : s 4 = size v := by rw [size_words]; simp [s, f, List.range_succ]; omega
  refine bind_of (loopM_count (fun i => (((s i : Nat) : Int), (i : Int))) 4 (r := ((size v : Nat) : Int)) (fun i hi => ?_) ?_ fuel (lt_fuel (by omega))) rfl
  · have e1 := vget_wd hv hi
    have e2 := OnesCount_eq (wd_lt hv i)
    have := hb i
    have := cnt_le (wd v i).testBit 64
    have e3 : chk .i64 (((s i : Nat) : Int) + ((cnt (wd v i).testBit 64 : Nat) : Int)) = some ((s (i + 1) : Nat) : Int) := by
      rw [hs, chk_i64 (by omega) (by omega)]; rfl
    simp only [dec_t (show (i : Int) < 4 by omega), cond_true, e1, e2, e3, chk_succ (show i < _ by omega), Option.bind_some]
  · rw [← hsz]; rfl

/-! ### the reference -/
theorem filterLoop {ρ : Type} {body : Vec 4 × Int → Option (Step (Vec 4 × Int) ρ)} {p : Nat → Bool} {n : Nat} {r : ρ} (hn4 : n ≤ 4611686018427387903)
    (h : ∀ i v, i < n → W4 v → body (v, (i : Int)) = some (.next (bif p i then with1 v i else v, ((i + 1 : Nat) : Int)))) (hn : body (ofL ((List.range n).filter p), (n : Int)) = some (.stop r)) :
    loopM body fuel (Vec.zero 4, 0) = some r := by
  refine loopM_count (body := body) (fun i => (ofL ((List.range i).filter p), (i : Int))) n (fun i hi => ?_) hn fuel (lt_fuel hn4)
  rw [h i _ hi (W4_ofL _)]
  congr 3
  rw [List.range_succ, List.filter_append]
  cases hp : p i <;> simp [ofL, hp]
theorem mem_filter {p : Nat → Bool} {b : Nat} (hb : b < 256) : mem (ofL ((List.range 256).filter p)) b = p b := by
  rw [mem_ofL (fun x hx => by simp at hx; exact hx.1), Bool.eq_iff_iff]
  simp [hb]
theorem size_le (v : Vec 4) : size v ≤ 256 := cnt_le _ _
theorem size_compl {v : Vec 4} : size (vcompl v) + size v = 256 := by
  have key : ∀ n, n ≤ 256 → cnt (mem (vcompl v)) n + cnt (mem v) n = n := by
    intro n
    induction n with
    | zero => intro _; rfl
    | succ n ih =>
      intro h
      have := ih (by omega)
      have e : ∀ p : Nat → Bool, cnt p (n + 1) = cnt p n + (bif p n then 1 else 0) := fun p => by
        rw [cnt_split]; simp [cnt]
      rw [e, e, mem_compl (by omega)]
      cases mem v n <;> simp <;> omega
  exact key 256 (by omega)
theorem size_incl {a b : Vec 4} : size a + size b = size (vunion a b) + size (vinter a b) := by
  have key : ∀ n, n ≤ 256 → cnt (mem a) n + cnt (mem b) n = cnt (mem (vunion a b)) n + cnt (mem (vinter a b)) n := by
    intro n
    induction n with
    | zero => intro _; rfl
    | succ n ih =>
      intro h
      have := ih (by omega)
      have e : ∀ p : Nat → Bool, cnt p (n + 1) = cnt p n + (bif p n then 1 else 0) := fun p => by
        rw [cnt_split]; simp [cnt]
      rw [e, e, e, e, mem_union (by omega), mem_inter (by omega)]
      cases mem a n <;> cases mem b n <;> simp <;> omega
  exact key 256 (by omega)

end Go.Proofs.YtjjinpgjfabemaaDoor
