/- Plain facts on layer 7: union, intersection, complement, number of elements; the laws on them. -/
import Derived.Test.YtjjinpgjfabemaaPl07c
set_option linter.unusedVariables false
namespace Go.Proofs.Ytjjinpgjfabemaa
open Go.Lx

/-- The words of `a`, of which the first `i` are made anew. -/
def upto (f : Nat → Nat) (a : Vec 4) (i : Nat) : Vec 4 := (List.range i).foldl (fun v j => setw v j (f j)) a
theorem upto_succ (f : Nat → Nat) (a : Vec 4) (i : Nat) : upto f a (i + 1) = setw (upto f a i) i (f i) := by simp [upto, List.range_succ]
theorem wd_upto {f : Nat → Nat} {a : Vec 4} {i j : Nat} (hi : i ≤ 4) : wd (upto f a i) j = if j < i then f j else wd a j := by
  induction i with
  | zero => simp [upto]
  | succ i ih =>
    rw [upto_succ, wd_setw (by omega), ih (by omega)]
    by_cases h : i = j
    · subst h; rw [if_pos rfl, if_pos (by omega)]
    · rw [if_neg h]
      by_cases h2 : j < i
      · rw [if_pos h2, if_pos (by omega)]
      · rw [if_neg h2, if_neg (by omega)]
theorem W4_upto {f : Nat → Nat} {a : Vec 4} (h : W4 a) (hf : ∀ j, f j < 18446744073709551616) (i : Nat) : W4 (upto f a i) := by
  induction i with
  | zero => simpa [upto] using h
  | succ i ih => rw [upto_succ]; exact W4_setw ih (hf i)
theorem mem_upto {f : Nat → Nat} {a : Vec 4} {b : Nat} (hb : b < 256) : mem (upto f a 4) b = (f (b / 64)).testBit (b % 64) := by
  unfold mem; rw [wd_upto (by omega), if_pos (by omega)]
theorem wordLoop {ρ : Type} {body : Vec 4 × Int → Option (Step (Vec 4 × Int) ρ)} {f : Nat → Nat} {a : Vec 4} {r : ρ} (ha : W4 a) (hf : ∀ j, f j < 18446744073709551616)
    (h : ∀ i v, i < 4 → W4 v → wd v i = wd a i → body (v, (i : Int)) = some (.next (setw v i (f i), ((i + 1 : Nat) : Int)))) (hn : body (upto f a 4, 4) = some (.stop r)) :
    loopM body fuel (a, 0) = some r := by
  refine loopM_count (body := body) (fun i => (upto f a i, (i : Int))) 4 (fun i hi => ?_) hn fuel (lt_fuel (by omega))
  rw [upto_succ]
  refine h i _ hi (W4_upto ha hf i) ?_
  rw [wd_upto (by omega), if_neg (by omega)]
theorem chk_succ {i : Nat} (h : i < 9223372036854775807) : chk .i64 ((i : Int) + 1) = some ((i + 1 : Nat) : Int) := by rw [chk_i64 (by omega) (by omega)]; rfl

def vunion (a b : Vec 4) : Vec 4 := upto (fun j => wd a j ||| wd b j) a 4
def vinter (a b : Vec 4) : Vec 4 := upto (fun j => wd a j &&& wd b j) a 4
def vcompl (a : Vec 4) : Vec 4 := upto (fun j => 18446744073709551615 ^^^ wd a j) a 4
theorem or_lt {a b : Vec 4} (ha : W4 a) (hb : W4 b) (j : Nat) : wd a j ||| wd b j < 18446744073709551616 := Nat.or_lt_two_pow (n := 64) (wd_lt ha j) (wd_lt hb j)
theorem and_lt {a b : Vec 4} (ha : W4 a) (hb : W4 b) (j : Nat) : wd a j &&& wd b j < 18446744073709551616 := Nat.lt_of_le_of_lt Nat.and_le_left (wd_lt ha j)
theorem not_lt {a : Vec 4} (ha : W4 a) (j : Nat) : 18446744073709551615 ^^^ wd a j < 18446744073709551616 := Nat.xor_lt_two_pow (n := 64) (by omega) (wd_lt ha j)
theorem W4_union {a b : Vec 4} (ha : W4 a) (hb : W4 b) : W4 (vunion a b) := W4_upto ha (or_lt ha hb) 4
theorem W4_inter {a b : Vec 4} (ha : W4 a) (hb : W4 b) : W4 (vinter a b) := W4_upto ha (and_lt ha hb) 4
theorem W4_compl {a : Vec 4} (ha : W4 a) : W4 (vcompl a) := W4_upto ha (not_lt ha) 4
theorem mem_union {a b : Vec 4} {c : Nat} (hc : c < 256) : mem (vunion a b) c = (mem a c || mem b c) := by
  unfold vunion; rw [mem_upto hc, Nat.testBit_or]; rfl
theorem mem_inter {a b : Vec 4} {c : Nat} (hc : c < 256) : mem (vinter a b) c = (mem a c && mem b c) := by
  unfold vinter; rw [mem_upto hc, Nat.testBit_and]; rfl
theorem mem_compl {a : Vec 4} {c : Nat} (hc : c < 256) : mem (vcompl a) c = (!mem a c) := by
  unfold vcompl; rw [mem_upto hc, Nat.testBit_xor, show (18446744073709551615 : Nat) = 2 ^ 64 - 1 from rfl, Nat.testBit_two_pow_sub_one]
  have : c % 64 < 64 := Nat.mod_lt _ (by omega)
  simp [this, mem]

theorem Union_eq {a b : Vec 4} (ha : W4 a) (hb : W4 b) : M.byteset_Union a b = some (vunion a b) := by
  unfold M.byteset_Union
  refine bind_of (wordLoop (r := vunion a b) ha (or_lt ha hb) (fun i v hi hv e => ?_) ?_) rfl
  · have e1 := vget_wd hv hi
    have e2 := vget_wd hb hi
    rw [e] at e1
    have e3 := bits_or_u64 (wd_lt ha i) (wd_lt hb i)
    have e4 := vset_nat (v := v) (x := wd a i ||| wd b i) hi
    simp only [dec_t (show (i : Int) < 4 by omega), cond_true, e1, e2, e3, e4, chk_succ (show i < _ by omega), Option.bind_some]
  · rfl
theorem Intersect_eq {a b : Vec 4} (ha : W4 a) (hb : W4 b) : M.byteset_Intersect a b = some (vinter a b) := by
  unfold M.byteset_Intersect
  refine bind_of (wordLoop (r := vinter a b) ha (and_lt ha hb) (fun i v hi hv e => ?_) ?_) rfl
  · have e1 := vget_wd hv hi
    have e2 := vget_wd hb hi
    rw [e] at e1
    have e3 := bits_and_u64 (wd_lt ha i) (wd_lt hb i)
    have e4 := vset_nat (v := v) (x := wd a i &&& wd b i) hi
    simp only [dec_t (show (i : Int) < 4 by omega), cond_true, e1, e2, e3, e4, chk_succ (show i < _ by omega), Option.bind_some]
  · rfl
theorem Complement_eq {a : Vec 4} (ha : W4 a) : M.byteset_Complement a = some (vcompl a) := by
  unfold M.byteset_Complement
  refine bind_of (wordLoop (r := vcompl a) ha (not_lt ha) (fun i v hi hv e => ?_) ?_) rfl
  · have e1 := vget_wd hv hi
    rw [e] at e1
    have e3 := compl_u64 (wd_lt ha i)
    have e4 := vset_nat (v := v) (x := 18446744073709551615 ^^^ wd a i) hi
    simp only [dec_t (show (i : Int) < 4 by omega), cond_true, e1, e3, e4, chk_succ (show i < _ by omega), Option.bind_some]
  · rfl

/-! ### how many -/
theorem bits_and_i64 {a b : Nat} (ha : a < 9223372036854775808) (hb : b < 9223372036854775808) : bits .and .i64 (a : Int) (b : Int) = ((a &&& b : Nat) : Int) := by
  simp only [bits]
  have h : a &&& b < 9223372036854775808 := Nat.lt_of_le_of_lt Nat.and_le_left ha
  have e : ((BitVec.ofInt 64 (a : Int) &&& BitVec.ofInt 64 (b : Int)).toNat) = a &&& b := by
    rw [BitVec.toNat_and, BitVec.toNat_ofInt, BitVec.toNat_ofInt]
    have h1 : ((a : Int) % (2 ^ 64 : Nat)).toNat = a := by omega
    have h2 : ((b : Int) % (2 ^ 64 : Nat)).toNat = b := by omega
    rw [h1, h2]
  show IntKind.i64.wrap _ = _
  rw [show (BitVec.ofInt (IntKind.i64.bits) (a : Int) &&& BitVec.ofInt (IntKind.i64.bits) (b : Int)).toNat = a &&& b from e]
  exact wrap_i64 (by omega) (by omega)
theorem m0_8 : m0 8 = 6148914691236517205 := by decide
theorem m1_8 : m1 8 = 3689348814741910323 := by decide
theorem m2_8 : m2 8 = 1085102592571150095 := by decide
theorem and127 (x : Nat) : x &&& 127 = x % 128 := Nat.and_two_pow_sub_one_eq_mod x 7
theorem div_of {n q r m : Nat} (h : n = r + m * q) (hr : r < m) : n / m = q := by
  rw [h, Nat.add_mul_div_left _ _ (by omega), Nat.div_eq_of_lt hr, Nat.zero_add]
theorem mod_of {n q r m : Nat} (h : n = r + m * q) (hr : r < m) : n % m = r := by
  rw [h, Nat.add_mul_mod_self_left, Nat.mod_eq_of_lt hr]
theorem fold_lanes {L p0 p1 p2 p3 p4 p5 p6 p7 r1 r2 r3 r4 r5 r6 : Nat} (hL : L = p0 + 256 * r1) (q1 : r1 = p1 + 256 * r2) (q2 : r2 = p2 + 256 * r3) (q3 : r3 = p3 + 256 * r4) (q4 : r4 = p4 + 256 * r5) (q5 : r5 = p5 + 256 * r6) (q6 : r6 = p6 + 256 * p7)
    (h0 : p0 ≤ 8) (h1 : p1 ≤ 8) (h2 : p2 ≤ 8) (h3 : p3 ≤ 8) (h4 : p4 ≤ 8) (h5 : p5 ≤ 8) (h6 : p6 ≤ 8) (h7 : p7 ≤ 8) :
    ∃ A B C, L / 256 = A ∧ (L + A) / 65536 = B ∧ (L + A + B) / 4294967296 = C ∧ (L + A + B + C) % 128 = p0 + p1 + p2 + p3 + p4 + p5 + p6 + p7 ∧ L + A + B + C < 9223372036854775808 := by
  have b6 : r6 ≤ 8 * 257 := by omega
  have b5 : r5 ≤ 8 * 65793 := by omega
  have b4 : r4 ≤ 8 * 16843009 := by omega
  have b3 : r3 ≤ 8 * 4311810305 := by omega
  have b2 : r2 ≤ 8 * 1103823438081 := by omega
  have b1 : r1 ≤ 8 * 282578800148737 := by omega
  have b0 : L ≤ 8 * 72340172838076673 := by omega
  refine ⟨r1, r2 + r3, r4 + r5 + r6 + p7, div_of hL (by omega), ?_, ?_, ?_, ?_⟩
  · refine div_of (r := p0 + p1 + 256 * (p1 + p2)) ?_ (by clear hL q1 q2 q3 q4 q5 q6; omega)
    rw [hL, q1, q2]; clear hL q1 q2 q3 q4 q5 q6; omega
  · refine div_of (r := p0 + p1 + p2 + p3 + 256 * (p1 + p2 + p3 + p4) + 65536 * (p2 + p3 + p4 + p5) + 16777216 * (p3 + p4 + p5 + p6)) ?_ (by clear hL q1 q2 q3 q4 q5 q6; omega)
    clear b0 b1 b2 b3 b4 b5 b6 h0 h1 h2 h3 h4 h5 h6 h7
    subst hL; subst q1; subst q2; subst q3; subst q4; subst q5; subst q6; omega
  · have e : L + r1 + (r2 + r3) + (r4 + r5 + r6 + p7) = (p0 + p1 + p2 + p3 + p4 + p5 + p6 + p7) + 128 * (2 * (r1 + r2 + r3 + r4 + r5 + r6 + p7)) := by
      clear b0 b1 b2 b3 b4 b5 b6 h0 h1 h2 h3 h4 h5 h6 h7
      subst hL; omega
    exact mod_of e (by clear e hL q1 q2 q3 q4 q5 q6; omega)
  · clear hL q1 q2 q3 q4 q5 q6; omega
theorem OnesCount_eq {x : Nat} (hx : x < 18446744073709551616) : M.math_bits_OnesCount64 (x : Int) = some ((cnt x.testBit 64 : Nat) : Int) := by
  have hS := swar 8 x
  obtain ⟨p0, p1, p2, p3, p4, p5, p6, p7, hL, hc, h0, h1, h2, h3, h4, h5, h6, h7⟩ := sum8 x
  have e1 : shrM .u64 (x : Int) 1 = some ((x >>> 1 : Nat) : Int) := shr_u64 (t := 1) (by omega)
  have l1 : x >>> 1 < 18446744073709551616 := Nat.lt_of_le_of_lt (Nat.shiftRight_le _ _) hx
  have a1 := bits_and_u64 (b := 6148914691236517205) l1 (by omega)
  have a2 := bits_and_u64 (b := 6148914691236517205) hx (by omega)
  have b1 : (x >>> 1) &&& 6148914691236517205 ≤ 6148914691236517205 := Nat.and_le_right
  have b2 : x &&& 6148914691236517205 ≤ 6148914691236517205 := Nat.and_le_right
  have eA : IntKind.u64.wrap ((((x >>> 1) &&& 6148914691236517205 : Nat) : Int) + ((x &&& 6148914691236517205 : Nat) : Int)) = ((sA 8 x : Nat) : Int) := by
    rw [wrap_u64 (by omega) (by omega)]; unfold sA; rw [m0_8]; omega
  have lA : sA 8 x < 18446744073709551616 := by unfold sA; rw [m0_8]; omega
  have e2 : shrM .u64 ((sA 8 x : Nat) : Int) 2 = some ((sA 8 x >>> 2 : Nat) : Int) := shr_u64 (t := 2) (by omega)
  have l2 : sA 8 x >>> 2 < 18446744073709551616 := Nat.lt_of_le_of_lt (Nat.shiftRight_le _ _) lA
  have a3 := bits_and_u64 (b := 3689348814741910323) l2 (by omega)
  have a4 := bits_and_u64 (b := 3689348814741910323) lA (by omega)
  have b3 : (sA 8 x >>> 2) &&& 3689348814741910323 ≤ 3689348814741910323 := Nat.and_le_right
  have b4 : sA 8 x &&& 3689348814741910323 ≤ 3689348814741910323 := Nat.and_le_right
  have eB : IntKind.u64.wrap ((((sA 8 x >>> 2) &&& 3689348814741910323 : Nat) : Int) + ((sA 8 x &&& 3689348814741910323 : Nat) : Int)) = ((sB 8 (sA 8 x) : Nat) : Int) := by
    rw [wrap_u64 (by omega) (by omega)]; unfold sB; rw [m1_8]; omega
  have lB : sB 8 (sA 8 x) ≤ 7378697629483820646 := by unfold sB; rw [m1_8]; omega
  have e3 : shrM .u64 ((sB 8 (sA 8 x) : Nat) : Int) 4 = some ((sB 8 (sA 8 x) >>> 4 : Nat) : Int) := shr_u64 (t := 4) (by omega)
  have l3 : sB 8 (sA 8 x) >>> 4 ≤ sB 8 (sA 8 x) := Nat.shiftRight_le _ _
  have eC : IntKind.u64.wrap (((sB 8 (sA 8 x) >>> 4 : Nat) : Int) + ((sB 8 (sA 8 x) : Nat) : Int)) = ((sB 8 (sA 8 x) >>> 4 + sB 8 (sA 8 x) : Nat) : Int) := by
    rw [wrap_u64 (by omega) (by omega)]; omega
  have a5 := bits_and_u64 (a := sB 8 (sA 8 x) >>> 4 + sB 8 (sA 8 x)) (b := 1085102592571150095) (by omega) (by omega)
  have eC' : (sB 8 (sA 8 x) >>> 4 + sB 8 (sA 8 x)) &&& 1085102592571150095 = lanes 8 x := by rw [← hS]; unfold sC; rw [m2_8]
  rw [eC'] at a5
  obtain ⟨A, B, C, wA, wB, wC, wD, wE⟩ := fold_lanes hL rfl rfl rfl rfl rfl rfl h0 h1 h2 h3 h4 h5 h6 h7
  rw [← hc] at wD
  generalize lanes 8 x = L at *
  clear hL hc h0 h1 h2 h3 h4 h5 h6 h7
  have e5 : shrM .u64 ((L : Nat) : Int) 8 = some ((A : Nat) : Int) := by rw [← wA]; exact (shr_u64 (a := L) (t := 8) (by omega)).trans (by rw [Nat.shiftRight_eq_div_pow])
  have f5 : IntKind.u64.wrap (((L : Nat) : Int) + ((A : Nat) : Int)) = ((L + A : Nat) : Int) := by
    rw [wrap_u64 (by omega) (by omega)]; omega
  have e6 : shrM .u64 ((L + A : Nat) : Int) 16 = some ((B : Nat) : Int) := by rw [← wB]; exact (shr_u64 (a := L + A) (t := 16) (by omega)).trans (by rw [Nat.shiftRight_eq_div_pow])
  have f6 : IntKind.u64.wrap (((L + A : Nat) : Int) + ((B : Nat) : Int)) = ((L + A + B : Nat) : Int) := by
    rw [wrap_u64 (by omega) (by omega)]; omega
  have e7 : shrM .u64 ((L + A + B : Nat) : Int) 32 = some ((C : Nat) : Int) := by rw [← wC]; exact (shr_u64 (a := L + A + B) (t := 32) (by omega)).trans (by rw [Nat.shiftRight_eq_div_pow])
  have f7 : IntKind.i64.wrap (IntKind.u64.wrap (((L + A + B : Nat) : Int) + ((C : Nat) : Int))) = ((L + A + B + C : Nat) : Int) := by
    rw [wrap_u64 (by omega) (by omega), wrap_i64 (by omega) (by omega)]; omega
  have a8 := bits_and_i64 (a := L + A + B + C) (b := 127) wE (by omega)
  have fin : (L + A + B + C) &&& 127 = cnt x.testBit 64 := by rw [and127, wD]
  have n1 : (6148914691236517205 : Int) = ((6148914691236517205 : Nat) : Int) := by omega
  have n2 : (3689348814741910323 : Int) = ((3689348814741910323 : Nat) : Int) := by omega
  have n3 : (1085102592571150095 : Int) = ((1085102592571150095 : Nat) : Int) := by omega
  have n4 : (127 : Int) = ((127 : Nat) : Int) := by omega
  unfold M.math_bits_OnesCount64
  rw [← n1] at a1 a2
  rw [← n2] at a3 a4
  rw [← n3] at a5
  rw [← n4] at a8
  refine bind_of e1 ?_
  rw [a1, a2, eA]
  refine bind_of e2 ?_
  rw [a3, a4]
  refine bind_of rfl ?_
  rw [eB]
  refine bind_of e3 ?_
  rw [eC, a5]
  refine bind_of rfl ?_
  refine bind_of e5 ?_
  rw [f5]
  refine bind_of e6 ?_
  rw [f6]
  refine bind_of e7 ?_
  rw [f7, a8, fin]
  rfl

def size (v : Vec 4) : Nat := cnt (mem v) 256
theorem size_words (v : Vec 4) : size v = cnt (wd v 0).testBit 64 + cnt (wd v 1).testBit 64 + cnt (wd v 2).testBit 64 + cnt (wd v 3).testBit 64 := by
  unfold size
  rw [show (256 : Nat) = 64 + (64 + (64 + 64)) from rfl, cnt_split, cnt_split, cnt_split]
  have key : ∀ k, cnt (fun i => mem v (64 * k + i)) 64 = cnt (wd v k).testBit 64 := by
    intro k
    unfold cnt
    apply List.countP_congr
    intro i hi
    have : i < 64 := by simpa using hi
    unfold mem
    rw [show (64 * k + i) / 64 = k by omega, show (64 * k + i) % 64 = i by omega]
  have k2 := key 2; have k3 := key 3
  have k0 : cnt (mem v) 64 = cnt (wd v 0).testBit 64 := by have := key 0; simpa using this
  have k1 : cnt (fun i => mem v (64 + i)) 64 = cnt (wd v 1).testBit 64 := by have := key 1; simpa using this
  have k2' : cnt (fun i => mem v (64 + (64 + i))) 64 = cnt (wd v 2).testBit 64 := by rw [← k2]; congr 1; funext i; congr 1; omega
  have k3' : cnt (fun i => mem v (64 + (64 + (64 + i)))) 64 = cnt (wd v 3).testBit 64 := by rw [← k3]; congr 1; funext i; congr 1; omega
  rw [k0, k1, k2', k3']
  omega
theorem Len_eq {v : Vec 4} (hv : W4 v) : M.byteset_Len v = some ((size v : Nat) : Int) := by
  unfold M.byteset_Len
  let f : Nat → Nat := fun i => cnt (wd v i).testBit 64
  let s : Nat → Nat := fun i => ((List.range i).map f).sum
  have hs : ∀ i, s (i + 1) = s i + f i := fun i => by simp [s, List.range_succ]
  have hb : ∀ i, s i ≤ 64 * i := by
    intro i
    induction i with
    | zero => simp [s]
    | succ i ih => have := cnt_le (wd v i).testBit 64; rw [hs]; simp only [f]; omega
  have hsz : s 4 = size v := by rw [size_words]; simp [s, f, List.range_succ]; omega
  refine bind_of (loopM_count (fun i => (((s i : Nat) : Int), (i : Int))) 4 (r := ((size v : Nat) : Int)) (fun i hi => ?_) ?_ fuel (lt_fuel (by omega))) rfl
  · have e1 := vget_wd hv hi
    have e2 := OnesCount_eq (wd_lt hv i)
    have := hb i
    have := cnt_le (wd v i).testBit 64
    have e3 : chk .i64 (((s i : Nat) : Int) + ((cnt (wd v i).testBit 64 : Nat) : Int)) = some ((s (i + 1) : Nat) : Int) := by
      rw [hs, chk_i64 (by omega) (by omega)]; rfl
    simp only [dec_t (show (i : Int) < 4 by omega), cond_true, e1, e2, e3, chk_succ (show i < _ by omega), Option.bind_some]
  · rw [← hsz]; rfl

/-! ### the reference -/
theorem filterLoop {ρ : Type} {body : Vec 4 × Int → Option (Step (Vec 4 × Int) ρ)} {p : Nat → Bool} {n : Nat} {r : ρ} (hn4 : n ≤ 4611686018427387903)
    (h : ∀ i v, i < n → W4 v → body (v, (i : Int)) = some (.next (bif p i then with1 v i else v, ((i + 1 : Nat) : Int)))) (hn : body (ofL ((List.range n).filter p), (n : Int)) = some (.stop r)) :
    loopM body fuel (Vec.zero 4, 0) = some r := by
  refine loopM_count (body := body) (fun i => (ofL ((List.range i).filter p), (i : Int))) n (fun i hi => ?_) hn fuel (lt_fuel hn4)
  rw [h i _ hi (W4_ofL _)]
  congr 3
  rw [List.range_succ, List.filter_append]
  cases hp : p i <;> simp [ofL, hp]
theorem mem_filter {p : Nat → Bool} {b : Nat} (hb : b < 256) : mem (ofL ((List.range 256).filter p)) b = p b := by
  rw [mem_ofL (fun x hx => by simp at hx; exact hx.1), Bool.eq_iff_iff]
  simp [hb]
theorem refUnion_eq {a b : Vec 4} (ha : W4 a) (hb : W4 b) : M.ref07_Union a b = some (vunion a b) := by
  have hr : ofL ((List.range 256).filter fun c => mem a c || mem b c) = vunion a b := set_ext (W4_ofL _) (W4_union ha hb) fun c hc => by rw [mem_filter hc, mem_union hc]
  unfold M.ref07_Union
  refine bind_of (filterLoop (p := fun c => mem a c || mem b c) (n := 256) (r := vunion a b) (by omega) (fun i v hi hv => ?_) ?_) rfl
  · have e1 := has_eq' ha hi
    have e2 := has_eq' hb hi
    have e3 := with_eq hv hi
    simp only [dec_t (show (i : Int) < 256 by omega), cond_true, wrap_u8 (show (0 : Int) ≤ (i : Int) by omega) (by omega), e1, e2, e3, Option.bind_some, chk_succ (show i < _ by omega)]
    cases mem a i <;> cases mem b i <;> simp only [cond_true, cond_false, Option.bind_some, Bool.or_false, Bool.or_true]
  · rw [hr]; rfl
theorem refInter_eq {a b : Vec 4} (ha : W4 a) (hb : W4 b) : M.ref07_Intersect a b = some (vinter a b) := by
  have hr : ofL ((List.range 256).filter fun c => mem a c && mem b c) = vinter a b := set_ext (W4_ofL _) (W4_inter ha hb) fun c hc => by rw [mem_filter hc, mem_inter hc]
  unfold M.ref07_Intersect
  refine bind_of (filterLoop (p := fun c => mem a c && mem b c) (n := 256) (r := vinter a b) (by omega) (fun i v hi hv => ?_) ?_) rfl
  · have e1 := has_eq' ha hi
    have e2 := has_eq' hb hi
    have e3 := with_eq hv hi
    simp only [dec_t (show (i : Int) < 256 by omega), cond_true, wrap_u8 (show (0 : Int) ≤ (i : Int) by omega) (by omega), e1, e2, e3, Option.bind_some, chk_succ (show i < _ by omega)]
    cases mem a i <;> cases mem b i <;> simp only [cond_true, cond_false, Option.bind_some, Bool.and_false, Bool.and_true]
  · rw [hr]; rfl
theorem refCompl_eq {a : Vec 4} (ha : W4 a) : M.ref07_Complement a = some (vcompl a) := by
  have hr : ofL ((List.range 256).filter fun c => !mem a c) = vcompl a := set_ext (W4_ofL _) (W4_compl ha) fun c hc => by rw [mem_filter hc, mem_compl hc]
  unfold M.ref07_Complement
  refine bind_of (filterLoop (p := fun c => !mem a c) (n := 256) (r := vcompl a) (by omega) (fun i v hi hv => ?_) ?_) rfl
  · have e1 := has_eq' ha hi
    have e3 := with_eq hv hi
    simp only [dec_t (show (i : Int) < 256 by omega), cond_true, wrap_u8 (show (0 : Int) ≤ (i : Int) by omega) (by omega), e1, e3, Option.bind_some, chk_succ (show i < _ by omega)]
    cases mem a i <;> simp only [cond_true, cond_false, Option.bind_some, Bool.not_false, Bool.not_true]
  · rw [hr]; rfl
theorem refList_eq {a : Vec 4} (ha : W4 a) : M.ref07_List a = some (((List.range 256).filter (mem a)).map fun (i : Nat) => (i : Int)) := by
  unfold M.ref07_List
  refine bind_of (loopM_count (fun i => (((List.range i).filter (mem a)).map (fun (i : Nat) => (i : Int)), (i : Int))) 256 (r := ((List.range 256).filter (mem a)).map fun (i : Nat) => (i : Int)) (fun i hi => ?_) ?_ fuel (lt_fuel (by omega))) rfl
  · have e1 := has_eq' ha hi
    have hl : (((List.range i).filter (mem a)).map (fun (i : Nat) => (i : Int))).length ≤ i := by
      rw [List.length_map]; exact Nat.le_trans (List.length_filter_le _ _) (by simp)
    have e2 : appM 1 (((List.range i).filter (mem a)).map (fun (i : Nat) => (i : Int))) [(i : Int)] = some (((List.range i).filter (mem a)).map (fun (i : Nat) => (i : Int)) ++ [(i : Int)]) := appM_ok (by simp only [List.length_singleton]; omega)
    simp only [dec_t (show (i : Int) < 256 by omega), cond_true, wrap_u8 (show (0 : Int) ≤ (i : Int) by omega) (by omega), e1, e2, Option.bind_some, chk_succ (show i < _ by omega), List.range_succ, List.filter_append, List.map_append]
    cases hm : mem a i <;> simp [hm]
  · rfl
theorem refLen_eq {a : Vec 4} (ha : W4 a) : M.ref07_Len a = some ((size a : Nat) : Int) := by
  unfold M.ref07_Len
  rw [refList_eq ha, Option.bind_some]
  congr 2
  rw [List.length_map, size, cnt, List.countP_eq_length_filter]

theorem size_le (v : Vec 4) : size v ≤ 256 := cnt_le _ _
theorem size_compl {v : Vec 4} : size (vcompl v) + size v = 256 := by
  have key : ∀ n, n ≤ 256 → cnt (mem (vcompl v)) n + cnt (mem v) n = n := by
    intro n
    induction n with
    | zero => intro _; rfl
    | succ n ih =>
      intro h
      have := ih (by omega)
      have e : ∀ p : Nat → Bool, cnt p (n + 1) = cnt p n + (bif p n then 1 else 0) := fun p => by
        rw [cnt_split]; simp [cnt]
      rw [e, e, mem_compl (by omega)]
      cases mem v n <;> simp <;> omega
  exact key 256 (by omega)
theorem size_incl {a b : Vec 4} : size a + size b = size (vunion a b) + size (vinter a b) := by
  have key : ∀ n, n ≤ 256 → cnt (mem a) n + cnt (mem b) n = cnt (mem (vunion a b)) n + cnt (mem (vinter a b)) n := by
    intro n
    induction n with
    | zero => intro _; rfl
    | succ n ih =>
      intro h
      have := ih (by omega)
      have e : ∀ p : Nat → Bool, cnt p (n + 1) = cnt p n + (bif p n then 1 else 0) := fun p => by
        rw [cnt_split]; simp [cnt]
      rw [e, e, e, e, mem_union (by omega), mem_inter (by omega)]
      cases mem a n <;> cases mem b n <;> simp <;> omega
  exact key 256 (by omega)

theorem law_operations (x0 : Vec 4) (ok0 : ∀ x ∈ x0.1, IOk .u64 x) (x1 : Vec 4) (ok1 : ∀ x ∈ x1.1, IOk .u64 x) : M.law07_BytesetOperations x0 x1 = some true := by
  have h0 := w4_of ok0
  have h1 := w4_of ok1
  unfold M.law07_BytesetOperations
  simp only [awake_true, cond_true, Union_eq h0 h1, refUnion_eq h0 h1, Intersect_eq h0 h1, refInter_eq h0 h1, Complement_eq h0, refCompl_eq h0, Len_eq h0, refLen_eq h0, Option.bind_some, beq_self_eq_true]
theorem law_algebra (x0 : Vec 4) (ok0 : ∀ x ∈ x0.1, IOk .u64 x) (x1 : Vec 4) (ok1 : ∀ x ∈ x1.1, IOk .u64 x) (x2 : Vec 4) (ok2 : ∀ x ∈ x2.1, IOk .u64 x) : M.law07_BytesetAlgebra x0 x1 x2 = some true := by
  have h0 := w4_of ok0
  have h1 := w4_of ok1
  have h2 := w4_of ok2
  have c0 := W4_compl h0
  have c1 := W4_compl h1
  have u01 := W4_union h0 h1
  have i01 := W4_inter h0 h1
  have i02 := W4_inter h0 h2
  have u12 := W4_union h1 h2
  have e1 : vcompl (vcompl x0) = x0 := set_ext (W4_compl c0) h0 fun c hc => by rw [mem_compl hc, mem_compl hc, Bool.not_not]
  have e2 : chk .i64 (256 - ((size x0 : Nat) : Int)) = some ((size (vcompl x0) : Nat) : Int) := by
    have := size_compl (v := x0)
    rw [chk_i64 (by omega) (by omega)]; congr 1; omega
  have hall : ∀ b ∈ rangeL 0 255, b < 256 := by
    intro b hb; simp only [rangeL, List.mem_map, List.mem_range] at hb; obtain ⟨i, h1, rfl⟩ := hb; omega
  have e3 : M.byteset_Range 0 255 = some (vunion x0 (vcompl x0)) := by
    refine Eq.trans (Range_eq (lo := 0) (hi := 255) (by omega) (by omega)) (congrArg some ?_)
    refine set_ext (W4_ofL _) (W4_union h0 c0) fun c hc => ?_
    rw [mem_ofL hall, mem_union hc, mem_compl hc]
    have : (rangeL 0 255).contains c = true := by
      simp only [List.contains_iff_mem, rangeL, List.mem_map, List.mem_range]
      exact ⟨c, by omega, by omega⟩
    rw [this]; cases mem x0 c <;> rfl
  have e4 : size (vinter x0 (vcompl x0)) = 0 := by
    unfold size cnt
    rw [List.countP_eq_zero]
    intro c hc
    have : c < 256 := by simpa using hc
    rw [mem_inter this, mem_compl this]
    cases mem x0 c <;> simp
  have e5 : vcompl (vunion x0 x1) = vinter (vcompl x0) (vcompl x1) := set_ext (W4_compl u01) (W4_inter c0 c1) fun c hc => by
    rw [mem_compl hc, mem_union hc, mem_inter hc, mem_compl hc, mem_compl hc, Bool.not_or]
  have e6 : vinter x0 (vunion x1 x2) = vunion (vinter x0 x1) (vinter x0 x2) := set_ext (W4_inter h0 u12) (W4_union i01 i02) fun c hc => by
    rw [mem_inter hc, mem_union hc, mem_union hc, mem_inter hc, mem_inter hc, Bool.and_or_distrib_left]
  have l1 := size_le x0
  have l2 := size_le x1
  have l3 := size_le (vunion x0 x1)
  have l4 := size_le (vinter x0 x1)
  have s := size_incl (a := x0) (b := x1)
  have e7 : chk .i64 (((size x0 : Nat) : Int) + ((size x1 : Nat) : Int)) = some (((size x0 + size x1 : Nat)) : Int) := by rw [chk_i64 (by omega) (by omega)]; rfl
  have e8 : chk .i64 (((size (vunion x0 x1) : Nat) : Int) + ((size (vinter x0 x1) : Nat) : Int)) = some (((size x0 + size x1 : Nat)) : Int) := by rw [chk_i64 (by omega) (by omega)]; congr 1; omega
  unfold M.law07_BytesetAlgebra
  simp only [Complement_eq h0, Complement_eq c0, Option.bind_some, e1, bne_self_eq_false, cond_false, Len_eq c0, Len_eq h0, e2, Union_eq h0 c0, e3, Intersect_eq h0 c0, Len_eq (W4_inter h0 c0), e4, show (((0 : Nat) : Int) != 0) = false from rfl,
    Union_eq h0 h1, Complement_eq u01, Complement_eq h1, Intersect_eq c0 c1, Union_eq h1 h2, Intersect_eq h0 u12, Intersect_eq h0 h1, Intersect_eq h0 h2, Union_eq i01 i02, awake_true, cond_true, e5, e6, beq_self_eq_true, Len_eq h1, e7, Len_eq u01, Len_eq i01, e8]
end Go.Proofs.Ytjjinpgjfabemaa
