/- Plain facts on sets of bytes as four words. -/
import Derived.Test.YtajmekjcnbmaaaaMod
import Derived.Test.YtajmekjcnbmaaaaPlLoop
import Derived.Test.YtajmekjcnbmaaaaLxEntry
namespace Go.Proofs.Ytajmekjcnbmaaaa
open Go.Lx

/-- Four words of 64 bits. -/
def W4 (v : Vec 4) : Prop := ∀ x ∈ v.1, 0 ≤ x ∧ x < 18446744073709551616
def wd (v : Vec 4) (i : Nat) : Nat := (v.1.getD i 0).toNat
def mem (v : Vec 4) (b : Nat) : Bool := (wd v (b / 64)).testBit (b % 64)

theorem wd_lt {v : Vec 4} (h : W4 v) (i : Nat) : wd v i < 18446744073709551616 := by
  unfold wd
  by_cases hi : i < v.1.length
  · have := h v.1[i] (List.getElem_mem hi)
    simp [List.getD_eq_getElem?_getD, hi]; omega
  · simp [List.getD_eq_getElem?_getD, List.getElem?_eq_none (by omega : v.1.length ≤ i)]
theorem vget_wd {v : Vec 4} (h : W4 v) {i : Nat} (hi : i < 4) : vget v (i : Int) = some (wd v i : Int) := by
  have hl : i < v.1.length := by rw [v.2]; exact hi
  have := h v.1[i] (List.getElem_mem hl)
  unfold vget wd
  rw [if_pos (by omega)]
  simp [List.getD_eq_getElem?_getD, hl]
  omega
/-- One word replaced. -/
def setw (v : Vec 4) (i x : Nat) : Vec 4 := ⟨v.1.set i (x : Int), by simp [v.2]⟩
theorem vset_nat {v : Vec 4} {i x : Nat} (hi : i < 4) : vset v (i : Int) (x : Int) = some (setw v i x) := by
  unfold vset setw
  rw [if_pos ⟨by omega, by simpa using hi⟩]
  simp
theorem wd_setw {v : Vec 4} {i x j : Nat} (hi : i < 4) : wd (setw v i x) j = if i = j then x else wd v j := by
  unfold wd setw
  have hl : i < v.1.length := by rw [v.2]; exact hi
  simp only [List.getD_eq_getElem?_getD, List.getElem?_set]
  split
  · rename_i h; subst h; simp [hl]
  · rfl
theorem W4_setw {v : Vec 4} (h : W4 v) {i x : Nat} (hx : x < 18446744073709551616) : W4 (setw v i x) := by
  intro y hy
  rcases List.mem_or_eq_of_mem_set hy with hy | rfl
  · exact h y hy
  · omega
theorem vec_ext {v u : Vec 4} (hv : W4 v) (hu : W4 u) (h : ∀ i, i < 4 → wd v i = wd u i) : v = u := by
  apply Subtype.ext
  apply List.ext_getElem (by rw [v.2, u.2])
  intro i h1 h2
  have hi : i < 4 := by rw [v.2] at h1; exact h1
  have := h i hi
  have a := hv v.1[i] (List.getElem_mem h1)
  have b := hu u.1[i] (List.getElem_mem h2)
  simp [wd, List.getD_eq_getElem?_getD, h1, h2] at this
  omega
theorem set_ext {v u : Vec 4} (hv : W4 v) (hu : W4 u) (h : ∀ b, b < 256 → mem v b = mem u b) : v = u := by
  refine vec_ext hv hu fun i hi => Nat.eq_of_testBit_eq fun j => ?_
  by_cases hj : j < 64
  · have := h (64 * i + j) (by omega)
    unfold mem at this
    rw [show (64 * i + j) / 64 = i by omega, show (64 * i + j) % 64 = j by omega] at this
    exact this
  · have e : ∀ x, x < 18446744073709551616 → x.testBit j = false := fun x hx => Nat.testBit_lt_two_pow (Nat.lt_of_lt_of_le (by omega : x < 2 ^ 64) (Nat.pow_le_pow_right (by omega) (by omega)))
    rw [e _ (wd_lt hv i), e _ (wd_lt hu i)]
theorem W4_zero : W4 (Vec.zero 4) := by
  intro x hx
  simp [Vec.zero] at hx
  omega
theorem mem_zero (b : Nat) : mem (Vec.zero 4) b = false := by
  unfold mem wd Vec.zero
  simp only [List.getD_eq_getElem?_getD, List.getElem?_replicate]
  split <;> simp

/-- One element more. -/
def with1 (v : Vec 4) (b : Nat) : Vec 4 := setw v (b / 64) (wd v (b / 64) ||| 2 ^ (b % 64))
theorem W4_with1 {v : Vec 4} (h : W4 v) (b : Nat) : W4 (with1 v b) := by
  refine W4_setw h (Nat.or_lt_two_pow (n := 64) (wd_lt h _) ?_)
  exact Nat.pow_lt_pow_right (by omega) (Nat.mod_lt _ (by omega))
theorem mem_with1 {v : Vec 4} {b c : Nat} (hb : b < 256) : mem (with1 v b) c = (mem v c || c == b) := by
  unfold mem with1
  rw [wd_setw (by omega)]
  split
  · rename_i h
    rw [Nat.testBit_or, Nat.testBit_two_pow, h]
    congr 1
    rw [Bool.eq_iff_iff]
    simp
    omega
  · rename_i h
    have : (c == b) = false := by
      rw [beq_eq_false_iff_ne]; rintro rfl; exact h rfl
    rw [this, Bool.or_false]

theorem quo_byte {k : IntKind} {c : Nat} (hk : k.wrap ((c / 64 : Nat) : Int) = ((c / 64 : Nat) : Int)) : quoM k (c : Int) 64 = some ((c / 64 : Nat) : Int) := quo_nat (b := 64) (by omega) hk
theorem has_eq {v : Vec 4} (hv : W4 v) {c : Nat} (hc : c < 256) : M.byteset_Has v (c : Int) = some (mem v c) := by
  have e1 := quo_byte (k := .u8) (c := c) (wrap_u8 (by omega) (by omega))
  have e2 := vget_wd hv (i := c / 64) (by omega)
  have e3 : remM (c : Int) 64 = some ((c % 64 : Nat) : Int) := rem_nat (b := 64) (by omega)
  have e4 := shr_u64 (a := wd v (c / 64)) (t := c % 64) (by omega)
  have hlt : wd v (c / 64) >>> (c % 64) < 18446744073709551616 := Nat.lt_of_le_of_lt (Nat.shiftRight_le _ _) (wd_lt hv _)
  have e5 := bits_and_u64 (b := 1) hlt (by omega)
  unfold M.byteset_Has mem
  simp only [e1, e2, e3, e4, Option.bind_some]
  rw [show (1 : Int) = ((1 : Nat) : Int) from rfl, e5]
  congr 1
  rw [Nat.testBit, Nat.and_comm 1, Nat.and_one_is_mod]
  rcases Nat.mod_two_eq_zero_or_one (wd v (c / 64) >>> (c % 64)) with h | h <;> rw [h] <;> rfl
/-- The set of a list of bytes. -/
theorem has_eq' {v : Vec 4} (hv : W4 v) {c : Nat} (hc : c < 256) : M.ref07_Has v (c : Int) = some (mem v c) := has_eq hv hc
def ofL (l : List Nat) : Vec 4 := l.foldl with1 (Vec.zero 4)
theorem foldl_W4 (l : List Nat) : ∀ v, W4 v → W4 (l.foldl with1 v) := by
  induction l with
  | nil => exact fun v h => h
  | cons b l ih => exact fun v h => ih _ (W4_with1 h b)
theorem foldl_mem (l : List Nat) : ∀ v, (∀ b ∈ l, b < 256) → ∀ c, mem (l.foldl with1 v) c = (mem v c || l.contains c) := by
  induction l with
  | nil => intro v _ c; simp
  | cons b l ih =>
    intro v h c
    rw [List.foldl_cons, ih _ (fun x hx => h x (by simp [hx])), mem_with1 (h b (by simp)), List.contains_cons, Bool.or_assoc]
theorem W4_ofL (l : List Nat) : W4 (ofL l) := foldl_W4 l _ W4_zero
theorem mem_ofL {l : List Nat} (h : ∀ b ∈ l, b < 256) (c : Nat) : mem (ofL l) c = l.contains c := by
  unfold ofL; rw [foldl_mem l _ h, mem_zero, Bool.false_or]
/-- A loop that adds element after element. -/
theorem addLoop {body : Vec 4 × Int → Option (Step (Vec 4 × Int) (Vec 4))} (f : Nat → Nat) (a n : Nat) (ha : a + n ≤ 4611686018427387903)
    (h : ∀ i v, i < n → W4 v → body (v, ((a + i : Nat) : Int)) = some (.next (with1 v (f i), ((a + (i + 1) : Nat) : Int)))) (hn : ∀ v, body (v, ((a + n : Nat) : Int)) = some (.stop v)) :
    loopM body fuel (Vec.zero 4, (a : Int)) = some (ofL ((List.range n).map f)) := by
  have hS : ∀ i, i ≤ n → W4 (ofL ((List.range i).map f)) := fun i _ => W4_ofL _
  have := loopM_count (body := body) (fun i => (ofL ((List.range i).map f), ((a + i : Nat) : Int))) n (r := ofL ((List.range n).map f))
    (fun i hi => by
      have := h i (ofL ((List.range i).map f)) hi (W4_ofL _)
      rw [this]
      congr 3
      simp [ofL, List.range_succ])
    (hn _) fuel (lt_fuel (by omega))
  simpa [ofL] using this

def bytesOf (s : Str) : List Nat := s.map UInt8.toNat
theorem bytes_range (s : Str) : (List.range s.length).map (fun i => ((s[i]?).getD 0).toNat) = bytesOf s := by
  apply List.ext_getElem
  · simp [bytesOf]
  · intro i h1 h2
    have : i < s.length := by simpa using h1
    simp [bytesOf, this]
theorem u8_lt (u : UInt8) : u.toNat < 256 := u.toNat_lt
def rangeL (lo hi : Nat) : List Nat := (List.range (hi + 1 - lo)).map (lo + ·)
theorem iok_u8 {x : Int} (h : IOk .u8 x) : ∃ n : Nat, x = (n : Int) ∧ n < 256 := by
  obtain ⟨a, b⟩ := h
  have a : 0 ≤ x := a
  have b : x ≤ 255 := b
  exact ⟨x.toNat, by omega, by omega⟩
theorem w4_of {v : Vec 4} (h : ∀ x ∈ v.1, IOk .u64 x) : W4 v := fun x hx => by
  obtain ⟨a, b⟩ := h x hx
  have a : 0 ≤ x := a
  have b : x ≤ 18446744073709551615 := b
  omega

/-- The words of `a`, of which the first `i` are made anew. -/
def upto (f : Nat → Nat) (a : Vec 4) (i : Nat) : Vec 4 := (List.range i).foldl (fun v j => setw v j (f j)) a
theorem upto_succ (f : Nat → Nat) (a : Vec 4) (i : Nat) : upto f a (i + 1) = setw (upto f a i) i (f i) := by simp [upto, List.range_succ]
theorem wd_upto {f : Nat → Nat} {a : Vec 4} {i j : Nat} (hi : i ≤ 4) : wd (upto f a i) j = if j < i then f j else wd a j := by
  induction i with
  | zero => simp [upto]
  | succ i ih =>
    rw [upto_succ, wd_setw (by omega), ih (by omega)]
    by_cases h : i = j
    · subst h; rw [if_pos rfl, if_pos (by omega)]
    · rw [if_neg h]
      by_cases h2 : j < i
      · rw [if_pos h2, if_pos (by omega)]
      · rw [if_neg h2, if_neg (by omega)]
theorem W4_upto {f : Nat → Nat} {a : Vec 4} (h : W4 a) (hf : ∀ j, f j < 18446744073709551616) (i : Nat) : W4 (upto f a i) := by
  induction i with
  | zero => simpa [upto] using h
  | succ i ih => rw [upto_succ]; exact W4_setw ih (hf i)
theorem mem_upto {f : Nat → Nat} {a : Vec 4} {b : Nat} (hb : b < 256) : mem (upto f a 4) b = (f (b / 64)).testBit (b % 64) := by
  unfold mem; rw [wd_upto (by omega), if_pos (by omega)]
theorem wordLoop {ρ : Type} {body : Vec 4 × Int → Option (Step (Vec 4 × Int) ρ)} {f : Nat → Nat} {a : Vec 4} {r : ρ} (ha : W4 a) (hf : ∀ j, f j < 18446744073709551616)
    (h : ∀ i v, i < 4 → W4 v → wd v i = wd a i → body (v, (i : Int)) = some (.next (setw v i (f i), ((i + 1 : Nat) : Int)))) (hn : body (upto f a 4, 4) = some (.stop r)) :
    loopM body fuel (a, 0) = some r := by
  refine loopM_count (body := body) (fun i => (upto f a i, (i : Int))) 4 (fun i hi => ?_) hn fuel (lt_fuel (by omega))
  rw [upto_succ]
  refine h i _ hi (W4_upto ha hf i) ?_
  rw [wd_upto (by omega), if_neg (by omega)]
def vunion (a b : Vec 4) : Vec 4 := upto (fun j => wd a j ||| wd b j) a 4
def vinter (a b : Vec 4) : Vec 4 := upto (fun j => wd a j &&& wd b j) a 4
def vcompl (a : Vec 4) : Vec 4 := upto (fun j => 18446744073709551615 ^^^ wd a j) a 4
theorem or_lt {a b : Vec 4} (ha : W4 a) (hb : W4 b) (j : Nat) : wd a j ||| wd b j < 18446744073709551616 := Nat.or_lt_two_pow (n := 64) (wd_lt ha j) (wd_lt hb j)
theorem and_lt {a b : Vec 4} (ha : W4 a) (hb : W4 b) (j : Nat) : wd a j &&& wd b j < 18446744073709551616 := Nat.lt_of_le_of_lt Nat.and_le_left (wd_lt ha j)
theorem not_lt {a : Vec 4} (ha : W4 a) (j : Nat) : 18446744073709551615 ^^^ wd a j < 18446744073709551616 := Nat.xor_lt_two_pow (n := 64) (by omega) (wd_lt ha j)
theorem W4_union {a b : Vec 4} (ha : W4 a) (hb : W4 b) : W4 (vunion a b) := W4_upto ha (or_lt ha hb) 4
theorem W4_inter {a b : Vec 4} (ha : W4 a) (hb : W4 b) : W4 (vinter a b) := W4_upto ha (and_lt ha hb) 4
theorem W4_compl {a : Vec 4} (ha : W4 a) : W4 (vcompl a) := W4_upto ha (not_lt ha) 4
theorem mem_union {a b : Vec 4} {c : Nat} (hc : c < 256) : mem (vunion a b) c = (mem a c || mem b c) := by
  unfold vunion; rw [mem_upto hc, Nat.testBit_or]; rfl
theorem mem_inter {a b : Vec 4} {c : Nat} (hc : c < 256) : mem (vinter a b) c = (mem a c && mem b c) := by
  unfold vinter; rw [mem_upto hc, Nat.testBit_and]; rfl
theorem mem_compl {a : Vec 4} {c : Nat} (hc : c < 256) : mem (vcompl a) c = (!mem a c) := by
  unfold vcompl; rw [mem_upto hc, Nat.testBit_xor, show (18446744073709551615 : Nat) = 2 ^ 64 - 1 from rfl, Nat.testBit_two_pow_sub_one]
  have : c % 64 < 64 := Nat.mod_lt _ (by omega)
  simp [this, mem]

end Go.Proofs.Ytajmekjcnbmaaaa
