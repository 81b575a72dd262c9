/- Lx, part 3: operations. -/
import Derived.Test.YtbfmbiapjgpfhaaGreatDoorLxMem
namespace Go.Lx
open Go.RowKit

/-- What the table says of a type. -/
structure TyI (P : Program) (T : TypeId) (agg : Bool) (size bytes : Nat) (z : Value) : Prop where
  info : ∃ i, P.info? T = some i ∧ i.zero = some z ∧ i.size = size ∧ i.bytes = bytes
  und : ∃ d, P.underlying T = some d ∧ (match d with | .struct _ => true | .array _ _ => true | _ => false) = agg
def tyB (P : Program) (T : TypeId) (agg : Bool) (size bytes : Nat) : Bool :=
  (match P.info? T with | some i => i.zero.isSome && i.size == size && i.bytes == bytes | none => false) &&
  (match P.underlying T with | some d => (match d with | .struct _ => true | .array _ _ => true | _ => false) == agg | none => false)

section
variable {P : Program} {E : Env} {w : World} {d : Option Tmp} {ty : TypeId} {ps : String} {af : Array Edge} {g : Option (Nat × Bool)}

theorem r_move {x : Operand} {v : Value} (h : ev E x = v) : Runs P E ⟨d, .move x, ty, ps, af, g⟩ w v w := .inl (by subst h; rfl)
theorem r_assign {x : Operand} {v : Value} (h : ev E x = v) : Runs P E ⟨d, .assign x, ty, ps, af, g⟩ w v w := .inl (by subst h; rfl)
theorem r_pick {c x y : Operand} {b : Bool} {v : Value} (hc : ev E c = .bool b) (h : (bif b then ev E x else ev E y) = v) : Runs P E ⟨d, .pick c x y, ty, ps, af, g⟩ w v w := .inl (by
  subst h
  cases b <;> simp [execOp, hc, asBool])

theorem run_zeroValue {T : TypeId} {agg : Bool} {size bytes : Nat} {z : Value} (ht : TyI P T agg size bytes z) : (zeroValue T).run P w = .ok z w := by
  obtain ⟨i, hi, hz, _⟩ := ht.info
  simp [zeroValue, typeInfo, hi, hz]
theorem run_sizeOf {T : TypeId} {agg : Bool} {size bytes : Nat} {z : Value} (ht : TyI P T agg size bytes z) : (sizeOf T).run P w = .ok size w := by
  obtain ⟨i, hi, _, hs, _⟩ := ht.info
  simp [sizeOf, typeInfo, hi, hs]
theorem run_isAgg {T : TypeId} {agg : Bool} {size bytes : Nat} {z : Value} (ht : TyI P T agg size bytes z) : (isAgg T).run P w = .ok agg w := by
  obtain ⟨dd, hd, ha⟩ := ht.und
  subst ha
  simp only [isAgg, Sem.run_bind, run_underlying hd, Result.andThen_ok]
  cases dd <;> rfl

theorem r_alloc {T : TypeId} {agg : Bool} {size bytes : Nat} {z : Value} (ht : TyI P T agg size bytes z) :
    Runs P E ⟨d, .alloc T, ty, ps, af, g⟩ w (.pointer (some ⟨w.heap.size, 0, none⟩)) (w.alloc (.cells z.cells T)) := .inl (by
  simp [execOp, Instr.alloc, run_zeroValue ht, newVar, newRow])
theorem r_box {T : TypeId} {x : Operand} {v : Value} (h : ev E x = v) :
    Runs P E ⟨d, .box T x, ty, ps, af, g⟩ w (.pointer (some ⟨w.heap.size, 0, none⟩)) (w.alloc (.cells v.cells T)) := .inl (by
  simp [execOp, Instr.box, h, newVar, newRow])

/-! ### loads and stores -/
theorem r_load {T : TypeId} {size bytes : Nat} {z : Value} {x : Operand} {a : Addr} {v : Value} (ht : TyI P T false size bytes z) (hx : ev E x = .pointer (some a)) (hc : w.cell? a = some v) :
    Runs P E ⟨d, .load T x, ty, ps, af, g⟩ w v w := .inl (by
  simp [execOp, Instr.loadAt, Instr.sureAddr, hx, loadVar, run_isAgg ht, load, Sem.run, hc])
theorem run_loadCellsFrom (a : Addr) (cs : List Value) : ∀ (i : Nat) (acc : Array Value), (∀ j u, cs[j]? = some u → w.cell? (a.add (i + j)) = some u) →
    (loadCellsFrom a i cs.length acc).run P w = .ok (acc ++ cs.toArray) w := by
  induction cs with
  | nil => intro i acc _; simp [loadCellsFrom]
  | cons c cs ih =>
    intro i acc h
    have h0 := h 0 c rfl
    have := ih (i + 1) (acc.push c) (fun j u hj => by have := h (j + 1) u (by simpa using hj); simpa [Nat.add_assoc, Nat.add_comm 1 j] using this)
    simp only [List.length_cons, loadCellsFrom, Sem.run_bind, load, Sem.run]
    simp only [Nat.add_zero] at h0
    rw [h0]
    simp only [Result.andThen_ok, this]
    simp
theorem r_loadN {T : TypeId} {size bytes : Nat} {z : Value} {x : Operand} {a : Addr} {cs : List Value} (ht : TyI P T true size bytes z) (hx : ev E x = .pointer (some a)) (hl : cs.length = size)
    (hc : ∀ j u, cs[j]? = some u → w.cell? (a.add j) = some u) : Runs P E ⟨d, .load T x, ty, ps, af, g⟩ w (.agg cs.toArray) w := .inl (by
  have h := run_loadCellsFrom (P := P) (w := w) a cs 0 #[] (fun j u hj => by simpa using hc j u hj)
  simp only [Array.empty_append] at h
  subst hl
  simp [execOp, Instr.loadAt, Instr.sureAddr, hx, loadVar, run_isAgg ht, run_sizeOf ht, loadCells, h])

/-- A block written at some cells. -/
def setCells (cur : Array Value) (o : Nat) (vs : List Value) : Array Value := (cur.toList.take o ++ vs ++ cur.toList.drop (o + vs.length)).toArray

theorem run_binOp_of {op : BinOp} {T T' : TypeId} {x y : Operand} {v : Value} (h1 : (eqGuard op T x y (ev E x) (ev E y)).run P w = .ok () w) (h2 : (binOp op T (ev E x) (ev E y)).run P w = .ok v w) :
    Runs P E ⟨d, .binOp op T x y T', ty, ps, af, g⟩ w v w := .inl (by
  simp [execOp, h1, h2])
theorem run_guard_int {op : BinOp} {T : TypeId} {x y : Operand} {k : IntKind} {n : Int} {v : Value} : (eqGuard op T x y (.int k n) v).run P w = .ok () w := by rw [eqGuard_at_int]; rfl
section
variable {T T' : TypeId} {x y : Operand} {k : IntKind} {a b : Int} (hx : ev E x = .int k a) (hy : ev E y = .int k b)
include hx hy
theorem r_add (hf : k.wrap (a + b) = a + b) : Runs P E ⟨d, .binOp .add T x y T', ty, ps, af, g⟩ w (.int k (a + b)) w := run_binOp_of (by rw [hx]; exact run_guard_int) (by rw [hx, hy]; simp [binOp, Op.intArith, hf])
theorem r_addW : Runs P E ⟨d, .binOp .add T x y T', ty, ps, af, g⟩ w (.int k (k.wrap (a + b))) w := run_binOp_of (by rw [hx]; exact run_guard_int) (by rw [hx, hy]; simp [binOp, Op.intArith])
theorem r_sub (hf : k.wrap (a - b) = a - b) : Runs P E ⟨d, .binOp .sub T x y T', ty, ps, af, g⟩ w (.int k (a - b)) w := run_binOp_of (by rw [hx]; exact run_guard_int) (by rw [hx, hy]; simp [binOp, Op.intArith, hf])
theorem r_subW : Runs P E ⟨d, .binOp .sub T x y T', ty, ps, af, g⟩ w (.int k (k.wrap (a - b))) w := run_binOp_of (by rw [hx]; exact run_guard_int) (by rw [hx, hy]; simp [binOp, Op.intArith])
theorem r_mul (hf : k.wrap (a * b) = a * b) : Runs P E ⟨d, .binOp .mul T x y T', ty, ps, af, g⟩ w (.int k (a * b)) w := run_binOp_of (by rw [hx]; exact run_guard_int) (by rw [hx, hy]; simp [binOp, Op.intArith, hf])
theorem r_mulW : Runs P E ⟨d, .binOp .mul T x y T', ty, ps, af, g⟩ w (.int k (k.wrap (a * b))) w := run_binOp_of (by rw [hx]; exact run_guard_int) (by rw [hx, hy]; simp [binOp, Op.intArith])
theorem r_quo (hb : b ≠ 0) (hf : k.wrap (a.tdiv b) = a.tdiv b) : Runs P E ⟨d, .binOp .quo T x y T', ty, ps, af, g⟩ w (.int k (a.tdiv b)) w := run_binOp_of (by rw [hx]; exact run_guard_int) (by rw [hx, hy]; simp [binOp, Op.intDiv, hf, hb])
theorem r_rem (hb : b ≠ 0) : Runs P E ⟨d, .binOp .rem T x y T', ty, ps, af, g⟩ w (.int k (a.tmod b)) w := run_binOp_of (by rw [hx]; exact run_guard_int) (by rw [hx, hy]; simp [binOp, Op.intDiv, hb])
theorem r_and : Runs P E ⟨d, .binOp .and T x y T', ty, ps, af, g⟩ w (.int k (bits .and k a b)) w := run_binOp_of (by rw [hx]; exact run_guard_int) (by rw [hx, hy]; simp [binOp, intBits_and])
theorem r_or : Runs P E ⟨d, .binOp .or T x y T', ty, ps, af, g⟩ w (.int k (bits .or k a b)) w := run_binOp_of (by rw [hx]; exact run_guard_int) (by rw [hx, hy]; simp [binOp, intBits_or])
theorem r_xor : Runs P E ⟨d, .binOp .xor T x y T', ty, ps, af, g⟩ w (.int k (bits .xor k a b)) w := run_binOp_of (by rw [hx]; exact run_guard_int) (by rw [hx, hy]; simp [binOp, intBits_xor])
theorem r_eql : Runs P E ⟨d, .binOp .eql T x y T', ty, ps, af, g⟩ w (.bool (a == b)) w := run_binOp_of (by rw [hx]; exact run_guard_int) (by rw [hx, hy]; simp [binOp, Op.intCmp])
theorem r_neq : Runs P E ⟨d, .binOp .neq T x y T', ty, ps, af, g⟩ w (.bool (a != b)) w := run_binOp_of (by rw [hx]; exact run_guard_int) (by rw [hx, hy]; simp [binOp, Op.intCmp])
theorem r_lss : Runs P E ⟨d, .binOp .lss T x y T', ty, ps, af, g⟩ w (.bool (decide (a < b))) w := run_binOp_of (by rw [hx]; exact run_guard_int) (by rw [hx, hy]; simp [binOp, Op.intCmp])
theorem r_leq : Runs P E ⟨d, .binOp .leq T x y T', ty, ps, af, g⟩ w (.bool (decide (a ≤ b))) w := run_binOp_of (by rw [hx]; exact run_guard_int) (by rw [hx, hy]; simp [binOp, Op.intCmp])
theorem r_gtr : Runs P E ⟨d, .binOp .gtr T x y T', ty, ps, af, g⟩ w (.bool (decide (b < a))) w := run_binOp_of (by rw [hx]; exact run_guard_int) (by rw [hx, hy]; simp [binOp, Op.intCmp])
theorem r_geq : Runs P E ⟨d, .binOp .geq T x y T', ty, ps, af, g⟩ w (.bool (decide (b ≤ a))) w := run_binOp_of (by rw [hx]; exact run_guard_int) (by rw [hx, hy]; simp [binOp, Op.intCmp])
end
/-- Shifts: the amount's kind is its own. -/
theorem r_shl {T T' : TypeId} {x y : Operand} {k k' : IntKind} {a b : Int} (hx : ev E x = .int k a) (hy : ev E y = .int k' b) (hb : 0 ≤ b) :
    Runs P E ⟨d, .binOp .shl T x y T', ty, ps, af, g⟩ w (.int k (k.wrap (a * 2 ^ min b.toNat k.bits))) w := run_binOp_of (by rw [hx]; exact run_guard_int) (by rw [hx, hy, binOp_shl, shift_shl_any k k' a b hb]; rfl)
theorem r_shr {T T' : TypeId} {x y : Operand} {k k' : IntKind} {a b : Int} (hx : ev E x = .int k a) (hy : ev E y = .int k' b) (hb : 0 ≤ b) :
    Runs P E ⟨d, .binOp .shr T x y T', ty, ps, af, g⟩ w (.int k (a / 2 ^ min b.toNat k.bits)) w := run_binOp_of (by rw [hx]; exact run_guard_int) (by rw [hx, hy, binOp_shr, shift_shr_any k k' a b hb]; rfl)
theorem r_not {T : TypeId} {x : Operand} {b : Bool} (hx : ev E x = .bool b) : Runs P E ⟨d, .unOp .not T x, ty, ps, af, g⟩ w (.bool (!b)) w := .inl (by simp [execOp, hx, Op.unary])
theorem r_conv {S T : TypeId} {x : Operand} {k j : IntKind} {a : Int} {D : TypeDesc} (hS : P.underlying S = some D) (hT : P.underlying T = some (.int k)) (hx : ev E x = .int j a) :
    Runs P E ⟨d, .convert S T x, ty, ps, af, g⟩ w (.int k (k.wrap a)) w := .inl (by simp [execOp, hx, convert, run_underlying hS, run_underlying hT, Conv.intToInt])
end

theorem ty_of {P : Program} {T : TypeId} {agg : Bool} {size bytes : Nat} {z : Value} (h1 : (P.info? T).map (fun i => (i.zero, i.size, i.bytes)) = some (some z, size, bytes))
    (h2 : (P.underlying T).map (fun d => match d with | .struct _ => true | .array _ _ => true | _ => false) = some agg) : TyI P T agg size bytes z := by
  constructor
  · cases h : P.info? T with
    | none => simp [h] at h1
    | some i => simp [h] at h1; exact ⟨i, rfl, h1.1, h1.2.1, h1.2.2⟩
  · cases h : P.underlying T with
    | none => rw [h] at h2; simp at h2
    | some d => rw [h] at h2; simp at h2; exact ⟨d, rfl, h2⟩

/-! ### plain data -/
abbrev Str := List UInt8
def encS (s : Str) : Value := .string ⟨s.toArray⟩
abbrev Vec (n : Nat) := { l : List Int // l.length = n }
def Vec.zero (n : Nat) : Vec n := ⟨List.replicate n 0, by simp⟩
def vget {n : Nat} (v : Vec n) (q : Int) : Option Int := if 0 ≤ q then v.1[q.toNat]? else none
def vset {n : Nat} (v : Vec n) (q x : Int) : Option (Vec n) := if 0 ≤ q ∧ q.toNat < n then some ⟨v.1.set q.toNat x, by simp [v.2]⟩ else none
def idxS (s : Str) (i : Int) : Option Int := if 0 ≤ i then (s[i.toNat]?).map (fun c => (c.toNat : Int)) else none
def chk (k : IntKind) (n : Int) : Option Int := if k.wrap n = n then some n else none
def idxL {α : Type} (l : List α) (i : Int) : Option α := if 0 ≤ i then l[i.toNat]? else none
def setL {α : Type} (l : List α) (i : Int) (x : α) : Option (List α) := if 0 ≤ i ∧ i.toNat < l.length then some (l.set i.toNat x) else none
def shlM (k : IntKind) (a b : Int) : Option Int := if 0 ≤ b then some (k.wrap (a * 2 ^ min b.toNat k.bits)) else none
def shrM (k : IntKind) (a b : Int) : Option Int := if 0 ≤ b then some (a / 2 ^ min b.toNat k.bits) else none
def quoM (k : IntKind) (a b : Int) : Option Int := if b ≠ 0 ∧ k.wrap (a.tdiv b) = a.tdiv b then some (a.tdiv b) else none
def remM (a b : Int) : Option Int := if b ≠ 0 then some (a.tmod b) else none

theorem chk_some {k : IntKind} {n m : Int} (h : chk k n = some m) : m = n ∧ k.wrap n = n := by
  unfold chk at h; split at h <;> simp_all
theorem vget_some {n : Nat} {v : Vec n} {q c : Int} (h : vget v q = some c) : 0 ≤ q ∧ q < n ∧ v.1[q.toNat]? = some c := by
  unfold vget at h
  split at h
  · rename_i h0
    have hl := (List.getElem?_eq_some_iff.1 h).1
    rw [v.2] at hl
    exact ⟨h0, by omega, h⟩
  · cases h
theorem vset_some {n : Nat} {v v' : Vec n} {q x : Int} (h : vset v q x = some v') : 0 ≤ q ∧ q < n ∧ v'.1 = v.1.set q.toNat x := by
  unfold vset at h
  split at h
  · rename_i h0; cases h; exact ⟨h0.1, by omega, rfl⟩
  · cases h
theorem idxS_some {s : Str} {i c : Int} (h : idxS s i = some c) : 0 ≤ i ∧ i < s.length ∧ ∃ u : UInt8, s[i.toNat]? = some u ∧ c = u.toNat := by
  unfold idxS at h
  split at h
  · rename_i h0
    cases hs : s[i.toNat]? with
    | none => rw [hs] at h; simp at h
    | some u =>
      rw [hs] at h
      simp at h
      have := (List.getElem?_eq_some_iff.1 hs).1
      exact ⟨h0, by omega, u, rfl, h.symm⟩
  · cases h
theorem idxL_some {α : Type} {l : List α} {i : Int} {c : α} (h : idxL l i = some c) : 0 ≤ i ∧ i < l.length ∧ l[i.toNat]? = some c := by
  unfold idxL at h
  split at h
  · rename_i h0
    have := (List.getElem?_eq_some_iff.1 h).1
    exact ⟨h0, by omega, h⟩
  · cases h
theorem setL_some {α : Type} {l l' : List α} {i : Int} {x : α} (h : setL l i x = some l') : 0 ≤ i ∧ i < l.length ∧ l' = l.set i.toNat x := by
  unfold setL at h
  split at h
  · rename_i h0; cases h; exact ⟨h0.1, by omega, rfl⟩
  · cases h

section
variable {P : Program} {E : Env} {w : World} {d : Option Tmp} {ty : TypeId} {ps : String} {af : Array Edge} {g : Option (Nat × Bool)}

theorem r_addM {T T' : TypeId} {x y : Operand} {k : IntKind} {a b m : Int} (hx : ev E x = .int k a) (hy : ev E y = .int k b) (h : chk k (a + b) = some m) : Runs P E ⟨d, .binOp .add T x y T', ty, ps, af, g⟩ w (.int k m) w := by
  obtain ⟨rfl, hf⟩ := chk_some h; exact r_add hx hy hf
theorem r_subM {T T' : TypeId} {x y : Operand} {k : IntKind} {a b m : Int} (hx : ev E x = .int k a) (hy : ev E y = .int k b) (h : chk k (a - b) = some m) : Runs P E ⟨d, .binOp .sub T x y T', ty, ps, af, g⟩ w (.int k m) w := by
  obtain ⟨rfl, hf⟩ := chk_some h; exact r_sub hx hy hf
theorem r_mulM {T T' : TypeId} {x y : Operand} {k : IntKind} {a b m : Int} (hx : ev E x = .int k a) (hy : ev E y = .int k b) (h : chk k (a * b) = some m) : Runs P E ⟨d, .binOp .mul T x y T', ty, ps, af, g⟩ w (.int k m) w := by
  obtain ⟨rfl, hf⟩ := chk_some h; exact r_mul hx hy hf
theorem r_quoM {T T' : TypeId} {x y : Operand} {k : IntKind} {a b m : Int} (hx : ev E x = .int k a) (hy : ev E y = .int k b) (h : quoM k a b = some m) : Runs P E ⟨d, .binOp .quo T x y T', ty, ps, af, g⟩ w (.int k m) w := by
  unfold quoM at h; split at h
  · rename_i h0; cases h; exact r_quo hx hy h0.1 h0.2
  · cases h
theorem r_remM {T T' : TypeId} {x y : Operand} {k : IntKind} {a b m : Int} (hx : ev E x = .int k a) (hy : ev E y = .int k b) (h : remM a b = some m) : Runs P E ⟨d, .binOp .rem T x y T', ty, ps, af, g⟩ w (.int k m) w := by
  unfold remM at h; split at h
  · rename_i h0; cases h; exact r_rem hx hy h0
  · cases h
theorem r_shlM {T T' : TypeId} {x y : Operand} {k k' : IntKind} {a b m : Int} (hx : ev E x = .int k a) (hy : ev E y = .int k' b) (h : shlM k a b = some m) : Runs P E ⟨d, .binOp .shl T x y T', ty, ps, af, g⟩ w (.int k m) w := by
  unfold shlM at h; split at h
  · rename_i h0; cases h; exact r_shl hx hy h0
  · cases h
theorem r_shrM {T T' : TypeId} {x y : Operand} {k k' : IntKind} {a b m : Int} (hx : ev E x = .int k a) (hy : ev E y = .int k' b) (h : shrM k a b = some m) : Runs P E ⟨d, .binOp .shr T x y T', ty, ps, af, g⟩ w (.int k m) w := by
  unfold shrM at h; split at h
  · rename_i h0; cases h; exact r_shr hx hy h0
  · cases h

/-! ### strings -/
theorem r_idxStr {T : TypeId} {x y : Operand} {s : Str} {i c : Int} {k : IntKind} (hT : P.underlying T = some .string) (hx : ev E x = encS s) (hy : ev E y = .int k i) (h : idxS s i = some c) :
    Runs P E ⟨d, .index T x y, ty, ps, af, g⟩ w (.int .u8 c) w := .inl (by
  obtain ⟨h0, h1, u, hu, rfl⟩ := idxS_some h
  have hb : (ByteArray.mk s.toArray)[i.toNat]? = some u := by
    have hl := (List.getElem?_eq_some_iff.1 hu).1
    have hs : i.toNat < (ByteArray.mk s.toArray).size := by simpa [ByteArray.size] using hl
    have h3 : (ByteArray.mk s.toArray)[i.toNat]? = some ((ByteArray.mk s.toArray)[i.toNat]'hs) := getElem?_pos (ByteArray.mk s.toArray) i.toNat hs
    have h4 : (ByteArray.mk s.toArray)[i.toNat]'hs = s[i.toNat] := rfl
    rw [h3, h4, ← (List.getElem?_eq_some_iff.1 hu).2]
  simp only [execOp, Instr.index, hx, hy, encS, asIntOf, Sem.run_bind, Sem.run_pure, Result.andThen_ok, run_underlying hT, if_pos h0, hb])
theorem r_lenStr {T : TypeId} {x : Operand} {s : Str} (hT : P.underlying T = some .string) (hx : ev E x = encS s) :
    Runs P E ⟨d, .call { callee := .builtin .len, args := #[x], argTypes := #[T] }, ty, ps, af, g⟩ w (.int .i64 s.length) w := .inl (by
  simp [execOp, resolve, invoke, builtin, hx, encS, Builtin.len_, run_underlying hT, goInt, ByteArray.size_mk'])

/-! ### an array's variable -/
theorem r_idxArr {T el : TypeId} {x y : Operand} {b o len : Nat} {q : Int} {k : IntKind} {agg : Bool} {size bytes : Nat} {z : Value} (hT : P.underlying T = some (.array len el)) (he : TyI P el agg size bytes z)
    (hx : ev E x = .pointer (some ⟨b, o, none⟩)) (hy : ev E y = .int k q) (h0 : 0 ≤ q) (h1 : q < len) :
    Runs P E ⟨d, .indexAddr T x y, ty, ps, af, g⟩ w (.pointer (some ⟨b, o + q.toNat * size, none⟩)) w := .inl (by
  simp [execOp, Instr.indexAt, hx, hy, asIntOf, run_underlying hT, Instr.sureAddr, h0, h1, run_sizeOf he, Addr.add_lit])
/-- An array's value, indexed. -/
theorem r_idxVec {T el : TypeId} {x y : Operand} {n : Nat} {v : Vec n} {j : IntKind} {q c : Int} {k : IntKind} {bytes : Nat} {z : Value} (hT : P.underlying T = some (.array n el)) (he : TyI P el false 1 bytes z)
    (hx : ev E x = .agg (v.1.map (Value.int j)).toArray) (hy : ev E y = .int k q) (h : vget v q = some c) :
    Runs P E ⟨d, .index T x y, ty, ps, af, g⟩ w (.int j c) w := .inl (by
  obtain ⟨h0, h1, hc⟩ := vget_some h
  simp only [execOp, Instr.index, hx, hy, asIntOf, Sem.run_bind, Sem.run_pure, Result.andThen_ok, run_underlying hT, h0, h1, and_self, if_true, run_sizeOf he, part, run_isAgg he, Nat.mul_one]
  simp [hc])
end

section
variable {g0 g : Hp} {w0 w : World} {L : List Res} (h : Sep g0 w0 g w L)
include h
theorem Sep.cell {i b : Nat} {T : TypeId} {cs : List Value} (hi : L[i]? = some (box b T cs)) {o : Nat} {v : Value} (hv : cs[o]? = some v) : w.cell? ⟨b, o, none⟩ = some v := by
  have := (h.at hi).out
  simp only [Res.okB] at this
  simp [World.cell?, this, hv]
theorem Sep.cells {i b : Nat} {T : TypeId} {cs : List Value} (hi : L[i]? = some (box b T cs)) : ∀ j u, cs[j]? = some u → w.cell? ((⟨b, 0, none⟩ : Addr).add j) = some u := fun j u hj => by
  rw [Addr.add_lit, Nat.zero_add]; exact h.cell hi hj
theorem Sep.cellsAt {i b : Nat} {T : TypeId} {cs vs : List Value} (hi : L[i]? = some (box b T cs)) {o : Nat} (hv : ∀ j u, vs[j]? = some u → cs[o + j]? = some u) : ∀ j u, vs[j]? = some u → w.cell? ((⟨b, o, none⟩ : Addr).add j) = some u := fun j u hj => by
  rw [Addr.add_lit]; exact h.cell hi (hv j u hj)
/-- A store of some cells into a variable of the call's own. -/
theorem Sep.put {i b : Nat} {T : TypeId} {cs vs : List Value} (hi : L[i]? = some (box b T cs)) {o : Nat} (ho : o + vs.length ≤ cs.length) (h1 : ∀ v ∈ vs, v.oneCell' = true) :
    ∃ w', (∀ P : Program, (storeCells ⟨b, o, none⟩ vs).run P w = .ok () w') ∧ Sep g0 w0 g w' (L.set i (box b T (cs.take o ++ vs ++ cs.drop (o + vs.length)))) := by
  have hb := (h.at hi).out
  simp only [Res.okB] at hb
  refine ⟨w.setRow b ((cs.toArray.toList.take (o + 0)) ++ vs ++ cs.toArray.toList.drop (o + 0 + vs.length)).toArray, fun P => run_storeCells_at P b o T vs 0 cs.toArray w hb (by simpa using ho) h1, ?_⟩
  refine h.upd hi (w' := w.setRow b _) ⟨rfl, rfl, rfl, by simp [World.setRow], fun k _ hk => setRow_other w b k _ (fun e => hk (by simp [Res.blk, e]))⟩ ⟨?_⟩ (fun b' hb' => .inl (by simpa [Res.blk] using hb'))
  simp only [Res.okB]
  rw [setRow_heap w b _ _ T (0, 0) hb]
  simp
end
section
variable {P : Program} {E : Env} {w w' : World} {d : Option Tmp} {ty : TypeId} {ps : String} {af : Array Edge} {g : Option (Nat × Bool)}
theorem r_store {T : TypeId} {x y : Operand} {a : Addr} {v : Value} {agg : Bool} {size bytes : Nat} {z : Value} (ht : TyI P T agg size bytes z) (hx : ev E x = .pointer (some a)) (hy : ev E y = v) (hl : v.cells.size = size)
    (hs : ∀ P : Program, (storeCells a v.cells.toList).run P w = .ok () w') : RunsU P E ⟨d, .store T x y, ty, ps, af, g⟩ w w' := .inl (by
  subst hl
  simp [execOp, Instr.storeAt, Instr.sureAddr, hx, hy, storeVar, run_sizeOf ht, hs P])
end

def encV {n : Nat} (k : IntKind) (v : Vec n) : Value := .agg (v.1.map (Value.int k)).toArray
section
variable {P : Program} {n : Fr} {Q : EPost} {E : Env} {w : World} {ops : Array Oper} {rest : List Oper} {d : Option Tmp} {ty : TypeId} {ps : String} {af : Array Edge} {g0 g : Hp} {w0 : World} {L : List Res}
theorem OW_alloc {d : Tmp} {T : TypeId} {agg : Bool} {size bytes : Nat} {z : Value} (ht : TyI P T agg size bytes z) (hs : Sep g0 w0 g w L) (zs : List Value) (hz : z.cells = zs.toArray) (hd : Nat.blt d n.sz = true)
    (k : ∀ b w', Sep g0 w0 g w' (box b T zs :: L) → OW P n ops Q rest (upd E d (.pointer (some ⟨b, 0, none⟩))) w') : OW P n ops Q (⟨some d, .alloc T, ty, ps, af, none⟩ :: rest) E w :=
  OW_op (r_alloc ht) hd rfl (k _ _ (by rw [hz]; exact hs.alloc _))
theorem OW_box {d : Tmp} {T : TypeId} {x : Operand} {v : Value} (hx : ev E x = v) (hs : Sep g0 w0 g w L) (zs : List Value) (hz : v.cells = zs.toArray) (hd : Nat.blt d n.sz = true)
    (k : ∀ b w', Sep g0 w0 g w' (box b T zs :: L) → OW P n ops Q rest (upd E d (.pointer (some ⟨b, 0, none⟩))) w') : OW P n ops Q (⟨some d, .box T x, ty, ps, af, none⟩ :: rest) E w :=
  OW_op (r_box hx) hd rfl (k _ _ (by rw [hz]; exact hs.alloc _))
/-- A store of one cell into a variable of the call's own. -/
theorem OW_store1 {T T' : TypeId} {x y : Operand} {b o i : Nat} {v : Value} {cs : List Value} {bytes : Nat} {z : Value} (ht : TyI P T false 1 bytes z) (hs : Sep g0 w0 g w L) (hi : L[i]? = some (box b T' cs))
    (hx : ev E x = .pointer (some ⟨b, o, none⟩)) (hy : ev E y = v) (h1 : v.oneCell' = true) (ho : o < cs.length)
    (k : ∀ w', Sep g0 w0 g w' (L.set i (box b T' (cs.set o v))) → OW P n ops Q rest E w') : OW P n ops Q (⟨none, .store T x y, ty, ps, af, none⟩ :: rest) E w := by
  have hc : v.cells = #[v] := by cases v <;> first | rfl | simp [Value.oneCell'] at h1
  obtain ⟨w', hst, hs'⟩ := hs.put hi (vs := [v]) (o := o) (by simp; omega) (by simpa using h1)
  refine OW_opU (r_store ht hx hy (by rw [hc]; rfl) (by rw [hc]; exact hst)) rfl rfl (k w' ?_)
  have e : cs.set o v = List.take o cs ++ [v] ++ List.drop (o + [v].length) cs := by
    rw [List.set_eq_take_append_cons_drop, if_pos ho]; simp
  rw [e]; exact hs'
/-- A store of a whole array or struct over a variable of the call's own. -/
theorem OW_storeAll {T T' : TypeId} {x y : Operand} {b i : Nat} {v : Value} {cs vs : List Value} {size bytes : Nat} {z : Value} (ht : TyI P T true size bytes z) (hs : Sep g0 w0 g w L) (hi : L[i]? = some (box b T' cs))
    (hx : ev E x = .pointer (some ⟨b, 0, none⟩)) (hy : ev E y = v) (hv : v = .agg vs.toArray) (h1 : ∀ v ∈ vs, v.oneCell' = true) (hl : vs.length = size) (hl' : cs.length = vs.length)
    (k : ∀ w', Sep g0 w0 g w' (L.set i (box b T' vs)) → OW P n ops Q rest E w') : OW P n ops Q (⟨none, .store T x y, ty, ps, af, none⟩ :: rest) E w := by
  subst hv
  obtain ⟨w', hst, hs'⟩ := hs.put hi (vs := vs) (o := 0) (by omega) h1
  refine OW_opU (r_store ht hx hy (by simpa [Value.cells] using hl) (by simpa [Value.cells] using hst)) rfl rfl (k w' ?_)
  have : cs.drop vs.length = [] := List.drop_eq_nil_iff.2 (by omega)
  simpa [this] using hs'
end
theorem vec_one {k : IntKind} {l : List Int} : ∀ v ∈ l.map (Value.int k), v.oneCell' = true := by
  intro v hv
  obtain ⟨n, _, rfl⟩ := List.mem_map.1 hv
  rfl
theorem vget_cell {n : Nat} {v : Vec n} {q c : Int} {k : IntKind} (h : vget v q = some c) : (v.1.map (Value.int k))[0 + q.toNat * 1]? = some (.int k c) := by
  obtain ⟨_, _, h⟩ := vget_some h
  simp [h]
theorem vset_cells {n : Nat} {v v' : Vec n} {q x : Int} {k : IntKind} (h : vset v q x = some v') : (v.1.map (Value.int k)).set (0 + q.toNat * 1) (.int k x) = v'.1.map (Value.int k) := by
  obtain ⟨_, _, h⟩ := vset_some h
  rw [h]; simp [List.map_set]
theorem vset_lt {n : Nat} {v v' : Vec n} {q x : Int} {k : IntKind} (h : vset v q x = some v') : 0 + q.toNat * 1 < (v.1.map (Value.int k)).length := by
  have h := vset_some h
  simp [v.2]; omega
def rvRun (a : Act) : ResultVar → Sem Value
  | .tmp t => pure (a.tmps.getD t undef)
  | .cell c t => do loadVar t (← asAddr (a.tmps.getD c undef))
def RV (P : Program) (n : Fr) (E : Env) (w : World) (r : ResultVar) (v : Value) : Prop := ∀ a, Fits n E a → (rvRun a r).run P w = .ok v w
section
variable {P : Program} {fn : Func} {n : Fr} {E : Env} {w : World}
theorem rv_tmp {t : Tmp} {v : Value} (hv : ev E (.tmp t) = v) : RV P n E w (.tmp t) v := fun a ha => by
  subst hv; simp only [rvRun, ha.get]; rfl
theorem rv_cell {c : Tmp} {T : TypeId} {size bytes : Nat} {z : Value} {a : Addr} {v : Value} (ht : TyI P T false size bytes z) (hv : ev E (.tmp c) = .pointer (some a)) (hc : w.cell? a = some v) : RV P n E w (.cell c T) v := fun ac ha => by
  have hp : ac.tmps.getD c undef = .pointer (some a) := (ha.get c).trans hv
  simp [rvRun, hp, asAddr, loadVar, run_isAgg ht, load, Sem.run, hc]
theorem rv_cells {c : Tmp} {T : TypeId} {size bytes : Nat} {z : Value} {a : Addr} {vs : List Value} (ht : TyI P T true size bytes z) (hv : ev E (.tmp c) = .pointer (some a)) (hl : vs.length = size)
    (hc : ∀ j u, vs[j]? = some u → w.cell? (a.add j) = some u) : RV P n E w (.cell c T) (.agg vs.toArray) := fun ac ha => by
  have hp : ac.tmps.getD c undef = .pointer (some a) := (ha.get c).trans hv
  have hr := run_loadCellsFrom (P := P) (w := w) a vs 0 #[] (fun j u hj => by simpa using hc j u hj)
  simp only [Array.empty_append] at hr
  subst hl
  simp [rvRun, hp, asAddr, loadVar, run_isAgg ht, run_sizeOf ht, loadCells, hr]
theorem results_eq {rs : Array ResultVar} (a : Act) (h : fn.results = rs) : results fn a.tmps = (do let vs ← rs.mapM (rvRun a); pure (if h : vs.size = 1 then vs[0] else .tuple vs)) := by
  subst h
  unfold results
  congr 2
theorem res1 {r : ResultVar} {v : Value} (h : fn.results = #[r]) (h1 : RV P n E w r v) : ResIs P fn n E w v := fun a ha => by
  rw [results_eq a h]; simp [h1 a ha]
theorem res2 {r s : ResultVar} {v u : Value} (h : fn.results = #[r, s]) (h1 : RV P n E w r v) (h2 : RV P n E w s u) : ResIs P fn n E w (.tuple #[v, u]) := fun a ha => by
  rw [results_eq a h]; simp [h1 a ha, h2 a ha]
theorem res3 {r s t : ResultVar} {v u x : Value} (h : fn.results = #[r, s, t]) (h1 : RV P n E w r v) (h2 : RV P n E w s u) (h3 : RV P n E w t x) : ResIs P fn n E w (.tuple #[v, u, x]) := fun a ha => by
  rw [results_eq a h]; simp [h1 a ha, h2 a ha, h3 a ha]
end

section
variable {P : Program} {n : Fr} {Q : EPost} {E : Env} {w : World} {ops : Array Oper} {rest : List Oper} {op : Op} {ty : TypeId} {ps : String} {af : Array Edge}
theorem O {d : Tmp} {v : Value} {w' : World} (hr : Runs P E ⟨some d, op, ty, ps, af, none⟩ w v w') (hd : Nat.blt d n.sz = true) (k : OW P n ops Q rest (upd E d v) w') : OW P n ops Q (⟨some d, op, ty, ps, af, none⟩ :: rest) E w := OW_op hr hd rfl k
theorem O0 {w' : World} (hr : RunsU P E ⟨none, op, ty, ps, af, none⟩ w w') (k : OW P n ops Q rest E w') : OW P n ops Q (⟨none, op, ty, ps, af, none⟩ :: rest) E w := OW_opU hr rfl rfl k
theorem S {Q : Env → Prop} {d : Tmp} {v : Value} (hr : Runs P E ⟨some d, op, ty, ps, af, none⟩ w v w) (hd : Nat.blt d n.sz = true) (k : SW P n ops w Q rest (upd E d v)) : SW P n ops w Q (⟨some d, op, ty, ps, af, none⟩ :: rest) E := SW_op hr hd rfl k
end
end Go.Lx
