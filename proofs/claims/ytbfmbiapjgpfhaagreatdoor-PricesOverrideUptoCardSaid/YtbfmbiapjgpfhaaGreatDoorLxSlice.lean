/- Lx, part 5: slices: reading, the call's own rows, append, make; bytes and strings; maps from ints and strings. -/
import Derived.Test.YtbfmbiapjgpfhaaGreatDoorLxTypes
import Derived.Laws.MakeOwn
import Derived.Laws.BytesString
namespace Go.Lx
open Go.RowKit

def valOf (agg : Bool) (cs : List Value) : Value := if agg then .agg cs.toArray else cs.headD undef
section
variable {P : Program} {E : Env} {w : World} {d : Option Tmp} {ty : TypeId} {ps : String} {af : Array Edge} {gd : Option (Nat × Bool)}

theorem r_lenSl {T e : TypeId} {x : Operand} {v : Value} {a : Option Addr} {len cap : Nat} (hT : P.underlying T = some (.slice e)) (hx : ev E x = v) (hv : v = .slice a len cap) :
    Runs P E ⟨d, .call { callee := .builtin .len, args := #[x], argTypes := #[T] }, ty, ps, af, gd⟩ w (.int .i64 len) w := .inl (by
  subst hv
  simp [execOp, resolve, invoke, builtin, hx, Builtin.len_, run_underlying hT, goInt])
theorem r_idxSl {T el : TypeId} {x y : Operand} {v : Value} {b o len cap : Nat} {q : Int} {k : IntKind} {agg : Bool} {size bytes : Nat} {z : Value} (hT : P.underlying T = some (.slice el)) (he : TyI P el agg size bytes z)
    (hx : ev E x = v) (hv : v = .slice (some ⟨b, o, none⟩) len cap) (hy : ev E y = .int k q) (h0 : 0 ≤ q) (h1 : q < len) :
    Runs P E ⟨d, .indexAddr T x y, ty, ps, af, gd⟩ w (.pointer (some ⟨b, o + q.toNat * size, none⟩)) w := .inl (by
  subst hv
  simp [execOp, Instr.indexAt, hx, hy, asIntOf, run_underlying hT, h0, h1, run_sizeOf he, Addr.add_lit])
/-- A load of one element. -/
theorem r_loadEl {T : TypeId} {agg : Bool} {size bytes : Nat} {z : Value} {x : Operand} {b o : Nat} {cs : List Value} (ht : TyI P T agg size bytes z) (hx : ev E x = .pointer (some ⟨b, o, none⟩)) (hl : cs.length = size) (h1 : agg = true ∨ size = 1)
    (hc : ∀ j u, cs[j]? = some u → w.cell? ⟨b, o + j, none⟩ = some u) {v : Value} (hv : valOf agg cs = v) : Runs P E ⟨d, .load T x, ty, ps, af, gd⟩ w v w := by
  subst hv
  cases agg with
  | true => exact r_loadN ht hx hl (fun j u hj => by rw [Addr.add_lit]; exact hc j u hj)
  | false =>
    have h1 : size = 1 := by simpa using h1
    subst h1
    match cs, hl with
    | [c], _ => exact r_load (v := c) ht hx (by have := hc 0 c rfl; simpa using this)
end

section
variable {g0 g : Hp} {w0 w : World} {L : List Res} (h : Sep g0 w0 g w L)
include h
theorem Sep.rowShape {i : Nat} {v : Value} {e : TypeId} {sz n : Nat} {xs : List Value} (hi : L[i]? = some (.row v e sz n xs)) : ∃ a cap, v = .slice a n cap := by
  have := (h.at hi).out
  rcases this.2 with ⟨rfl, rfl⟩ | ⟨b, cap, cur, rfl, _⟩
  · exact ⟨_, _, rfl⟩
  · exact ⟨_, _, rfl⟩
/-- The place of an element of a row of the call's own. -/
theorem Sep.rowAt {i : Nat} {v : Value} {e : TypeId} {sz n : Nat} {xs : List Value} (hi : L[i]? = some (.row v e sz n xs)) (hn : 0 < n) :
    ∃ b cap, v = .slice (some ⟨b, 0, none⟩) n cap ∧ ∀ j u, xs[j]? = some u → w.cell? ⟨b, 0 + j, none⟩ = some u := by
  have := (h.at hi).out
  rcases this.2 with ⟨_, rfl⟩ | ⟨b, cap, cur, hv, _, hb, hnc, _, hcs, ht⟩
  · omega
  · refine ⟨b, cap, hv, fun j u hu => ?_⟩
    simp only [World.cell?, hb, Nat.zero_add]
    rw [← ht, List.getElem?_take] at hu
    split at hu
    · simpa using hu
    · cases hu
theorem Sep.rowEl {α : Type} {τ : Ty α} {l : List α} {i : Nat} {v : Value} {e : TypeId} {xs : List Value} (hi : L[i]? = some (.row v e τ.sz l.length xs)) (hr : RowRel τ g xs l) {q : Int} {x : α} (hx : idxL l q = some x) :
    ∃ b cap, v = .slice (some ⟨b, 0, none⟩) l.length cap ∧ ∃ cs, τ.rel g cs x ∧ ∀ w', (Res.row v e τ.sz l.length xs).ok w' → ∀ j u, cs[j]? = some u → w'.cell? ⟨b, 0 + q.toNat * τ.sz + j, none⟩ = some u := by
  obtain ⟨h0, h1, hl⟩ := idxL_some hx
  obtain ⟨b, cap, hv, _⟩ := h.rowAt hi (by omega)
  refine ⟨b, cap, hv, _, hr.2 _ _ hl, fun w' hw' j u hu => ?_⟩
  have hw := hw'.out
  subst hv
  rcases hw.2 with ⟨hn, _⟩ | ⟨b', cap', cur, hv, _, hb, hnc, _, hcs, ht⟩
  · cases hn
  · cases hv
    rw [List.getElem?_take] at hu
    split at hu
    · rw [List.getElem?_drop, ← ht, List.getElem?_take] at hu
      split at hu
      · simp only [World.cell?, hb, Nat.zero_add]
        simpa [Nat.add_assoc] using hu
      · cases hu
    · cases hu
/-- A store into an element of such a row. -/
theorem Sep.rowPut {α : Type} {τ : Ty α} {l l' : List α} {i : Nat} {v : Value} {e : TypeId} {xs cs : List Value} (hi : L[i]? = some (.row v e τ.sz l.length xs)) (hr : RowRel τ g xs l) {q : Int} {x : α} (hx : setL l q x = some l') (hc : τ.rel g cs x) :
    ∃ b cap, v = .slice (some ⟨b, 0, none⟩) l.length cap ∧ ∃ w' xs', (∀ P : Program, (storeCells ⟨b, 0 + q.toNat * τ.sz, none⟩ cs).run P w = .ok () w') ∧ RowRel τ g xs' l' ∧ Sep g0 w0 g w' (L.set i (.row v e τ.sz l'.length xs')) := by
  obtain ⟨h0, h1, rfl⟩ := setL_some hx
  have hq : q.toNat < l.length := by omega
  have hl := τ.len hc
  have hrow := (h.at hi).out
  rcases hrow.2 with ⟨_, hn⟩ | ⟨b, cap, cur, hv, _, hb, hnc, hcm, hcs, ht⟩
  · omega
  · subst hv
    have hfit : q.toNat * τ.sz + τ.sz ≤ l.length * τ.sz := by rw [← Nat.succ_mul]; exact Nat.mul_le_mul_right _ hq
    have hcap : l.length * τ.sz ≤ cap * τ.sz := Nat.mul_le_mul_right _ hnc
    refine ⟨b, cap, rfl, w.setRow b (cur.toList.take (0 + q.toNat * τ.sz + 0) ++ cs ++ cur.toList.drop (0 + q.toNat * τ.sz + 0 + cs.length)).toArray, xs.take (q.toNat * τ.sz) ++ cs ++ xs.drop (q.toNat * τ.sz + cs.length),
      fun P => run_storeCells_at P b (0 + q.toNat * τ.sz) e cs 0 cur w hb (by omega) (τ.one hc), hr.set hc hq, ?_⟩
    refine h.upd hi (w' := w.setRow b _) ⟨rfl, rfl, rfl, by simp [World.setRow], fun k _ hk => setRow_other w b k _ (fun e => hk (by simp [Res.blk, Value.ownBlock, e]))⟩ ⟨?_⟩ (fun b' hb' => .inl (by simpa [Res.blk] using hb'))
    simp only [Res.okB, List.length_set]
    have hx1 : xs.length = l.length * τ.sz := hr.1
    refine ⟨by have := (hr.set hc hq).1; simpa using this, .inr ⟨b, cap, _, rfl, Nat.zero_le _, setRow_heap w b cur _ e _ hb, hnc, hcm, by rw [List.size_toArray, List.length_append, List.length_append, List.length_take, List.length_drop, Array.length_toList, hcs]; omega, ?_⟩⟩
    simp only [Nat.zero_add, Nat.add_zero]
    rw [← ht]
    have hcur : l.length * τ.sz ≤ cur.toList.length := by have := Array.length_toList (xs := cur); omega
    generalize cur.toList = cu at hcur
    generalize hA : q.toNat * τ.sz = A at *
    generalize hB : l.length * τ.sz = B at *
    have e1 : (List.take A cu).length = A := by rw [List.length_take]; omega
    have e2 : List.take A (List.take B cu) = List.take A cu := by rw [List.take_take]; congr 1; omega
    rw [e2, List.append_assoc, List.append_assoc, List.take_append, List.take_of_length_le (l := List.take A cu) (by omega), e1, List.take_append, List.take_of_length_le (l := cs) (by omega)]
    congr 2
    rw [List.take_drop]
    congr 2
    omega
end
end Go.Lx
