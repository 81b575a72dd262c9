/- Part 2 of what the law leans on: my own layer, printed walks, plain facts. -/
import Derived.Laws.Cover1
import Derived.Laws.Small
import Derived.Laws.CopyRow
import Derived.Laws.IdiomCopy
import Derived.Laws.Runes
import Derived.Laws.Strings2
import Derived.Laws.Slices
import Derived.RangeFuncRecord
import Derived.RecoverIn
import Derived.RangeFuncLeaves
import Derived.Lib.ConvBytes
import Derived.WideShapes
import Derived.Shelf.SlIterI.Sorted
import Derived.Shelf.Spec.SlicesGrow
import Derived.JoinedCond
import Derived.Shelf.SortM.Plain
import Derived.Shelf.SortM.SortNone
import Derived.Shelf.Sort.Plain
import Derived.Shelf.Slices.In.SortNone
import Derived.Test.YtajmekjcnbmaaaaProg
import Derived.Test.YtajmekjcnbmaaaaRows
import Derived.Test.YtajmekjcnbmaaaaKNfaFromRegexesMatches1
namespace Go.Lx
open Go.RowKit
inductive Rt (α : Type) where
  | ret (a : α)
  | pan (x : Int)
def Rt.on {α β : Type} (x : Rt α) (k : α → β) (p : Int → β) : β := match x with
  | .ret a => k a
  | .pan x => p x
def pent (v : Value) : List PanicEntry := [{ v := v, recovered := false }]
def FX (P : Program) (fn : Func) (n : Fr) {α : Type} (T : TypeId) (o : Rt α) (R : α → Value → World → Prop) (R' : World → Prop) : EPost := fun e E w => match e, o with
  | .normal, .ret a => FL P fn n E (R a) E.ds w
  | .ret, .ret a => FL P fn n E (R a) E.ds w
  | .panic ch, .pan x => ch = pent (.iface T (.int .i64 x)) ∧ E.ds = [] ∧ R' w
  | _, _ => False
instance {P : Program} {fn : Func} {n : Fr} {α : Type} {T : TypeId} {o : Rt α} {R : α → Value → World → Prop} {R' : World → Prop} : PanOk (FX P fn n T o R R') := ⟨fun c E E' w hd q => by
  cases o with
  | ret a => exact q
  | pan x => exact ⟨q.1, hd ▸ q.2.1, q.2.2⟩⟩
section
variable {P : Program} {n : Fr} {Q : EPost} {E : Env} {w : World} {α : Type}
section
variable {ops : Array Oper} {rest : List Oper} {ty : TypeId} {ps : String} {af : Array Edge}
end
end
theorem ext_of_below {g : Hp} {w w' : World} (hi : Imm g w) (hb : Below w.heap.size w w') : Ext g w g w' :=
  ⟨hb, fun _ _ => rfl, fun b o h => by rw [hb.block b (hi.lt h)]; exact hi b o h⟩
theorem Sep.selT {g0 g : Hp} {w0 w : World} {A A' L : List Res} (h : Sep g0 w0 g w (A ++ L)) (is : List Nat) (hn : is.Nodup) (hl : A'.map some = is.map (A[·]?)) : Sep g0 w0 g w (A' ++ L) := by
  have hlt : ∀ i ∈ is, i < A.length := by
    intro i hi
    have : A[i]? ∈ A'.map some := by rw [hl]; exact List.mem_map_of_mem hi
    obtain ⟨r, _, hr⟩ := List.mem_map.1 this
    exact (List.getElem?_eq_some_iff.1 hr.symm).1
  refine h.sel (is ++ (List.range L.length).map (A.length + ·)) ?_ ?_
  · rw [List.nodup_append]
    refine ⟨hn, ?_, fun a ha b hb => ?_⟩
    · exact List.pairwise_map.2 (List.nodup_range.imp fun {a b} hab he => hab (by omega))
    · obtain ⟨c, _, rfl⟩ := List.mem_map.1 hb
      have := hlt a ha; omega
  · rw [List.map_append, List.map_append]
    congr 1
    · rw [hl]
      refine List.map_congr_left fun i hi => ?_
      rw [List.getElem?_append_left (hlt i hi)]
    · rw [List.map_map]
      apply List.ext_getElem?
      intro i
      by_cases hi : i < L.length
      · simp [hi]
      · simp [hi]
section
variable {P : Program} {E : Env} {w : World} {d : Option Tmp} {ty : TypeId} {ps : String} {af : Array Edge} {gd : Option (Nat × Bool)}
theorem r_nilCheck {x : Operand} {b o : Nat} (hx : ev E x = .pointer (some ⟨b, o, none⟩)) : Runs P E ⟨d, .nilCheck x, ty, ps, af, gd⟩ w (.pointer (some ⟨b, o, none⟩)) w := .inl (by simp [execOp, hx])
theorem r_makeIface {T : TypeId} {x : Operand} {v : Value} (hT : P.concrete T = true) (hx : ev E x = v) : Runs P E ⟨d, .makeInterface T x, ty, ps, af, gd⟩ w (.iface T v) w := .inl (by
  subst hx; simp [execOp, run_makeInterface w T _ hT])
def subL {α : Type} (l : List α) (i j : Int) : Option (List α) := if 0 ≤ i ∧ i ≤ j ∧ j ≤ l.length then some ((l.take j.toNat).drop i.toNat) else none
theorem subL_some {α : Type} {l m : List α} {i j : Int} (h : subL l i j = some m) : 0 ≤ i ∧ i ≤ j ∧ j ≤ l.length ∧ m = (l.take j.toNat).drop i.toNat := by
  unfold subL at h
  split at h
  · rename_i hc; simp only [Option.some.injEq] at h; exact ⟨hc.1, hc.2.1, hc.2.2, h.symm⟩
  · cases h
theorem size_toArray (a : Str) : (ByteArray.mk a.toArray).size = a.length := by simp [ByteArray.size]
theorem run_sizeOf_eq {T : TypeId} {agg : Bool} {size bytes : Nat} {z : Value} (h : TyI P T agg size bytes z) : (sizeOf T).run P w = .ok size w := run_sizeOf h
theorem slice_run {T el : TypeId} {agg : Bool} {size bytes : Nat} {z : Value} (hT : P.underlying T = some (.slice el)) (he : TyI P el agg size bytes z) {a : Option Addr} {n cap : Nat} {lo hi : Option Value} {i j : Int}
    (hlo : (lo = none ∧ i = 0) ∨ ∃ k, lo = some (.int k i)) (hhi : (hi = none ∧ j = n) ∨ ∃ k, hi = some (.int k j)) (h0 : 0 ≤ i) (h1 : i ≤ j) (h2 : j ≤ n) (hc : n ≤ cap) :
    (Instr.sliceAt T (.slice a n cap) lo hi none).run P w = .ok (sliced a i.toNat j.toNat cap size) w := by
  have hE : P.elem T = el := by simp [Program.elem, hT]
  have hT' : P.underlying T = some (.slice (P.elem T)) := by rw [hE]; exact hT
  have he' : TyI P (P.elem T) agg size bytes z := by rw [hE]; exact he
  rw [run_sliceAt_slice _ _ _ _ _ _ hT']
  rcases hlo with ⟨rfl, rfl⟩ | ⟨k, rfl⟩ <;> rcases hhi with ⟨rfl, rfl⟩ | ⟨k', rfl⟩
  · rw [run_slice_all w T a n cap hT', run_sizeOf_eq he']; simp [Result.andThen]
  · rw [run_slice_h w T a n cap hT' k' j (by omega) (by omega), run_sizeOf_eq he']; simp [Result.andThen]
  · rw [run_slice_l w T a n cap hT' k i h0 (by omega), run_sizeOf_eq he']; simp [Result.andThen]
  · rw [run_slice_lh w T a n cap hT' k k' i j h0 h1 (by omega), run_sizeOf_eq he']; simp [Result.andThen]
end
def Bnd (E : Env) (lo : Option Operand) (i dflt : Int) : Prop := (lo = none ∧ i = dflt) ∨ ∃ k y, lo = some y ∧ ev E y = .int k i
theorem Bnd.none {E : Env} {i : Int} : Bnd E none i i := .inl ⟨rfl, rfl⟩
theorem Bnd.some {E : Env} {y : Operand} {i dflt : Int} {k : IntKind} (h : ev E y = .int k i) : Bnd E (some y) i dflt := .inr ⟨k, y, rfl, h⟩
theorem Bnd.val {E : Env} {lo : Option Operand} {i dflt : Int} (h : Bnd E lo i dflt) : (lo.map (ev E) = .none ∧ i = dflt) ∨ ∃ k, lo.map (ev E) = .some (.int k i) := by
  rcases h with ⟨rfl, rfl⟩ | ⟨k, y, rfl, h⟩
  · exact .inl ⟨rfl, rfl⟩
  · exact .inr ⟨k, by rw [Option.map_some, h]⟩
theorem RowRel.sub {α : Type} {τ : Ty α} {g : Hp} {xs : List Value} {l : List α} (h : RowRel τ g xs l) (i j : Nat) (hj : j ≤ l.length) : RowRel τ g ((xs.take (j * τ.sz)).drop (i * τ.sz)) ((l.take j).drop i) := by
  refine ⟨?_, fun q x hx => ?_⟩
  · have h1 : j * τ.sz ≤ xs.length := by rw [h.1]; exact Nat.mul_le_mul_right _ hj
    rw [List.length_drop, List.length_drop, List.length_take, List.length_take, Nat.min_eq_left h1, Nat.min_eq_left hj, Nat.sub_mul]
  · rw [List.getElem?_drop, List.getElem?_take] at hx
    split at hx
    · rename_i hlt
      have := h.2 _ _ hx
      have e : ((((xs.take (j * τ.sz)).drop (i * τ.sz)).drop (q * τ.sz)).take τ.sz) = (xs.drop ((i + q) * τ.sz)).take τ.sz := by
        apply List.ext_getElem?
        intro p
        simp only [List.getElem?_take, List.getElem?_drop]
        split
        · rename_i hp
          have h2 : (i + q + 1) * τ.sz ≤ j * τ.sz := Nat.mul_le_mul_right _ hlt
          rw [Nat.succ_mul] at h2
          have h3 : (i + q) * τ.sz = i * τ.sz + q * τ.sz := Nat.add_mul _ _ _
          rw [if_pos (by omega)]
          congr 1
          omega
        · rfl
      rw [e]; exact this
    · cases hx
theorem sub_len {α : Type} {l m : List α} {i j : Int} (h : subL l i j = some m) : m.length = j.toNat - i.toNat := by
  obtain ⟨h0, h1, h2, rfl⟩ := subL_some h
  rw [List.length_drop, List.length_take]
  omega
section
variable {P : Program} {E : Env} {w : World} {d : Option Tmp} {ty : TypeId} {ps : String} {af : Array Edge} {gd : Option (Nat × Bool)}
theorem RdS.slice {α : Type} {τ : Ty α} {g : Hp} {v : Value} {l m : List α} (h : RdS τ g v l) {i j : Int} (hs : subL l i j = some m) :
    ∃ v', RdS τ g v' m ∧ ∀ {P : Program} {E : Env} {w : World} {d : Option Tmp} {ty : TypeId} {ps : String} {af : Array Edge} {gd : Option (Nat × Bool)} {T el : TypeId} {agg : Bool} {bytes : Nat} {z : Value} {x : Operand} {lo hi : Option Operand},
      P.underlying T = some (.slice el) → TyI P el agg τ.sz bytes z → ev E x = v → Bnd E lo i 0 → Bnd E hi j l.length → Runs P E ⟨d, .slice T x lo hi none, ty, ps, af, gd⟩ w v' w := by
  obtain ⟨h0, h1, h2, hm⟩ := subL_some hs
  have hml := sub_len hs
  obtain ⟨xs, hr, hsl⟩ := h
  have run : ∀ (a : Option Addr) (cap : Nat), v = .slice a l.length cap → l.length ≤ cap → ∀ {P : Program} {E : Env} {w : World} {d : Option Tmp} {ty : TypeId} {ps : String} {af : Array Edge} {gd : Option (Nat × Bool)} {T el : TypeId} {agg : Bool} {bytes : Nat} {z : Value} {x : Operand} {lo hi : Option Operand},
      P.underlying T = some (.slice el) → TyI P el agg τ.sz bytes z → ev E x = v → Bnd E lo i 0 → Bnd E hi j l.length → Runs P E ⟨d, .slice T x lo hi none, ty, ps, af, gd⟩ w (sliced a i.toNat j.toNat cap τ.sz) w := by
    intro a cap hv hc P E w d ty ps af gd T el agg bytes z x lo hi hT he hx hlo hhi
    exact ⟨by simp only [execOp, Option.map_none, hx, hv, Sem.run_bind, slice_run hT he hlo.val hhi.val h0 h1 h2 hc, Result.andThen_ok, Sem.run_pure]⟩
  rcases hsl with ⟨hn, hxs, a, cap, hv, ha⟩ | ⟨b, off, cap, arr, e, fz, hv, hnc, hg, hcells⟩
  · refine ⟨_, ⟨(xs.take (j.toNat * τ.sz)).drop (i.toNat * τ.sz), hm ▸ hr.sub _ _ (by omega), .inl ⟨by omega, by rw [hxs]; simp, (if cap = i.toNat then a else a.map (·.add (i.toNat * τ.sz))), cap - i.toNat, ?_, ?_⟩⟩, run a cap (by rw [hv, hn]) (by omega)⟩
    · simp only [sliced]; congr 1; omega
    · intro h
      have : a = none := by
        split at h
        · exact h
        · simpa using h
      have := ha this; omega
  · by_cases hij : j.toNat - i.toNat = 0
    · refine ⟨_, ⟨(xs.take (j.toNat * τ.sz)).drop (i.toNat * τ.sz), hm ▸ hr.sub _ _ (by omega), .inl ⟨by omega, ?_, (if cap = i.toNat then some ⟨b, off, none⟩ else (some (⟨b, off, none⟩ : Addr)).map (·.add (i.toNat * τ.sz))), cap - i.toNat, ?_, ?_⟩⟩, run _ cap hv hnc⟩
      · apply List.eq_nil_of_length_eq_zero
        rw [List.length_drop, List.length_take]
        have : j.toNat = i.toNat := by omega
        rw [this]; omega
      · simp only [sliced]; congr 1
      · intro h; split at h <;> simp at h
    · refine ⟨_, ⟨(xs.take (j.toNat * τ.sz)).drop (i.toNat * τ.sz), hm ▸ hr.sub _ _ (by omega), .inr ⟨b, off + i.toNat * τ.sz, cap - i.toNat, arr, e, fz, ?_, by omega, hg, fun q u hu => ?_⟩⟩, run _ cap hv hnc⟩
      · simp only [sliced]; rw [if_neg (by omega), hml]; simp [Addr.add]
      · rw [List.getElem?_drop, List.getElem?_take] at hu
        split at hu
        · have := hcells _ _ hu
          rw [Nat.add_assoc]; exact this
        · cases hu
theorem Sep.rowCut {α : Type} {τ : Ty α} {g0 g : Hp} {w0 w : World} {L : List Res} (h : Sep g0 w0 g w L) {i : Nat} {v : Value} {e : TypeId} {xs : List Value} {l m : List α} (hi : L[i]? = some (.row v e τ.sz l.length xs)) (hr : RowRel τ g xs l) {j : Int} (hs : subL l 0 j = some m) :
    ∃ v' xs', RowRel τ g xs' m ∧ Sep g0 w0 g w (L.set i (.row v' e τ.sz m.length xs')) ∧ ∀ {P : Program} {E : Env} {d : Option Tmp} {ty : TypeId} {ps : String} {af : Array Edge} {gd : Option (Nat × Bool)} {T el : TypeId} {agg : Bool} {bytes : Nat} {z : Value} {x : Operand} {lo hi : Option Operand},
      P.underlying T = some (.slice el) → TyI P el agg τ.sz bytes z → ev E x = v → Bnd E lo 0 0 → Bnd E hi j l.length → Runs P E ⟨d, .slice T x lo hi none, ty, ps, af, gd⟩ w v' w := by
  obtain ⟨_, h1, h2, hm⟩ := subL_some hs
  have hml := sub_len hs
  have hrow := (h.at hi).out
  have hxl : xs.length = l.length * τ.sz := hr.1
  have key : ∀ (a : Option Addr) (cap : Nat), v = .slice a l.length cap → l.length ≤ cap → ∀ {P : Program} {E : Env} {d : Option Tmp} {ty : TypeId} {ps : String} {af : Array Edge} {gd : Option (Nat × Bool)} {T el : TypeId} {agg : Bool} {bytes : Nat} {z : Value} {x : Operand} {lo hi : Option Operand},
      P.underlying T = some (.slice el) → TyI P el agg τ.sz bytes z → ev E x = v → Bnd E lo 0 0 → Bnd E hi j l.length → Runs P E ⟨d, .slice T x lo hi none, ty, ps, af, gd⟩ w (.slice a m.length cap) w := by
    intro a cap hv hc P E d ty ps af gd T el agg bytes z x lo hi hT he hx hlo hhi
    have e : sliced a (0 : Int).toNat j.toNat cap τ.sz = .slice a m.length cap := by
      simp only [sliced, hml]
      congr 1
      split
      · rfl
      · cases a <;> simp [Addr.add]
    exact ⟨by simp only [execOp, Option.map_none, hx, hv, Sem.run_bind, slice_run hT he hlo.val hhi.val (Int.le_refl 0) h1 h2 hc, Result.andThen_ok, Sem.run_pure, e]⟩
  have hrel : RowRel τ g (xs.take (m.length * τ.sz)) m := by
    have := hr.sub 0 j.toNat (by omega)
    rw [hml]
    subst hm
    simpa using this
  rcases hrow.2 with ⟨hv, hn⟩ | ⟨b, cap, cur, hv, hb0, hb, hnc, hcm, hcs, ht⟩
  · refine ⟨.slice none m.length 0, _, hrel, h.upd hi (w' := w) ⟨rfl, rfl, rfl, Nat.le_refl _, fun _ _ _ => rfl⟩ ⟨⟨hrel.1, .inl ⟨?_, ?_⟩⟩⟩ (fun b hb => by simp [Res.blk, Value.ownBlock] at hb), key none 0 (by rw [hv, hn]) (by omega)⟩
    · congr 1; omega
    · omega
  · refine ⟨.slice (some ⟨b, 0, none⟩) m.length cap, _, hrel, h.upd hi (w' := w) ⟨rfl, rfl, rfl, Nat.le_refl _, fun _ _ _ => rfl⟩ ⟨⟨hrel.1, .inr ⟨b, cap, cur, rfl, hb0, hb, by omega, hcm, hcs, ?_⟩⟩⟩ (fun b' hb' => .inl (by rw [hv]; exact hb')), key _ cap hv hnc⟩
    rw [← ht, List.take_take]
    congr 1
    exact (Nat.min_eq_left (Nat.mul_le_mul_right _ (by omega))).symm
end
def copyL {α : Type} (l m : List α) : List α := m.take l.length ++ l.drop m.length
theorem copyL_length {α : Type} (l m : List α) : (copyL l m).length = l.length := by unfold copyL; rw [List.length_append, List.length_take, List.length_drop]; omega
theorem RowRel.copy {α : Type} {τ : Ty α} (h1 : τ.sz = 1) {g : Hp} {xs ys : List Value} {l m : List α} (h : RowRel τ g xs l) (h' : RowRel τ g ys m) : RowRel τ g (ys.take xs.length ++ xs.drop ys.length) (copyL l m) := by
  have hx := h.1
  have hy := h'.1
  rw [h1, Nat.mul_one] at hx hy
  unfold copyL
  rw [hx, hy]
  refine RowRel.append ?_ ?_
  · have := h'.sub 0 (min l.length m.length) (by omega)
    simp only [h1, Nat.mul_one, List.drop_zero] at this
    have e1 : ys.take (min l.length m.length) = ys.take l.length := by rw [List.take_eq_take_iff]; omega
    have e2 : m.take (min l.length m.length) = m.take l.length := by rw [List.take_eq_take_iff]; omega
    rw [e1, e2] at this; exact this
  · have := h.sub m.length l.length (Nat.le_refl _)
    simp only [h1, Nat.mul_one] at this
    rw [List.take_of_length_le (by omega), List.take_of_length_le (Nat.le_refl _)] at this
    exact this
section
variable {P : Program} {n : Fr} {Q : EPost} {E : Env} {w : World} {ops : Array Oper} {rest : List Oper} {d : Option Tmp} {ty : TypeId} {ps : String} {af : Array Edge} {g0 g : Hp} {w0 : World} {L : List Res}
theorem OW_copy {α : Type} {τ : Ty α} {T el e : TypeId} {agg : Bool} {bytes : Nat} {z : Value} {x y : Operand} {v u : Value} {l m : List α} {xs ys : List Value} {i : Nat} (hT : P.underlying T = some (.slice el)) (he : TyI P el agg 1 bytes z) (h1 : τ.sz = 1)
    (hs : Sep g0 w0 g w L) (hi : L[i]? = some (.row v e τ.sz l.length xs)) (hr : RowRel τ g xs l) (hx : ev E x = v) (hy : ev E y = u) (hu : Src w u m.length ys) (hru : RowRel τ g ys m) (hd : dstOk n d = true)
    (k : ∀ w' xs', RowRel τ g xs' (copyL l m) → Sep g0 w0 g w' (L.set i (.row v e τ.sz (copyL l m).length xs')) → OW P n ops Q rest (updO E d (.int .i64 (min l.length m.length : Nat))) w') :
    OW P n ops Q (⟨d, .call { callee := .builtin .copy, args := #[x, y], argTypes := #[T, T] }, ty, ps, af, none⟩ :: rest) E w := by
  have hrow := (hs.at hi).out
  have hxl : xs.length = l.length := by have := hr.1; rw [h1, Nat.mul_one] at this; exact this
  have hyl : ys.length = m.length := by have := hru.1; rw [h1, Nat.mul_one] at this; exact this
  have hsz : (P.info? el).map (·.size) = some 1 := by obtain ⟨ii, h1, _, h3, _⟩ := he.info; rw [h1]; simp [h3]
  have exec : ∀ {r : Value} {w' : World}, (Builtin.copy_ #[T, T] ty #[v, u]).run P w = .ok r w' → Runs P E ⟨d, .call { callee := .builtin .copy, args := #[x, y], argTypes := #[T, T] }, ty, ps, af, none⟩ w r w' := by
    intro r w' h
    exact ⟨by simp [execOp, resolve, invoke, builtin, hx, hy, h, Result.andThen]⟩
  by_cases hz : min l.length m.length = 0
  · have hnew : RowRel τ g xs (copyL l m) := by
      have := hr.copy h1 hru
      have e : ys.take xs.length ++ xs.drop ys.length = xs := by
        rcases Nat.eq_zero_or_pos l.length with h0 | h0
        · have hxe : xs = [] := List.eq_nil_of_length_eq_zero (by omega)
          rw [hxe]; simp
        · have hye : ys = [] := List.eq_nil_of_length_eq_zero (by omega)
          rw [hye]; simp
      rw [e] at this; exact this
    have hrun : (Builtin.copy_ #[T, T] ty #[v, u]).run P w = .ok (goInt 0) w := by
      obtain ⟨a, cap, rfl⟩ := hs.rowShape hi
      have hn0 : Nat.min m.length l.length = 0 := by rw [← hz]; exact Nat.min_comm _ _
      rcases hu with ⟨rfl, h0, _⟩ | ⟨a', c', rfl, _⟩
      · exact run_copy_none w T T ty el a none l.length cap 0 0 hT hsz (Nat.zero_min _)
      · exact run_copy_none w T T ty el a (some a') l.length cap m.length c' hT hsz hn0
    refine OW_op (exec hrun) hd rfl ?_
    have hs' : Sep g0 w0 g w (L.set i (.row v e τ.sz (copyL l m).length xs)) := by
      have e : L.set i (.row v e τ.sz (copyL l m).length xs) = L := by
        rw [copyL_length]
        obtain ⟨hlt, he'⟩ := List.getElem?_eq_some_iff.1 hi
        rw [← he']; exact List.set_getElem_self hlt
      rw [e]; exact hs
    have := k w xs hnew hs'
    rw [hz] at this
    exact this
  · rcases hrow.2 with ⟨_, hn⟩ | ⟨b, cap, cur, hv, hb0, hb, hnc, hcm, hcs, ht⟩
    · omega
    · rcases hu with ⟨_, h0, _⟩ | ⟨a', c', hu', hsrc⟩
      · omega
      · rw [h1, Nat.mul_one] at hcs ht
        have hcl : cur.toList.length = cap := by rw [Array.length_toList]; exact hcs
        have hcsl : (ys.take l.length).length = Nat.min m.length l.length := by rw [List.length_take, hyl]; exact Nat.min_comm _ _
        have hrun := run_copy_row (P := P) w T T ty el b 0 l.length cap a' m.length c' cur e (ys.take l.length) hT hsz hb hcsl
          (fun j y hj => by rw [List.getElem?_take] at hj; split at hj
                            · exact hsrc j y hj
                            · cases hj) (by rw [List.length_take, Array.size_eq_length_toList, hcl]; omega) (fun x hx => hru.ones x (List.mem_of_mem_take hx))
        rw [← hv, ← hu'] at hrun
        refine OW_op (exec hrun) hd rfl ?_
        have hl2 : (ys.take l.length).length = min l.length m.length := by rw [List.length_take, hyl]
        have := k (w.setRow b (cur.toList.take 0 ++ ys.take l.length ++ cur.toList.drop (0 + (ys.take l.length).length)).toArray) _ (hr.copy h1 hru) ?_
        · rw [hl2] at this ⊢
          exact this
        · have hnew := hr.copy h1 hru
          refine hs.upd hi (w' := w.setRow b _) ⟨rfl, rfl, rfl, by simp [World.setRow], fun q _ hq => setRow_other w b q _ (fun e => hq (by simp [Res.blk, hv, Value.ownBlock, e]))⟩ ⟨?_⟩ (fun b' hb' => .inl (by simpa [Res.blk] using hb'))
          have hlen : (cur.toList.take 0 ++ ys.take l.length ++ cur.toList.drop (0 + (ys.take l.length).length)).length = cap := by
            simp only [List.length_append, List.length_take, List.length_drop, hcl, hyl]; omega
          refine ⟨hnew.1, .inr ⟨b, cap, _, by rw [copyL_length]; exact hv, hb0, setRow_heap w b cur _ e _ hb, by rw [copyL_length]; exact hnc, hcm, by rw [List.size_toArray, hlen, h1, Nat.mul_one], ?_⟩⟩
          rw [copyL_length, h1, Nat.mul_one]
          simp only [List.take_zero, List.nil_append, Nat.zero_add]
          rw [hxl, hyl, hl2, ← ht, List.take_append, List.length_take, hyl, List.take_of_length_le (l := ys.take l.length) (by rw [List.length_take]; omega)]
          congr 1
          rw [List.drop_take]
          by_cases hlm : m.length ≤ l.length
          · have e2 : min l.length m.length = m.length := by omega
            rw [e2]
          · have e2 : l.length - min l.length m.length = 0 := by omega
            have e3 : l.length - m.length = 0 := by omega
            rw [e2, e3]; simp
end
section
variable {P : Program} {E : Env} {w : World} {d : Option Tmp} {ty : TypeId} {ps : String} {af : Array Edge} {gd : Option (Nat × Bool)} {ts : Array TypeId} {x y z : Operand} {k k' k'' : IntKind} {a b c : Int}
end
theorem sub_at {cs pre ds post : List Value} {o j : Nat} {u : Value} (hl : pre.length = o) (e : cs = pre ++ (ds ++ post)) (hj : ds[j]? = some u) : cs[o + j]? = some u := by
  subst e; subst hl
  have hjl : j < ds.length := (List.getElem?_eq_some_iff.1 hj).1
  rw [List.getElem?_append_right (by omega), Nat.add_sub_cancel_left, List.getElem?_append_left hjl]
  exact hj
theorem Sep.lentOwn {g0 g : Hp} {w0 w : World} {L L' : List Res} (h : Sep g0 w0 g w L) {g1 g1' : Hp} {w' : World} (he : Sep g1 w g1' w' L') : ∃ g', Hle g g' ∧ Sep g0 w0 g' w' (L' ++ L) := by
  have hx : Ext g w (fun k => if k < w.heap.size then g k else g1' k) w' := by
    refine ⟨he.ext.below, fun b hb => if_pos hb, fun b o hb => ?_⟩
    split at hb
    · rename_i hlt
      have := h.imm b o hb
      rw [he.ext.below.block b hlt]; exact this
    · exact he.imm b o hb
  refine ⟨_, hx.le h.imm, h.callOwn (L' := L') ⟨hx, he.ok, fun r hr b hb => ?_, he.apart⟩⟩
  have := he.fresh r hr b hb
  refine ⟨this.1, ?_⟩
  show (if b < w.heap.size then g b else g1' b) = none
  rw [if_neg (by omega)]; exact this.2
theorem RowRel.flat {α : Type} {τ : Ty α} (hτ : ∀ g g' cs x, τ.rel g cs x → τ.rel g' cs x) {g g' : Hp} {xs : List Value} {l : List α} (h : RowRel τ g xs l) : RowRel τ g' xs l := ⟨h.1, fun i x hx => hτ _ _ _ _ (h.2 i x hx)⟩
def GBox (b : Nat) (cs : List Value) (g : Hp) : Prop := ∃ (arr : Array Value) (T : TypeId) (fz : Nat × Nat), g b = some (.cells arr T fz) ∧ ∀ (j : Nat) (u : Value), cs[j]? = some u → arr[j]? = some u
theorem GBox.mono {b : Nat} {cs : List Value} {g g' : Hp} (h : GBox b cs g) (hg : Hle g g') : GBox b cs g' := let ⟨arr, T, fz, h1, h2⟩ := h; ⟨arr, T, fz, hg _ _ h1, h2⟩
theorem GBox.cells {b : Nat} {cs : List Value} {g : Hp} {w : World} (h : GBox b cs g) (hi : Imm g w) : ∀ j u, cs[j]? = some u → w.cell? ⟨b, 0 + j, none⟩ = some u := fun j u hj => by
  obtain ⟨arr, T, fz, h1, h2⟩ := h
  have := hi b _ h1
  simp [World.cell?, this, h2 j u hj]
end Go.Lx
namespace Go.Lx
open Go.RowKit
def ValCalls (P : Program) (v : Value) (args : List Value) (w : World) (R : Value → World → Prop) : Prop :=
  (∃ f cap, v = .func (.func f) #[] (List.toArray cap) ∧ CF P f ∧ CallsV P f (args ++ cap).toArray w R) ∨
  (∃ l fn tmps assign body, v = .func (.yield l) #[] #[] ∧ (Instr.yield l args.toArray).run P w = .ok (.round l fn tmps assign body) w ∧
    RoundIn (Fz ⟨0, none⟩) 0 P l fn tmps assign body w fun e w' => ∃ v, e = .returned v ∧ R v w')
theorem ValCalls.mono {P : Program} {v : Value} {args : List Value} {w : World} {R R' : Value → World → Prop} (h : ValCalls P v args w R) (k : ∀ v w', R v w' → R' v w') : ValCalls P v args w R' := by
  rcases h with ⟨f, cap, h1, h2, h3⟩ | ⟨l, fn, tmps, assign, body, h1, h2, h3⟩
  · exact .inl ⟨f, cap, h1, h2, h3.mono fun e w' ⟨v, he, hR⟩ => ⟨v, he, k v w' hR⟩⟩
  · exact .inr ⟨l, fn, tmps, assign, body, h1, h2, h3.mono fun e w' ⟨v, he, hR⟩ => ⟨v, he, k v w' hR⟩⟩
section
variable {P : Program} {n : Fr} {Q : EPost} {E : Env} {w : World} {ops : Array Oper} {rest : List Oper} {ty : TypeId} {ps : String} {af : Array Edge}
end
def RQ (l : Nat) (R : Value → World → Prop) : EPost := fun e _ w => match e with
  | .normal => ∃ r, w.heap[l]? = some (.loop r) ∧ R (.bool true) (w.putObj l (.loop { r with state := .ready, pending := none }))
  | .ret => ∃ r, w.heap[l]? = some (.loop r) ∧ R (.bool false) (w.putObj l (.loop { r with state := .done, pending := some .ret }))
  | .exit i => ∃ r, w.heap[l]? = some (.loop r) ∧ R (.bool false) (w.putObj l (.loop { r with state := .done, pending := some (.exit i) }))
  | _ => False
instance {l : Nat} {R : Value → World → Prop} : PanOk (RQ l R) := ⟨fun _ _ _ _ _ q => q⟩
section
variable {α σ : Type}
def YieldsTo (P : Program) (g0 : Hp) (w0 : World) (yv : Value) (A : Hp → Value → α → Prop) (Y : σ → Hp → List Res → Prop) (F : α → σ → Option (Bool × σ)) : Prop :=
  ∀ {g w Ls L a x s b s'}, Sep g0 w0 g w (Ls ++ L) → Y s g Ls → A g a x → F x s = some (b, s') →
    ValCalls P yv [a] w fun v w' => ∃ g' Ls', v = .bool b ∧ Hle g g' ∧ Y s' g' Ls' ∧ Sep g0 w0 g' w' (Ls' ++ L)
def IterOk (P : Program) (f : FuncId) (cap : List Value) (A : Hp → Value → α → Prop) (It : ∀ {σ : Type}, (α → σ → Option (Bool × σ)) → σ → Option σ) (gb : Hp) : Prop :=
  CF P f ∧ ∀ {σ : Type} {yv : Value} {Y : σ → Hp → List Res → Prop} {F : α → σ → Option (Bool × σ)} {g0 w0 g w Ls L s s'}, YieldsTo P g0 w0 yv A Y F → (∀ s g g' Ls, Hle g g' → Y s g Ls → Y s g' Ls) →
    Hle gb g → Sep g0 w0 g w (Ls ++ L) → Y s g Ls → It F s = some s' → CallsV P f (([yv] ++ cap).toArray) w fun _ w' => ∃ g' Ls', Hle g g' ∧ Y s' g' Ls' ∧ Sep g0 w0 g' w' (Ls' ++ L)
theorem IterOk.mono {P : Program} {f : FuncId} {cap : List Value} {A : Hp → Value → α → Prop} {It : ∀ {σ : Type}, (α → σ → Option (Bool × σ)) → σ → Option σ} {gb gb' : Hp} (h : IterOk P f cap A It gb) (hg : Hle gb gb') : IterOk P f cap A It gb' :=
  ⟨h.1, fun hY hm hb => h.2 hY hm (hg.trans hb)⟩
end
theorem Sep.swap {g0 g : Hp} {w0 w : World} {A B L : List Res} (h : Sep g0 w0 g w (A ++ (B ++ L))) : Sep g0 w0 g w (B ++ (A ++ L)) := by
  have e : A ++ (B ++ L) = (A ++ B) ++ L := by simp
  rw [e] at h
  have := h.selT (A' := B ++ A) ((List.range B.length).map (A.length + ·) ++ List.range A.length) ?_ ?_
  · simpa using this
  · rw [List.nodup_append]
    refine ⟨List.pairwise_map.2 (List.nodup_range.imp fun {a b} hab he => hab (by omega)), List.nodup_range, fun a ha b hb => ?_⟩
    obtain ⟨c, hc, rfl⟩ := List.mem_map.1 ha
    have := List.mem_range.1 hb; omega
  · rw [List.map_append, List.map_append, List.map_map]
    congr 1
    · apply List.ext_getElem?
      intro i
      by_cases hi : i < B.length
      · simp [hi]
      · simp [hi]
    · apply List.ext_getElem?
      intro i
      by_cases hi : i < A.length
      · simp [hi, List.getElem?_append_left]
      · simp [hi]
section
variable {P : Program} {n : Fr} {Q : EPost} {E : Env} {w : World} {α σ : Type}
def BQ (g0 : Hp) (w0 : World) (Inv : Hp → List Res → Prop) (g : Hp) (L : List Res) : EPost := fun e _ w => match e with
  | .normal => ∃ g' Ls, Inv g' Ls ∧ Hle g g' ∧ Sep g0 w0 g' w (Ls ++ L)
  | _ => False
instance {g0 : Hp} {w0 : World} {Inv : Hp → List Res → Prop} {g : Hp} {L : List Res} : PanOk (BQ g0 w0 Inv g L) := ⟨fun _ _ _ _ _ q => q⟩
def AQ (P : Program) (n : Fr) (g0 : Hp) (w0 : World) (Inv : Hp → List Res → Prop) (body : Code) (g : Hp) (L : List Res) : EPost := fun e E w => match e with
  | .normal => ∃ g' Ls, Sep g0 w0 g' w (Ls ++ L) ∧ Hle g g' ∧ ∀ w' L', Sep g0 w0 g' w' (Ls ++ L') → WP P n body (BQ g0 w0 Inv g' L') E w'
  | _ => False
instance {P : Program} {n : Fr} {g0 : Hp} {w0 : World} {Inv : Hp → List Res → Prop} {body : Code} {g : Hp} {L : List Res} : PanOk (AQ P n g0 w0 Inv body g L) := ⟨fun _ _ _ _ _ q => q⟩
end
end Go.Lx
namespace Go.Lx
section
variable {α : Type}
theorem RowRel.imp {τ τ' : Ty α} (hsz : τ.sz = τ'.sz) {g : Hp} (h : ∀ cs x, τ.rel g cs x → τ'.rel g cs x) {xs : List Value} {l : List α} (hr : RowRel τ g xs l) : RowRel τ' g xs l :=
  ⟨by rw [← hsz]; exact hr.1, fun i x hx => by rw [← hsz]; exact h _ _ (hr.2 i x hx)⟩
theorem RdS.imp {τ τ' : Ty α} (hsz : τ.sz = τ'.sz) {g : Hp} (h : ∀ cs x, τ.rel g cs x → τ'.rel g cs x) {v : Value} {l : List α} (hr : RdS τ g v l) : RdS τ' g v l :=
  let ⟨xs, h1, h2⟩ := hr; ⟨xs, h1.imp hsz h, h2⟩
theorem tSl_imp {τ τ' : Ty α} (hsz : τ.sz = τ'.sz) {g : Hp} (h : ∀ cs x, τ.rel g cs x → τ'.rel g cs x) {cs : List Value} {l : List α} (hr : (tSl τ).rel g cs l) : (tSl τ').rel g cs l :=
  let ⟨v, h1, h2⟩ := hr; ⟨v, h1, h2.imp hsz h⟩
structure TyFun (α : Type) where
  sz : Nat
  F : Ty α → Ty α
  hsz : ∀ τ, (F τ).sz = sz
  mono : ∀ {τ τ' : Ty α} {g : Hp}, τ.sz = sz → τ'.sz = sz → (∀ cs x, τ.rel g cs x → τ'.rel g cs x) → ∀ cs x, (F τ).rel g cs x → (F τ').rel g cs x
def TyFun.iter (T : TyFun α) : Nat → Ty α
  | 0 => ⟨T.sz, fun _ _ _ => False, fun _ h => h.elim, fun h => h.elim, fun h => h.elim⟩
  | n + 1 => T.F (T.iter n)
theorem TyFun.iter_sz (T : TyFun α) : ∀ n, (T.iter n).sz = T.sz
  | 0 => rfl
  | n + 1 => T.hsz _
theorem TyFun.up (T : TyFun α) {g : Hp} : ∀ (n : Nat) (cs : List Value) (x : α), (T.iter n).rel g cs x → (T.iter (n + 1)).rel g cs x
  | 0, _, _, h => h.elim
  | n + 1, cs, x, h => T.mono (T.iter_sz n) (T.iter_sz (n + 1)) (TyFun.up T n) cs x h
theorem TyFun.le (T : TyFun α) {g : Hp} {n m : Nat} (hnm : n ≤ m) : ∀ (cs : List Value) (x : α), (T.iter n).rel g cs x → (T.iter m).rel g cs x := by
  induction hnm with
  | refl => exact fun _ _ h => h
  | step _ ih => exact fun cs x h => T.up _ cs x (ih cs x h)
theorem TyFun.fix_len (T : TyFun α) {g : Hp} {cs : List Value} {x : α} (h : ∃ n, (T.iter n).rel g cs x) : cs.length = T.sz := let ⟨n, h⟩ := h; ((T.iter n).len h).trans (T.iter_sz n)
theorem TyFun.fix_one (T : TyFun α) {g : Hp} {cs : List Value} {x : α} (h : ∃ n, (T.iter n).rel g cs x) : ∀ v ∈ cs, v.oneCell' = true := let ⟨n, h⟩ := h; (T.iter n).one h
theorem TyFun.fix_mono (T : TyFun α) {g g' : Hp} {cs : List Value} {x : α} (hg : Hle g g') (h : ∃ n, (T.iter n).rel g cs x) : ∃ n, (T.iter n).rel g' cs x := let ⟨n, h⟩ := h; ⟨n, (T.iter n).mono hg h⟩
theorem TyFun.supRow (T : TyFun α) {fix : Ty α} (hf : ∀ g cs x, fix.rel g cs x → ∃ n, (T.iter n).rel g cs x) (hs : fix.sz = T.sz) {g : Hp} {xs : List Value} {l : List α} (h : RowRel fix g xs l) : ∃ n, RowRel (T.iter n) g xs l := by
  have key : ∀ k, ∃ n, ∀ i, i < k → ∀ x, l[i]? = some x → (T.iter n).rel g ((xs.drop (i * T.sz)).take T.sz) x := by
    intro k
    induction k with
    | zero => exact ⟨0, fun i hi => absurd hi (Nat.not_lt_zero _)⟩
    | succ k ih =>
      obtain ⟨n, hn⟩ := ih
      cases hk : l[k]? with
      | none =>
        refine ⟨n, fun i hi x hx => ?_⟩
        by_cases hik : i = k
        · subst hik; rw [hk] at hx; cases hx
        · exact hn i (by omega) x hx
      | some y =>
        have := h.2 k y hk
        rw [hs] at this
        obtain ⟨m, hm⟩ := hf _ _ _ this
        refine ⟨max n m, fun i hi x hx => ?_⟩
        by_cases hik : i = k
        · subst hik; rw [hk] at hx; cases hx; exact T.le (Nat.le_max_right _ _) _ _ hm
        · exact T.le (Nat.le_max_left _ _) _ _ (hn i (by omega) x hx)
  obtain ⟨n, hn⟩ := key l.length
  refine ⟨n, ⟨by rw [T.iter_sz]; rw [← hs]; exact h.1, fun i x hx => ?_⟩⟩
  rw [T.iter_sz]
  exact hn i (List.getElem?_eq_some_iff.1 hx).1 x hx
theorem TyFun.sup (T : TyFun α) {fix : Ty α} (hf : ∀ g cs x, fix.rel g cs x → ∃ n, (T.iter n).rel g cs x) (hs : fix.sz = T.sz) {g : Hp} {cs : List Value} {l : List α} (h : (tSl fix).rel g cs l) : ∃ n, (tSl (T.iter n)).rel g cs l := by
  obtain ⟨v, h1, xs, h2, h3⟩ := h
  obtain ⟨n, hn⟩ := T.supRow hf hs h2
  exact ⟨n, v, h1, xs, hn, h3⟩
theorem TyFun.leSl (T : TyFun α) {g : Hp} {n m : Nat} (hnm : n ≤ m) {cs : List Value} {l : List α} (h : (tSl (T.iter n)).rel g cs l) : (tSl (T.iter m)).rel g cs l :=
  tSl_imp ((T.iter_sz n).trans (T.iter_sz m).symm) (T.le hnm) h
end
end Go.Lx
namespace Go.Lx
open Go.RowKit
def FQ0 (P : Program) (fn : Func) (n : Fr) (R : World → Prop) : EPost := fun e E w => match e with
  | .normal | .ret => E.ds = [] ∧ ∃ v, ResIs P fn n E w v ∧ R w
  | _ => False
instance {P : Program} {fn : Func} {n : Fr} {R : World → Prop} : PanOk (FQ0 P fn n R) := ⟨fun _ _ _ _ _ q => q⟩
section
variable {P : Program} {w : World}
end
section
variable {P : Program} {n : Fr} {Q : EPost} {E : Env} {w : World} {fn : Func} {R : Value → World → Prop}
end
section
variable {P : Program} {E : Env} {w : World} {d : Option Tmp} {ty : TypeId} {ps : String} {af : Array Edge} {gd : Option (Nat × Bool)}
end
end Go.Lx
namespace Go.Lx
open Go.RowKit
def EqV (P : Program) (D : Nat) (t : TypeId) (x y : Value) (b : Bool) : Prop := ∀ w, (Op.equalIn D t x y).run P w = .ok b w
inductive EqFs (P : Program) (D : Nat) (xs ys : List Value) : List Field → Bool → Prop where
  | nil : EqFs P D xs ys [] true
  | cons {f : Field} {fs : List Field} {x y : Value} {b c : Bool} : f.name ≠ "_" → (∀ w, (part f.type xs.toArray f.offset).run P w = .ok x w) → (∀ w, (part f.type ys.toArray f.offset).run P w = .ok y w) →
      EqV P D f.type x y b → EqFs P D xs ys fs c → EqFs P D xs ys (f :: fs) (b && c)
section
variable {P : Program} {D : Nat} {t : TypeId}
theorem eqv_int {k : IntKind} (hT : P.underlying t = some (.int k)) (a b : Int) : EqV P (D + 1) t (.int k a) (.int k b) (a == b) := fun _ => run_equalIn_int D hT a b
theorem eqv_bool (hT : P.underlying t = some .bool) (a b : Bool) : EqV P (D + 1) t (.bool a) (.bool b) (a == b) := fun w => by simp [Op.equalIn, run_underlying hT]
theorem eqv_vec {el : TypeId} {n : Nat} {k : IntKind} {bytes : Nat} {z : Value} (hT : P.underlying t = some (.array n el)) (hE : P.underlying el = some (.int k)) (he : TyI P el false 1 bytes z) (a b : Vec n) : EqV P (D + 2) t (encV k a) (encV k b) (a == b) :=
  fun _ => run_equalIn_vec D hT hE he a b
theorem part_agg {ft : TypeId} {size bytes : Nat} {z : Value} (ht : TyI P ft true size bytes z) {cs ds pre post : List Value} (hp : cs = pre ++ (ds ++ post)) {o : Nat} (hpl : pre.length = o) (hl : ds.length = size) (w : World) : (part ft cs.toArray o).run P w = .ok (.agg ds.toArray) w := by
  subst hp; subst hpl; subst hl
  simp [part, run_isAgg ht, run_sizeOf ht]
theorem part_in {ft : TypeId} {bytes : Nat} {z : Value} (ht : TyI P ft false 1 bytes z) {cs pre post : List Value} {v : Value} (hp : cs = pre ++ ([v] ++ post)) {o : Nat} (hpl : pre.length = o) (w : World) : (part ft cs.toArray o).run P w = .ok v w := by
  subst hp; subst hpl
  exact part_one ht (by simp)
theorem eqv_struct {fs : Array Field} {xs ys : List Value} {b : Bool} (hT : P.underlying t = some (.struct fs)) (hst : P.stoodInHeld t = false) (h : EqFs P D xs ys fs.toList b) : EqV P (D + 1) t (.agg xs.toArray) (.agg ys.toArray) b := fun w => by
  have hp : ∀ w, (program).run P w = .ok P w := fun w => rfl
  rw [Op.equalIn]
  simp only [Sem.run_bind, run_underlying hT, Result.andThen_ok, hp, hst, Bool.false_eq_true, if_false]
  rw [← Array.forIn_toList]
  generalize fs.toList = l at h
  have key : ∀ (l : List Field) (b : Bool), EqFs P D xs ys l b → ∀ w,
      (forIn l ((none, ()) : Option Bool × Unit) fun f r => (do
        if f.name ≠ "_" then
          if (!(← Op.equalIn D f.type (← part f.type xs.toArray f.offset) (← part f.type ys.toArray f.offset))) = true then pure (ForInStep.done (some false, ()))
          else pure (ForInStep.yield (none, ()))
        else pure (ForInStep.yield (none, ())) : Sem (ForInStep (Option Bool × Unit)))).run P w = .ok (if b then (none, ()) else (some false, ())) w := by
    intro l b h
    induction h with
    | nil => intro w; simp [Sem.run_pure]
    | cons hn hx hy he hr ih =>
      intro w
      rename_i b c
      rw [List.forIn_cons, Sem.run_bind, if_pos hn]
      simp only [Sem.run_bind, hx, hy, Result.andThen_ok, he w]
      cases b
      · simp [Sem.run_pure]
      · simpa using ih w
  have := key l b h w
  rw [this]
  cases b <;> rfl
variable {E : Env} {w : World} {d : Option Tmp} {ty : TypeId} {ps : String} {af : Array Edge} {gd : Option (Nat × Bool)} {T T' : TypeId} {x y : Operand} {xs ys : List Value} {b : Bool}
theorem r_neqA (hx : ev E x = .agg xs.toArray) (hy : ev E y = .agg ys.toArray) (hq : P.eqGuardType P.depth T = false) (h : EqV P 10000 T (.agg xs.toArray) (.agg ys.toArray) b) : Runs P E ⟨d, .binOp .neq T x y T', ty, ps, af, gd⟩ w (.bool (!b)) w :=
  run_binOp_of (by rw [hx, hy]; simp only [eqGuard]; simp [program, Sem.run, hq]) (by
    rw [hx, hy]
    simp only [binOp, Sem.run_bind, Op.equal, Op.maxDepth, h w, Result.andThen_ok, Sem.run_pure])
end
end Go.Lx
namespace Go.Lx
open Go.RowKit
section
variable {P : Program} {n : Fr} {Q : EPost} {E : Env} {w : World} {α σ ρ : Type}
def BX (g0 : Hp) (w0 : World) (Inv : σ → Hp → List Res → Prop) (InvX : ρ → Hp → List Res → Prop) (ex : ρ → Code) (r : Step σ ρ) (g : Hp) (L : List Res) : EPost := fun e _ w => match e with
  | .normal => ∃ s, r = .next s ∧ ∃ g' Ls, Inv s g' Ls ∧ Hle g g' ∧ Sep g0 w0 g' w (Ls ++ L)
  | .ret => ∃ q, r = .stop q ∧ ex q = .ret ∧ ∃ g' Ls, InvX q g' Ls ∧ Hle g g' ∧ Sep g0 w0 g' w (Ls ++ L)
  | .exit i => ∃ q, r = .stop q ∧ ex q = .exit i ∧ ∃ g' Ls, InvX q g' Ls ∧ Hle g g' ∧ Sep g0 w0 g' w (Ls ++ L)
  | _ => False
instance {g0 : Hp} {w0 : World} {Inv : σ → Hp → List Res → Prop} {InvX : ρ → Hp → List Res → Prop} {ex : ρ → Code} {r : Step σ ρ} {g : Hp} {L : List Res} : PanOk (BX g0 w0 Inv InvX ex r g L) := ⟨fun _ _ _ _ _ q => q⟩
def AX (P : Program) (n : Fr) (g0 : Hp) (w0 : World) (Inv : σ → Hp → List Res → Prop) (InvX : ρ → Hp → List Res → Prop) (ex : ρ → Code) (r : Step σ ρ) (body : Code) (g : Hp) (L : List Res) : EPost := fun e E w => match e with
  | .normal => ∃ g' Ls, Sep g0 w0 g' w (Ls ++ L) ∧ Hle g g' ∧ ∀ w' L', Sep g0 w0 g' w' (Ls ++ L') → WP P n body (BX g0 w0 Inv InvX ex r g' L') E w'
  | _ => False
instance {P : Program} {n : Fr} {g0 : Hp} {w0 : World} {Inv : σ → Hp → List Res → Prop} {InvX : ρ → Hp → List Res → Prop} {ex : ρ → Code} {r : Step σ ρ} {body : Code} {g : Hp} {L : List Res} : PanOk (AX P n g0 w0 Inv InvX ex r body g L) := ⟨fun _ _ _ _ _ q => q⟩
end
section
variable {P : Program} {E : Env} {w : World} {d : Option Tmp} {ty : TypeId} {ps : String} {af : Array Edge} {gd : Option (Nat × Bool)} {T T' : TypeId} {qs rs : Array TypeId} {vd : Bool} {x y : Operand} {fn : Fn} {bs cs : Array Value}
end
end Go.Lx
namespace Go.Lx
open Go.RowKit
structure InT (β : Type) where
  rel : Hp → Value → β → Res → Prop
  mono : ∀ {g g' : Hp} {v : Value} {l : β} {r : Res}, Hle g g' → rel g v l r → rel g' v l r
  one : ∀ {g : Hp} {v : Value} {l : β} {r : Res}, rel g v l r → v.oneCell' = true
def iMap {K V : Type} (ek : K → Value) (ev : V → Value) : InT (List (K × V)) :=
  ⟨fun _ v m r => ∃ b es ck, v = .map (some b) ∧ r = .obj b (.map es ck) ∧ MRel ek ev es ck m, fun _ h => h, fun ⟨b, _, _, h, _⟩ => by rw [h]; rfl⟩
structure GRel {β : Type} (I : InT β) (g : Hp) (xs : List Value) (ll : List β) (G : List Res) : Prop where
  lx : xs.length = ll.length
  lG : G.length = ll.length
  el : ∀ (i : Nat) (l : β), ll[i]? = some l → ∃ v r, xs[i]? = some v ∧ G[i]? = some r ∧ I.rel g v l r
section
variable {β : Type} {I : InT β} {g g' : Hp} {xs ys : List Value} {ll mm : List β} {G H : List Res}
theorem GRel.mono (h : GRel I g xs ll G) (hg : Hle g g') : GRel I g' xs ll G := ⟨h.lx, h.lG, fun i l hl => by
  obtain ⟨v, r, h1, h2, h3⟩ := h.el i l hl
  exact ⟨v, r, h1, h2, I.mono hg h3⟩⟩
theorem GRel.nil : GRel I g [] [] [] := ⟨rfl, rfl, fun i l h => by simp at h⟩
theorem GRel.append (h : GRel I g xs ll G) (h' : GRel I g ys mm H) : GRel I g (xs ++ ys) (ll ++ mm) (G ++ H) := by
  refine ⟨by simp [h.lx, h'.lx], by simp [h.lG, h'.lG], fun i l hl => ?_⟩
  have h1 := h.lx
  have h2 := h.lG
  by_cases hi : i < ll.length
  · rw [List.getElem?_append_left hi] at hl
    obtain ⟨v, r, e1, e2, e3⟩ := h.el i l hl
    exact ⟨v, r, by rw [List.getElem?_append_left (by omega)]; exact e1, by rw [List.getElem?_append_left (by omega)]; exact e2, e3⟩
  · rw [List.getElem?_append_right (by omega)] at hl
    obtain ⟨v, r, e1, e2, e3⟩ := h'.el _ l hl
    exact ⟨v, r, by rw [List.getElem?_append_right (by omega), h1]; exact e1, by rw [List.getElem?_append_right (by omega), h2]; exact e2, e3⟩
theorem GRel.cons {v : Value} {l : β} {r : Res} (h : I.rel g v l r) (h' : GRel I g ys mm H) : GRel I g (v :: ys) (l :: mm) (r :: H) := by
  refine ⟨by simp [h'.lx], by simp [h'.lG], fun i x hx => ?_⟩
  cases i with
  | zero => simp at hx; subst hx; exact ⟨v, r, rfl, rfl, h⟩
  | succ i => exact h'.el i x (by simpa using hx)
theorem GRel.put (h : GRel I g xs ll G) {k : Nat} {v : Value} {l' : β} {r' : Res} (hx : xs[k]? = some v) (hi : I.rel g v l' r') : GRel I g xs (ll.set k l') (G.set k r') := by
  refine ⟨by simp [h.lx], by simp [h.lG], fun i l hl => ?_⟩
  have hk := (List.getElem?_eq_some_iff.1 hx).1
  have h1 := h.lx
  have h2 := h.lG
  rw [List.getElem?_set] at hl
  split at hl
  · rename_i e
    subst e
    rw [if_pos (by omega)] at hl
    obtain rfl := Option.some.inj hl
    exact ⟨v, r', hx, by rw [List.getElem?_set_self (by omega)], hi⟩
  · rename_i e
    obtain ⟨u, r, e1, e2, e3⟩ := h.el i l hl
    exact ⟨u, r, e1, by rw [List.getElem?_set_ne e]; exact e2, e3⟩
theorem GRel.set (h : GRel I g xs ll G) {k : Nat} {v : Value} {l' : β} {r' : Res} (hk : k < ll.length) (hi : I.rel g v l' r') : GRel I g (xs.set k v) (ll.set k l') (G.set k r') := by
  refine ⟨by simp [h.lx], by simp [h.lG], fun i l hl => ?_⟩
  have h1 := h.lx
  have h2 := h.lG
  rw [List.getElem?_set] at hl
  split at hl
  · rename_i e
    subst e
    obtain rfl := Option.some.inj hl
    exact ⟨v, r', by rw [List.getElem?_set_self (by omega)], by rw [List.getElem?_set_self (by omega)], hi⟩
  · rename_i e
    obtain ⟨u, r, e1, e2, e3⟩ := h.el i l hl
    exact ⟨u, r, by rw [List.getElem?_set_ne e]; exact e1, by rw [List.getElem?_set_ne e]; exact e2, e3⟩
theorem GRel.ones (h : GRel I g xs ll G) : ∀ v ∈ xs, v.oneCell' = true := by
  intro v hv
  obtain ⟨i, hi, rfl⟩ := List.mem_iff_getElem.1 hv
  have hl : i < ll.length := by rw [← h.lx]; exact hi
  obtain ⟨u, r, e1, _, e3⟩ := h.el i _ (List.getElem?_eq_getElem hl)
  rw [List.getElem?_eq_getElem hi] at e1
  rw [Option.some.inj e1]
  exact I.one e3
end
def tVal : Ty Value := ⟨1, fun _ cs v => cs = [v] ∧ v.oneCell' = true, fun _ h => h, fun h => by rw [h.1]; rfl, fun h v hv => by rw [h.1] at hv; simp at hv; subst hv; exact h.2⟩
theorem rowVal {g : Hp} {xs : List Value} (h : ∀ v ∈ xs, v.oneCell' = true) : RowRel tVal g xs xs := by
  refine ⟨by simp [tVal], fun i x hx => ⟨?_, h x (List.mem_of_getElem? hx)⟩⟩
  show (xs.drop (i * 1)).take 1 = [x]
  obtain ⟨hi, rfl⟩ := List.getElem?_eq_some_iff.1 hx
  rw [Nat.mul_one, List.drop_eq_getElem_cons hi]
  rfl
theorem rowVal_eq {g : Hp} {xs ys : List Value} (h : RowRel tVal g xs ys) : xs = ys := by
  have hl : xs.length = ys.length := by have := h.1; simpa [tVal] using this
  refine List.ext_getElem hl fun i h1 h2 => ?_
  have : (xs.drop (i * 1)).take 1 = [ys[i]] := (h.2 i _ (List.getElem?_eq_getElem h2)).1
  rw [Nat.mul_one, List.drop_eq_getElem_cons h1] at this
  simp only [List.take_succ_cons, List.take_zero, List.cons.injEq, and_true] at this
  exact this
theorem appM_len {α β : Type} {B : Nat} {l m : List α} {r : List α} {l' m' : List β} (h : appM B l m = some r) (h1 : l'.length = l.length) (h2 : m'.length = m.length) : appM B l' m' = some (l' ++ m') ∧ r = l ++ m := by
  obtain ⟨e, hb⟩ := appM_some h
  refine ⟨?_, e⟩
  unfold appM
  rw [if_pos (by rw [h1, h2]; exact hb)]
theorem erase_perm {α : Type} : ∀ {l : List α} {i : Nat} (h : i < l.length), l.Perm (l[i] :: l.eraseIdx i)
  | x :: l, 0, _ => List.Perm.refl _
  | x :: l, i + 1, h => ((erase_perm (l := l) (i := i) (by simpa using h)).cons x).trans (List.Perm.swap _ _ _)
theorem Sep.perm {g0 g : Hp} {w0 w : World} {L L' : List Res} (h : Sep g0 w0 g w L) (hp : L.Perm L') : Sep g0 w0 g w L' :=
  ⟨h.ext, fun r hr => h.ok r (hp.mem_iff.2 hr), fun r hr => h.fresh r (hp.mem_iff.2 hr), (hp.pairwise_iff fun hxy b hb hc => hxy b hc hb).1 h.apart⟩
theorem gget {A G B : List Res} {k : Nat} {r : Res} (h : G[k]? = some r) : (A ++ (G ++ B))[A.length + k]? = some r := by
  have hk := (List.getElem?_eq_some_iff.1 h).1
  rw [List.getElem?_append_right (by omega), Nat.add_sub_cancel_left, List.getElem?_append_left hk]
  exact h
theorem gset {A G B : List Res} {k : Nat} {r : Res} (hk : k < G.length) : (A ++ (G ++ B)).set (A.length + k) r = A ++ (G.set k r ++ B) := by
  rw [List.set_append_right _ _ (by omega), Nat.add_sub_cancel_left, List.set_append_left _ _ hk]
section
variable {g0 g : Hp} {w0 w : World} {A G B : List Res}
theorem Sep.gridAt {L : List Res} {β : Type} {I : InT β} {ll : List β} {i : Nat} {v : Value} {e : TypeId} {xs : List Value} (h : Sep g0 w0 g w L) (hi : L[i]? = some (.row v e 1 ll.length xs)) (hG : GRel I g xs ll G) {q : Int} {l : β} (hq : idxL ll q = some l) :
    ∃ b cap, v = .slice (some ⟨b, 0, none⟩) ll.length cap ∧ ∃ u r, xs[q.toNat]? = some u ∧ G[q.toNat]? = some r ∧ I.rel g u l r ∧
      ∀ w', (Res.row v e 1 ll.length xs).ok w' → ∀ j y, [u][j]? = some y → w'.cell? ⟨b, 0 + q.toNat * 1 + j, none⟩ = some y := by
  obtain ⟨h0, h1, hl⟩ := idxL_some hq
  obtain ⟨u, r, e1, e2, e3⟩ := hG.el _ _ hl
  have hi' : L[i]? = some (.row v e tVal.sz xs.length xs) := by rw [hG.lx]; exact hi
  have hxq : idxL xs q = some u := by
    obtain ⟨k, rfl⟩ := Int.eq_ofNat_of_zero_le h0
    rw [Int.toNat_natCast] at e1
    have hk := (List.getElem?_eq_some_iff.1 e1).1
    unfold idxL
    rw [if_pos (by omega), Int.toNat_natCast]
    exact e1
  obtain ⟨b, cap, hv, cs, hc, hld⟩ := h.rowEl hi' (rowVal hG.ones) hxq
  obtain ⟨rfl, _⟩ := hc
  rw [hG.lx] at hv
  refine ⟨b, cap, hv, u, r, e1, e2, e3, fun w' hw' j y hy => hld w' ?_ j y hy⟩
  rw [hG.lx]; exact hw'
theorem Sep.gridMap {K V : Type} {ek : K → Value} {ev : V → Value} {ll ll2 : List (List (K × V))} {m' : List (K × V)} {xs : List Value} {b ck ck' : Nat} {es es' : Array MapEntry} {p : Int} (hG : GRel (iMap ek ev) g xs ll G) (hx : xs[p.toNat]? = some (Value.map (some b)))
    (hu : G[p.toNat]? = some (.obj b (.map es ck))) (hm : MRel ek ev es' ck' m') (hset2 : setL ll p m' = some ll2) (h : Sep g0 w0 g w ((A ++ (G ++ B)).set (A.length + p.toNat) (.obj b (.map es' ck')))) :
    ∃ G', GRel (iMap ek ev) g xs ll2 G' ∧ ll2.length = ll.length ∧ Sep g0 w0 g w (A ++ (G' ++ B)) := by
  obtain ⟨h0, h1, rfl⟩ := setL_some hset2
  rw [gset (List.getElem?_eq_some_iff.1 hu).1] at h
  exact ⟨_, hG.put hx ⟨b, es', ck', rfl, rfl, hm⟩, List.length_set, h⟩
end
end Go.Lx
namespace Go.Lx
open Go.RowKit
section
variable {P : Program} {n : Fr} {Q : EPost} {E : Env} {w : World} {ops : Array Oper} {rest : List Oper} {d : Tmp} {ty : TypeId} {ps : String} {af : Array Edge} {g0 g : Hp} {w0 : World} {A B G H : List Res}
theorem OW_litG {β : Type} {I : InT β} {T el : TypeId} {bytes : Nat} {z : Value} {parts : Array (Nat × Operand)} {i : Nat} {r : Res} {u : Value} {l : β}
    (hT : P.underlying T = some (.slice el)) (he : TyI P el false 1 bytes z) (hs : Sep g0 w0 g w (A ++ B)) (hi : A[i]? = some r) (hin : I.rel g u l r)
    (hp : (parts.toList.map fun p => (p.1, ev E p.2)) = [(0, u)]) (hd : Nat.blt d n.sz = true)
    (k : ∀ v' w' xs' G', GRel I g xs' [l] G' → Sep g0 w0 g w' ((.row v' el 1 [l].length xs' :: A.eraseIdx i) ++ (G' ++ B)) → OW P n ops Q rest (upd E d v') w') :
    OW P n ops Q (⟨some d, .buildSlice T 1 parts, ty, ps, af, none⟩ :: rest) E w := by
  have hone := I.one hin
  have hcells : u.cells.toList = [u] := cells_one hone
  refine OW_lit (τ := tVal) [u] [u] hT he (by decide) hs rfl (by decide) hp ⟨⟨hcells, hone⟩, trivial⟩ hd fun v' w' xs' hr hs' => ?_
  obtain rfl := rowVal_eq hr
  refine k v' w' _ _ ((GRel.nil (g := g)).cons hin) ?_
  have hil := (List.getElem?_eq_some_iff.1 hi).1
  have hr2 : A[i]'hil = r := (List.getElem?_eq_some_iff.1 hi).2
  refine hs'.perm ?_
  have p1 := erase_perm hil
  rw [hr2] at p1
  have p2 : (A ++ B).Perm (A.eraseIdx i ++ ([r] ++ B)) := (List.Perm.append_right B p1).trans List.perm_middle.symm
  exact List.Perm.cons _ p2
theorem OW_appendG {β : Type} {I : InT β} {T el : TypeId} {bytes : Nat} {z : Value} {x y : Operand} {v u : Value} {ll mm r : List β} {xs ys : List Value} {i j : Nat}
    (hT : P.underlying T = some (.slice el)) (he : TyI P el false 1 bytes z) (hzs : z.cells.size = 1) (hbp : 0 < bytes) (hs : Sep g0 w0 g w (A ++ (H ++ (G ++ B))))
    (hi : A[i]? = some (.row v el 1 ll.length xs)) (hj : A[j]? = some (.row u el 1 mm.length ys)) (_ : i ≠ j) (hG : GRel I g xs ll G) (hH : GRel I g ys mm H)
    (hx : ev E x = v) (hy : ev E y = u) (hM : appM bytes ll mm = some r) (hd : Nat.blt d n.sz = true)
    (k : ∀ v' w' xs' G', GRel I g xs' r G' → Sep g0 w0 g w' ((A.set i (.row v' el 1 r.length xs')).eraseIdx j ++ (G' ++ B)) → OW P n ops Q rest (upd E d v') w') :
    OW P n ops Q (⟨some d, .call { callee := .builtin .append, args := #[x, y], argTypes := #[T, T] }, ty, ps, af, none⟩ :: rest) E w := by
  obtain ⟨hM2, rfl⟩ := appM_len (l' := xs) (m' := ys) hM hG.lx hH.lx
  have hil := (List.getElem?_eq_some_iff.1 hi).1
  have hjl := (List.getElem?_eq_some_iff.1 hj).1
  have hi' : (A ++ (H ++ (G ++ B)))[i]? = some (.row v el tVal.sz xs.length xs) := by rw [List.getElem?_append_left hil, hG.lx]; exact hi
  have hj' : (A ++ (H ++ (G ++ B)))[j]? = some (.row u el tVal.sz ys.length ys) := by rw [List.getElem?_append_left hjl, hH.lx]; exact hj
  refine OW_append (τ := tVal) hT he hzs (by decide) hbp hs hi' (rowVal hG.ones) hx hy (hs.rowSrc hj') (rowVal hH.ones) hM2 hd fun v' w' xs' hr hs' => ?_
  obtain rfl := rowVal_eq hr
  refine k v' w' _ _ (hG.append hH) ?_
  have hlen : (xs ++ ys).length = (ll ++ mm).length := by simp [hG.lx, hH.lx]
  rw [List.set_append_left _ _ hil, hlen] at hs'
  generalize hA2 : A.set i (.row v' el tVal.sz (ll ++ mm).length (xs ++ ys)) = A2 at hs'
  have hA2' : A.set i (.row v' el 1 (ll ++ mm).length (xs ++ ys)) = A2 := hA2
  rw [hA2']
  have s1 : Sep g0 w0 g w' (A2.eraseIdx j ++ (H ++ (G ++ B))) := hs'.sub ((List.eraseIdx_sublist A2 j).append_right _)
  refine s1.perm (List.Perm.append_left _ ?_)
  rw [List.append_assoc]
  exact List.perm_append_comm_assoc _ _ _
end
end Go.Lx
namespace Go.Lx
open Go.RowKit Go.Maps
def bytesL (s : Str) : List Int := s.map fun b => (b.toNat : Int)
section
variable {P : Program} {n : Fr} {Q : EPost} {E : Env} {w : World} {ops : Array Oper} {rest : List Oper} {d : Tmp} {ty : TypeId} {ps : String} {af : Array Edge} {g0 g : Hp} {w0 : World} {L : List Res}
theorem bytesWorld_grown (w : World) (e : TypeId) (s : ByteArray) : w.grownBy (Lib.bytesWorld w e s) none :=
  ⟨rfl, rfl, rfl, by rw [Lib.bytesWorld_size]; omega, fun k hk _ => Lib.bytesWorld_at_old w e s k hk⟩
theorem Sep.gave (h : Sep g0 w0 g w L) {w' : World} (hg : w.grownBy w' none) {b : Nat} {o : Obj} (hb : w.heap.size ≤ b) (ho : w'.heap[b]? = some o) : Sep g0 w0 (gadd g b o) w' L ∧ Hle g (gadd g b o) := by
  have hx : Ext g w (gadd g b o) w' := by
    refine ⟨⟨hg.os, hg.tape, hg.output, hg.size, fun k hk => hg.block k hk (by simp)⟩, fun k hk => if_neg (by omega), fun k o' hk => ?_⟩
    simp only [gadd] at hk
    split at hk
    · rename_i e; subst e; rw [ho]; exact hk
    · rw [hg.block k (h.imm.lt hk) (by simp)]; exact h.imm k o' hk
  exact ⟨h.call hx, hx.le h.imm⟩
theorem OW_bytes {S T el : TypeId} {x : Operand} {s : Str} (hS : P.underlying S = some .string) (hT : P.underlying T = some (.slice el)) (he : P.underlying el = some (.int .u8))
    (hs : Sep g0 w0 g w L) (hx : ev E x = encS s) (hd : Nat.blt d n.sz = true)
    (k : ∀ v' w' g', Hle g g' → RdS (tInt .u8) g' v' (bytesL s) → Sep g0 w0 g' w' L → OW P n ops Q rest (upd E d v') w') :
    OW P n ops Q (⟨some d, .convert S T x, ty, ps, af, none⟩ :: rest) E w := by
  have hrun := Lib.run_convert_string_bytes (P := P) w S T el ⟨s.toArray⟩ hS hT he
  obtain ⟨h1, h2⟩ := hs.gave (bytesWorld_grown w el ⟨s.toArray⟩) (Nat.le_refl _) (Lib.bytesWorld_at_new w el ⟨s.toArray⟩)
  refine O (v := .slice (some ⟨w.heap.size, 0, none⟩) s.length (grownCap w s.length 0 el)) (.inl ?_) hd (k _ _ _ h2 ?_ h1)
  · have e : (ByteArray.mk s.toArray).size = s.length := by simp [ByteArray.size]
    rw [e] at hrun
    simp only [execOp, Sem.run_bind, hx, encS, hrun, Result.andThen_ok, Sem.run_pure]
  · refine ⟨s.map fun b => Value.int .u8 b.toNat, ?_, .inr ⟨w.heap.size, 0, grownCap w s.length 0 el, _, _, _, ?_, ?_, if_pos rfl, ?_⟩⟩
    · refine ⟨by simp [bytesL, tInt], fun i x hx => ?_⟩
      simp only [bytesL, List.getElem?_map] at hx
      cases hi : s[i]? with
      | none => rw [hi] at hx; cases hx
      | some c =>
        rw [hi] at hx
        obtain rfl := Option.some.inj hx
        show (List.drop (i * 1) _).take 1 = _
        obtain ⟨hl, rfl⟩ := List.getElem?_eq_some_iff.1 hi
        rw [Nat.mul_one, List.drop_eq_getElem_cons (by simpa using hl)]
        simp
    · simp [bytesL]
    · simp only [bytesL, List.length_map]; exact grownCap_ge w _ _ _
    · intro j v hj
      simp only [Lib.bytesCells, Nat.zero_add]
      rw [Array.getElem?_append_left (by simp at hj ⊢; obtain ⟨a, h, _⟩ := hj; exact (List.getElem?_eq_some_iff.1 h).1)]
      simpa using hj
theorem r_lookupF {d' : Option Tmp} {gd : Option (Nat × Bool)} {K V : Type} [BEq K] {ek : K → Value} {vf : V → Value} {T Tk Te : TypeId} {es : Array MapEntry} {clock b i : Nat} {m : List (K × V)} {x y : Operand} {kk : K} {vv : V} (hT : P.underlying T = some (.map Tk Te)) (law : KeyLaw P Tk ek)
    (hs : Sep g0 w0 g w L) (hi : L[i]? = some (.obj b (.map es clock))) (hm : MRel ek vf es clock m) (hx : ev E x = .map (some b)) (hy : ev E y = ek kk) (hg : mget m kk = some vv) :
    Runs P E ⟨d', .lookup T x y false, ty, ps, af, gd⟩ w (vf vv) w := .inl (by
  have hb := (hs.at hi).out
  simp only [Res.okB] at hb
  have hf := law.find kk es.toList (m.map (·.1)) w hm.keys
  have hv := hm.val
  rw [find?_findIdx?] at hg
  simp only [execOp, Instr.lookup, hx, hy, Sem.run_bind, run_underlying hT, Result.andThen_ok, getObj, Sem.run, hb, Sem.run_pure, law.check, hf]
  cases hj : (m.map (·.1)).findIdx? (· == kk) with
  | none => rw [hj] at hg; cases hg
  | some j =>
    have := hv j
    rw [hj] at hg
    simp only [Option.bind_some] at hg
    cases hm' : m[j]? with
    | none => rw [hm'] at hg; cases hg
    | some p =>
      rw [hm'] at this hg
      cases he' : es.toList[j]? with
      | none => rw [he'] at this; simp at this
      | some e =>
        rw [he'] at this
        simp only [Option.map_some, Option.some.injEq] at this hg
        simp only [Option.bind_some, he', Option.map_some, this, hg]
        rfl)
end
theorem vecElAt {n : Nat} {v : Vec n} {q c : Int} {k : IntKind} {w : World} {b o : Nat} (hc : ∀ j u, (v.1.map (Value.int k))[j]? = some u → w.cell? ⟨b, o + j, none⟩ = some u) (h : vget v q = some c) :
    ∀ j u, [Value.int k c][j]? = some u → w.cell? ⟨b, o + q.toNat * 1 + j, none⟩ = some u := by
  intro j u hj
  cases j with
  | zero =>
    simp at hj; subst hj
    have := hc _ _ (vget_cell (k := k) h)
    simpa using this
  | succ j => simp at hj
end Go.Lx
namespace Go.Lx
open Go.RowKit Go.Maps Go.Proofs Go.Shelf
open Go.WideElems (Fit rd rg pl)
def insI (x : Int) : List Int → List Int
  | [] => [x]
  | y :: l => if x ≤ y then x :: y :: l else y :: insI x l
def isort : List Int → List Int
  | [] => []
  | x :: l => insI x (isort l)
theorem insI_perm (x : Int) : ∀ l, (insI x l).Perm (x :: l)
  | [] => List.Perm.refl _
  | y :: l => by
    unfold insI
    split
    · exact List.Perm.refl _
    · exact ((insI_perm x l).cons y).trans (List.Perm.swap _ _ _)
theorem isort_perm : ∀ l, (isort l).Perm l
  | [] => List.Perm.refl _
  | x :: l => (insI_perm x _).trans ((isort_perm l).cons x)
theorem insI_sorted (x : Int) : ∀ l : List Int, l.Pairwise (· ≤ ·) → (insI x l).Pairwise (· ≤ ·)
  | [], _ => by simp [insI]
  | y :: l, h => by
    unfold insI
    obtain ⟨h1, h2⟩ := List.pairwise_cons.1 h
    split
    · rename_i hxy
      refine List.pairwise_cons.2 ⟨fun z hz => ?_, h⟩
      rcases List.mem_cons.1 hz with rfl | hz
      · exact hxy
      · exact Int.le_trans hxy (h1 z hz)
    · rename_i hxy
      refine List.pairwise_cons.2 ⟨fun z hz => ?_, insI_sorted x l h2⟩
      rcases List.mem_cons.1 ((insI_perm x l).mem_iff.1 hz) with rfl | hz
      · omega
      · exact h1 z hz
theorem isort_sorted : ∀ l : List Int, (isort l).Pairwise (· ≤ ·)
  | [] => List.Pairwise.nil
  | x :: l => insI_sorted x _ (isort_sorted l)
theorem mergeSort_isort {ss l : List Int} (h : ss.Perm l) : ss.mergeSort leI = isort l := by
  have tr : ∀ a b c : Int, leI a b = true → leI b c = true → leI a c = true := fun a b c h1 h2 => by simp only [leI, decide_eq_true_eq] at *; exact Int.le_trans h1 h2
  have to : ∀ a b : Int, (leI a b || leI b a) = true := fun a b => by simp only [leI, Bool.or_eq_true, decide_eq_true_eq]; exact Int.le_total a b
  refine List.Perm.eq_of_pairwise (le := fun a b : Int => a ≤ b) (fun a b _ _ h1 h2 => Int.le_antisymm h1 h2) ((List.pairwise_mergeSort tr to ss).imp fun h => by simpa [leI] using h) (isort_sorted l) (((List.mergeSort_perm ss leI).trans h).trans (isort_perm l).symm)
def keysM {V : Type} (m : List (Int × V)) : Option (List Int) := if m.length ≤ 17592186044416 ∧ ∀ p ∈ m, -9223372036854775808 ≤ p.1 ∧ p.1 ≤ 9223372036854775807 then some (isort (m.map (·.1))) else none
theorem keysM_some {V : Type} {m : List (Int × V)} {l : List Int} (h : keysM m = some l) : m.length ≤ 17592186044416 ∧ (∀ p ∈ m, -9223372036854775808 ≤ p.1 ∧ p.1 ≤ 9223372036854775807) ∧ l = isort (m.map (·.1)) := by
  unfold keysM at h
  split at h
  · rename_i hc; exact ⟨hc.1, hc.2, (Option.some.inj h).symm⟩
  · cases h
def anyV : Value → Option (DataW Unit × List MemPlace) := fun _ => some (.nil, [])
theorem mrel_owns {P : Program} {Tk : TypeId} {V : Type} {vf : V → Value} {es : Array MapEntry} {ck b : Nat} {m : List (Int × V)} {w : World} (hT : P.underlying Tk = some (.int .i64)) (hb : w.heap[b]? = some (.map es ck)) (hm : MRel (Value.int .i64) vf es ck m)
    (hl : m.length ≤ 17592186044416) (hr : ∀ p ∈ m, -9223372036854775808 ≤ p.1 ∧ p.1 ≤ 9223372036854775807) :
    ∃ D0 : DataW Unit, w.ownsMap P Tk anyV b m.length D0 ∧ Maps.size D0 = m.length ∧ (intKeys D0).Perm (m.map (·.1)) := by
  have hrd : ∀ x ∈ es.toList, ∃ a : Int, x.key = .int .i64 a ∧ rd P Tk anyV x = some (.int .i64 a, .nil) := by
    intro x hx
    have hk : x.key ∈ es.toList.map (·.key) := List.mem_map.2 ⟨x, hx, rfl⟩
    rw [hm.keys] at hk
    obtain ⟨a, ha, he⟩ := List.mem_map.1 hk
    obtain ⟨p, hp, rfl⟩ := List.mem_map.1 ha
    refine ⟨p.1, he.symm, ?_⟩
    have h1 := hr p hp
    have hw : (Lit.int .i64 p.1).wf = true := by
      simp only [Lit.wf, Bool.and_eq_true, decide_eq_true_eq]
      exact ⟨h1.1, h1.2⟩
    have : keyOf P Tk x.key = some (.int .i64 p.1) := by
      rw [← he]
      simp [keyOf, hT, mapKey, hw]
    simp [rd, this, anyV]
  refine ⟨_, ⟨es, ck, hb, ⟨?_, hm.stamp, fun x hx => ?_⟩, by rw [hm.size]; exact Nat.le_refl _, rfl⟩, ?_, ?_⟩
  · rw [hm.size]; unfold maxLen; omega
  · obtain ⟨a, _, h⟩ := hrd x hx; exact ⟨_, h⟩
  · show (List.foldr DataW.insert [] _).length = _
    rw [length_sorted, List.length_map, Array.length_toList, hm.size]
  · show ((List.foldr DataW.insert [] (es.toList.map (rg P Tk anyV))).map fun p => intOf p.1).Perm _
    refine ((Go.WideShapes.sorted_perm _).map _).trans ?_
    rw [List.map_map]
    have e : es.toList.map ((fun p : Lit × DataW Unit => intOf p.1) ∘ rg P Tk anyV) = m.map (·.1) := by
      have hinj : ∀ l1 l2 : List Int, l1.map (Value.int .i64) = l2.map (Value.int .i64) → l1 = l2 := by
        intro l1 l2 h
        refine List.map_inj_right (f := Value.int .i64) (fun x y h => ?_) |>.1 h
        cases h; rfl
      refine hinj _ _ ?_
      rw [← hm.keys, List.map_map]
      refine List.map_congr_left fun x hx => ?_
      obtain ⟨a, h1, h2⟩ := hrd x hx
      simp [rg, h2, h1, intOf]
    rw [e]
def KeysC (P : Program) (f g1 : FuncId) (T : TypeId) : Prop := ∀ (mb : Option Nat) (W : World), CallsV P f #[.map mb] W fun v w' => v = .func (.func g1) #[] #[.pointer (some ⟨W.heap.size, 0, none⟩)] ∧ w' = W.alloc (.cells #[.map mb] T)
theorem keysC_of {P : Program} {ρ : Ren} (L : SlLaysZI.n7 P ρ) : KeysC P (ρ.f 7) (ρ.f 10) (ρ.t 23) := fun mb W => (callsIn_wide.1 (AnyZI.keys_in L Fence.wide 5 trivial rfl mb W)).mono fun _ _ ⟨h1, h2⟩ => ⟨_, h1, rfl, h2⟩
def SortedC (P : Program) (f g1 : FuncId) (Tk : TypeId) : Prop := ∀ (Bm mb nn : Nat) (D0 : DataW Unit) (w : World), Bm < w.heap.size → w.cell? ⟨Bm, 0, none⟩ = some (.map (some mb)) → w.ownsMap P Tk anyV mb nn D0 → Maps.size D0 * 8 ≤ 140737488355328 →
  CallsV P f #[.func (.func g1) #[] #[.pointer (some ⟨Bm, 0, none⟩)]] w fun v w' => ∃ ss : List Int, ss.Perm (intKeys D0) ∧ w'.ownsRow w.heap.size Tk 1 v ss.length ((ss.mergeSort leI).map encZ) ∧ Below w.heap.size w w'
theorem sortedC_of {P : Program} {ρ ρ' : Ren} (L : SlLaysZI.n7 P ρ) (L' : SlLaysZI.n6 P ρ') (hk : ρ'.t 26 = ρ.t 26) (hs : AnyZI.SortsIn P ρ' Fence.wide 4) (e9 : ∀ args w, (callFunc (ρ'.f 9) args).run P w = .ok (.enter (ρ'.f 9) args) w) (e10 : ∀ args w, (callFunc (ρ.f 10) args).run P w = .ok (.enter (ρ.f 10) args) w) :
    SortedC P (ρ'.f 6) (ρ.f 10) (ρ.t 26) := by
  intro Bm mb nn D0 w hB hc hown hsz
  have hseq : SeqGives Fence.wide 2 P (ρ.f 10) #[.pointer (some ⟨Bm, 0, none⟩)] encZ (fun ss => ss.Perm (intKeys D0)) (Maps.size D0) w := AnyZI.keys_gives { L with } Fence.wide 2 trivial rfl (by omega) Bm mb nn D0 w hB hc hown
  refine (callsIn_wide.1 (AnyZI.sorted_in L' Fence.wide 5 trivial trivial trivial trivial rfl (by omega) hs e9 (ρ.f 10) _ trivial e10 _ _ (by unfold maxLen; omega) hsz w hseq)).mono ?_
  rintro e w' ⟨v, ss, rfl, h1, h2, h3, h4⟩
  rw [hk] at h2
  exact ⟨v, rfl, ss, h1, h2, h4⟩
section
variable {P : Program} {n : Fr} {Q : EPost} {E : Env} {w : World} {ops : Array Oper} {rest : List Oper} {d : Tmp} {ty : TypeId} {ps : String} {af : Array Edge} {g0 g : Hp} {w0 : World} {L : List Res}
theorem OW_keys {f g1 : FuncId} {T : TypeId} {ats : Array TypeId} {x : Operand} {mb : Option Nat} (hc : KeysC P f g1 T) (hf : CF P f) (hs : Sep g0 w0 g w L) (hx : ev E x = .map mb) (hd : Nat.blt d n.sz = true)
    (k : ∀ b w', Sep g0 w0 g w' (box b T [.map mb] :: L) → OW P n ops Q rest (upd E d (.func (.func g1) #[] #[.pointer (some ⟨b, 0, none⟩)])) w') :
    OW P n ops Q (⟨some d, .call { callee := .value (.func f), args := #[x], argTypes := ats }, ty, ps, af, none⟩ :: rest) E w := by
  refine C [.map mb] hf (by simp [hx]) (hc mb w) hd ?_
  rintro v w' ⟨rfl, rfl⟩
  exact k _ _ (hs.alloc _)
theorem OW_sorted {f g1 : FuncId} {Tk T : TypeId} {ats : Array TypeId} {x : Operand} {b mb i j ck : Nat} {es : Array MapEntry} {V : Type} {vf : V → Value} {m : List (Int × V)} {l : List Int} (hc : SortedC P f g1 Tk) (hf : CF P f) (hT : P.underlying Tk = some (.int .i64)) (hs : Sep g0 w0 g w L)
    (hi : L[i]? = some (box b T [.map (some mb)])) (hj : L[j]? = some (.obj mb (.map es ck))) (hm : MRel (Value.int .i64) vf es ck m) (hk : keysM m = some l) (hx : ev E x = .func (.func g1) #[] #[.pointer (some ⟨b, 0, none⟩)]) (hd : Nat.blt d n.sz = true)
    (k : ∀ v w' xs, RowRel (tInt .i64) g xs l → Sep g0 w0 g w' (.row v Tk (tInt .i64).sz l.length xs :: L) → OW P n ops Q rest (upd E d v) w') :
    OW P n ops Q (⟨some d, .call { callee := .value (.func f), args := #[x], argTypes := ats }, ty, ps, af, none⟩ :: rest) E w := by
  obtain ⟨h1, h2, rfl⟩ := keysM_some hk
  have hb := (hs.at hi).out
  have hmb := (hs.at hj).out
  simp only [Res.okB] at hb hmb
  obtain ⟨D0, ho, hz, hp⟩ := mrel_owns hT hmb hm h1 h2
  refine C [_] hf (by simp [hx]) (hc b mb _ D0 w (Array.getElem?_eq_some_iff.1 hb).1 (by simp [World.cell?, hb]) ho (by omega)) hd ?_
  rintro v w' ⟨ss, hss, hrow, hbel⟩
  have e := mergeSort_isort (hss.trans hp)
  have hlen : ss.length = (isort (m.map (·.1))).length := by rw [← e, List.length_mergeSort]
  rw [e, hlen] at hrow
  refine k v w' ((isort (m.map (·.1))).map encZ) ?_ ?_
  · refine ⟨by simp [tInt], fun i x hx => ?_⟩
    show (List.drop (i * 1) _).take 1 = [Value.int .i64 x]
    obtain ⟨hl, rfl⟩ := List.getElem?_eq_some_iff.1 hx
    rw [Nat.mul_one, List.drop_eq_getElem_cons (by simpa using hl)]
    simp
  · have hx := ext_of_below hs.imm hbel
    have hok : (Res.row v Tk (tInt .i64).sz (isort (m.map (·.1))).length ((isort (m.map (·.1))).map encZ)).ok w' := ⟨⟨hrow.1, by
      rcases hrow.2 with h | ⟨q, cap, cur, a1, _, a3⟩
      · exact .inl h
      · exact .inr ⟨q, cap, cur, a1, Nat.zero_le _, a3⟩⟩⟩
    refine hs.callOwn (L' := [_]) ⟨hx, by simpa using hok, ?_, by simp⟩
    intro r hr q hq
    simp only [List.mem_singleton] at hr
    subst hr
    rcases hrow.2 with ⟨rfl, _⟩ | ⟨q', cap, cur, rfl, a2, _⟩
    · simp [Res.blk, Value.ownBlock] at hq
    · simp only [Res.blk, Value.ownBlock, Option.some.injEq] at hq
      subst hq
      exact ⟨a2, hs.none_at a2⟩
end
def growM (l : List Int) (n : Int) : Option (List Int) := if l = [] ∧ 0 ≤ n ∧ n ≤ 17592186044416 then some [] else none
theorem grow_ok {P : Program} {ρ : Ren} (L : Lays8.n4 P ρ) (hI : (P.info? (ρ.t 25)).map (fun i => (i.zero, i.size, i.bytes)) = some (some (.int .i64 0), 1, 8)) {l : List Int} {k : Int} {r : List Int} (hM : growM l k = some r) {g0 : Hp} {w0 : World} (hi : Imm g0 w0) :
    CallsV P (ρ.f 4) #[.slice none 0 0, .int .i64 k] w0 (fun v w' => ∃ g' xs, RowRel (tInt .i64) g' xs r ∧ Sep g0 w0 g' w' [.row v (ρ.t 25) (tInt .i64).sz r.length xs]) := by
  unfold growM at hM
  split at hM
  · rename_i hc
    obtain ⟨_, h0, h1⟩ := hc
    obtain rfl := Option.some.inj hM
    obtain ⟨q, rfl⟩ := Int.eq_ofNat_of_zero_le h0
    cases hi0 : P.info? (ρ.t 25) with
    | none => rw [hi0] at hI; cases hI
    | some i0 =>
      rw [hi0] at hI
      simp only [Option.map_some, Option.some.injEq, Prod.mk.injEq] at hI
      obtain ⟨z1, z2, z3⟩ := hI
      rcases Nat.eq_zero_or_pos q with rfl | hq
      · refine (Any8.slices_Grow_room L none 0 0 0 w0 (by omega) (by omega) (by omega) (by omega)).mono ?_
        rintro e w' ⟨rfl, rfl⟩
        exact ⟨_, rfl, g0, [], RowRel.nil, (Sep.start hi).nilRow _ _⟩
      · refine (Any8.slices_Grow_grow L i0 (.int .i64 0) hi0 z1 (by omega) none 0 0 q [] w0 (by omega) (by omega) (by rw [z3]; omega) (by omega) (by simp) (fun _ => rfl) (fun a h => by cases h)).mono ?_
        rintro e w' ⟨rfl, rfl⟩
        refine ⟨_, rfl, g0, [], RowRel.nil, ?_⟩
        have hs := (Sep.start hi).drew.alloc (.cells (#[] ++ Builtin.zeroCells (Value.int .i64 0).cells (0 + q - 0) ++ Builtin.zeroCells (Value.int .i64 0).cells (grownCap w0 (0 + q) 0 (ρ.t 25) - (0 + q))) (ρ.t 25))
        have hb := (hs.at (i := 0) rfl).out
        simp only [Res.okB] at hb
        have hge : 0 + q ≤ grownCap w0 (0 + q) 0 (ρ.t 25) := grownCap_ge w0 _ _ _
        have hle : grownCap w0 (0 + q) 0 (ρ.t 25) ≤ maxLen := grownCap_le_maxLen w0 _ _ _ (by unfold maxLen; omega)
        refine hs.upd (i := 0) rfl (w' := _) ⟨rfl, rfl, rfl, Nat.le_refl _, fun _ _ _ => rfl⟩ (r' := .row _ (ρ.t 25) (tInt .i64).sz 0 []) ⟨⟨by simp, .inr ⟨_, _, _, rfl, Nat.zero_le _, hb, Nat.zero_le _, hle, ?_, by simp⟩⟩⟩ (fun b hb => .inl hb)
        simp only [Nat.zero_add] at hge ⊢
        simp [Builtin.zeroCells, tInt, Value.cells]
        omega
  · cases hM
end Go.Lx
namespace Go.Lx
open Go.RowKit Go.ChangeShapes Go.WideShapes Go.ChangeAt
structure Bulk (B : ∀ H : Type, DataW H → Nat) : Prop where
  slice : ∀ (H : Type) (es sp : List (DataW H)), (es.map (B H)).sum ≤ B H (.slice es sp)
  agg : ∀ (H : Type) (ps : List (DataW H)), (ps.map (B H)).sum + 1 ≤ B H (.agg ps)
def ReadsU (B : ∀ H : Type, DataW H → Nat) (P : Program) (T : TypeId) {α : Type} (τ : Ty α) (ok : α → Nat → Prop) (f : Nat) : Prop :=
  ∀ (H : Type) (enc : TypeId × Value → H) (w : World) (cs : List Value) (x : DataW H × List MemPlace),
    DataW.trod enc P w 0 (fun _ => true) true f T cs = some x → ∃ y, τ.rel (allHp w) cs y ∧ ok y (B H x.1)
def LstU {α : Type} (ok : α → Nat → Prop) (l : List α) (n : Nat) : Prop := ∃ ns : List Nat, ns.length = l.length ∧ ns.sum ≤ n ∧ ∀ (i : Nat) (x : α), l[i]? = some x → ∃ k, ns[i]? = some k ∧ ok x k
theorem readsU_sliceAt {B : ∀ H : Type, DataW H → Nat} (hB : Bulk B) {P : Program} {T : TypeId} {α : Type} {el : TypeId} {τ : Ty α} {ok : α → Nat → Prop} {f : Nat} (hT : P.underlying T = some (.slice el)) (hc : P.cellsOf el = τ.sz) (hsz : 0 < τ.sz) (hr : ∀ m, m < f → ReadsU B P el τ ok m) :
    ReadsU B P T (tSl τ) (fun l n => LstU ok l n ∧ l.length ≤ maxLen) f := by
  intro H enc w cs x h
  rcases DataW.trod_slice hT h with ⟨rfl, _⟩ | ⟨a, len, cap, elems, rest, m, hfm, rfl, rfl, _, hlc, hcm, hlen, hel, _⟩
  · exact ⟨[], ⟨_, rfl, RdS.nil⟩, ⟨[], rfl, by simp, by simp⟩, by simp⟩
  · have hsum := hB.slice H (elems.map (·.1)) (rest.map (·.1))
    have hfin : ∀ l : List α, l.length = len → (∀ (i : Nat) (x : α), l[i]? = some x → ∃ e, elems[i]? = some e ∧ ok x (B H e.1)) → LstU ok l (B H (.slice (elems.map (·.1)) (rest.map (·.1)))) := by
      intro l hl hok
      refine ⟨(elems.map (·.1)).map (B H), by simp [hlen, hl], hsum, fun i x hx => ?_⟩
      obtain ⟨e, he, hk⟩ := hok i x hx
      exact ⟨_, by simp [he], hk⟩
    have hex : ∀ i, i < len → ∃ ci y e, elems[i]? = some e ∧ (∀ j u, ci[j]? = some u → w.cell? ((a.add (i * τ.sz)).add j) = some u) ∧ ci.length = τ.sz ∧ τ.rel (allHp w) ci y ∧ ok y (B H e.1) := by
      intro i hi
      have h1 := hel i hi
      rw [List.getElem?_eq_getElem (by omega), hc] at h1
      cases h2 : w.cells? 0 (a.add (i * τ.sz)) τ.sz with
      | none => rw [h2] at h1; simp at h1
      | some ci =>
        rw [h2] at h1
        simp only [Option.bind_some] at h1
        obtain ⟨y, hy, hok⟩ := hr m (by omega) H enc w ci _ h1
        simp only [World.cells?, Nat.zero_le, if_true] at h2
        obtain ⟨hl, hcell⟩ := mapM_cells h2
        exact ⟨ci, y, _, List.getElem?_eq_getElem (by omega), hcell, hl, hy, hok⟩
    rcases Nat.eq_zero_or_pos len with h0 | h0
    · subst h0
      exact ⟨[], ⟨_, rfl, [], RowRel.nil, .inl ⟨rfl, rfl, some a, cap, rfl, fun h => by cases h⟩⟩, hfin [] rfl (by simp), by simp⟩
    · have hspot : a.spot = none := by
        obtain ⟨ci, _, _, _, hcell, hl, _⟩ := hex 0 h0
        have hci : ci[0]? = some (ci[0]'(by omega)) := List.getElem?_eq_getElem (by omega)
        have := hcell 0 _ hci
        have := World.cell?_spot this
        simpa [Addr.add] using this
      obtain ⟨b, off, spot⟩ := a
      simp only at hspot
      subst hspot
      have build : ∀ k, k ≤ len → ∃ (xs : List Value) (l : List α), l.length = k ∧ RowRel τ (allHp w) xs l ∧ (∀ (i : Nat) (x : α), l[i]? = some x → ∃ e, elems[i]? = some e ∧ ok x (B H e.1)) ∧ ∀ j u, xs[j]? = some u → w.cell? ⟨b, off + j, none⟩ = some u := by
        intro k
        induction k with
        | zero => intro _; exact ⟨[], [], rfl, RowRel.nil, by simp, by simp⟩
        | succ k ih =>
          intro hk
          obtain ⟨xs, l, hl, hrr, hok, hcell⟩ := ih (by omega)
          obtain ⟨ci, y, e, he, hci, hcl, hy, hoky⟩ := hex k (by omega)
          refine ⟨xs ++ ci, l ++ [y], by simp [hl], hrr.append (RowRel.one hy), ?_, ?_⟩
          · intro i z hz
            rw [List.getElem?_append] at hz
            split at hz
            · exact hok i z hz
            · rw [List.getElem?_singleton] at hz
              split at hz
              · cases hz
                have : i = k := by omega
                subst this
                exact ⟨e, he, hoky⟩
              · cases hz
          · intro j u hu
            rw [List.getElem?_append] at hu
            split at hu
            · exact hcell j u hu
            · rename_i hj
              have := hci _ _ hu
              rw [Addr.add_lit, Addr.add_lit] at this
              have hx := hrr.1
              rw [hl] at hx
              rw [show off + j = off + k * τ.sz + (j - xs.length) by omega]
              exact this
      obtain ⟨xs, l, hl, hrr, hok, hcell⟩ := build len (Nat.le_refl _)
      have hx0 : 0 < xs.length := by rw [hrr.1, hl]; exact Nat.mul_pos h0 hsz
      have hfirst := hcell 0 xs[0] (List.getElem?_eq_getElem hx0)
      cases hblk : w.heap[b]? with
      | none => simp [World.cell?, hblk] at hfirst
      | some o =>
        cases o with
        | cells arr e fz =>
          refine ⟨l, ⟨_, rfl, xs, hrr, .inr ⟨b, off, cap, arr, e, fz, by rw [hl], by omega, hblk, fun j u hu => ?_⟩⟩, hfin l hl hok, by omega⟩
          have := hcell j u hu
          simpa [World.cell?, hblk] using this
        | _ => simp [World.cell?, hblk] at hfirst
theorem field_readsU {B : ∀ H : Type, DataW H → Nat} {P : Program} {α : Type} {H : Type} {enc : TypeId × Value → H} {w : World} {n : Nat} {fs : Array Field} {cs : List Value} {xs : List (DataW H × List MemPlace)} {f : Field} {τ : Ty α} {ok : α → Nat → Prop}
    (hr : ReadsU B P f.type τ ok n) (hf : ∀ (i : Nat) (f : Field), fs[i]? = some f → DataW.trod enc P w 0 (fun _ => true) true n f.type ((cs.drop f.offset).take (P.cellsOf f.type)) = xs[i]?) (hlen : xs.length = fs.size)
    (i : Nat) (hi : fs[i]? = some f) {o s : Nat} (ho : f.offset = o) (hs : P.cellsOf f.type = s) : ∃ y e, xs[i]? = some e ∧ τ.rel (allHp w) ((cs.drop o).take s) y ∧ ok y (B H e.1) := by
  have h := hf i f hi
  have hl : i < xs.length := by rw [hlen]; exact (Array.getElem?_eq_some_iff.1 hi).1
  rw [List.getElem?_eq_getElem hl, ho, hs] at h
  obtain ⟨y, h1, h2⟩ := hr H enc w _ _ h
  exact ⟨y, _, List.getElem?_eq_getElem hl, h1, h2⟩
theorem vrdU_one {B : ∀ H : Type, DataW H → Nat} {P : Program} {T : TypeId} {α : Type} {τ : Ty α} {ok : α → Nat → Prop} (hs : Single P T) (hr : ∀ f, ReadsU B P T τ ok f) {H : Type} {enc : TypeId × Value → H} {w : World} {v : Value} {d : DataW H} {p : List MemPlace} {r : Reach} {base : Nat}
    (hv : Value.okWide P w r base T v) (h : DataW.Trod enc P w 0 (fun _ => true) true T v d p) : ∃ y, VRd τ false (allHp w) v y ∧ ok y (B H d) := by
  obtain ⟨f, hf⟩ := h
  obtain ⟨y, hy, hok⟩ := hr f H enc w _ _ hf
  refine ⟨y, ⟨v.cells.toList, ?_, hy⟩, hok⟩
  cases v with
  | agg cs => exact (hs w r base cs hv).elim
  | _ => simp [valOf, Value.cells]
theorem sum_get {ns : List Nat} {i k : Nat} (h : ns[i]? = some k) : k ≤ ns.sum := by
  induction ns generalizing i with
  | nil => simp at h
  | cons a ns ih =>
    cases i with
    | zero => simp at h; subst h; simp
    | succ i => have := ih (i := i) (by simpa using h); simp only [List.sum_cons]; omega
end Go.Lx
namespace Go.Proofs
open Go.Shelf
def Try.grow68_ren : Go.Shelf.Ren := ⟨fun | 4 => 68 | n => n, fun | 22 => 23 | 25 => 3 | 3 => 3 | 4 => 4 | 9 => 9 | 20 => 20 | 0 => 0 | n => n, fun | n => n⟩
theorem Try.grow68 : Go.Proofs.Lays8.n4 Try.prog Try.grow68_ren := {
  mixed := by kernel_rfl
  f4 := ⟨Try.f68.name, by decide, Try.func68.trans (congrArg some (by kernel_rfl))⟩
  t0 := Try.underlying0
  a0 := Try.isAgg0
  z0 := Try.sizeOf0
  v0 := Try.zeroValue0
  t3 := Try.underlying3
  a3 := Try.isAgg3
  z3 := Try.sizeOf3
  v3 := Try.zeroValue3
  t4 := Try.underlying4
  a4 := Try.isAgg4
  z4 := Try.sizeOf4
  v4 := Try.zeroValue4
  t9 := Try.underlying9
  a9 := Try.isAgg9
  z9 := Try.sizeOf9
  v9 := Try.zeroValue9
  t20 := Try.underlying20
  a20 := Try.isAgg20
  z20 := Try.sizeOf20
  v20 := Try.zeroValue20
  t22 := Try.underlying23
  a22 := Try.isAgg23
  z22 := Try.sizeOf23
  v22 := Try.zeroValue23 }
def Try.keys45_ren : Go.Shelf.Ren := ⟨fun | 7 => 45 | 10 => 60 | n => n, fun | 23 => 64 | 26 => 3 | 3 => 4 | 28 => 75 | 0 => 0 | 27 => 74 | 33 => 52 | 4 => 4 | n => n, fun | n => n⟩
theorem Try.keys45 : Go.Proofs.SlLaysZI.n7 Try.prog Try.keys45_ren := {
  mixed := by kernel_rfl
  f7 := ⟨Try.f45.name, by decide, Try.func45.trans (congrArg some (by kernel_rfl))⟩
  f10 := ⟨Try.f60.name, by decide, Try.func60.trans (congrArg some (by kernel_rfl))⟩
  t0 := Try.underlying0
  a0 := Try.isAgg0
  z0 := Try.sizeOf0
  v0 := Try.zeroValue0
  t4 := Try.underlying4
  a4 := Try.isAgg4
  z4 := Try.sizeOf4
  v4 := Try.zeroValue4
  t23 := Try.underlying64
  a23 := Try.isAgg64
  z23 := Try.sizeOf64
  v23 := Try.zeroValue64
  t26 := Try.underlying3
  a26 := Try.isAgg3
  z26 := Try.sizeOf3
  v26 := Try.zeroValue3
  t27 := Try.underlying74
  a27 := Try.isAgg74
  z27 := Try.sizeOf74
  v27 := Try.zeroValue74
  t28 := Try.underlying75
  a28 := Try.isAgg75
  z28 := Try.sizeOf75
  v28 := Try.zeroValue75
  t33 := Try.underlying52
  a33 := Try.isAgg52
  z33 := Try.sizeOf52
  v33 := Try.zeroValue52 }
def Try.sorted44_ren : Go.Shelf.Ren := ⟨fun | 6 => 44 | 8 => 58 | 9 => 59 | 11 => 64 | 13 => 66 | 12 => 65 | 23 => 78 | 24 => 79 | 14 => 69 | 15 => 70 | 16 => 71 | 17 => 72 | 18 => 73 | 19 => 74 | 20 => 75 | 21 => 76 | 22 => 77 | 25 => 80 | 26 => 81 | 27 => 82 | 28 => 83 | 29 => 84 | 30 => 85 | 31 => 86 | n => n, fun | 26 => 3 | 28 => 75 | 24 => 23 | 0 => 0 | 3 => 3 | 37 => 97 | 48 => 111 | 50 => 46 | 4 => 4 | 40 => 103 | 39 => 102 | 45 => 108 | 5 => 5 | 9 => 9 | 51 => 113 | 55 => 117 | 57 => 119 | 58 => 120 | 33 => 52 | n => n, fun | n => n⟩
theorem Try.sorted44 : Go.Proofs.SlLaysZI.n6 Try.prog Try.sorted44_ren := {
  mixed := by kernel_rfl
  f6 := ⟨Try.f44.name, by decide, Try.func44.trans (congrArg some (by kernel_rfl))⟩
  f8 := ⟨Try.f58.name, by decide, Try.func58.trans (congrArg some (by kernel_rfl))⟩
  f11 := ⟨Try.f64.name, by decide, Try.func64.trans (congrArg some (by kernel_rfl))⟩
  t0 := Try.underlying0
  a0 := Try.isAgg0
  z0 := Try.sizeOf0
  v0 := Try.zeroValue0
  t24 := Try.underlying23
  a24 := Try.isAgg23
  z24 := Try.sizeOf23
  v24 := Try.zeroValue23
  t26 := Try.underlying3
  a26 := Try.isAgg3
  z26 := Try.sizeOf3
  v26 := Try.zeroValue3
  t28 := Try.underlying75
  a28 := Try.isAgg75
  z28 := Try.sizeOf75
  v28 := Try.zeroValue75
  i26 := by kernel_rfl }
def Try.sort59_ren : Go.Shelf.Ren := ⟨fun | 5 => 59 | 8 => 66 | 7 => 65 | 19 => 78 | 20 => 79 | 10 => 69 | 11 => 70 | 12 => 71 | 13 => 72 | 14 => 73 | 15 => 74 | 16 => 75 | 17 => 76 | 18 => 77 | 30 => 80 | 31 => 81 | 32 => 82 | 33 => 83 | 34 => 84 | 35 => 85 | 40 => 86 | n => n, fun | 23 => 23 | 25 => 3 | 3 => 3 | 32 => 97 | 22 => 23 | 0 => 0 | 44 => 111 | 46 => 46 | 4 => 4 | 36 => 103 | 35 => 102 | 41 => 108 | 5 => 5 | 9 => 9 | 53 => 113 | 57 => 117 | 63 => 119 | 64 => 120 | n => n, fun | n => n⟩
theorem Try.sort59 : Go.Proofs.SlLaysM.n5 Try.prog Try.sort59_ren := {
  mixed := by kernel_rfl
  f5 := ⟨Try.f59.name, by decide, Try.func59.trans (congrArg some (by kernel_rfl))⟩
  f7 := ⟨Try.f65.name, by decide, Try.func65.trans (congrArg some (by kernel_rfl))⟩
  f8 := Try.func66.trans (congrArg some (by kernel_rfl))
  f10 := ⟨Try.f69.name, by decide, Try.func69.trans (congrArg some (by kernel_rfl))⟩
  f11 := ⟨Try.f70.name, by decide, Try.func70.trans (congrArg some (by kernel_rfl))⟩
  f12 := ⟨Try.f71.name, by decide, Try.func71.trans (congrArg some (by kernel_rfl))⟩
  f13 := ⟨Try.f72.name, by decide, Try.func72.trans (congrArg some (by kernel_rfl))⟩
  f14 := ⟨Try.f73.name, by decide, Try.func73.trans (congrArg some (by kernel_rfl))⟩
  f15 := ⟨Try.f74.name, by decide, Try.func74.trans (congrArg some (by kernel_rfl))⟩
  f16 := ⟨Try.f75.name, by decide, Try.func75.trans (congrArg some (by kernel_rfl))⟩
  f17 := ⟨Try.f76.name, by decide, Try.func76.trans (congrArg some (by kernel_rfl))⟩
  f18 := ⟨Try.f77.name, by decide, Try.func77.trans (congrArg some (by kernel_rfl))⟩
  f19 := Try.func78.trans (congrArg some (by kernel_rfl))
  f20 := Try.func79.trans (congrArg some (by kernel_rfl))
  f30 := ⟨Try.f80.name, by decide, Try.func80.trans (congrArg some (by kernel_rfl))⟩
  f31 := Try.func81.trans (congrArg some (by kernel_rfl))
  f32 := Try.func82.trans (congrArg some (by kernel_rfl))
  f33 := ⟨Try.f83.name, by decide, Try.func83.trans (congrArg some (by kernel_rfl))⟩
  f34 := ⟨Try.f84.name, by decide, Try.func84.trans (congrArg some (by kernel_rfl))⟩
  f35 := ⟨Try.f85.name, by decide, Try.func85.trans (congrArg some (by kernel_rfl))⟩
  f40 := ⟨Try.f86.name, by decide, Try.func86.trans (congrArg some (by kernel_rfl))⟩
  t0 := Try.underlying0
  a0 := Try.isAgg0
  z0 := Try.sizeOf0
  v0 := Try.zeroValue0
  t3 := Try.underlying3
  a3 := Try.isAgg3
  z3 := Try.sizeOf3
  v3 := Try.zeroValue3
  t4 := Try.underlying4
  a4 := Try.isAgg4
  z4 := Try.sizeOf4
  v4 := Try.zeroValue4
  t5 := Try.underlying5
  a5 := Try.isAgg5
  z5 := Try.sizeOf5
  v5 := Try.zeroValue5
  t9 := Try.underlying9
  a9 := Try.isAgg9
  z9 := Try.sizeOf9
  v9 := Try.zeroValue9
  t22 := Try.underlying23
  a22 := Try.isAgg23
  z22 := Try.sizeOf23
  v22 := Try.zeroValue23
  t23 := Try.underlying23
  a23 := Try.isAgg23
  z23 := Try.sizeOf23
  v23 := Try.zeroValue23
  t25 := Try.underlying3
  a25 := Try.isAgg3
  z25 := Try.sizeOf3
  v25 := Try.zeroValue3
  t32 := Try.underlying97
  a32 := Try.isAgg97
  z32 := Try.sizeOf97
  v32 := Try.zeroValue97
  t35 := Try.underlying102
  a35 := Try.isAgg102
  z35 := Try.sizeOf102
  v35 := Try.zeroValue102
  t36 := Try.underlying103
  a36 := Try.isAgg103
  z36 := Try.sizeOf103
  v36 := Try.zeroValue103
  t41 := Try.underlying108
  a41 := Try.isAgg108
  z41 := Try.sizeOf108
  v41 := Try.zeroValue108
  t44 := Try.underlying111
  a44 := Try.isAgg111
  z44 := Try.sizeOf111
  v44 := Try.zeroValue111
  t46 := Try.underlying46
  a46 := Try.isAgg46
  z46 := Try.sizeOf46
  v46 := Try.zeroValue46
  t53 := Try.underlying113
  a53 := Try.isAgg113
  z53 := Try.sizeOf113
  v53 := Try.zeroValue113
  t57 := Try.underlying117
  a57 := Try.isAgg117
  z57 := Try.sizeOf117
  v57 := Try.zeroValue117
  t63 := Try.underlying119
  a63 := Try.isAgg119
  z63 := Try.sizeOf119
  v63 := Try.zeroValue119
  t64 := Try.underlying120
  a64 := Try.isAgg120
  z64 := Try.sizeOf120
  v64 := Try.zeroValue120 }
end Go.Proofs
set_option linter.unusedVariables false
set_option linter.unusedSimpArgs false
namespace Go.Proofs.Ytajmekjcnbmaaaa
open Go.Lx Go.RowKit
structure T_Regex where
  Kind : Int
  Set : (Vec 4)
  Kids : (List T_Regex)
instance : Inhabited T_Regex := ⟨⟨default, Vec.zero 4, []⟩⟩
structure T_nfa_builder where
  sets : (List (Vec 4))
  behind : (List (List (Int × Bool)))
instance : DecidableEq T_nfa_builder := fun a b => if h : a.sets = b.sets ∧ a.behind = b.behind then isTrue (by cases a; cases b; simp_all) else isFalse (by intro e; subst e; simp at h)
structure T_nfa_part where
  nullable : Bool
  first : (List Int)
  last : (List Int)
instance : DecidableEq T_nfa_part := fun a b => if h : a.nullable = b.nullable ∧ a.first = b.first ∧ a.last = b.last then isTrue (by cases a; cases b; simp_all) else isFalse (by intro e; subst e; simp at h)
structure T_NFAArc where
  From : Int
  To : Int
  Epsilon : Bool
  Set : (Vec 4)
instance : DecidableEq T_NFAArc := fun a b => if h : a.From = b.From ∧ a.To = b.To ∧ a.Epsilon = b.Epsilon ∧ a.Set = b.Set then isTrue (by cases a; cases b; simp_all) else isFalse (by intro e; subst e; simp at h)
structure T_NFA where
  States : Int
  Start : Int
  Arcs : (List T_NFAArc)
  Accept : (List Int)
instance : DecidableEq T_NFA := fun a b => if h : a.States = b.States ∧ a.Start = b.Start ∧ a.Arcs = b.Arcs ∧ a.Accept = b.Accept then isTrue (by cases a; cases b; simp_all) else isFalse (by intro e; subst e; simp at h)
structure T_ref09_builder where
  sets : (List (Vec 4))
  pairs : (List (Vec 2))
instance : DecidableEq T_ref09_builder := fun a b => if h : a.sets = b.sets ∧ a.pairs = b.pairs then isTrue (by cases a; cases b; simp_all) else isFalse (by intro e; subst e; simp at h)
structure T_ref09_part where
  nullable : Bool
  first : (List Int)
  last : (List Int)
instance : DecidableEq T_ref09_part := fun a b => if h : a.nullable = b.nullable ∧ a.first = b.first ∧ a.last = b.last then isTrue (by cases a; cases b; simp_all) else isFalse (by intro e; subst e; simp at h)
def tT_RegexF (τ : Ty T_Regex) : Ty T_Regex := ⟨6, fun g cs x => ∃ c0 c1 c2, cs = c0 ++ (c1 ++ (c2)) ∧ (tInt .i64).rel g c0 x.Kind ∧ (tVec 4 .u64).rel g c1 x.Set ∧ (tSl τ).rel g c2 x.Kids,
  fun hg ⟨c0, c1, c2, e, h0, h1, h2⟩ => ⟨c0, c1, c2, e, (tInt .i64).mono hg h0, (tVec 4 .u64).mono hg h1, (tSl τ).mono hg h2⟩,
  fun ⟨_, _, _, e, h0, h1, h2⟩ => by rw [e]; simp [(tInt .i64).len h0, (tVec 4 .u64).len h1, (tSl τ).len h2, tInt, tSl, tVec],
  fun ⟨_, _, _, e, h0, h1, h2⟩ v hv => by
    subst e; simp only [List.mem_append] at hv; rcases hv with hv | hv | hv
    · exact (tInt .i64).one h0 v hv
    · exact (tVec 4 .u64).one h1 v hv
    · exact (tSl τ).one h2 v hv⟩
def tT_RegexR : TyFun T_Regex := ⟨6, tT_RegexF, fun _ => rfl, fun ha hb h _ _ hh => by obtain ⟨c0, c1, c2, e, h0, h1, h2⟩ := hh; exact ⟨c0, c1, c2, e, h0, h1, tSl_imp (ha.trans hb.symm) h h2⟩⟩
def tT_Regex : Ty T_Regex := ⟨6, fun g cs x => ∃ n, (tT_RegexR.iter n).rel g cs x, fun hg h => tT_RegexR.fix_mono hg h, fun h => tT_RegexR.fix_len h, fun h => tT_RegexR.fix_one h⟩
theorem tT_Regex_iff {g : Hp} {cs : List Value} {x : T_Regex} : tT_Regex.rel g cs x ↔ (tT_RegexF tT_Regex).rel g cs x := by
  constructor
  · rintro ⟨n, h⟩
    cases n with
    | zero => exact h.elim
    | succ n => exact tT_RegexR.mono (τ := tT_RegexR.iter n) (τ' := tT_Regex) (tT_RegexR.iter_sz n) rfl (fun _ _ h => ⟨n, h⟩) _ _ h
  · rintro ⟨c0, c1, c2, e, h0, h1, h2⟩
    obtain ⟨n2, h2⟩ := tT_RegexR.sup (fix := tT_Regex) (fun _ _ _ h => h) rfl h2
    exact ⟨n2 + 1, c0, c1, c2, e, h0, h1, tT_RegexR.leSl (Nat.le_refl _) h2⟩
def tT_nfa_part : Ty T_nfa_part := ⟨3, fun g cs x => ∃ c0 c1 c2, cs = c0 ++ (c1 ++ (c2)) ∧ tBool.rel g c0 x.nullable ∧ (tSl (tInt .i64)).rel g c1 x.first ∧ (tSl (tInt .i64)).rel g c2 x.last,
  fun hg ⟨c0, c1, c2, e, h0, h1, h2⟩ => ⟨c0, c1, c2, e, tBool.mono hg h0, (tSl (tInt .i64)).mono hg h1, (tSl (tInt .i64)).mono hg h2⟩,
  fun ⟨_, _, _, e, h0, h1, h2⟩ => by rw [e]; simp [tBool.len h0, (tSl (tInt .i64)).len h1, (tSl (tInt .i64)).len h2, tBool, tSl],
  fun ⟨_, _, _, e, h0, h1, h2⟩ v hv => by
    subst e; simp only [List.mem_append] at hv; rcases hv with hv | hv | hv
    · exact tBool.one h0 v hv
    · exact (tSl (tInt .i64)).one h1 v hv
    · exact (tSl (tInt .i64)).one h2 v hv⟩
def tT_NFAArc : Ty T_NFAArc := ⟨7, fun g cs x => ∃ c0 c1 c2 c3, cs = c0 ++ (c1 ++ (c2 ++ (c3))) ∧ (tInt .i64).rel g c0 x.From ∧ (tInt .i64).rel g c1 x.To ∧ tBool.rel g c2 x.Epsilon ∧ (tVec 4 .u64).rel g c3 x.Set,
  fun hg ⟨c0, c1, c2, c3, e, h0, h1, h2, h3⟩ => ⟨c0, c1, c2, c3, e, (tInt .i64).mono hg h0, (tInt .i64).mono hg h1, tBool.mono hg h2, (tVec 4 .u64).mono hg h3⟩,
  fun ⟨_, _, _, _, e, h0, h1, h2, h3⟩ => by rw [e]; simp [(tInt .i64).len h0, (tInt .i64).len h1, tBool.len h2, (tVec 4 .u64).len h3, tBool, tInt, tVec],
  fun ⟨_, _, _, _, e, h0, h1, h2, h3⟩ v hv => by
    subst e; simp only [List.mem_append] at hv; rcases hv with hv | hv | hv | hv
    · exact (tInt .i64).one h0 v hv
    · exact (tInt .i64).one h1 v hv
    · exact tBool.one h2 v hv
    · exact (tVec 4 .u64).one h3 v hv⟩
def tT_NFA : Ty T_NFA := ⟨4, fun g cs x => ∃ c0 c1 c2 c3, cs = c0 ++ (c1 ++ (c2 ++ (c3))) ∧ (tInt .i64).rel g c0 x.States ∧ (tInt .i64).rel g c1 x.Start ∧ (tSl tT_NFAArc).rel g c2 x.Arcs ∧ (tSl (tInt .i64)).rel g c3 x.Accept,
  fun hg ⟨c0, c1, c2, c3, e, h0, h1, h2, h3⟩ => ⟨c0, c1, c2, c3, e, (tInt .i64).mono hg h0, (tInt .i64).mono hg h1, (tSl tT_NFAArc).mono hg h2, (tSl (tInt .i64)).mono hg h3⟩,
  fun ⟨_, _, _, _, e, h0, h1, h2, h3⟩ => by rw [e]; simp [(tInt .i64).len h0, (tInt .i64).len h1, (tSl tT_NFAArc).len h2, (tSl (tInt .i64)).len h3, tInt, tSl],
  fun ⟨_, _, _, _, e, h0, h1, h2, h3⟩ v hv => by
    subst e; simp only [List.mem_append] at hv; rcases hv with hv | hv | hv | hv
    · exact (tInt .i64).one h0 v hv
    · exact (tInt .i64).one h1 v hv
    · exact (tSl tT_NFAArc).one h2 v hv
    · exact (tSl (tInt .i64)).one h3 v hv⟩
def tT_ref09_part : Ty T_ref09_part := ⟨3, fun g cs x => ∃ c0 c1 c2, cs = c0 ++ (c1 ++ (c2)) ∧ tBool.rel g c0 x.nullable ∧ (tSl (tInt .i64)).rel g c1 x.first ∧ (tSl (tInt .i64)).rel g c2 x.last,
  fun hg ⟨c0, c1, c2, e, h0, h1, h2⟩ => ⟨c0, c1, c2, e, tBool.mono hg h0, (tSl (tInt .i64)).mono hg h1, (tSl (tInt .i64)).mono hg h2⟩,
  fun ⟨_, _, _, e, h0, h1, h2⟩ => by rw [e]; simp [tBool.len h0, (tSl (tInt .i64)).len h1, (tSl (tInt .i64)).len h2, tBool, tSl],
  fun ⟨_, _, _, e, h0, h1, h2⟩ v hv => by
    subst e; simp only [List.mem_append] at hv; rcases hv with hv | hv | hv
    · exact tBool.one h0 v hv
    · exact (tSl (tInt .i64)).one h1 v hv
    · exact (tSl (tInt .i64)).one h2 v hv⟩
def M.law09_set (b1 : Int) : Option T_Regex :=
 (quoM .u8 b1 64).bind fun t1 =>
 (remM b1 64).bind fun t2 =>
 (shlM .u64 1 t2).bind fun t3 =>
 (vset (Vec.zero 4) t1 t3).bind fun s1 =>
 some (T_Regex.mk 3 s1 [])
def M.regex_valid : Nat → T_Regex → Int → Option Bool
| 0, _, _ => none
| fl + 1, rv1, depth1 =>
 (
  bif (depth1 == 0) then
   some true
  else
   some ((rv1.Kind == 3) == (rv1.Set == (Vec.zero 4)))).bind fun (xv1 : Bool) =>
 bif xv1 then
  some false
 else
  bindStep (
   (
    bif (rv1.Kind == 1) then
     some (rv1.Kind == 1)
    else
     bif (rv1.Kind == 2) then
      some (rv1.Kind == 2)
     else
      some (rv1.Kind == 3)).bind fun (xv4 : Bool) =>
   bif xv4 then
    some (.next ((0 : Int), (0 : Int)))
   else
    (
     bif (rv1.Kind == 4) then
      some (rv1.Kind == 4)
     else
      some (rv1.Kind == 5)).bind fun (xv5 : Bool) =>
    bif xv5 then
     some (.next ((2 : Int), (rv1.Kids.length : Int)))
    else
     bif (rv1.Kind == 6) then
      some (.next ((1 : Int), (1 : Int)))
     else
      some (.stop false)) fun (least1, most1) =>
  (
   bif (decide ((rv1.Kids.length : Int) < least1)) then
    some true
   else
    some (decide (most1 < (rv1.Kids.length : Int)))).bind fun (xv6 : Bool) =>
  bif xv6 then
   some false
  else
   bindStep (
    loopM (fun (xv11 : Int) =>
     bif (decide (xv11 < (rv1.Kids.length : Int))) then
      (idxL rv1.Kids xv11).bind fun e6 =>
      (chk .i64 (depth1 - 1)).bind fun t11 =>
      (M.regex_valid fl e6 t11).bind fun rv7 =>
      bif (!rv7) then
       some (.stop (.stop false))
      else
       (chk .i64 (xv11 + 1)).bind fun t12 =>
       some (.next t12)
     else
      some (.stop (.next ()))) fuel (0 : Int)) fun _ =>
   some true
def M.regex_Valid (rv1 : T_Regex) : Option Bool :=
 (M.regex_valid fuel rv1 30).bind fun rv2 =>
 some rv2
def M.nfa_nodes : Nat → T_Regex → Option Int
| 0, _ => none
| fl + 1, rv1 =>
 (
  loopM (fun (st9 : Int × Int) => match st9 with
  | (nv6, xv5) =>
   bif (decide (xv5 < (rv1.Kids.length : Int))) then
    (idxL rv1.Kids xv5).bind fun e6 =>
    (M.nfa_nodes fl e6).bind fun rv7 =>
    (chk .i64 (nv6 + rv7)).bind fun t11 =>
    (chk .i64 (xv5 + 1)).bind fun t12 =>
    some (.next (t11, t12))
   else
    some (.stop nv6)) fuel ((1 : Int), (0 : Int))).bind fun (nv4 : Int) =>
 some nv4
def M.nfa_builder_none (b1 : T_nfa_builder) (rv1 : T_Regex) : Option (T_nfa_part × T_nfa_builder) :=
 some ((T_nfa_part.mk false [] []), b1)
def M.nfa_builder_empty (b1 : T_nfa_builder) (rv1 : T_Regex) : Option (T_nfa_part × T_nfa_builder) :=
 some ((T_nfa_part.mk true [] []), b1)
def M.nfa_builder_set (b1 : T_nfa_builder) (rv1 : T_Regex) : Option (T_nfa_part × T_nfa_builder) :=
 (appM 32 b1.sets [rv1.Set]).bind fun y1 =>
 (appM 8 b1.behind [[]]).bind fun y2 =>
 some ((T_nfa_part.mk false [(y1.length : Int)] [(y1.length : Int)]), (T_nfa_builder.mk y1 y2))
def M.nfa_builder_link (b1 : T_nfa_builder) (fromv1 : (List Int)) (tov1 : (List Int)) : Option T_nfa_builder :=
 loopM (fun (st9 : (List (List (Int × Bool))) × Int) => match st9 with
 | (xv16, xv17) =>
  bif (decide (xv17 < (fromv1.length : Int))) then
   (
    (idxL fromv1 xv17).bind fun e36 =>
    loopM (fun (st9 : (List (List (Int × Bool))) × Int) => match st9 with
    | (xv42, xv43) =>
     bif (decide (xv43 < (tov1.length : Int))) then
      (idxL tov1 xv43).bind fun e41 =>
      (idxL xv42 e36).bind fun e42 =>
      (setL xv42 e36 (mset e42 e41 true)).bind fun y18 =>
      (chk .i64 (xv43 + 1)).bind fun t20 =>
      some (.next (y18, t20))
     else
      some (.stop xv42)) fuel (xv16, (0 : Int))).bind fun (xv39 : (List (List (Int × Bool)))) =>
   (chk .i64 (xv17 + 1)).bind fun t21 =>
   some (.next (xv39, t21))
  else
   some (.stop (T_nfa_builder.mk b1.sets xv16))) fuel (b1.behind, (0 : Int))
def M.slices_Grow_int_int (l : List Int) (n : Int) : Option (List Int) := growM l n
def M.slices_Concat_int_int (slices1 : (List (List Int))) : Option (List Int) :=
 (
  loopM (fun (st9 : Int × Int) => match st9 with
  | (size10, xv5) =>
   bif (decide (xv5 < (slices1.length : Int))) then
    (
     (idxL slices1 xv5).bind fun e12 =>
     (chk .i64 (size10 + (e12.length : Int))).bind fun t17 =>
     bif (decide (t17 < 0)) then
      none
     else
      some t17).bind fun (size13 : Int) =>
    (chk .i64 (xv5 + 1)).bind fun t18 =>
    some (.next (size13, t18))
   else
    some (.stop size10)) fuel ((0 : Int), (0 : Int))).bind fun (size7 : Int) =>
 (M.slices_Grow_int_int [] size7).bind fun newslice1 =>
 (
  loopM (fun (st9 : (List Int) × Int) => match st9 with
  | (newslice11, xv11) =>
   bif (decide (xv11 < (slices1.length : Int))) then
    (idxL slices1 xv11).bind fun e18 =>
    (appM 8 newslice11 e18).bind fun newslice14 =>
    (chk .i64 (xv11 + 1)).bind fun t24 =>
    some (.next (newslice14, t24))
   else
    some (.stop newslice11)) fuel (newslice1, (0 : Int))).bind fun (newslice8 : (List Int)) =>
 some newslice8
mutual
def M.nfa_builder_concat : Nat → T_nfa_builder → T_Regex → Option (T_nfa_part × T_nfa_builder)
| 0, _, _ => none
| fl + 1, b1, rv1 =>
 (
  loopM (fun (st9 : (List (Vec 4)) × (List (List (Int × Bool))) × Bool × (List Int) × (List Int) × Int) => match st9 with
  | (xv38, xv39, xv40, xv41, xv42, xv43) =>
   bif (decide (xv43 < (rv1.Kids.length : Int))) then
    (idxL rv1.Kids xv43).bind fun e6 =>
    (M.nfa_builder_expr fl (T_nfa_builder.mk xv38 xv39) e6).bind fun rv32 =>
    (M.nfa_builder_link rv32.2 xv42 rv32.1.first).bind fun rv33 =>
    (
     bif xv40 then
      (M.slices_Concat_int_int [xv41, rv32.1.first]).bind fun rv35 =>
      some rv35
     else
      some xv41).bind fun (xv52 : (List Int)) =>
    (
     bif rv32.1.nullable then
      (M.slices_Concat_int_int [xv42, rv32.1.last]).bind fun rv37 =>
      some rv37
     else
      some rv32.1.last).bind fun (xv53 : (List Int)) =>
    bif xv40 then
     (chk .i64 (xv43 + 1)).bind fun t9 =>
     some (.next (rv33.sets, rv33.behind, rv32.1.nullable, xv52, xv53, t9))
    else
     (chk .i64 (xv43 + 1)).bind fun t10 =>
     some (.next (rv33.sets, rv33.behind, false, xv52, xv53, t10))
   else
    some (.stop (xv40, xv41, xv42, xv38, xv39))) fuel (b1.sets, b1.behind, true, ([] : (List Int)), ([] : (List Int)), (0 : Int))).bind fun (xv25, xv26, xv27, xv28, xv29) =>
 some ((T_nfa_part.mk xv25 xv26 xv27), (T_nfa_builder.mk xv28 xv29))
def M.nfa_builder_union : Nat → T_nfa_builder → T_Regex → Option (T_nfa_part × T_nfa_builder)
| 0, _, _ => none
| fl + 1, b1, rv1 =>
 (
  loopM (fun (st9 : (List (Vec 4)) × (List (List (Int × Bool))) × Bool × (List Int) × (List Int) × Int) => match st9 with
  | (xv30, xv31, xv32, xv33, xv34, xv35) =>
   bif (decide (xv35 < (rv1.Kids.length : Int))) then
    (idxL rv1.Kids xv35).bind fun e6 =>
    (M.nfa_builder_expr fl (T_nfa_builder.mk xv30 xv31) e6).bind fun rv23 =>
    bif xv32 then
     (M.slices_Concat_int_int [xv33, rv23.1.first]).bind fun rv24 =>
     (M.slices_Concat_int_int [xv34, rv23.1.last]).bind fun rv25 =>
     (chk .i64 (xv35 + 1)).bind fun t9 =>
     some (.next (rv23.2.sets, rv23.2.behind, true, rv24, rv25, t9))
    else
     (M.slices_Concat_int_int [xv33, rv23.1.first]).bind fun rv26 =>
     (M.slices_Concat_int_int [xv34, rv23.1.last]).bind fun rv27 =>
     (chk .i64 (xv35 + 1)).bind fun t10 =>
     some (.next (rv23.2.sets, rv23.2.behind, rv23.1.nullable, rv26, rv27, t10))
   else
    some (.stop (xv32, xv33, xv34, xv30, xv31))) fuel (b1.sets, b1.behind, false, ([] : (List Int)), ([] : (List Int)), (0 : Int))).bind fun (xv19, xv20, xv21, xv22, xv23) =>
 some ((T_nfa_part.mk xv19 xv20 xv21), (T_nfa_builder.mk xv22 xv23))
def M.nfa_builder_star : Nat → T_nfa_builder → T_Regex → Option (T_nfa_part × T_nfa_builder)
| 0, _, _ => none
| fl + 1, b1, rv1 =>
 (idxL rv1.Kids 0).bind fun e1 =>
 (M.nfa_builder_expr fl b1 e1).bind fun rv2 =>
 (M.nfa_builder_link rv2.2 rv2.1.last rv2.1.first).bind fun rv3 =>
 some ((T_nfa_part.mk true rv2.1.first rv2.1.last), rv3)
def M.nfa_builder_expr : Nat → T_nfa_builder → T_Regex → Option (T_nfa_part × T_nfa_builder)
| 0, _, _ => none
| fl + 1, b1, rv1 =>
 bif (rv1.Kind == 6) then
  (M.nfa_builder_star fl b1 rv1).bind fun rv2 =>
  some (rv2.1, rv2.2)
 else
  bif (rv1.Kind == 5) then
   (M.nfa_builder_union fl b1 rv1).bind fun rv3 =>
   some (rv3.1, rv3.2)
  else
   bif (rv1.Kind == 4) then
    (M.nfa_builder_concat fl b1 rv1).bind fun rv4 =>
    some (rv4.1, rv4.2)
   else
    bif (rv1.Kind == 3) then
     (M.nfa_builder_set b1 rv1).bind fun rv5 =>
     some (rv5.1, rv5.2)
    else
     bif (rv1.Kind == 2) then
      (M.nfa_builder_empty b1 rv1).bind fun rv6 =>
      some (rv6.1, rv6.2)
     else
      bif (rv1.Kind == 1) then
       (M.nfa_builder_none b1 rv1).bind fun rv7 =>
       some (rv7.1, rv7.2)
      else
       none
end
def M.nfa_FromRegexes (p1 : (List T_Regex)) : Option (T_NFA × Int) :=
 bindStep (
  loopM (fun (st9 : Int × Int) => match st9 with
  | (xv10, xv11) =>
   bif (decide (xv11 < (p1.length : Int))) then
    (idxL p1 xv11).bind fun e6 =>
    (M.regex_Valid e6).bind fun rv11 =>
    bif (!rv11) then
     some (.stop (.stop ((T_NFA.mk 0 0 [] []), 1)))
    else
     (M.nfa_nodes fuel e6).bind fun rv12 =>
     (chk .i64 (xv10 + rv12)).bind fun t11 =>
     (chk .i64 (xv11 + 1)).bind fun t12 =>
     some (.next (t11, t12))
   else
    some (.stop (.next xv10))) fuel ((0 : Int), (0 : Int))) fun (xv7 : Int) =>
 bif (decide (500 < xv7)) then
  some ((T_NFA.mk 0 0 [] []), 11)
 else
  (
   loopM (fun (st9 : (List (Vec 4)) × (List (List (Int × Bool))) × (List Int) × Int) => match st9 with
   | (xv209, xv210, xv211, xv212) =>
    bif (decide (xv212 < (p1.length : Int))) then
     (
      (idxL p1 xv212).bind fun e106 =>
      (M.nfa_builder_expr fuel (T_nfa_builder.mk xv209 xv210) e106).bind fun rv35 =>
      (M.nfa_builder_link rv35.2 [0] rv35.1.first).bind fun rv36 =>
      (
       loopM (fun (xv289 : (List Int)) =>
        bif (decide ((xv289.length : Int) ≤ (rv36.sets.length : Int))) then
         (appM 8 xv289 [(-1)]).bind fun y155 =>
         some (.next y155)
        else
         some (.stop xv289)) fuel xv211).bind fun (xv287 : (List Int)) =>
      (
       loopM (fun (st9 : (List Int) × Int) => match st9 with
       | (xv300, xv301) =>
        bif (decide (xv301 < (rv35.1.last.length : Int))) then
         (idxL rv35.1.last xv301).bind fun e112 =>
         (setL xv300 e112 xv212).bind fun y161 =>
         (chk .i64 (xv301 + 1)).bind fun t89 =>
         some (.next (y161, t89))
        else
         some (.stop xv300)) fuel (xv287, (0 : Int))).bind fun (xv297 : (List Int)) =>
      (
       bif rv35.1.nullable then
        (idxL xv297 0).bind fun e114 =>
        some (decide (e114 < 0))
       else
        some false).bind fun (xv304 : Bool) =>
      bif xv304 then
       (setL xv297 0 xv212).bind fun y162 =>
       some (rv36.sets, rv36.behind, y162)
      else
       some (rv36.sets, rv36.behind, xv297)).bind fun (xv282, xv283, y149) =>
     (chk .i64 (xv212 + 1)).bind fun t90 =>
     some (.next (xv282, xv283, y149, t90))
    else
     some (.stop (xv209, xv210, xv211))) fuel (([] : (List (Vec 4))), ([[]] : (List (List (Int × Bool)))), ([(-1)] : (List Int)), (0 : Int))).bind fun (xv158, xv159, xv160) =>
  (
   loopM (fun (st9 : (List T_NFAArc) × Int) => match st9 with
   | (xv366, xv367) =>
    bif (decide (xv367 < (xv159.length : Int))) then
     (
      (idxL xv159 xv367).bind fun e192 =>
      (keysM e192).bind fun l12 =>
      loopM (fun (st9 : (List T_NFAArc) × Int) => match st9 with
      | (xv392, xv393) =>
       bif (decide (xv393 < (l12.length : Int))) then
        (idxL l12 xv393).bind fun e197 =>
        (chk .i64 (e197 - 1)).bind fun t166 =>
        (idxL xv158 t166).bind fun e198 =>
        (appM 56 xv392 [(T_NFAArc.mk xv367 e197 false e198)]).bind fun y198 =>
        (chk .i64 (xv393 + 1)).bind fun t167 =>
        some (.next (y198, t167))
       else
        some (.stop xv392)) fuel (xv366, (0 : Int))).bind fun (xv389 : (List T_NFAArc)) =>
     (chk .i64 (xv367 + 1)).bind fun t168 =>
     some (.next (xv389, t168))
    else
     some (.stop xv366)) fuel (([] : (List T_NFAArc)), (0 : Int))).bind fun (xv350 : (List T_NFAArc)) =>
  some ((T_NFA.mk (xv160.length : Int) 0 xv350 xv160), 0)
def M.nfa_Valid_1 (s1 : Int) (c1 : T_NFA) : Option Bool :=
 (
  bif (decide (0 ≤ s1)) then
   some (decide (s1 < c1.States))
  else
   some false).bind fun (xv1 : Bool) =>
 some xv1
def M.slices_IndexFunc_int_int (s1 : (List Int)) (f1 : (Int → Option Bool)) : Option Int :=
 bindStep (
  loopM (fun (xv5 : Int) =>
   bif (decide (xv5 < (s1.length : Int))) then
    (idxL s1 xv5).bind fun e6 =>
    (f1 e6).bind fun rv6 =>
    bif rv6 then
     some (.stop (.stop xv5))
    else
     (chk .i64 (xv5 + 1)).bind fun t6 =>
     some (.next t6)
   else
    some (.stop (.next ()))) fuel (0 : Int)) fun _ =>
 some (-1)
def M.slices_ContainsFunc_int_int (s1 : (List Int)) (f1 : (Int → Option Bool)) : Option Bool :=
 (M.slices_IndexFunc_int_int s1 f1).bind fun rv1 =>
 some (decide (0 ≤ rv1))
def M.nfa_Valid_2 (xv1 : Int) : Option Bool :=
 some (decide (xv1 < (-1)))
def M.nfa_Valid (nv1 : T_NFA) : Option Bool :=
 (
  bif (decide (nv1.States < 1)) then
   some true
  else
   bif (decide (2000 < nv1.States)) then
    some true
   else
    (M.nfa_Valid_1 nv1.Start nv1).bind fun rv2 =>
    bif (!rv2) then
     some true
    else
     some ((nv1.Accept.length : Int) != nv1.States)).bind fun (xv1 : Bool) =>
 bif xv1 then
  some false
 else
  bindStep (
   loopM (fun (xv10 : Int) =>
    bif (decide (xv10 < (nv1.Arcs.length : Int))) then
     (idxL nv1.Arcs xv10).bind fun e6 =>
     (
      (M.nfa_Valid_1 e6.From nv1).bind fun rv25 =>
      bif (!rv25) then
       some true
      else
       (M.nfa_Valid_1 e6.To nv1).bind fun rv26 =>
       bif (!rv26) then
        some true
       else
        bif e6.Epsilon then
         some (e6.Set != (Vec.zero 4))
        else
         some false).bind fun (xv13 : Bool) =>
     bif xv13 then
      some (.stop (.stop false))
     else
      (chk .i64 (xv10 + 1)).bind fun t6 =>
      some (.next t6)
    else
     some (.stop (.next ()))) fuel (0 : Int)) fun _ =>
  (M.slices_ContainsFunc_int_int nv1.Accept M.nfa_Valid_2).bind fun rv27 =>
  some (!rv27)
def M.nfa_Closure_1 (s1 : Int) (c1 : T_NFA) (c2 : (List Bool)) (c3 : (List Int)) : Option ((List Bool) × (List Int)) :=
 (
  bif (decide (0 ≤ s1)) then
   bif (decide (s1 < c1.States)) then
    (idxL c2 s1).bind fun e2 =>
    some (!e2)
   else
    some false
  else
   some false).bind fun (xv1 : Bool) =>
 bif xv1 then
  (setL c2 s1 true).bind fun y1 =>
  (appM 8 c3 [s1]).bind fun y2 =>
  some (y1, y2)
 else
  some (c2, c3)
def M.nfa_sorted (is1 : (List Bool)) : Option (List Int) :=
 (
  loopM (fun (st9 : (List Int) × Int) => match st9 with
  | (xv10, xv11) =>
   bif (decide (xv11 < (is1.length : Int))) then
    (
     (idxL is1 xv11).bind fun e12 =>
     bif e12 then
      (appM 8 xv10 [xv11]).bind fun l12 =>
      some l12
     else
      some xv10).bind fun (l11 : (List Int)) =>
    (chk .i64 (xv11 + 1)).bind fun t6 =>
    some (.next (l11, t6))
   else
    some (.stop xv10)) fuel (([] : (List Int)), (0 : Int))).bind fun (xv7 : (List Int)) =>
 some xv7
def M.nfa_Closure (nv1 : T_NFA) (states1 : (List Int)) : Option (List Int) :=
 (mkM 1 nv1.States (false : Bool)).bind fun l1 =>
 (
  loopM (fun (st9 : (List Bool) × (List Int) × Int) => match st9 with
  | (l7, xv10, xv11) =>
   bif (decide (xv11 < (states1.length : Int))) then
    (idxL states1 xv11).bind fun e6 =>
    (M.nfa_Closure_1 e6 nv1 l7 xv10).bind fun rv6 =>
    (chk .i64 (xv11 + 1)).bind fun t6 =>
    some (.next (rv6.1, rv6.2, t6))
   else
    some (.stop (l7, xv10))) fuel (l1, ([] : (List Int)), (0 : Int))).bind fun (l5, xv7) =>
 (
  loopM (fun (st9 : (List Bool) × (List Int)) => match st9 with
  | (l42, xv78) =>
   bif (decide (0 < (xv78.length : Int))) then
    (chk .i64 ((xv78.length : Int) - 1)).bind fun t27 =>
    (idxL xv78 t27).bind fun e42 =>
    (subL xv78 0 t27).bind fun l51 =>
    loopM (fun (st9 : (List Bool) × (List Int) × Int) => match st9 with
    | (l54, l55, xv100) =>
     bif (decide (xv100 < (nv1.Arcs.length : Int))) then
      (
       (idxL nv1.Arcs xv100).bind fun e48 =>
       (
        bif e48.Epsilon then
         some (e48.From == e42)
        else
         some false).bind fun (xv109 : Bool) =>
       bif xv109 then
        (M.nfa_Closure_1 e48.To nv1 l54 l55).bind fun rv42 =>
        some (rv42.1, rv42.2)
       else
        some (l54, l55)).bind fun (xv107, xv108) =>
      (chk .i64 (xv100 + 1)).bind fun t30 =>
      some (.next (xv107, xv108, t30))
     else
      some (.stop (.next (l54, l55)))) fuel (l42, l51, (0 : Int))
   else
    some (.stop l42)) fuel (l5, xv7)).bind fun (l33 : (List Bool)) =>
 (M.nfa_sorted l33).bind fun rv43 =>
 some rv43
def M.byteset_Has (s1 : (Vec 4)) (b1 : Int) : Option Bool :=
 (quoM .u8 b1 64).bind fun t1 =>
 (vget s1 t1).bind fun c1 =>
 (remM b1 64).bind fun t2 =>
 (shrM .u64 c1 t2).bind fun t3 =>
 some ((bits .and .u64 t3 1) == 1)
def M.nfa_Step (nv1 : T_NFA) (states1 : (List Int)) (b1 : Int) : Option (List Int) :=
 (mkM 1 nv1.States (false : Bool)).bind fun fromv1 =>
 (
  (M.nfa_Closure nv1 states1).bind fun rv2 =>
  loopM (fun (st9 : (List Bool) × Int) => match st9 with
  | (fromv11, xv5) =>
   bif (decide (xv5 < (rv2.length : Int))) then
    (idxL rv2 xv5).bind fun e6 =>
    (setL fromv11 e6 true).bind fun fromv14 =>
    (chk .i64 (xv5 + 1)).bind fun t6 =>
    some (.next (fromv14, t6))
   else
    some (.stop fromv11)) fuel (fromv1, (0 : Int))).bind fun (fromv8 : (List Bool)) =>
 (
  loopM (fun (st9 : (List Int) × Int) => match st9 with
  | (xv16, xv17) =>
   bif (decide (xv17 < (nv1.Arcs.length : Int))) then
    (
     (idxL nv1.Arcs xv17).bind fun e40 =>
     (
      bif (!e40.Epsilon) then
       (idxL fromv8 e40.From).bind fun e42 =>
       bif e42 then
        (M.byteset_Has e40.Set b1).bind fun rv38 =>
        some rv38
       else
        some false
      else
       some false).bind fun (rv37 : Bool) =>
     bif rv37 then
      (appM 8 xv16 [e40.To]).bind fun tov12 =>
      some tov12
     else
      some xv16).bind fun (tov11 : (List Int)) =>
    (chk .i64 (xv17 + 1)).bind fun t12 =>
    some (.next (tov11, t12))
   else
    some (.stop xv16)) fuel (([] : (List Int)), (0 : Int))).bind fun (xv13 : (List Int)) =>
 (M.nfa_Closure nv1 xv13).bind fun rv39 =>
 some rv39
def M.nfa_Run (nv1 : T_NFA) (s1 : Str) : Option Int :=
 (M.nfa_Closure nv1 [nv1.Start]).bind fun states1 =>
 (
  loopM (fun (st9 : (List Int) × Int) => match st9 with
  | (states11, xv5) =>
   bif (decide (xv5 < ((bytesL s1).length : Int))) then
    (idxL (bytesL s1) xv5).bind fun e6 =>
    (M.nfa_Step nv1 states11 e6).bind fun states14 =>
    (chk .i64 (xv5 + 1)).bind fun t6 =>
    some (.next (states14, t6))
   else
    some (.stop states11)) fuel (states1, (0 : Int))).bind fun (states8 : (List Int)) =>
 (
  loopM (fun (st9 : Int × Int) => match st9 with
  | (best10, xv19) =>
   bif (decide (xv19 < (states8.length : Int))) then
    (
     (idxL states8 xv19).bind fun e29 =>
     (idxL nv1.Accept e29).bind fun e30 =>
     (
      bif (decide (0 ≤ e30)) then
       bif (decide (best10 < 0)) then
        some true
       else
        some (decide (e30 < best10))
      else
       some false).bind fun (xv24 : Bool) =>
     bif xv24 then
      some e30
     else
      some best10).bind fun (best13 : Int) =>
    (chk .i64 (xv19 + 1)).bind fun t12 =>
    some (.next (best13, t12))
   else
    some (.stop best10)) fuel (((-1) : Int), (0 : Int))).bind fun (best7 : Int) =>
 some best7
def M.law09_awake : Option Bool :=
 (M.law09_set 97).bind fun rv1 =>
 (M.law09_set 97).bind fun rv2 =>
 (M.law09_set 98).bind fun rv3 =>
 (M.nfa_FromRegexes [(T_Regex.mk 6 (Vec.zero 4) [rv1]), (T_Regex.mk 4 (Vec.zero 4) [rv2, rv3])]).bind fun rv4 =>
 (
  bif (rv4.2 == 0) then
   (M.nfa_Valid rv4.1).bind fun rv10 =>
   bif rv10 then
    (M.nfa_Run rv4.1 [97, 97]).bind fun rv11 =>
    bif (rv11 == 0) then
     (M.nfa_Run rv4.1 [97, 98]).bind fun rv12 =>
     bif (rv12 == 1) then
      (M.nfa_Run rv4.1 [98]).bind fun rv13 =>
      bif (rv13 == (-1)) then
       (M.nfa_Valid (T_NFA.mk 0 0 [] [])).bind fun rv14 =>
       some (!rv14)
      else
       some false
     else
      some false
    else
     some false
   else
    some false
  else
   some false).bind fun (xv1 : Bool) =>
 some xv1
def M.ref09_Same (a1 : (List Int)) (b1 : (List Int)) : Option Bool :=
 bif ((a1.length : Int) != (b1.length : Int)) then
  some false
 else
  bindStep (
   loopM (fun (i5 : Int) =>
    bif (decide (i5 < (a1.length : Int))) then
     (idxL a1 i5).bind fun e11 =>
     (idxL b1 i5).bind fun e12 =>
     bif (e11 != e12) then
      some (.stop (.stop false))
     else
      (chk .i64 (i5 + 1)).bind fun t6 =>
      some (.next t6)
    else
     some (.stop (.next ()))) fuel (0 : Int)) fun _ =>
  some true
def M.ref08_valid : Nat → T_Regex → Int → Option Bool
| 0, _, _ => none
| fl + 1, rv1, above1 =>
 (
  bif (decide (30 ≤ above1)) then
   some true
  else
   bif (rv1.Kind != 3) then
    some (rv1.Set != (Vec.zero 4))
   else
    some false).bind fun (xv1 : Bool) =>
 bif xv1 then
  some false
 else
  bindStep (
   (
    bif (rv1.Kind == 1) then
     some (rv1.Kind == 1)
    else
     some (rv1.Kind == 2)).bind fun (xv5 : Bool) =>
   bif xv5 then
    some (.stop ((rv1.Kids.length : Int) == 0))
   else
    bif (rv1.Kind == 3) then
     (
      bif ((rv1.Kids.length : Int) == 0) then
       some (rv1.Set != (Vec.zero 4))
      else
       some false).bind fun (xv6 : Bool) =>
     some (.stop xv6)
    else
     (
      bif (rv1.Kind == 4) then
       some (rv1.Kind == 4)
      else
       some (rv1.Kind == 5)).bind fun (xv7 : Bool) =>
     bif xv7 then
      bif (decide ((rv1.Kids.length : Int) < 2)) then
       some (.stop false)
      else
       some (.next ())
     else
      bif (rv1.Kind == 6) then
       bif ((rv1.Kids.length : Int) != 1) then
        some (.stop false)
       else
        some (.next ())
      else
       some (.stop false)) fun _ =>
  bindStep (
   loopM (fun (i5 : Int) =>
    bif (decide (i5 < (rv1.Kids.length : Int))) then
     (idxL rv1.Kids i5).bind fun e6 =>
     (chk .i64 (above1 + 1)).bind fun t11 =>
     (M.ref08_valid fl e6 t11).bind fun rv7 =>
     bif (!rv7) then
      some (.stop (.stop false))
     else
      (chk .i64 (i5 + 1)).bind fun t12 =>
      some (.next t12)
    else
     some (.stop (.next ()))) fuel (0 : Int)) fun _ =>
  some true
def M.ref08_Valid (rv1 : T_Regex) : Option Bool :=
 (M.ref08_valid fuel rv1 0).bind fun rv2 =>
 some rv2
def M.ref09_Nodes : Nat → T_Regex → Option Int
| 0, _ => none
| fl + 1, rv1 =>
 (
  loopM (fun (st9 : Int × Int) => match st9 with
  | (nv6, i5) =>
   bif (decide (i5 < (rv1.Kids.length : Int))) then
    (idxL rv1.Kids i5).bind fun e6 =>
    (M.ref09_Nodes fl e6).bind fun rv7 =>
    (chk .i64 (nv6 + rv7)).bind fun t11 =>
    (chk .i64 (i5 + 1)).bind fun t12 =>
    some (.next (t11, t12))
   else
    some (.stop nv6)) fuel ((1 : Int), (0 : Int))).bind fun (nv4 : Int) =>
 some nv4
def M.law09_few (l1 : (List T_Regex)) : Option Bool :=
 bif (decide (6 < (l1.length : Int))) then
  some false
 else
  bindStep (
   loopM (fun (i5 : Int) =>
    bif (decide (i5 < (l1.length : Int))) then
     (
      (idxL l1 i5).bind fun e12 =>
      (M.ref08_Valid e12).bind fun rv23 =>
      bif (!rv23) then
       some true
      else
       (M.ref09_Nodes fuel e12).bind fun rv24 =>
       some (decide (30 < rv24))).bind fun (xv6 : Bool) =>
     bif xv6 then
      some (.stop (.stop false))
     else
      (chk .i64 (i5 + 1)).bind fun t6 =>
      some (.next t6)
    else
     some (.stop (.next ()))) fuel (0 : Int)) fun _ =>
  some true
def M.ref09_Check (l1 : (List T_Regex)) : Option Int :=
 bindStep (
  loopM (fun (st9 : Int × Int) => match st9 with
  | (total6, i5) =>
   bif (decide (i5 < (l1.length : Int))) then
    (idxL l1 i5).bind fun e6 =>
    (M.ref08_Valid e6).bind fun rv11 =>
    bif (!rv11) then
     some (.stop (.stop 1))
    else
     (M.ref09_Nodes fuel e6).bind fun rv12 =>
     (chk .i64 (total6 + rv12)).bind fun t11 =>
     (chk .i64 (i5 + 1)).bind fun t12 =>
     some (.next (t11, t12))
   else
    some (.stop (.next total6))) fuel ((0 : Int), (0 : Int))) fun (total4 : Int) =>
 bif (decide (500 < total4)) then
  some 11
 else
  some 0
def M.ref09_builder_all (b1 : T_ref09_builder) (last1 : (List Int)) (first1 : (List Int)) : Option T_ref09_builder :=
 loopM (fun (st9 : (List (Vec 2)) × Int) => match st9 with
 | (xv9, i2) =>
  bif (decide (i2 < (last1.length : Int))) then
   (
    loopM (fun (st9 : (List (Vec 2)) × Int) => match st9 with
    | (xv23, k17) =>
     bif (decide (k17 < (first1.length : Int))) then
      (idxL last1 i2).bind fun e35 =>
      (idxL first1 k17).bind fun e36 =>
      (appM 16 xv23 [(⟨[e35, e36], rfl⟩ : Vec 2)]).bind fun y18 =>
      (chk .i64 (k17 + 1)).bind fun t20 =>
      some (.next (y18, t20))
     else
      some (.stop xv23)) fuel (xv9, (0 : Int))).bind fun (xv21 : (List (Vec 2))) =>
   (chk .i64 (i2 + 1)).bind fun t21 =>
   some (.next (xv21, t21))
  else
   some (.stop (T_ref09_builder.mk b1.sets xv9))) fuel (b1.pairs, (0 : Int))
def M.ref09_builder_concat (b1 : T_ref09_builder) (xv1 : T_ref09_part) (y1 : T_ref09_part) : Option (T_ref09_part × T_ref09_builder) :=
 (M.ref09_builder_all b1 xv1.last y1.first).bind fun rv1 =>
 (
  bif xv1.nullable then
   some y1.nullable
  else
   some false).bind fun (out1 : Bool) =>
 (
  bif xv1.nullable then
   (appM 8 [] xv1.first).bind fun y4 =>
   (appM 8 y4 y1.first).bind fun y5 =>
   some y5
  else
   some xv1.first).bind fun (out3 : (List Int)) =>
 (
  bif y1.nullable then
   (appM 8 [] xv1.last).bind fun y8 =>
   (appM 8 y8 y1.last).bind fun y9 =>
   some y9
  else
   some y1.last).bind fun (out5 : (List Int)) =>
 some ((T_ref09_part.mk out1 out3 out5), rv1)
def M.ref09_builder_build : Nat → T_ref09_builder → T_Regex → Option (T_ref09_part × T_ref09_builder)
| 0, _, _ => none
| fl + 1, p1, p2 =>
 (
  bif (p2.Kind == 2) then
   some (true, ([] : (List Int)), ([] : (List Int)), p1.sets, p1.pairs)
  else
   bif (p2.Kind == 3) then
    (appM 32 p1.sets [p2.Set]).bind fun y13 =>
    some (false, ([(y13.length : Int)] : (List Int)), ([(y13.length : Int)] : (List Int)), y13, p1.pairs)
   else
    bif (p2.Kind == 4) then
     loopM (fun (st9 : (List (Vec 4)) × (List (Vec 2)) × Bool × (List Int) × (List Int) × Int) => match st9 with
     | (xv40, xv41, xv42, l11, l12, xv43) =>
      bif (decide (xv43 < (p2.Kids.length : Int))) then
       (idxL p2.Kids xv43).bind fun e10 =>
       (M.ref09_builder_build fl (T_ref09_builder.mk xv40 xv41) e10).bind fun rv16 =>
       (M.ref09_builder_concat rv16.2 (T_ref09_part.mk xv42 l11 l12) rv16.1).bind fun rv17 =>
       (chk .i64 (xv43 + 1)).bind fun t9 =>
       some (.next (rv17.2.sets, rv17.2.pairs, rv17.1.nullable, rv17.1.first, rv17.1.last, t9))
      else
       some (.stop (xv42, l11, l12, xv40, xv41))) fuel (p1.sets, p1.pairs, true, ([] : (List Int)), ([] : (List Int)), (0 : Int))
    else
     bif (p2.Kind == 5) then
      loopM (fun (st9 : (List (Vec 4)) × (List (Vec 2)) × Bool × (List Int) × (List Int) × Int) => match st9 with
      | (xv54, xv55, xv56, xv57, xv58, xv59) =>
       bif (decide (xv59 < (p2.Kids.length : Int))) then
        (idxL p2.Kids xv59).bind fun e13 =>
        (M.ref09_builder_build fl (T_ref09_builder.mk xv54 xv55) e13).bind fun rv20 =>
        (
         bif xv56 then
          some true
         else
          some rv20.1.nullable).bind fun (xv67 : Bool) =>
        (appM 8 [] xv57).bind fun y21 =>
        (appM 8 y21 rv20.1.first).bind fun y22 =>
        (appM 8 [] xv58).bind fun y23 =>
        (appM 8 y23 rv20.1.last).bind fun y24 =>
        (chk .i64 (xv59 + 1)).bind fun t12 =>
        some (.next (rv20.2.sets, rv20.2.pairs, xv67, y22, y24, t12))
       else
        some (.stop (xv56, xv57, xv58, xv54, xv55))) fuel (p1.sets, p1.pairs, false, ([] : (List Int)), ([] : (List Int)), (0 : Int))
     else
      bif (p2.Kind == 6) then
       (idxL p2.Kids 0).bind fun e14 =>
       (M.ref09_builder_build fl p1 e14).bind fun rv21 =>
       (M.ref09_builder_all rv21.2 rv21.1.last rv21.1.first).bind fun rv22 =>
       some (true, rv21.1.first, rv21.1.last, rv22.sets, rv22.pairs)
      else
       some (false, ([] : (List Int)), ([] : (List Int)), p1.sets, p1.pairs)).bind fun (xv33, l7, l8, xv34, xv35) =>
 some ((T_ref09_part.mk xv33 l7 l8), (T_ref09_builder.mk xv34 xv35))
def M.ref09_FromRegexes (p1 : (List T_Regex)) : Option (T_NFA × Int) :=
 (M.ref09_Check p1).bind fun rv1 =>
 bif (rv1 != 0) then
  some ((T_NFA.mk 0 0 [] []), rv1)
 else
  (
   loopM (fun (st9 : (List (Vec 4)) × (List (Vec 2)) × (List Int) × Int) => match st9 with
   | (xv196, xv197, xv198, xv199) =>
    bif (decide (xv199 < (p1.length : Int))) then
     (
      (idxL p1 xv199).bind fun e100 =>
      (M.ref09_builder_build fuel (T_ref09_builder.mk xv196 xv197) e100).bind fun rv24 =>
      (M.ref09_builder_all rv24.2 [0] rv24.1.first).bind fun rv25 =>
      (
       loopM (fun (xv276 : (List Int)) =>
        bif (decide ((xv276.length : Int) ≤ (rv25.sets.length : Int))) then
         (appM 8 xv276 [(-1)]).bind fun y155 =>
         some (.next y155)
        else
         some (.stop xv276)) fuel xv198).bind fun (xv274 : (List Int)) =>
      (
       loopM (fun (st9 : (List Int) × Int) => match st9 with
       | (xv287, xv288) =>
        bif (decide (xv288 < (rv24.1.last.length : Int))) then
         (idxL rv24.1.last xv288).bind fun e106 =>
         (setL xv287 e106 xv199).bind fun y161 =>
         (chk .i64 (xv288 + 1)).bind fun t77 =>
         some (.next (y161, t77))
        else
         some (.stop xv287)) fuel (xv274, (0 : Int))).bind fun (xv284 : (List Int)) =>
      (
       bif rv24.1.nullable then
        (idxL xv284 0).bind fun e108 =>
        some (decide (e108 < 0))
       else
        some false).bind fun (xv291 : Bool) =>
      bif xv291 then
       (setL xv284 0 xv199).bind fun y162 =>
       some (rv25.sets, rv25.pairs, y162)
      else
       some (rv25.sets, rv25.pairs, xv284)).bind fun (xv269, xv270, y149) =>
     (chk .i64 (xv199 + 1)).bind fun t78 =>
     some (.next (xv269, xv270, y149, t78))
    else
     some (.stop (xv196, xv197, xv198))) fuel (([] : (List (Vec 4))), ([] : (List (Vec 2))), ([(-1)] : (List Int)), (0 : Int))).bind fun (xv145, xv146, xv147) =>
  (chk .i64 ((xv147.length : Int) * (xv147.length : Int))).bind fun t79 =>
  (mkM 1 t79 (false : Bool)).bind fun l1 =>
  (
   loopM (fun (st9 : (List Bool) × Int) => match st9 with
   | (l7, xv296) =>
    bif (decide (xv296 < (xv146.length : Int))) then
     (idxL xv146 xv296).bind fun e114 =>
     (vget e114 0).bind fun c11 =>
     (chk .i64 (c11 * (xv147.length : Int))).bind fun t95 =>
     (vget e114 1).bind fun c12 =>
     (chk .i64 (t95 + c12)).bind fun t96 =>
     (setL l7 t96 true).bind fun y168 =>
     (chk .i64 (xv296 + 1)).bind fun t97 =>
     some (.next (y168, t97))
    else
     some (.stop l7)) fuel (l1, (0 : Int))).bind fun (l5 : (List Bool)) =>
  (
   loopM (fun (st9 : (List T_NFAArc) × Int) => match st9 with
   | (xv307, xv308) =>
    bif (decide (xv308 < (l5.length : Int))) then
     (
      (idxL l5 xv308).bind fun e137 =>
      bif e137 then
       (quoM .i64 xv308 (xv147.length : Int)).bind fun t136 =>
       (remM xv308 (xv147.length : Int)).bind fun t137 =>
       (chk .i64 (t137 - 1)).bind fun t138 =>
       (idxL xv145 t138).bind fun e138 =>
       (appM 56 xv307 [(T_NFAArc.mk t136 t137 false e138)]).bind fun y186 =>
       some y186
      else
       some xv307).bind fun (y185 : (List T_NFAArc)) =>
     (chk .i64 (xv308 + 1)).bind fun t139 =>
     some (.next (y185, t139))
    else
     some (.stop xv307)) fuel (([] : (List T_NFAArc)), (0 : Int))).bind fun (xv304 : (List T_NFAArc)) =>
  some ((T_NFA.mk (xv147.length : Int) 0 xv304 xv147), 0)
def M.ref09_SameNFA (a1 : T_NFA) (b1 : T_NFA) : Option Bool :=
 (
  bif (a1.States != b1.States) then
   some true
  else
   bif (a1.Start != b1.Start) then
    some true
   else
    bif ((a1.Arcs.length : Int) != (b1.Arcs.length : Int)) then
     some true
    else
     (M.ref09_Same a1.Accept b1.Accept).bind fun rv2 =>
     some (!rv2)).bind fun (xv1 : Bool) =>
 bif xv1 then
  some false
 else
  bindStep (
   loopM (fun (i5 : Int) =>
    bif (decide (i5 < (a1.Arcs.length : Int))) then
     (idxL a1.Arcs i5).bind fun e11 =>
     (idxL b1.Arcs i5).bind fun e12 =>
     (some (!((e11.From == e12.From) && ((e11.To == e12.To) && ((e11.Epsilon == e12.Epsilon) && ((e11.Set == e12.Set) && true)))))).bind fun t11 =>
     bif t11 then
      some (.stop (.stop false))
     else
      (chk .i64 (i5 + 1)).bind fun t12 =>
      some (.next t12)
    else
     some (.stop (.next ()))) fuel (0 : Int)) fun _ =>
  some true
def M.ref08_Has (s1 : (Vec 4)) (b1 : Int) : Option Bool :=
 (quoM .i64 b1 64).bind fun t1 =>
 (vget s1 t1).bind fun c1 =>
 (remM b1 64).bind fun t2 =>
 (shrM .u64 c1 (IntKind.u64.wrap t2)).bind fun t3 =>
 some ((bits .and .u64 t3 1) == 1)
def M.ref08_ends : Nat → T_Regex → Str → (List Bool) → Option (List Bool)
| 0, _, _, _ => none
| fl + 1, p1, p2, p3 =>
 (chk .i64 ((p2.length : Int) + 1)).bind fun t1 =>
 (mkM 1 t1 (false : Bool)).bind fun l1 =>
 (
  bif (p1.Kind == 2) then
   some (copyL l1 p3)
  else
   bif (p1.Kind == 3) then
    loopM (fun (st9 : (List Bool) × Int) => match st9 with
    | (l30, xv75) =>
     bif (decide (xv75 < (p2.length : Int))) then
      (chk .i64 (xv75 + 1)).bind fun t67 =>
      (idxL p3 xv75).bind fun e111 =>
      bif e111 then
       (idxS p2 xv75).bind fun c6 =>
       (M.ref08_Has p1.Set (IntKind.i64.wrap c6)).bind fun rv18 =>
       (setL l30 t67 rv18).bind fun y65 =>
       some (.next (y65, t67))
      else
       (setL l30 t67 false).bind fun y66 =>
       some (.next (y66, t67))
     else
      some (.stop l30)) fuel (l1, (0 : Int))
   else
    bif (p1.Kind == 4) then
     loopM (fun (st9 : (List Bool) × Int) => match st9 with
     | (xv79, xv80) =>
      bif (decide (xv80 < (p1.Kids.length : Int))) then
       (idxL p1.Kids xv80).bind fun e114 =>
       (M.ref08_ends fl e114 p2 xv79).bind fun rv21 =>
       (chk .i64 (xv80 + 1)).bind fun t70 =>
       some (.next (rv21, t70))
      else
       some (.stop xv79)) fuel ((copyL l1 p3), (0 : Int))
    else
     bif (p1.Kind == 5) then
      loopM (fun (st9 : (List Bool) × Int) => match st9 with
      | (l40, xv90) =>
       bif (decide (xv90 < (p1.Kids.length : Int))) then
        (
         (idxL p1.Kids xv90).bind fun e150 =>
         (M.ref08_ends fl e150 p2 p3).bind fun rv27 =>
         loopM (fun (st9 : (List Bool) × Int) => match st9 with
         | (l54, xv102) =>
          bif (decide (xv102 < (rv27.length : Int))) then
           (idxL l54 xv102).bind fun e155 =>
           bif e155 then
            (setL l54 xv102 true).bind fun y101 =>
            (chk .i64 (xv102 + 1)).bind fun t107 =>
            some (.next (y101, t107))
           else
            (idxL rv27 xv102).bind fun e156 =>
            (setL l54 xv102 e156).bind fun y102 =>
            (chk .i64 (xv102 + 1)).bind fun t108 =>
            some (.next (y102, t108))
          else
           some (.stop l54)) fuel (l40, (0 : Int))).bind fun (l52 : (List Bool)) =>
        (chk .i64 (xv90 + 1)).bind fun t109 =>
        some (.next (l52, t109))
       else
        some (.stop l40)) fuel (l1, (0 : Int))
     else
      bif (p1.Kind == 6) then
       loopM (fun (st9 : (List Bool) × Bool) => match st9 with
       | (xv118, xv119) =>
        bif xv119 then
         (idxL p1.Kids 0).bind fun e197 =>
         (M.ref08_ends fl e197 p2 xv118).bind fun rv30 =>
         loopM (fun (st9 : (List Bool) × Bool × Int) => match st9 with
         | (xv138, xv139, xv140) =>
          bif (decide (xv140 < (rv30.length : Int))) then
           (
            bif xv139 then
             some true
            else
             (idxL rv30 xv140).bind fun e213 =>
             bif e213 then
              (idxL xv138 xv140).bind fun e214 =>
              some (!e214)
             else
              some false).bind fun (xv145 : Bool) =>
           (idxL xv138 xv140).bind fun e215 =>
           bif e215 then
            (setL xv138 xv140 true).bind fun y119 =>
            (chk .i64 (xv140 + 1)).bind fun t126 =>
            some (.next (y119, xv145, t126))
           else
            (idxL rv30 xv140).bind fun e216 =>
            (setL xv138 xv140 e216).bind fun y120 =>
            (chk .i64 (xv140 + 1)).bind fun t127 =>
            some (.next (y120, xv145, t127))
          else
           some (.stop (.next (xv138, xv139)))) fuel (xv118, false, (0 : Int))
        else
         some (.stop xv118)) fuel ((copyL l1 p3), true)
      else
       some l1).bind fun (xv73 : (List Bool)) =>
 some xv73
def M.ref08_Match (rv1 : T_Regex) (s1 : Str) : Option Bool :=
 (chk .i64 ((s1.length : Int) + 1)).bind fun t1 =>
 (mkM 1 t1 (false : Bool)).bind fun fromv1 =>
 (setL fromv1 0 true).bind fun fromv2 =>
 (M.ref08_ends fuel rv1 s1 fromv2).bind fun l1 =>
 (idxL l1 (s1.length : Int)).bind fun e1 =>
 some e1
def M.ref09_Match (l1 : (List T_Regex)) (s1 : Str) : Option Int :=
 bindStep (
  loopM (fun (i5 : Int) =>
   bif (decide (i5 < (l1.length : Int))) then
    (idxL l1 i5).bind fun e6 =>
    (M.ref08_Match e6 s1).bind fun rv6 =>
    bif rv6 then
     some (.stop (.stop i5))
    else
     (chk .i64 (i5 + 1)).bind fun t6 =>
     some (.next t6)
   else
    some (.stop (.next ()))) fuel (0 : Int)) fun _ =>
 some (-1)
def M.law09_NfaFromRegexesMatches (l1 : (List T_Regex)) (s1 : Str) : Option Bool :=
 (M.law09_awake).bind fun rv1 =>
 bif (!rv1) then
  some false
 else
  (
   (M.law09_few l1).bind fun rv3 =>
   bif (!rv3) then
    some true
   else
    some (decide (12 < (s1.length : Int)))).bind fun (xv1 : Bool) =>
  bif xv1 then
   some true
  else
   (M.nfa_FromRegexes l1).bind fun rv4 =>
   (M.ref09_FromRegexes l1).bind fun rv5 =>
   (
    bif (rv4.2 == 0) then
     (M.nfa_Valid rv4.1).bind fun rv10 =>
     bif rv10 then
      (M.ref09_SameNFA rv4.1 rv5.1).bind fun rv11 =>
      bif rv11 then
       (M.nfa_Run rv4.1 s1).bind fun rv12 =>
       (M.ref09_Match l1 s1).bind fun rv13 =>
       some (rv12 == rv13)
      else
       some false
     else
      some false
    else
     some false).bind fun (xv2 : Bool) =>
   some xv2
end Go.Proofs.Ytajmekjcnbmaaaa
set_option linter.unusedVariables false
set_option linter.unusedSimpArgs false
namespace Go.Proofs.Ytajmekjcnbmaaaa
open Go.Lx Go.RowKit
theorem mo : Try.prog.follows .mixedOrders = true := by kernel_rfl
theorem ti3 : TyI Try.prog 3 false 1 8 (Value.int .i64 0) := ty_of (by kernel_rfl) (by kernel_rfl)
theorem ti4 : TyI Try.prog 4 false 1 1 (Value.bool false) := ty_of (by kernel_rfl) (by kernel_rfl)
theorem ti5 : TyI Try.prog 5 false 1 1 (Value.int .u8 0) := ty_of (by kernel_rfl) (by kernel_rfl)
theorem ti22 : TyI Try.prog 22 false 1 24 (.slice none 0 0) := ty_of (by kernel_rfl) (by kernel_rfl)
theorem ti23 : TyI Try.prog 23 false 1 24 (.slice none 0 0) := ty_of (by kernel_rfl) (by kernel_rfl)
theorem ti25 : TyI Try.prog 25 true 4 64 (Value.agg (List.toArray (α := Value) [Value.int .i64 0, Value.int .i64 0, .slice none 0 0, .slice none 0 0])) := ty_of (by kernel_rfl) (by kernel_rfl)
theorem ti37 : TyI Try.prog 37 false 1 24 (.slice none 0 0) := ty_of (by kernel_rfl) (by kernel_rfl)
theorem ti46 : TyI Try.prog 46 false 1 8 (Value.int .u64 0) := ty_of (by kernel_rfl) (by kernel_rfl)
theorem ti48 : TyI Try.prog 48 true 4 32 (encV .u64 (Vec.zero 4)) := ty_of (by kernel_rfl) (by kernel_rfl)
theorem ti50 : TyI Try.prog 50 true 6 64 (Value.agg (List.toArray (α := Value) (([Value.int .i64 0]) ++ (((Vec.zero 4).1.map (Value.int .u64)) ++ ([.slice none 0 0]))))) := ty_of (by kernel_rfl) (by kernel_rfl)
theorem ti54 : TyI Try.prog 54 true 7 56 (Value.agg (List.toArray (α := Value) (([Value.int .i64 0]) ++ (([Value.int .i64 0]) ++ (([Value.bool false]) ++ ((Vec.zero 4).1.map (Value.int .u64))))))) := ty_of (by kernel_rfl) (by kernel_rfl)
theorem ti56 : TyI Try.prog 56 false 1 24 (.slice none 0 0) := ty_of (by kernel_rfl) (by kernel_rfl)
theorem ti64 : TyI Try.prog 64 false 1 8 (Value.map none) := ty_of (by kernel_rfl) (by kernel_rfl)
theorem ti65 : TyI Try.prog 65 false 1 24 (.slice none 0 0) := ty_of (by kernel_rfl) (by kernel_rfl)
theorem ti66 : TyI Try.prog 66 false 1 24 (.slice none 0 0) := ty_of (by kernel_rfl) (by kernel_rfl)
theorem ti70 : TyI Try.prog 70 true 3 56 (Value.agg (List.toArray (α := Value) [Value.bool false, .slice none 0 0, .slice none 0 0])) := ty_of (by kernel_rfl) (by kernel_rfl)
theorem ti78 : TyI Try.prog 78 false 1 24 (.slice none 0 0) := ty_of (by kernel_rfl) (by kernel_rfl)
theorem ti82 : TyI Try.prog 82 true 3 56 (Value.agg (List.toArray (α := Value) [Value.bool false, .slice none 0 0, .slice none 0 0])) := ty_of (by kernel_rfl) (by kernel_rfl)
theorem ti84 : TyI Try.prog 84 true 2 16 (encV .i64 (Vec.zero 2)) := ty_of (by kernel_rfl) (by kernel_rfl)
theorem eg48 : Try.prog.eqGuardType Try.prog.depth 48 = false := by kernel_rfl
theorem eg54 : Try.prog.eqGuardType Try.prog.depth 54 = false := by kernel_rfl
theorem conc9 : Try.prog.concrete 9 = true := by kernel_rfl
theorem cf11 : CF Try.prog 11 := cf_of Try.func11 rfl (by decide)
theorem cf12 : CF Try.prog 12 := cf_of Try.func12 rfl (by decide)
theorem cf15 : CF Try.prog 15 := cf_of Try.func15 rfl (by decide)
theorem cf16 : CF Try.prog 16 := cf_of Try.func16 rfl (by decide)
theorem cf18 : CF Try.prog 18 := cf_of Try.func18 rfl (by decide)
theorem cf20 : CF Try.prog 20 := cf_of Try.func20 rfl (by decide)
theorem cf23 : CF Try.prog 23 := cf_of Try.func23 rfl (by decide)
theorem cf24 : CF Try.prog 24 := cf_of Try.func24 rfl (by decide)
theorem cf25 : CF Try.prog 25 := cf_of Try.func25 rfl (by decide)
theorem cf26 : CF Try.prog 26 := cf_of Try.func26 rfl (by decide)
theorem cf27 : CF Try.prog 27 := cf_of Try.func27 rfl (by decide)
theorem cf28 : CF Try.prog 28 := cf_of Try.func28 rfl (by decide)
theorem cf29 : CF Try.prog 29 := cf_of Try.func29 rfl (by decide)
theorem cf30 : CF Try.prog 30 := cf_of Try.func30 rfl (by decide)
theorem cf31 : CF Try.prog 31 := cf_of Try.func31 rfl (by decide)
theorem cf32 : CF Try.prog 32 := cf_of Try.func32 rfl (by decide)
theorem cf33 : CF Try.prog 33 := cf_of Try.func33 rfl (by decide)
theorem cf34 : CF Try.prog 34 := cf_of Try.func34 rfl (by decide)
theorem cf36 : CF Try.prog 36 := cf_of Try.func36 rfl (by decide)
theorem cf38 : CF Try.prog 38 := cf_of Try.func38 rfl (by decide)
theorem cf39 : CF Try.prog 39 := cf_of Try.func39 rfl (by decide)
theorem cf40 : CF Try.prog 40 := cf_of Try.func40 rfl (by decide)
theorem cf41 : CF Try.prog 41 := cf_of Try.func41 rfl (by decide)
theorem cf42 : CF Try.prog 42 := cf_of Try.func42 rfl (by decide)
theorem cf43 : CF Try.prog 43 := cf_of Try.func43 rfl (by decide)
theorem cf44 : CF Try.prog 44 := cf_of Try.func44 rfl (by decide)
theorem cf45 : CF Try.prog 45 := cf_of Try.func45 rfl (by decide)
theorem cf46 : CF Try.prog 46 := cf_of Try.func46 rfl (by decide)
theorem cf47 : CF Try.prog 47 := cf_of Try.func47 rfl (by decide)
theorem cf48 : CF Try.prog 48 := cf_of Try.func48 rfl (by decide)
theorem cf49 : CF Try.prog 49 := cf_of Try.func49 rfl (by decide)
theorem cf50 : CF Try.prog 50 := cf_of Try.func50 rfl (by decide)
theorem cf51 : CF Try.prog 51 := cf_of Try.func51 rfl (by decide)
theorem cf52 : CF Try.prog 52 := cf_of Try.func52 rfl (by decide)
theorem cf53 : CF Try.prog 53 := cf_of Try.func53 rfl (by decide)
theorem cf54 : CF Try.prog 54 := cf_of Try.func54 rfl (by decide)
theorem cf55 : CF Try.prog 55 := cf_of Try.func55 rfl (by decide)
theorem cf56 : CF Try.prog 56 := cf_of Try.func56 rfl (by decide)
theorem cf57 : CF Try.prog 57 := cf_of Try.func57 rfl (by decide)
theorem cf61 : CF Try.prog 61 := cf_of Try.func61 rfl (by decide)
theorem cf62 : CF Try.prog 62 := cf_of Try.func62 rfl (by decide)
theorem cf63 : CF Try.prog 63 := cf_of Try.func63 rfl (by decide)
theorem cf67 : CF Try.prog 67 := cf_of Try.func67 rfl (by decide)
theorem cf68 : CF Try.prog 68 := cf_of Try.func68 rfl (by decide)
open Go.ChangeShapes Go.WideShapes Go.ChangeAt
inductive okT_Regex : T_Regex → Prop where
  | mk (x : T_Regex) : (IOk .i64) x.Kind → (fun v => ∀ x ∈ v.1, IOk .u64 x) x.Set → (∀ y ∈ x.Kids, okT_Regex y) → x.Kids.length ≤ maxLen → okT_Regex x
end Go.Proofs.Ytajmekjcnbmaaaa
