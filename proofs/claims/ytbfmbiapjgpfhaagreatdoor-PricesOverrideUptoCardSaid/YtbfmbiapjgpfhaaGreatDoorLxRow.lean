/- Lx, part 6: rows of the call's own: append, make, literals, release; bytes to string. -/
import Derived.Test.YtbfmbiapjgpfhaaGreatDoorLxSlice
namespace Go.Lx
open Go.RowKit

def appM {α : Type} (B : Nat) (l m : List α) : Option (List α) := if (l.length + m.length) * B ≤ 140737488355328 then some (l ++ m) else none
def mkM {α : Type} (B : Nat) (n : Int) (z : α) : Option (List α) := if 0 ≤ n ∧ n * B ≤ 140737488355328 then some (List.replicate n.toNat z) else none
theorem appM_some {α : Type} {B : Nat} {l m r : List α} (h : appM B l m = some r) : r = l ++ m ∧ (l.length + m.length) * B ≤ 140737488355328 := by
  unfold appM at h; split at h
  · rename_i h0; cases h; exact ⟨rfl, h0⟩
  · cases h
theorem mkM_some {α : Type} {B : Nat} {n : Int} {z : α} {r : List α} (h : mkM B n z = some r) : r = List.replicate n.toNat z ∧ 0 ≤ n ∧ n * B ≤ 140737488355328 := by
  unfold mkM at h; split at h
  · rename_i h0; cases h; exact ⟨rfl, h0⟩
  · cases h

/-- A slice whose cells can be read just now. -/
def Src (w : World) (u : Value) (m : Nat) (ys : List Value) : Prop :=
  (u = .slice none 0 0 ∧ m = 0 ∧ ys = []) ∨ ∃ a c, u = .slice (some a) m c ∧ ∀ j y, ys[j]? = some y → w.cell? (a.add j) = some y
theorem SlAt.src {g : Hp} {w : World} {v : Value} {n : Nat} {xs : List Value} (h : SlAt g v n xs) (hi : Imm g w) : Src w v n xs := by
  rcases h with ⟨rfl, rfl, a, cap, rfl, ha⟩ | ⟨b, off, cap, arr, e, fz, hv, _, hg, hc⟩
  · cases a with
    | none => rw [ha rfl]; exact .inl ⟨rfl, rfl, rfl⟩
    | some a => exact .inr ⟨a, cap, rfl, by simp⟩
  · exact .inr ⟨⟨b, off, none⟩, cap, hv, fun j y hy => by have := hc j y hy; rw [Addr.add_lit]; simp [World.cell?, hi b _ hg]; simpa using this⟩
theorem Sep.rowSrc {g0 g : Hp} {w0 w : World} {L : List Res} (h : Sep g0 w0 g w L) {i : Nat} {v : Value} {e : TypeId} {sz n : Nat} {xs : List Value} (hi : L[i]? = some (.row v e sz n xs)) : Src w v n xs := by
  have := (h.at hi).out
  rcases this.2 with ⟨rfl, rfl⟩ | ⟨b, cap, cur, hv, _, hb, hnc, _, hcs, ht⟩
  · have := this.1; simp at this; exact .inl ⟨rfl, rfl, this⟩
  · refine .inr ⟨⟨b, 0, none⟩, cap, hv, fun j u hu => ?_⟩
    rw [Addr.add_lit]
    simp only [World.cell?, hb, Nat.zero_add]
    rw [← ht, List.getElem?_take] at hu
    split at hu
    · simpa using hu
    · cases hu

section
variable {P : Program} {w : World}
theorem run_append_none (t ty e : TypeId) {agg : Bool} {size bytes : Nat} {z : Value} (ht : P.underlying t = some (.slice e)) (he : TyI P e agg size bytes z) (base : Option Addr) (n cap : Nat) (hn : n ≤ cap) (hb : base = none → n = 0) :
    (Builtin.append_ #[t, t] ty #[.slice base n cap, .slice none 0 0]).run P w = .ok (.slice base n cap) w := by
  cases base with
  | none => simp [Builtin.append_, run_underlying ht, run_sizeOf he, Builtin.lenOf, Builtin.firstCells, hn]
  | some a => simp [Builtin.append_, run_underlying ht, run_sizeOf he, Builtin.lenOf, Builtin.firstCells, hn, storeCells]

/-- append to a row of the call's own, and where the new row lies. -/
theorem run_append_lx (t ty e : TypeId) {agg : Bool} {size bytes : Nat} {z : Value} (ht : P.underlying t = some (.slice e)) (he : TyI P e agg size bytes z) (hzs : z.cells.size = size) (hsz : 0 < size)
    {v u : Value} {n m : Nat} {xs ys : List Value} (hown : w.ownsRow 0 e size v n xs) (hu : Src w u m ys) (hl : ys.length = m * size) (h1 : ∀ y ∈ ys, y.oneCell' = true) (h63 : n + m ≤ maxLen) (hby : (n + m) * bytes ≤ 140737488355328) :
    ∃ v' w', (Builtin.append_ #[t, t] ty #[v, u]).run P w = .ok v' w' ∧ w'.ownsRow 0 e size v' (n + m) (xs ++ ys) ∧ w.grownBy w' v.ownBlock ∧ (∀ b, v'.ownBlock = some b → v.ownBlock = some b ∨ w.heap.size ≤ b) ∧ w'.ownsRow 0 e size v n xs := by
  have hgref : ∀ row, w.grownBy w row := fun _ => ⟨rfl, rfl, rfl, Nat.le_refl _, fun _ _ _ => rfl⟩
  rcases hu with ⟨rfl, rfl, rfl⟩ | ⟨ua, uc, rfl, hnews⟩
  · refine ⟨v, w, ?_, by simpa using hown, hgref _, fun b hb => .inl hb, hown⟩
    rcases hown.2 with ⟨rfl, rfl⟩ | ⟨g, cap, cur, rfl, _, _, hnc, _⟩
    · exact run_append_none t ty e ht he none 0 0 (Nat.le_refl _) (fun _ => rfl)
    · exact run_append_none t ty e ht he _ n cap hnc (fun h => by cases h)
  obtain ⟨i, hi, hz, hsi, hbi⟩ := he.info
  subst hsi hbi
  have hsmall : n + m ≤ 9223372036854775807 := by simp only [maxLen] at h63; omega
  have hlen : (xs ++ ys).length = (n + m) * i.size := by rw [List.length_append, hown.1, hl, Nat.add_mul]
  have grown : ∀ (old : Nat), old < n + m → ∀ (row : Option Nat),
      (w.drew.alloc (.cells (xs.toArray ++ ys.toArray ++ Builtin.zeroCells z.cells (grownCap w (n + m) old e - (n + m))) e)).ownsRow 0 e i.size
        (.slice (some ⟨w.heap.size, 0, none⟩) (n + m) (grownCap w (n + m) old e)) (n + m) (xs ++ ys) ∧
      w.grownBy (w.drew.alloc (.cells (xs.toArray ++ ys.toArray ++ Builtin.zeroCells z.cells (grownCap w (n + m) old e - (n + m))) e)) row := by
    intro old ho row
    have hge := grownCap_ge w (n + m) old e
    have hcm : grownCap w (n + m) old e ≤ maxLen := grownCap_le_maxLen w (n + m) old e h63
    refine ⟨⟨hlen, .inr ⟨w.heap.size, _, _, rfl, Nat.zero_le _, heap_alloc_new w.drew _, hge, hcm, ?_, ?_⟩⟩, ⟨rfl, rfl, rfl, by simp, fun k hk _ => Below.heap_alloc w.drew _ k hk⟩⟩
    · simp only [Array.size_append, List.size_toArray, size_zeroCells, hzs, hown.1, hl, ← Nat.add_mul]
      congr 1
      omega
    · simp only [Array.toList_append, List.append_assoc]
      rw [← List.append_assoc, ← hlen]
      exact List.take_left
  rcases hown.2 with ⟨rfl, rfl⟩ | ⟨g, cap, cur, rfl, hbg, hg, hnc, hcm, hcs, htake⟩
  · have hx : xs = [] := List.eq_nil_of_length_eq_zero (by simpa using hown.1)
    subst hx
    by_cases hm : m = 0
    · subst hm
      have hn : ys = [] := List.eq_nil_of_length_eq_zero (by simpa using hl)
      subst hn
      refine ⟨.slice none 0 0, w, ?_, World.ownsRow_nil w 0 e i.size, hgref _, fun b hb => by simp [Value.ownBlock] at hb, World.ownsRow_nil w 0 e i.size⟩
      simp [Builtin.append_, run_underlying ht, sizeOf, typeInfo, hi, Builtin.lenOf, Builtin.firstCells, loadCells, loadCellsFrom]
    · have hr := run_append_nil (P := P) w t ty e i z ht hi hz ua m uc ys hl hnews (by omega) (by omega) (by have hb := hby; simp only [Nat.zero_add] at hb; omega)
      have hgr := grown 0 (by omega) (Value.ownBlock (.slice none 0 0))
      simp only [Nat.zero_add, List.nil_append, Array.empty_append] at hgr ⊢
      exact ⟨_, _, hr, hgr.1, hgr.2, fun b hb => .inr (by simp [Value.ownBlock] at hb; omega), World.ownsRow_nil _ 0 e i.size⟩
  · by_cases hroom : n + m ≤ cap
    · have hfit : n * i.size + ys.length ≤ cur.size := by rw [hl, hcs, ← Nat.add_mul]; exact Nat.mul_le_mul_right _ hroom
      have hr := run_append_room (P := P) w t ty e i ht hi g n cap cur hg ua m uc ys hl hnews h1 hroom hfit
      refine ⟨_, _, hr, ⟨hlen, .inr ⟨g, cap, _, rfl, Nat.zero_le _, setRow_heap w g cur _ e _ hg, hroom, hcm, ?_, ?_⟩⟩, ⟨rfl, rfl, rfl, by simp, fun k _ hk => setRow_other w g k _ (fun e => hk (by simp [Value.ownBlock, e]))⟩, fun b hb => .inl (by simpa [Value.ownBlock] using hb), ⟨hown.1, .inr ⟨g, cap, _, rfl, Nat.zero_le _, setRow_heap w g cur _ e _ hg, hnc, hcm, ?_, ?_⟩⟩⟩
      · simp only [List.size_toArray, List.length_append, List.length_take, List.length_drop, Array.length_toList]
        omega
      · rw [htake, ← hlen]
        exact List.take_left
      · simp only [List.size_toArray, List.length_append, List.length_take, List.length_drop, Array.length_toList]
        omega
      · rw [htake, List.append_assoc, ← hown.1]
        exact List.take_left
    · have holds : ∀ j u, xs[j]? = some u → w.cell? ((⟨g, 0, none⟩ : Addr).add j) = some u := hown.cells (g := g) rfl
      have hr := run_append_grow (P := P) w t ty e i z ht hi hz ⟨g, 0, none⟩ n cap xs hown.1 holds ua m uc ys hl hnews (by omega) (by omega) (growslice_fits (by omega) hby)
      have hgr := grown cap (by omega) (Value.ownBlock (.slice (some ⟨g, 0, none⟩) n cap))
      exact ⟨_, _, hr, hgr.1, hgr.2, fun b hb => .inr (by simp [Value.ownBlock] at hb; omega), World.ownsRow.kept hown (grown cap (by omega) none).2 (.inr (by simp [Value.ownBlock]))⟩
end

section
variable {P : Program} {n : Fr} {Q : EPost} {E : Env} {w : World} {ops : Array Oper} {rest : List Oper} {d : Tmp} {ty : TypeId} {ps : String} {af : Array Edge} {g0 g : Hp} {w0 : World} {L : List Res}
theorem le_of_bytes {a b : Nat} (h : a * b ≤ 140737488355328) (hb : 0 < b) : a ≤ maxLen := by
  have := Nat.le_mul_of_pos_right a hb
  simp only [maxLen]; omega
theorem OW_append {α : Type} {τ : Ty α} {T el : TypeId} {agg : Bool} {bytes : Nat} {z : Value} {x y : Operand} {v u : Value} {l m r : List α} {xs ys : List Value} {i : Nat}
    (hT : P.underlying T = some (.slice el)) (he : TyI P el agg τ.sz bytes z) (hzs : z.cells.size = τ.sz) (hsz : 0 < τ.sz) (hbp : 0 < bytes) (hs : Sep g0 w0 g w L) (hi : L[i]? = some (.row v el τ.sz l.length xs)) (hr : RowRel τ g xs l)
    (hx : ev E x = v) (hy : ev E y = u) (hu : Src w u m.length ys) (hru : RowRel τ g ys m) (hM : appM bytes l m = some r) (hd : Nat.blt d n.sz = true)
    (k : ∀ v' w' xs', RowRel τ g xs' r → Sep g0 w0 g w' (L.set i (.row v' el τ.sz r.length xs')) → OW P n ops Q rest (upd E d v') w') :
    OW P n ops Q (⟨some d, .call { callee := .builtin .append, args := #[x, y], argTypes := #[T, T] }, ty, ps, af, none⟩ :: rest) E w := by
  obtain ⟨rfl, hb⟩ := appM_some hM
  obtain ⟨v', w', hrun, hown, hgr, hblk, _⟩ := run_append_lx (P := P) (w := w) T ty el hT he hzs hsz (hs.at hi).out hu hru.1 hru.ones (le_of_bytes hb hbp) hb
  refine O (.inl ?_) hd (k v' w' (xs ++ ys) (hr.append hru) (hs.upd hi hgr ⟨?_⟩ hblk))
  · simp only [execOp, resolve, invoke, builtin, Sem.run_bind, Sem.run_pure, Result.andThen_ok, List.map_toArray, List.map_cons, List.map_nil, hx, hy, hrun]
  · simp only [Res.okB, List.length_append]; exact hown

/-- The same, where the row as it was is asked for behind it as well (what stands in it stays). -/
theorem OW_appendK {α : Type} {τ : Ty α} {T el : TypeId} {agg : Bool} {bytes : Nat} {z : Value} {x y : Operand} {v u : Value} {l m r : List α} {xs ys : List Value} {i : Nat}
    (hT : P.underlying T = some (.slice el)) (he : TyI P el agg τ.sz bytes z) (hzs : z.cells.size = τ.sz) (hsz : 0 < τ.sz) (hbp : 0 < bytes) (hs : Sep g0 w0 g w L) (hi : L[i]? = some (.row v el τ.sz l.length xs)) (hr : RowRel τ g xs l)
    (hx : ev E x = v) (hy : ev E y = u) (hu : Src w u m.length ys) (hru : RowRel τ g ys m) (hM : appM bytes l m = some r) (hd : Nat.blt d n.sz = true)
    (k : ∀ v' w' xs', RowRel τ g xs' r → Sep g0 w0 g w' L → Sep g0 w0 g w' (L.set i (.row v' el τ.sz r.length xs')) → OW P n ops Q rest (upd E d v') w') :
    OW P n ops Q (⟨some d, .call { callee := .builtin .append, args := #[x, y], argTypes := #[T, T] }, ty, ps, af, none⟩ :: rest) E w := by
  obtain ⟨rfl, hb⟩ := appM_some hM
  obtain ⟨v', w', hrun, hown, hgr, hblk, hold⟩ := run_append_lx (P := P) (w := w) T ty el hT he hzs hsz (hs.at hi).out hu hru.1 hru.ones (le_of_bytes hb hbp) hb
  have hs1 := hs.upd (r' := .row v el τ.sz l.length xs) hi hgr ⟨hold⟩ (fun b hb => .inl hb)
  have hL : L.set i (.row v el τ.sz l.length xs) = L := by
    apply List.ext_getElem?
    intro j
    rw [List.getElem?_set]
    split
    · rename_i e; subst e
      rw [hi]
      have := (List.getElem?_eq_some_iff.1 hi).1
      simp [this]
    · rfl
  rw [hL] at hs1
  refine O (.inl ?_) hd (k v' w' (xs ++ ys) (hr.append hru) hs1 (hs.upd hi hgr ⟨?_⟩ hblk))
  · simp only [execOp, resolve, invoke, builtin, Sem.run_bind, Sem.run_pure, Result.andThen_ok, List.map_toArray, List.map_cons, List.map_nil, hx, hy, hrun]
  · simp only [Res.okB, List.length_append]; exact hown

/-- The same, for a second list of blocks that the row as it was stands in. -/
theorem OW_append2 {α : Type} {τ : Ty α} {T el : TypeId} {agg : Bool} {bytes : Nat} {z : Value} {x y : Operand} {v u : Value} {l m r : List α} {xs ys : List Value} {i : Nat}
    (hT : P.underlying T = some (.slice el)) (he : TyI P el agg τ.sz bytes z) (hzs : z.cells.size = τ.sz) (hsz : 0 < τ.sz) (hbp : 0 < bytes) (hs : Sep g0 w0 g w L) (hi : L[i]? = some (.row v el τ.sz l.length xs)) (hr : RowRel τ g xs l)
    (hx : ev E x = v) (hy : ev E y = u) (hu : Src w u m.length ys) (hru : RowRel τ g ys m) (hM : appM bytes l m = some r) (hd : Nat.blt d n.sz = true)
    (k : ∀ v' w' xs', RowRel τ g xs' r → (∀ {L2 : List Res} {j : Nat}, L2[j]? = some (.row v el τ.sz l.length xs) → Sep g0 w0 g w L2 → Sep g0 w0 g w' L2) → Sep g0 w0 g w' (L.set i (.row v' el τ.sz r.length xs')) → OW P n ops Q rest (upd E d v') w') :
    OW P n ops Q (⟨some d, .call { callee := .builtin .append, args := #[x, y], argTypes := #[T, T] }, ty, ps, af, none⟩ :: rest) E w := by
  obtain ⟨rfl, hb⟩ := appM_some hM
  obtain ⟨v', w', hrun, hown, hgr, hblk, hold⟩ := run_append_lx (P := P) (w := w) T ty el hT he hzs hsz (hs.at hi).out hu hru.1 hru.ones (le_of_bytes hb hbp) hb
  have hK : ∀ {L2 : List Res} {j : Nat}, L2[j]? = some (.row v el τ.sz l.length xs) → Sep g0 w0 g w L2 → Sep g0 w0 g w' L2 := by
    intro L2 j hj h2
    have hs1 := h2.upd (r' := .row v el τ.sz l.length xs) hj hgr ⟨hold⟩ (fun b hb => .inl hb)
    have hL : L2.set j (.row v el τ.sz l.length xs) = L2 := by
      apply List.ext_getElem?
      intro q
      rw [List.getElem?_set]
      split
      · rename_i e; subst e
        rw [hj]
        have := (List.getElem?_eq_some_iff.1 hj).1
        simp [this]
      · rfl
    rw [hL] at hs1
    exact hs1
  refine O (.inl ?_) hd (k v' w' (xs ++ ys) (hr.append hru) hK (hs.upd hi hgr ⟨?_⟩ hblk))
  · simp only [execOp, resolve, invoke, builtin, Sem.run_bind, Sem.run_pure, Result.andThen_ok, List.map_toArray, List.map_cons, List.map_nil, hx, hy, hrun]
  · simp only [Res.okB, List.length_append]; exact hown

theorem getElem?_madeCells (z : Array Value) (m j : Nat) (hj : j < m) : (madeCells z m)[j]? = some (z[j % z.size]!) := by simp [madeCells, hj]
theorem rowRel_made {α : Type} {τ : Ty α} {zc : List Value} {x : α} {m : Nat} (hz : τ.rel g zc x) : RowRel τ g (madeCells zc.toArray (m * τ.sz)).toList (List.replicate m x) := by
  have hl := τ.len hz
  refine ⟨by simp [size_madeCells], fun i y hy => ?_⟩
  have hi : i < m := by have := (List.getElem?_eq_some_iff.1 hy).1; simpa using this
  have hy' : y = x := by rw [List.getElem?_replicate] at hy; simp [hi] at hy; exact hy.symm
  subst hy'
  have e : ((madeCells zc.toArray (m * τ.sz)).toList.drop (i * τ.sz)).take τ.sz = zc := by
    apply List.ext_getElem?
    intro j
    rw [List.getElem?_take]
    split
    · rename_i hj
      have hlt : i * τ.sz + j < m * τ.sz := by
        have : (i + 1) * τ.sz ≤ m * τ.sz := Nat.mul_le_mul_right _ hi
        rw [Nat.succ_mul] at this; omega
      rw [List.getElem?_drop, Array.getElem?_toList, getElem?_madeCells _ _ _ hlt]
      have hmod : (i * τ.sz + j) % τ.sz = j := by rw [Nat.mul_comm, Nat.mul_add_mod]; exact Nat.mod_eq_of_lt hj
      have hj' : j < zc.length := by omega
      simp only [List.size_toArray, hl, hmod]
      rw [List.getElem?_eq_getElem hj']
      simp [hj']
    · rename_i hj
      rw [List.getElem?_eq_none (by omega)]
  rw [e]; exact hz
theorem OW_make {α : Type} {τ : Ty α} {T el : TypeId} {agg : Bool} {bytes : Nat} {z : Value} {zc : List Value} {zx : α} {x y : Operand} {k1 k2 : IntKind} {q : Int} {r : List α}
    (hT : P.underlying T = some (.slice el)) (he : TyI P el agg τ.sz bytes z) (hzc : z.cells = zc.toArray) (hzx : τ.rel g zc zx) (hbp : 0 < bytes) (hs : Sep g0 w0 g w L)
    (hx : ev E x = .int k1 q) (hy : ev E y = .int k2 q) (hM : mkM bytes q zx = some r) (hd : Nat.blt d n.sz = true)
    (k : ∀ v' w' xs', RowRel τ g xs' r → Sep g0 w0 g w' (.row v' el τ.sz r.length xs' :: L) → OW P n ops Q rest (upd E d v') w') :
    OW P n ops Q (⟨some d, .makeSlice T x y, ty, ps, af, none⟩ :: rest) E w := by
  obtain ⟨rfl, h0, hb⟩ := mkM_some hM
  obtain ⟨i, hi, hz, hsi, hbi⟩ := he.info
  have hq : q ≤ 140737488355328 := by
    have : q * 1 ≤ q * bytes := Int.mul_le_mul_of_nonneg_left (by omega) h0
    omega
  have hrun := run_make (P := P) w T el i z hT hi hz k1 k2 q q h0 (Int.le_refl _) (by rw [hbi, Int.mul_comm]; omega) (by omega)
  rw [hsi, hzc] at hrun
  have hs' := hs.alloc (.cells (madeCells zc.toArray (q.toNat * τ.sz)) el)
  have hs2 := hs'.upd (i := 0) (r := .obj w.heap.size (.cells (madeCells zc.toArray (q.toNat * τ.sz)) el)) (r' := .row (.slice (some ⟨w.heap.size, 0, none⟩) q.toNat q.toNat) el τ.sz (List.replicate q.toNat zx).length (madeCells zc.toArray (q.toNat * τ.sz)).toList) rfl
    ⟨rfl, rfl, rfl, Nat.le_refl _, fun _ _ _ => rfl⟩ ⟨by
      simp only [Res.okB, List.length_replicate]
      refine ⟨by simp [size_madeCells], .inr ⟨w.heap.size, q.toNat, _, rfl, Nat.zero_le _, heap_alloc_new w _, Nat.le_refl _, by simp only [maxLen]; omega, size_madeCells _ _, ?_⟩⟩
      rw [List.take_of_length_le (by simp [size_madeCells])]⟩ (fun b hb => .inl (by simpa [Res.blk, Value.ownBlock] using hb))
  refine O (.inl ?_) hd (k _ _ _ (rowRel_made hzx) hs2)
  simp [execOp, hx, hy, hrun]

/-- A literal of a slice. -/
theorem fill_row (size : Nat) : ∀ (vs : List Value) (k : Nat) (pre old : List Value), (∀ v ∈ vs, v.cells.size = size) → pre.length = k * size → old.length = vs.length * size →
    Instr.fill (fun i => some (i * size, size)) (pre ++ old).toArray ((vs.zipIdx k).map fun p => (p.2, p.1)) = some (pre ++ vs.flatMap fun v => v.cells.toList).toArray := by
  intro vs
  induction vs with
  | nil => intro k pre old _ _ ho; simp at ho; subst ho; simp [Instr.fill]
  | cons v vs ih =>
    intro k pre old hv hp ho
    have hvs := hv v (by simp)
    simp only [List.zipIdx_cons, List.map_cons, Instr.fill]
    have hol : size ≤ old.length := by rw [ho]; simp [Nat.succ_mul]
    have hlen : k * size + v.cells.size ≤ (pre ++ old).toArray.size := by simp [hp, hvs]; omega
    rw [if_neg (by simp [hvs, hp] at *; omega)]
    have e : v.cells.zipIdx.foldl (fun cs (x : Value × Nat) => cs.setIfInBounds (k * size + x.2) x.1) (pre ++ old).toArray = ((pre ++ v.cells.toList) ++ old.drop size).toArray := by
      have key : ∀ (cs : List Value) (q : Nat) (acc old : List Value), acc.length = k * size + q → cs.length ≤ old.length →
          (cs.zipIdx q).foldl (fun a (x : Value × Nat) => a.setIfInBounds (k * size + x.2) x.1) (acc ++ old).toArray = (acc ++ cs ++ old.drop cs.length).toArray := by
        intro cs
        induction cs with
        | nil => intro q acc old _ _; simp
        | cons c cs ihc =>
          intro q acc old ha hlo
          match old, hlo with
          | o :: old, hlo =>
            simp only [List.zipIdx_cons, List.foldl_cons]
            have e1 : (acc ++ o :: old).toArray.setIfInBounds (k * size + q) c = ((acc ++ [c]) ++ old).toArray := by
              rw [← ha]
              simp [List.setIfInBounds_toArray]
            rw [e1, ihc (q + 1) (acc ++ [c]) old (by simp [ha]; omega) (by simpa using hlo)]
            simp
      have := key v.cells.toList 0 pre old (by simpa using hp) (by simpa [hvs] using hol)
      rw [← Array.foldl_toList, Array.toList_zipIdx]
      rw [this]
      simp [hvs]
    rw [e]
    have := ih (k + 1) (pre ++ v.cells.toList) (old.drop size) (fun u hu => hv u (by simp [hu])) (by simp [hp, hvs, Nat.succ_mul]) (by simp [ho, Nat.succ_mul])
    rw [this]
    simp
def Lits {α : Type} (τ : Ty α) (g : Hp) : List Value → List α → Prop
  | [], [] => True
  | v :: vs, x :: l => τ.rel g v.cells.toList x ∧ Lits τ g vs l
  | _, _ => False
theorem rowRel_lit {α : Type} {τ : Ty α} : ∀ {vs : List Value} {l : List α}, Lits τ g vs l → RowRel τ g (vs.flatMap fun v => v.cells.toList) l ∧ vs.length = l.length ∧ ∀ v ∈ vs, v.cells.size = τ.sz
  | [], [], _ => ⟨RowRel.nil, rfl, by simp⟩
  | v :: vs, x :: l, h => by
    obtain ⟨h2, h3, h4⟩ := rowRel_lit h.2
    refine ⟨(RowRel.one h.1).append h2, by simp [h3], fun u hu => ?_⟩
    rcases List.mem_cons.1 hu with rfl | hu
    · have := τ.len h.1; simpa using this
    · exact h4 u hu
  | [], _ :: _, h => h.elim
  | _ :: _, [], h => h.elim
theorem OW_litK {α : Type} {τ : Ty α} {T el : TypeId} {agg : Bool} {bytes : Nat} {z : Value} {parts : Array (Nat × Operand)} {len : Nat} (vs : List Value) (l : List α)
    (hT : P.underlying T = some (.slice el)) (he : TyI P el agg τ.sz bytes z) (hsz : 0 < τ.sz) (hs : Sep g0 w0 g w L) (hlen : len = l.length) (hsmall : Nat.ble (len * τ.sz) 16777216 = true)
    (hp : (parts.toList.map fun p => (p.1, ev E p.2)) = (vs.zipIdx 0).map fun p => (p.2, p.1)) (hl : Lits τ g vs l) (hd : Nat.blt d n.sz = true)
    (k : ∀ v' w' xs', RowRel τ g xs' l → (∀ L2, Sep g0 w0 g w L2 → Sep g0 w0 g w' L2) → Sep g0 w0 g w' (.row v' el τ.sz l.length xs' :: L) → OW P n ops Q rest (upd E d v') w') :
    OW P n ops Q (⟨some d, .buildSlice T len parts, ty, ps, af, none⟩ :: rest) E w := by
  obtain ⟨hrow, hvl, hvs⟩ := rowRel_lit hl
  have hsm : len * τ.sz ≤ 16777216 := Nat.le_of_ble_eq_true hsmall
  subst hlen
  have hfill := fill_row τ.sz vs 0 [] (madeCells z.cells (l.length * τ.sz)).toList hvs (by simp) (by simp [size_madeCells, hvl])
  simp only [List.nil_append, Array.toArray_toList] at hfill
  have hs' := hs.alloc (.cells (vs.flatMap fun v => v.cells.toList).toArray el)
  have hs2 := hs'.upd (i := 0) (r := .obj w.heap.size (.cells (vs.flatMap fun v => v.cells.toList).toArray el)) (r' := .row (.slice (some ⟨w.heap.size, 0, none⟩) l.length l.length) el τ.sz l.length (vs.flatMap fun v => v.cells.toList)) rfl
    ⟨rfl, rfl, rfl, Nat.le_refl _, fun _ _ _ => rfl⟩ ⟨by
      simp only [Res.okB]
      refine ⟨hrow.1, .inr ⟨w.heap.size, l.length, _, rfl, Nat.zero_le _, heap_alloc_new w _, Nat.le_refl _, le_of_bytes (b := τ.sz) (by omega) hsz, by simpa using hrow.1, ?_⟩⟩
      rw [List.take_of_length_le (Nat.le_of_eq hrow.1)]⟩ (fun b hb => .inl (by simpa [Res.blk, Value.ownBlock] using hb))
  refine O (.inl ?_) hd (k _ _ _ hrow (fun L2 h2 => (h2.alloc _).sub (.cons _ (List.Sublist.refl _))) hs2)
  have hn : ¬ (l.length * τ.sz > 2 ^ 24) := by omega
  have hpa : (parts.map fun x => (x.1, ev E x.2)) = ((vs.zipIdx 0).map fun p => (p.2, p.1)).toArray := by apply Array.ext'; rw [Array.toList_map, ← hp]
  have hbs : (Instr.buildSlice T l.length (((vs.zipIdx 0).map fun p => (p.2, p.1)).toArray)).run P w = .ok (.slice (some ⟨w.heap.size, 0, none⟩) l.length l.length) (w.alloc (.cells (vs.flatMap fun v => v.cells.toList).toArray el)) := by
    unfold Instr.buildSlice
    simp only [Sem.run_bind, run_underlying hT, Result.andThen_ok, run_sizeOf he, if_neg hn]
    by_cases h0 : l.length * τ.sz = 0
    · rw [h0] at hfill
      simp only [h0, if_true, Sem.run_bind, Sem.run_pure, Result.andThen_ok]
      have e0 : (Array.range 0).map (fun x => (#[] : Array Value)[x % (#[] : Array Value).size]!) = madeCells z.cells 0 := by simp [madeCells]
      rw [e0, hfill]
      simp [newRow]
    · simp only [h0, if_false, Sem.run_bind, run_zeroValue he, Sem.run_pure, Result.andThen_ok]
      have e0 : (Array.range (l.length * τ.sz)).map (fun x => z.cells[x % z.cells.size]!) = madeCells z.cells (l.length * τ.sz) := rfl
      rw [e0, hfill]
      simp [newRow]
  have hpa' : (parts.map fun (i, x) => (i, ev E x)) = ((vs.zipIdx 0).map fun p => (p.2, p.1)).toArray := hpa
  simp only [execOp, Sem.run_bind, hpa', hbs, Result.andThen_ok, Sem.run_pure]

theorem OW_lit {α : Type} {τ : Ty α} {T el : TypeId} {agg : Bool} {bytes : Nat} {z : Value} {parts : Array (Nat × Operand)} {len : Nat} (vs : List Value) (l : List α)
    (hT : P.underlying T = some (.slice el)) (he : TyI P el agg τ.sz bytes z) (hsz : 0 < τ.sz) (hs : Sep g0 w0 g w L) (hlen : len = l.length) (hsmall : Nat.ble (len * τ.sz) 16777216 = true)
    (hp : (parts.toList.map fun p => (p.1, ev E p.2)) = (vs.zipIdx 0).map fun p => (p.2, p.1)) (hl : Lits τ g vs l) (hd : Nat.blt d n.sz = true)
    (k : ∀ v' w' xs', RowRel τ g xs' l → Sep g0 w0 g w' (.row v' el τ.sz l.length xs' :: L) → OW P n ops Q rest (upd E d v') w') :
    OW P n ops Q (⟨some d, .buildSlice T len parts, ty, ps, af, none⟩ :: rest) E w :=
  OW_litK vs l hT he hsz hs hlen hsmall hp hl hd fun v' w' xs' h1 _ h2 => k v' w' xs' h1 h2

/-- Nobody writes a row any more. -/
theorem Sep.relRow {α : Type} {τ : Ty α} {l : List α} {i : Nat} {v : Value} {e : TypeId} {xs : List Value} (h : Sep g0 w0 g w L) (hi : L[i]? = some (.row v e τ.sz l.length xs)) (hr : RowRel τ g xs l) :
    ∃ g', Hle g g' ∧ RdS τ g' v l ∧ Sep g0 w0 g' w (L.eraseIdx i) := by
  have hrow := (h.at hi).out
  rcases hrow.2 with ⟨rfl, hn⟩ | ⟨b, cap, cur, rfl, _, hb, hnc, _, hcs, ht⟩
  · have : l = [] := List.eq_nil_of_length_eq_zero hn
    subst this
    exact ⟨g, Hle.refl g, RdS.nil, h.sub (List.eraseIdx_sublist L i)⟩
  · obtain ⟨hs, hle⟩ := h.release hi (b := b) rfl hb
    refine ⟨_, hle, ⟨xs, hr.mono hle, .inr ⟨b, 0, cap, cur, e, (0, 0), rfl, hnc, by simp [gadd], fun j u hu => ?_⟩⟩, hs⟩
    rw [← ht, List.getElem?_take] at hu
    split at hu
    · simpa using hu
    · cases hu
end
end Go.Lx
