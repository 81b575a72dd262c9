/- Lx, part 21: the keys of a map, sorted; slices.Grow of nothing. -/
import Derived.Test.YtajmekjcnbmaaaaLxIter
import Derived.Test.YtajmekjcnbmaaaaLxFrame
import Derived.WideShapes
import Derived.Shelf.SlIterI.Sorted
import Derived.Shelf.Spec.SlicesGrow
namespace Go.Lx
open Go.RowKit Go.Maps Go.Proofs Go.Shelf
open Go.WideElems (Fit rd rg pl)

def insI (x : Int) : List Int → List Int
  | [] => [x]
  | y :: l => if x ≤ y then x :: y :: l else y :: insI x l
def isort : List Int → List Int
  | [] => []
  | x :: l => insI x (isort l)
theorem insI_perm (x : Int) : ∀ l, (insI x l).Perm (x :: l)
  | [] => List.Perm.refl _
  | y :: l => by
    unfold insI
    split
    · exact List.Perm.refl _
    · exact ((insI_perm x l).cons y).trans (List.Perm.swap _ _ _)
theorem isort_perm : ∀ l, (isort l).Perm l
  | [] => List.Perm.refl _
  | x :: l => (insI_perm x _).trans ((isort_perm l).cons x)
theorem insI_sorted (x : Int) : ∀ l : List Int, l.Pairwise (· ≤ ·) → (insI x l).Pairwise (· ≤ ·)
  | [], _ => by simp [insI]
  | y :: l, h => by
    unfold insI
    obtain ⟨h1, h2⟩ := List.pairwise_cons.1 h
    split
    · rename_i hxy
      refine List.pairwise_cons.2 ⟨fun z hz => ?_, h⟩
      rcases List.mem_cons.1 hz with rfl | hz
      · exact hxy
      · exact Int.le_trans hxy (h1 z hz)
    · rename_i hxy
      refine List.pairwise_cons.2 ⟨fun z hz => ?_, insI_sorted x l h2⟩
      rcases List.mem_cons.1 ((insI_perm x l).mem_iff.1 hz) with rfl | hz
      · omega
      · exact h1 z hz
theorem isort_sorted : ∀ l : List Int, (isort l).Pairwise (· ≤ ·)
  | [] => List.Pairwise.nil
  | x :: l => insI_sorted x _ (isort_sorted l)
theorem mergeSort_isort {ss l : List Int} (h : ss.Perm l) : ss.mergeSort leI = isort l := by
  have tr : ∀ a b c : Int, leI a b = true → leI b c = true → leI a c = true := fun a b c h1 h2 => by simp only [leI, decide_eq_true_eq] at *; exact Int.le_trans h1 h2
  have to : ∀ a b : Int, (leI a b || leI b a) = true := fun a b => by simp only [leI, Bool.or_eq_true, decide_eq_true_eq]; exact Int.le_total a b
  refine List.Perm.eq_of_pairwise (le := fun a b : Int => a ≤ b) (fun a b _ _ h1 h2 => Int.le_antisymm h1 h2) ((List.pairwise_mergeSort tr to ss).imp fun h => by simpa [leI] using h) (isort_sorted l) (((List.mergeSort_perm ss leI).trans h).trans (isort_perm l).symm)
def keysM {V : Type} (m : List (Int × V)) : Option (List Int) := if m.length ≤ 17592186044416 ∧ ∀ p ∈ m, -9223372036854775808 ≤ p.1 ∧ p.1 ≤ 9223372036854775807 then some (isort (m.map (·.1))) else none
theorem keysM_some {V : Type} {m : List (Int × V)} {l : List Int} (h : keysM m = some l) : m.length ≤ 17592186044416 ∧ (∀ p ∈ m, -9223372036854775808 ≤ p.1 ∧ p.1 ≤ 9223372036854775807) ∧ l = isort (m.map (·.1)) := by
  unfold keysM at h
  split at h
  · rename_i hc; exact ⟨hc.1, hc.2, (Option.some.inj h).symm⟩
  · cases h
def anyV : Value → Option (DataW Unit × List MemPlace) := fun _ => some (.nil, [])
theorem mrel_owns {P : Program} {Tk : TypeId} {V : Type} {vf : V → Value} {es : Array MapEntry} {ck b : Nat} {m : List (Int × V)} {w : World} (hT : P.underlying Tk = some (.int .i64)) (hb : w.heap[b]? = some (.map es ck)) (hm : MRel (Value.int .i64) vf es ck m)
    (hl : m.length ≤ 17592186044416) (hr : ∀ p ∈ m, -9223372036854775808 ≤ p.1 ∧ p.1 ≤ 9223372036854775807) :
    ∃ D0 : DataW Unit, w.ownsMap P Tk anyV b m.length D0 ∧ Maps.size D0 = m.length ∧ (intKeys D0).Perm (m.map (·.1)) := by
  have hrd : ∀ x ∈ es.toList, ∃ a : Int, x.key = .int .i64 a ∧ rd P Tk anyV x = some (.int .i64 a, .nil) := by
    intro x hx
    have hk : x.key ∈ es.toList.map (·.key) := List.mem_map.2 ⟨x, hx, rfl⟩
    rw [hm.keys] at hk
    obtain ⟨a, ha, he⟩ := List.mem_map.1 hk
    obtain ⟨p, hp, rfl⟩ := List.mem_map.1 ha
    refine ⟨p.1, he.symm, ?_⟩
    have h1 := hr p hp
    have hw : (Lit.int .i64 p.1).wf = true := by
      simp only [Lit.wf, Bool.and_eq_true, decide_eq_true_eq]
      exact ⟨h1.1, h1.2⟩
    have : keyOf P Tk x.key = some (.int .i64 p.1) := by
      rw [← he]
      simp [keyOf, hT, mapKey, hw]
    simp [rd, this, anyV]
  refine ⟨_, ⟨es, ck, hb, ⟨?_, hm.stamp, fun x hx => ?_⟩, by rw [hm.size]; exact Nat.le_refl _, rfl⟩, ?_, ?_⟩
  · rw [hm.size]; unfold maxLen; omega
  · obtain ⟨a, _, h⟩ := hrd x hx; exact ⟨_, h⟩
  · show (List.foldr DataW.insert [] _).length = _
    rw [length_sorted, List.length_map, Array.length_toList, hm.size]
  · show ((List.foldr DataW.insert [] (es.toList.map (rg P Tk anyV))).map fun p => intOf p.1).Perm _
    refine ((Go.WideShapes.sorted_perm _).map _).trans ?_
    rw [List.map_map]
    have e : es.toList.map ((fun p : Lit × DataW Unit => intOf p.1) ∘ rg P Tk anyV) = m.map (·.1) := by
      have hinj : ∀ l1 l2 : List Int, l1.map (Value.int .i64) = l2.map (Value.int .i64) → l1 = l2 := by
        intro l1 l2 h
        refine List.map_inj_right (f := Value.int .i64) (fun x y h => ?_) |>.1 h
        cases h; rfl
      refine hinj _ _ ?_
      rw [← hm.keys, List.map_map]
      refine List.map_congr_left fun x hx => ?_
      obtain ⟨a, h1, h2⟩ := hrd x hx
      simp [rg, h2, h1, intOf]
    rw [e]
/-- What maps.Keys hands back. -/
def KeysC (P : Program) (f g1 : FuncId) (T : TypeId) : Prop := ∀ (mb : Option Nat) (W : World), CallsV P f #[.map mb] W fun v w' => v = .func (.func g1) #[] #[.pointer (some ⟨W.heap.size, 0, none⟩)] ∧ w' = W.alloc (.cells #[.map mb] T)
theorem keysC_of {P : Program} {ρ : Ren} (L : SlLaysZI.n7 P ρ) : KeysC P (ρ.f 7) (ρ.f 10) (ρ.t 23) := fun mb W => (callsIn_wide.1 (AnyZI.keys_in L Fence.wide 5 trivial rfl mb W)).mono fun _ _ ⟨h1, h2⟩ => ⟨_, h1, rfl, h2⟩
/-- What slices.Sorted makes of it. -/
def SortedC (P : Program) (f g1 : FuncId) (Tk : TypeId) : Prop := ∀ (Bm mb nn : Nat) (D0 : DataW Unit) (w : World), Bm < w.heap.size → w.cell? ⟨Bm, 0, none⟩ = some (.map (some mb)) → w.ownsMap P Tk anyV mb nn D0 → Maps.size D0 * 8 ≤ 140737488355328 →
  CallsV P f #[.func (.func g1) #[] #[.pointer (some ⟨Bm, 0, none⟩)]] w fun v w' => ∃ ss : List Int, ss.Perm (intKeys D0) ∧ w'.ownsRow w.heap.size Tk 1 v ss.length ((ss.mergeSort leI).map encZ) ∧ Below w.heap.size w w'
theorem sortedC_of {P : Program} {ρ ρ' : Ren} (L : SlLaysZI.n7 P ρ) (L' : SlLaysZI.n6 P ρ') (hk : ρ'.t 26 = ρ.t 26) (hs : AnyZI.SortsIn P ρ' Fence.wide 4) (e9 : ∀ args w, (callFunc (ρ'.f 9) args).run P w = .ok (.enter (ρ'.f 9) args) w) (e10 : ∀ args w, (callFunc (ρ.f 10) args).run P w = .ok (.enter (ρ.f 10) args) w) :
    SortedC P (ρ'.f 6) (ρ.f 10) (ρ.t 26) := by
  intro Bm mb nn D0 w hB hc hown hsz
  have hseq : SeqGives Fence.wide 2 P (ρ.f 10) #[.pointer (some ⟨Bm, 0, none⟩)] encZ (fun ss => ss.Perm (intKeys D0)) (Maps.size D0) w := AnyZI.keys_gives { L with } Fence.wide 2 trivial rfl (by omega) Bm mb nn D0 w hB hc hown
  refine (callsIn_wide.1 (AnyZI.sorted_in L' Fence.wide 5 trivial trivial trivial trivial rfl (by omega) hs e9 (ρ.f 10) _ trivial e10 _ _ (by unfold maxLen; omega) hsz w hseq)).mono ?_
  rintro e w' ⟨v, ss, rfl, h1, h2, h3, h4⟩
  rw [hk] at h2
  exact ⟨v, rfl, ss, h1, h2, h4⟩
section
variable {P : Program} {n : Fr} {Q : EPost} {E : Env} {w : World} {ops : Array Oper} {rest : List Oper} {d : Tmp} {ty : TypeId} {ps : String} {af : Array Edge} {g0 g : Hp} {w0 : World} {L : List Res}
theorem OW_keys {f g1 : FuncId} {T : TypeId} {ats : Array TypeId} {x : Operand} {mb : Option Nat} (hc : KeysC P f g1 T) (hf : CF P f) (hs : Sep g0 w0 g w L) (hx : ev E x = .map mb) (hd : Nat.blt d n.sz = true)
    (k : ∀ b w', Sep g0 w0 g w' (box b T [.map mb] :: L) → OW P n ops Q rest (upd E d (.func (.func g1) #[] #[.pointer (some ⟨b, 0, none⟩)])) w') :
    OW P n ops Q (⟨some d, .call { callee := .value (.func f), args := #[x], argTypes := ats }, ty, ps, af, none⟩ :: rest) E w := by
  refine C [.map mb] hf (by simp [hx]) (hc mb w) hd ?_
  rintro v w' ⟨rfl, rfl⟩
  exact k _ _ (hs.alloc _)
theorem OW_sorted {f g1 : FuncId} {Tk T : TypeId} {ats : Array TypeId} {x : Operand} {b mb i j ck : Nat} {es : Array MapEntry} {V : Type} {vf : V → Value} {m : List (Int × V)} {l : List Int} (hc : SortedC P f g1 Tk) (hf : CF P f) (hT : P.underlying Tk = some (.int .i64)) (hs : Sep g0 w0 g w L)
    (hi : L[i]? = some (box b T [.map (some mb)])) (hj : L[j]? = some (.obj mb (.map es ck))) (hm : MRel (Value.int .i64) vf es ck m) (hk : keysM m = some l) (hx : ev E x = .func (.func g1) #[] #[.pointer (some ⟨b, 0, none⟩)]) (hd : Nat.blt d n.sz = true)
    (k : ∀ v w' xs, RowRel (tInt .i64) g xs l → Sep g0 w0 g w' (.row v Tk (tInt .i64).sz l.length xs :: L) → OW P n ops Q rest (upd E d v) w') :
    OW P n ops Q (⟨some d, .call { callee := .value (.func f), args := #[x], argTypes := ats }, ty, ps, af, none⟩ :: rest) E w := by
  obtain ⟨h1, h2, rfl⟩ := keysM_some hk
  have hb := (hs.at hi).out
  have hmb := (hs.at hj).out
  simp only [Res.okB] at hb hmb
  obtain ⟨D0, ho, hz, hp⟩ := mrel_owns hT hmb hm h1 h2
  refine C [_] hf (by simp [hx]) (hc b mb _ D0 w (Array.getElem?_eq_some_iff.1 hb).1 (by simp [World.cell?, hb]) ho (by omega)) hd ?_
  rintro v w' ⟨ss, hss, hrow, hbel⟩
  have e := mergeSort_isort (hss.trans hp)
  have hlen : ss.length = (isort (m.map (·.1))).length := by rw [← e, List.length_mergeSort]
  rw [e, hlen] at hrow
  refine k v w' ((isort (m.map (·.1))).map encZ) ?_ ?_
  · refine ⟨by simp [tInt], fun i x hx => ?_⟩
    show (List.drop (i * 1) _).take 1 = [Value.int .i64 x]
    obtain ⟨hl, rfl⟩ := List.getElem?_eq_some_iff.1 hx
    rw [Nat.mul_one, List.drop_eq_getElem_cons (by simpa using hl)]
    simp
  · have hx := ext_of_below hs.imm hbel
    have hok : (Res.row v Tk (tInt .i64).sz (isort (m.map (·.1))).length ((isort (m.map (·.1))).map encZ)).ok w' := ⟨⟨hrow.1, by
      rcases hrow.2 with h | ⟨q, cap, cur, a1, _, a3⟩
      · exact .inl h
      · exact .inr ⟨q, cap, cur, a1, Nat.zero_le _, a3⟩⟩⟩
    refine hs.callOwn (L' := [_]) ⟨hx, by simpa using hok, ?_, by simp⟩
    intro r hr q hq
    simp only [List.mem_singleton] at hr
    subst hr
    rcases hrow.2 with ⟨rfl, _⟩ | ⟨q', cap, cur, rfl, a2, _⟩
    · simp [Res.blk, Value.ownBlock] at hq
    · simp only [Res.blk, Value.ownBlock, Option.some.injEq] at hq
      subst hq
      exact ⟨a2, hs.none_at a2⟩
end
def growM (l : List Int) (n : Int) : Option (List Int) := if l = [] ∧ 0 ≤ n ∧ n ≤ 17592186044416 then some [] else none
theorem grow_ok {P : Program} {ρ : Ren} (L : Lays8.n4 P ρ) (hI : (P.info? (ρ.t 25)).map (fun i => (i.zero, i.size, i.bytes)) = some (some (.int .i64 0), 1, 8)) {l : List Int} {k : Int} {r : List Int} (hM : growM l k = some r) {g0 : Hp} {w0 : World} (hi : Imm g0 w0) :
    CallsV P (ρ.f 4) #[.slice none 0 0, .int .i64 k] w0 (fun v w' => ∃ g' xs, RowRel (tInt .i64) g' xs r ∧ Sep g0 w0 g' w' [.row v (ρ.t 25) (tInt .i64).sz r.length xs]) := by
  unfold growM at hM
  split at hM
  · rename_i hc
    obtain ⟨_, h0, h1⟩ := hc
    obtain rfl := Option.some.inj hM
    obtain ⟨q, rfl⟩ := Int.eq_ofNat_of_zero_le h0
    cases hi0 : P.info? (ρ.t 25) with
    | none => rw [hi0] at hI; cases hI
    | some i0 =>
      rw [hi0] at hI
      simp only [Option.map_some, Option.some.injEq, Prod.mk.injEq] at hI
      obtain ⟨z1, z2, z3⟩ := hI
      rcases Nat.eq_zero_or_pos q with rfl | hq
      · refine (Any8.slices_Grow_room L none 0 0 0 w0 (by omega) (by omega) (by omega) (by omega)).mono ?_
        rintro e w' ⟨rfl, rfl⟩
        exact ⟨_, rfl, g0, [], RowRel.nil, (Sep.start hi).nilRow _ _⟩
      · refine (Any8.slices_Grow_grow L i0 (.int .i64 0) hi0 z1 (by omega) none 0 0 q [] w0 (by omega) (by omega) (by rw [z3]; omega) (by omega) (by simp) (fun _ => rfl) (fun a h => by cases h)).mono ?_
        rintro e w' ⟨rfl, rfl⟩
        refine ⟨_, rfl, g0, [], RowRel.nil, ?_⟩
        have hs := (Sep.start hi).drew.alloc (.cells (#[] ++ Builtin.zeroCells (Value.int .i64 0).cells (0 + q - 0) ++ Builtin.zeroCells (Value.int .i64 0).cells (grownCap w0 (0 + q) 0 (ρ.t 25) - (0 + q))) (ρ.t 25))
        have hb := (hs.at (i := 0) rfl).out
        simp only [Res.okB] at hb
        have hge : 0 + q ≤ grownCap w0 (0 + q) 0 (ρ.t 25) := grownCap_ge w0 _ _ _
        have hle : grownCap w0 (0 + q) 0 (ρ.t 25) ≤ maxLen := grownCap_le_maxLen w0 _ _ _ (by unfold maxLen; omega)
        refine hs.upd (i := 0) rfl (w' := _) ⟨rfl, rfl, rfl, Nat.le_refl _, fun _ _ _ => rfl⟩ (r' := .row _ (ρ.t 25) (tInt .i64).sz 0 []) ⟨⟨by simp, .inr ⟨_, _, _, rfl, Nat.zero_le _, hb, Nat.zero_le _, hle, ?_, by simp⟩⟩⟩ (fun b hb => .inl hb)
        simp only [Nat.zero_add] at hge ⊢
        simp [Builtin.zeroCells, tInt, Value.cells]
        omega
  · cases hM
end Go.Lx
