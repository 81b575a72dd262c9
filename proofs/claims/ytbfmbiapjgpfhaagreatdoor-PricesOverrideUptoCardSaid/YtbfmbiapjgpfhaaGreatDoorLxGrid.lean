/- Lx, part 19: rows whose elements are rows or maps of the call's own. -/
import Derived.Test.YtbfmbiapjgpfhaaGreatDoorLxOrd
import Derived.Test.YtbfmbiapjgpfhaaGreatDoorLxFn
namespace Go.Lx
open Go.RowKit

/-- A block of the call's own that a value leads to, and what it holds. -/
structure InT (β : Type) where
  rel : Hp → Value → β → Res → Prop
  mono : ∀ {g g' : Hp} {v : Value} {l : β} {r : Res}, Hle g g' → rel g v l r → rel g' v l r
  one : ∀ {g : Hp} {v : Value} {l : β} {r : Res}, rel g v l r → v.oneCell' = true
def iRow {α : Type} (τ : Ty α) (eI : TypeId) : InT (List α) :=
  ⟨fun g v l r => (∃ a c, v = .slice a l.length c) ∧ ∃ ys, r = .row v eI τ.sz l.length ys ∧ RowRel τ g ys l, fun hg ⟨h1, ys, h2, h3⟩ => ⟨h1, ys, h2, h3.mono hg⟩, fun ⟨⟨a, c, h⟩, _⟩ => by rw [h]; rfl⟩
def iMap {K V : Type} (ek : K → Value) (ev : V → Value) : InT (List (K × V)) :=
  ⟨fun _ v m r => ∃ b es ck, v = .map (some b) ∧ r = .obj b (.map es ck) ∧ MRel ek ev es ck m, fun _ h => h, fun ⟨b, _, _, h, _⟩ => by rw [h]; rfl⟩
/-- The cells of a row, what they lead to, and the blocks. -/
structure GRel {β : Type} (I : InT β) (g : Hp) (xs : List Value) (ll : List β) (G : List Res) : Prop where
  lx : xs.length = ll.length
  lG : G.length = ll.length
  el : ∀ (i : Nat) (l : β), ll[i]? = some l → ∃ v r, xs[i]? = some v ∧ G[i]? = some r ∧ I.rel g v l r
section
variable {β : Type} {I : InT β} {g g' : Hp} {xs ys : List Value} {ll mm : List β} {G H : List Res}
theorem GRel.mono (h : GRel I g xs ll G) (hg : Hle g g') : GRel I g' xs ll G := ⟨h.lx, h.lG, fun i l hl => by
  obtain ⟨v, r, h1, h2, h3⟩ := h.el i l hl
  exact ⟨v, r, h1, h2, I.mono hg h3⟩⟩
theorem GRel.nil : GRel I g [] [] [] := ⟨rfl, rfl, fun i l h => by simp at h⟩
theorem GRel.append (h : GRel I g xs ll G) (h' : GRel I g ys mm H) : GRel I g (xs ++ ys) (ll ++ mm) (G ++ H) := by
  refine ⟨by simp [h.lx, h'.lx], by simp [h.lG, h'.lG], fun i l hl => ?_⟩
  have h1 := h.lx
  have h2 := h.lG
  by_cases hi : i < ll.length
  · rw [List.getElem?_append_left hi] at hl
    obtain ⟨v, r, e1, e2, e3⟩ := h.el i l hl
    exact ⟨v, r, by rw [List.getElem?_append_left (by omega)]; exact e1, by rw [List.getElem?_append_left (by omega)]; exact e2, e3⟩
  · rw [List.getElem?_append_right (by omega)] at hl
    obtain ⟨v, r, e1, e2, e3⟩ := h'.el _ l hl
    exact ⟨v, r, by rw [List.getElem?_append_right (by omega), h1]; exact e1, by rw [List.getElem?_append_right (by omega), h2]; exact e2, e3⟩
theorem GRel.cons {v : Value} {l : β} {r : Res} (h : I.rel g v l r) (h' : GRel I g ys mm H) : GRel I g (v :: ys) (l :: mm) (r :: H) := by
  refine ⟨by simp [h'.lx], by simp [h'.lG], fun i x hx => ?_⟩
  cases i with
  | zero => simp at hx; subst hx; exact ⟨v, r, rfl, rfl, h⟩
  | succ i => exact h'.el i x (by simpa using hx)
theorem GRel.put (h : GRel I g xs ll G) {k : Nat} {v : Value} {l' : β} {r' : Res} (hx : xs[k]? = some v) (hi : I.rel g v l' r') : GRel I g xs (ll.set k l') (G.set k r') := by
  refine ⟨by simp [h.lx], by simp [h.lG], fun i l hl => ?_⟩
  have hk := (List.getElem?_eq_some_iff.1 hx).1
  have h1 := h.lx
  have h2 := h.lG
  rw [List.getElem?_set] at hl
  split at hl
  · rename_i e
    subst e
    rw [if_pos (by omega)] at hl
    obtain rfl := Option.some.inj hl
    exact ⟨v, r', hx, by rw [List.getElem?_set_self (by omega)], hi⟩
  · rename_i e
    obtain ⟨u, r, e1, e2, e3⟩ := h.el i l hl
    exact ⟨u, r, e1, by rw [List.getElem?_set_ne e]; exact e2, e3⟩
theorem GRel.set (h : GRel I g xs ll G) {k : Nat} {v : Value} {l' : β} {r' : Res} (hk : k < ll.length) (hi : I.rel g v l' r') : GRel I g (xs.set k v) (ll.set k l') (G.set k r') := by
  refine ⟨by simp [h.lx], by simp [h.lG], fun i l hl => ?_⟩
  have h1 := h.lx
  have h2 := h.lG
  rw [List.getElem?_set] at hl
  split at hl
  · rename_i e
    subst e
    obtain rfl := Option.some.inj hl
    exact ⟨v, r', by rw [List.getElem?_set_self (by omega)], by rw [List.getElem?_set_self (by omega)], hi⟩
  · rename_i e
    obtain ⟨u, r, e1, e2, e3⟩ := h.el i l hl
    exact ⟨u, r, by rw [List.getElem?_set_ne e]; exact e1, by rw [List.getElem?_set_ne e]; exact e2, e3⟩
theorem GRel.ones (h : GRel I g xs ll G) : ∀ v ∈ xs, v.oneCell' = true := by
  intro v hv
  obtain ⟨i, hi, rfl⟩ := List.mem_iff_getElem.1 hv
  have hl : i < ll.length := by rw [← h.lx]; exact hi
  obtain ⟨u, r, e1, _, e3⟩ := h.el i _ (List.getElem?_eq_getElem hl)
  rw [List.getElem?_eq_getElem hi] at e1
  rw [Option.some.inj e1]
  exact I.one e3
end
/-- Values as they are. -/
def tVal : Ty Value := ⟨1, fun _ cs v => cs = [v] ∧ v.oneCell' = true, fun _ h => h, fun h => by rw [h.1]; rfl, fun h v hv => by rw [h.1] at hv; simp at hv; subst hv; exact h.2⟩
theorem rowVal {g : Hp} {xs : List Value} (h : ∀ v ∈ xs, v.oneCell' = true) : RowRel tVal g xs xs := by
  refine ⟨by simp [tVal], fun i x hx => ⟨?_, h x (List.mem_of_getElem? hx)⟩⟩
  show (xs.drop (i * 1)).take 1 = [x]
  obtain ⟨hi, rfl⟩ := List.getElem?_eq_some_iff.1 hx
  rw [Nat.mul_one, List.drop_eq_getElem_cons hi]
  rfl
theorem rowVal_eq {g : Hp} {xs ys : List Value} (h : RowRel tVal g xs ys) : xs = ys := by
  have hl : xs.length = ys.length := by have := h.1; simpa [tVal] using this
  refine List.ext_getElem hl fun i h1 h2 => ?_
  have : (xs.drop (i * 1)).take 1 = [ys[i]] := (h.2 i _ (List.getElem?_eq_getElem h2)).1
  rw [Nat.mul_one, List.drop_eq_getElem_cons h1] at this
  simp only [List.take_succ_cons, List.take_zero, List.cons.injEq, and_true] at this
  exact this
theorem appM_len {α β : Type} {B : Nat} {l m : List α} {r : List α} {l' m' : List β} (h : appM B l m = some r) (h1 : l'.length = l.length) (h2 : m'.length = m.length) : appM B l' m' = some (l' ++ m') ∧ r = l ++ m := by
  obtain ⟨e, hb⟩ := appM_some h
  refine ⟨?_, e⟩
  unfold appM
  rw [if_pos (by rw [h1, h2]; exact hb)]
/-! ### lists of blocks -/
theorem erase_perm {α : Type} : ∀ {l : List α} {i : Nat} (h : i < l.length), l.Perm (l[i] :: l.eraseIdx i)
  | x :: l, 0, _ => List.Perm.refl _
  | x :: l, i + 1, h => ((erase_perm (l := l) (i := i) (by simpa using h)).cons x).trans (List.Perm.swap _ _ _)
theorem Sep.perm {g0 g : Hp} {w0 w : World} {L L' : List Res} (h : Sep g0 w0 g w L) (hp : L.Perm L') : Sep g0 w0 g w L' :=
  ⟨h.ext, fun r hr => h.ok r (hp.mem_iff.2 hr), fun r hr => h.fresh r (hp.mem_iff.2 hr), (hp.pairwise_iff fun hxy b hb hc => hxy b hc hb).1 h.apart⟩
theorem gget {A G B : List Res} {k : Nat} {r : Res} (h : G[k]? = some r) : (A ++ (G ++ B))[A.length + k]? = some r := by
  have hk := (List.getElem?_eq_some_iff.1 h).1
  rw [List.getElem?_append_right (by omega), Nat.add_sub_cancel_left, List.getElem?_append_left hk]
  exact h
theorem gset {A G B : List Res} {k : Nat} {r : Res} (hk : k < G.length) : (A ++ (G ++ B)).set (A.length + k) r = A ++ (G.set k r ++ B) := by
  rw [List.set_append_right _ _ (by omega), Nat.add_sub_cancel_left, List.set_append_left _ _ hk]
section
variable {g0 g : Hp} {w0 w : World} {A G B : List Res}
/-- Rows of nothing. -/
theorem Sep.nilRows (h : Sep g0 w0 g w (A ++ B)) (n : Nat) (e : TypeId) (sz : Nat) : Sep g0 w0 g w (A ++ (List.replicate n (.row (.slice none 0 0) e sz 0 []) ++ B)) := by
  have h1 : ∀ n, Sep g0 w0 g w (List.replicate n (.row (.slice none 0 0) e sz 0 []) ++ (A ++ B)) := by
    intro n
    induction n with
    | zero => exact h
    | succ n ih => rw [List.replicate_succ]; exact ih.nilRow e sz
  refine (h1 n).perm ?_
  rw [← List.append_assoc, ← List.append_assoc]
  exact List.Perm.append_right _ List.perm_append_comm
theorem grel_nils {α : Type} {τ : Ty α} {eI : TypeId} {g : Hp} (n : Nat) : GRel (iRow τ eI) g (List.replicate n (.slice none 0 0)) (List.replicate n []) (List.replicate n (.row (.slice none 0 0) eI τ.sz 0 [])) := by
  refine ⟨by simp, by simp, fun i l hl => ?_⟩
  have hi := (List.getElem?_eq_some_iff.1 hl).1
  simp only [List.length_replicate] at hi
  rw [List.getElem?_replicate, if_pos hi] at hl
  obtain rfl := Option.some.inj hl
  exact ⟨.slice none 0 0, .row (.slice none 0 0) eI τ.sz 0 [], by rw [List.getElem?_replicate, if_pos hi], by rw [List.getElem?_replicate, if_pos hi], ⟨none, 0, rfl⟩, [], rfl, RowRel.nil⟩
/-- An element of the outer row. -/
theorem Sep.gridAt {L : List Res} {β : Type} {I : InT β} {ll : List β} {i : Nat} {v : Value} {e : TypeId} {xs : List Value} (h : Sep g0 w0 g w L) (hi : L[i]? = some (.row v e 1 ll.length xs)) (hG : GRel I g xs ll G) {q : Int} {l : β} (hq : idxL ll q = some l) :
    ∃ b cap, v = .slice (some ⟨b, 0, none⟩) ll.length cap ∧ ∃ u r, xs[q.toNat]? = some u ∧ G[q.toNat]? = some r ∧ I.rel g u l r ∧
      ∀ w', (Res.row v e 1 ll.length xs).ok w' → ∀ j y, [u][j]? = some y → w'.cell? ⟨b, 0 + q.toNat * 1 + j, none⟩ = some y := by
  obtain ⟨h0, h1, hl⟩ := idxL_some hq
  obtain ⟨u, r, e1, e2, e3⟩ := hG.el _ _ hl
  have hi' : L[i]? = some (.row v e tVal.sz xs.length xs) := by rw [hG.lx]; exact hi
  have hxq : idxL xs q = some u := by
    obtain ⟨k, rfl⟩ := Int.eq_ofNat_of_zero_le h0
    rw [Int.toNat_natCast] at e1
    have hk := (List.getElem?_eq_some_iff.1 e1).1
    unfold idxL
    rw [if_pos (by omega), Int.toNat_natCast]
    exact e1
  obtain ⟨b, cap, hv, cs, hc, hld⟩ := h.rowEl hi' (rowVal hG.ones) hxq
  obtain ⟨rfl, _⟩ := hc
  rw [hG.lx] at hv
  refine ⟨b, cap, hv, u, r, e1, e2, e3, fun w' hw' j y hy => hld w' ?_ j y hy⟩
  rw [hG.lx]; exact hw'
/-- A store into an element of an inner row. -/
theorem Sep.gridPut {α : Type} {τ : Ty α} {eI : TypeId} {ll ll2 : List (List α)} {xs ys : List Value} {l l' : List α} {u : Value} {p q : Int} {x : α} {cs : List Value} (h : Sep g0 w0 g w (A ++ (G ++ B))) (hG : GRel (iRow τ eI) g xs ll G)
    (hx : xs[p.toNat]? = some u) (hu : G[p.toNat]? = some (.row u eI τ.sz l.length ys)) (hr : RowRel τ g ys l) (hset : setL l q x = some l') (hset2 : setL ll p l' = some ll2) (hc : τ.rel g cs x) :
    ∃ b cap, u = .slice (some ⟨b, 0, none⟩) l.length cap ∧ ∃ w' G', (∀ P : Program, (storeCells ⟨b, 0 + q.toNat * τ.sz, none⟩ cs).run P w = .ok () w') ∧ GRel (iRow τ eI) g xs ll2 G' ∧ ll2.length = ll.length ∧ Sep g0 w0 g w' (A ++ (G' ++ B)) := by
  obtain ⟨b, cap, hv, w', xs', hst, hrel, hs⟩ := h.rowPut (gget (A := A) (B := B) hu) hr hset hc
  obtain ⟨h0, h1, rfl⟩ := setL_some hset2
  obtain ⟨_, _, e2⟩ := setL_some hset
  have hl' : l'.length = l.length := by rw [e2, List.length_set]
  have hk := (List.getElem?_eq_some_iff.1 hu).1
  rw [gset hk] at hs
  exact ⟨b, cap, hv, w', _, hst, hG.put hx ⟨⟨_, _, by rw [hv, hl']⟩, xs', rfl, hrel⟩, List.length_set, hs⟩
/-- An inner map has turned. -/
theorem Sep.gridMap {K V : Type} {ek : K → Value} {ev : V → Value} {ll ll2 : List (List (K × V))} {m' : List (K × V)} {xs : List Value} {b ck ck' : Nat} {es es' : Array MapEntry} {p : Int} (hG : GRel (iMap ek ev) g xs ll G) (hx : xs[p.toNat]? = some (Value.map (some b)))
    (hu : G[p.toNat]? = some (.obj b (.map es ck))) (hm : MRel ek ev es' ck' m') (hset2 : setL ll p m' = some ll2) (h : Sep g0 w0 g w ((A ++ (G ++ B)).set (A.length + p.toNat) (.obj b (.map es' ck')))) :
    ∃ G', GRel (iMap ek ev) g xs ll2 G' ∧ ll2.length = ll.length ∧ Sep g0 w0 g w (A ++ (G' ++ B)) := by
  obtain ⟨h0, h1, rfl⟩ := setL_some hset2
  rw [gset (List.getElem?_eq_some_iff.1 hu).1] at h
  exact ⟨_, hG.put hx ⟨b, es', ck', rfl, rfl, hm⟩, List.length_set, h⟩
/-- A row of the call's own becomes an element. -/
theorem Sep.gridSet {α : Type} {τ : Ty α} {eI : TypeId} {ll ll2 : List (List α)} {xs ys : List Value} {l : List α} {v u : Value} {e : TypeId} {i j : Nat} {p : Int} (h : Sep g0 w0 g w (A ++ (G ++ B))) (hG : GRel (iRow τ eI) g xs ll G)
    (hi : A[i]? = some (.row v e 1 ll.length xs)) (hj : A[j]? = some (.row u eI τ.sz l.length ys)) (hij : i ≠ j) (hr : RowRel τ g ys l) (hset : setL ll p l = some ll2) :
    ∃ b cap, v = .slice (some ⟨b, 0, none⟩) ll.length cap ∧ ∃ w' xs' G', (∀ P : Program, (storeCells ⟨b, 0 + p.toNat * 1, none⟩ [u]).run P w = .ok () w') ∧ GRel (iRow τ eI) g xs' ll2 G' ∧ Sep g0 w0 g w' ((A.set i (.row v e 1 ll2.length xs')).eraseIdx j ++ (G' ++ B)) := by
  have hil := (List.getElem?_eq_some_iff.1 hi).1
  have hjl := (List.getElem?_eq_some_iff.1 hj).1
  have hjA : (A ++ (G ++ B))[j]? = some (.row u eI τ.sz l.length ys) := by rw [List.getElem?_append_left hjl]; exact hj
  have hshape : ∃ a c, u = .slice a l.length c := h.rowShape hjA
  have hone : u.oneCell' = true := by obtain ⟨a, c, rfl⟩ := hshape; rfl
  obtain ⟨h0, h1, rfl⟩ := setL_some hset
  have hiA : (A ++ (G ++ B))[i]? = some (.row v e tVal.sz xs.length xs) := by rw [List.getElem?_append_left hil, hG.lx]; exact hi
  have hput : setL xs p u = some (xs.set p.toNat u) := by
    unfold setL
    rw [if_pos ⟨h0, by rw [hG.lx]; omega⟩]
  obtain ⟨b, cap, hv, w', xs', hst, hrel, hs⟩ := h.rowPut hiA (rowVal hG.ones) hput (cs := [u]) ⟨rfl, hone⟩
  obtain rfl := rowVal_eq hrel
  rw [hG.lx] at hv
  refine ⟨b, cap, hv, w', _, G.set p.toNat (.row u eI τ.sz l.length ys), hst, hG.set (by omega) ⟨hshape, ys, rfl, hr⟩, ?_⟩
  have hlen : (xs.set p.toNat u).length = (ll.set p.toNat l).length := by simp [hG.lx]
  rw [hlen, List.set_append_left _ _ hil] at hs
  generalize hA2 : A.set i (.row v e tVal.sz (ll.set p.toNat l).length (xs.set p.toNat u)) = A2 at hs
  have hA2' : A.set i (.row v e 1 (ll.set p.toNat l).length (xs.set p.toNat u)) = A2 := hA2
  rw [hA2']
  have hj2 : A2[j]? = some (.row u eI τ.sz l.length ys) := by rw [← hA2, List.getElem?_set_ne hij]; exact hj
  have hjl2 := (List.getElem?_eq_some_iff.1 hj2).1
  have hk : p.toNat < G.length := by rw [hG.lG]; omega
  have hr2 : A2[j]'hjl2 = .row u eI τ.sz l.length ys := (List.getElem?_eq_some_iff.1 hj2).2
  -- the old element goes, the row takes its place
  have p1 : (A2 ++ (G ++ B)).Perm ((.row u eI τ.sz l.length ys) :: (A2.eraseIdx j ++ (G ++ B))) := by
    have : A2.Perm (A2[j]'hjl2 :: A2.eraseIdx j) := (erase_perm hjl2)
    rw [hr2] at this
    exact List.Perm.append_right _ this
  have s1 := hs.perm p1
  have s2 : Sep g0 w0 g w' ((.row u eI τ.sz l.length ys) :: (A2.eraseIdx j ++ (G.eraseIdx p.toNat ++ B))) := s1.sub (.cons_cons _ ((List.Sublist.append_left ((List.eraseIdx_sublist G _).append_right B) _)))
  refine s2.perm ?_
  have p2 : (G.set p.toNat (.row u eI τ.sz l.length ys)).Perm ((.row u eI τ.sz l.length ys) :: G.eraseIdx p.toNat) := by
    have hk2 : p.toNat < (G.set p.toNat (.row u eI τ.sz l.length ys)).length := by simpa using hk
    have := erase_perm hk2
    rw [List.getElem_set_self, List.eraseIdx_set_eq] at this
    exact this
  have p3 : ((.row u eI τ.sz l.length ys) :: (A2.eraseIdx j ++ (G.eraseIdx p.toNat ++ B))).Perm (A2.eraseIdx j ++ ((.row u eI τ.sz l.length ys) :: G.eraseIdx p.toNat ++ B)) := List.perm_middle.symm
  exact p3.trans (List.Perm.append_left _ (List.Perm.append_right _ p2.symm))
/-- Nobody writes the inner rows any more. -/
theorem Sep.relGrid {α : Type} {τ : Ty α} {eI : TypeId} {B : List Res} : ∀ {ll : List (List α)} {xs : List Value} {G A : List Res} {g : Hp}, Sep g0 w0 g w (A ++ (G ++ B)) → GRel (iRow τ eI) g xs ll G →
    ∃ g', Hle g g' ∧ RowRel (tSl τ) g' xs ll ∧ Sep g0 w0 g' w (A ++ B)
  | [], xs, G, A, g, h, hG => by
    have h1 : xs = [] := List.eq_nil_of_length_eq_zero hG.lx
    have h2 : G = [] := List.eq_nil_of_length_eq_zero hG.lG
    subst h1 h2
    exact ⟨g, Hle.refl g, RowRel.nil, h⟩
  | l :: ll, xs, G, A, g, h, hG => by
    match xs, G, hG with
    | x :: xs, r :: G, hG =>
      obtain ⟨v, r', e1, e2, e3⟩ := hG.el 0 l rfl
      simp only [List.getElem?_cons_zero, Option.some.injEq] at e1 e2
      subst e1 e2
      obtain ⟨_, ys, rfl, hr⟩ := e3
      have hi : (A ++ (Res.row x eI τ.sz l.length ys :: G ++ B))[A.length]? = some (.row x eI τ.sz l.length ys) := by simp
      obtain ⟨g1, hle, hrd, hs⟩ := h.relRow hi hr
      have e : (A ++ (Res.row x eI τ.sz l.length ys :: G ++ B)).eraseIdx A.length = A ++ (G ++ B) := by
        rw [List.eraseIdx_append_of_length_le (Nat.le_refl _)]
        simp
      rw [e] at hs
      have hG2 : GRel (iRow τ eI) g1 xs ll G := by
        have := hG.mono hle
        refine ⟨by have := this.lx; simpa using this, by have := this.lG; simpa using this, fun i y hy => ?_⟩
        have h3 := this.el (i + 1) y (by simpa using hy)
        simpa using h3
      obtain ⟨g2, hle2, hrow, hs2⟩ := Sep.relGrid hs hG2
      refine ⟨g2, hle.trans hle2, ?_, hs2⟩
      have : RowRel (tSl τ) g2 [x] [l] := RowRel.one ⟨x, rfl, hrd.mono hle2⟩
      exact this.append hrow
    | [], _, hG => exact absurd hG.lx (by simp)
    | _ :: _, [], hG => exact absurd hG.lG (by simp)
end
end Go.Lx
namespace Go.Lx
open Go.RowKit
section
variable {P : Program} {n : Fr} {Q : EPost} {E : Env} {w : World} {ops : Array Oper} {rest : List Oper} {d : Tmp} {ty : TypeId} {ps : String} {af : Array Edge} {g0 g : Hp} {w0 : World} {A B G H : List Res}
theorem mkM_len {α β : Type} {B : Nat} {q : Int} {z : α} {r : List α} (h : mkM B q z = some r) (y : β) : mkM B q y = some (List.replicate q.toNat y) ∧ r = List.replicate q.toNat z := by
  obtain ⟨e, h0, h1⟩ := mkM_some h
  refine ⟨?_, e⟩
  unfold mkM
  rw [if_pos ⟨h0, h1⟩]
/-- A new row of rows. -/
theorem OW_makeG {α : Type} {τ : Ty α} {eI : TypeId} {T el : TypeId} {bytes : Nat} {z : Value} {x y : Operand} {k1 k2 : IntKind} {q : Int} {r : List (List α)}
    (hT : P.underlying T = some (.slice el)) (he : TyI P el false 1 bytes z) (hzc : z.cells = [Value.slice none 0 0].toArray) (hbp : 0 < bytes) (hs : Sep g0 w0 g w (A ++ B))
    (hx : ev E x = .int k1 q) (hy : ev E y = .int k2 q) (hM : mkM bytes q ([] : List α) = some r) (hd : Nat.blt d n.sz = true)
    (k : ∀ v' w' xs' G', GRel (iRow τ eI) g xs' r G' → Sep g0 w0 g w' ((.row v' el 1 r.length xs' :: A) ++ (G' ++ B)) → OW P n ops Q rest (upd E d v') w') :
    OW P n ops Q (⟨some d, .makeSlice T x y, ty, ps, af, none⟩ :: rest) E w := by
  obtain ⟨hM2, rfl⟩ := mkM_len hM (Value.slice none 0 0)
  refine OW_make (τ := tVal) (zc := [Value.slice none 0 0]) hT he hzc ⟨rfl, rfl⟩ hbp hs hx hy hM2 hd fun v' w' xs' hr hs' => ?_
  obtain rfl := rowVal_eq hr
  refine k v' w' _ _ (grel_nils (τ := τ) (eI := eI) q.toNat) ?_
  have hs2 : Sep g0 w0 g w' ((.row v' el 1 (List.replicate q.toNat ([] : List α)).length (List.replicate q.toNat (Value.slice none 0 0)) :: A) ++ B) := by
    rw [List.length_replicate] at hs' ⊢
    exact hs'
  exact hs2.nilRows _ _ _
/-- A literal of one row or map. -/
theorem OW_litG {β : Type} {I : InT β} {T el : TypeId} {bytes : Nat} {z : Value} {parts : Array (Nat × Operand)} {i : Nat} {r : Res} {u : Value} {l : β}
    (hT : P.underlying T = some (.slice el)) (he : TyI P el false 1 bytes z) (hs : Sep g0 w0 g w (A ++ B)) (hi : A[i]? = some r) (hin : I.rel g u l r)
    (hp : (parts.toList.map fun p => (p.1, ev E p.2)) = [(0, u)]) (hd : Nat.blt d n.sz = true)
    (k : ∀ v' w' xs' G', GRel I g xs' [l] G' → Sep g0 w0 g w' ((.row v' el 1 [l].length xs' :: A.eraseIdx i) ++ (G' ++ B)) → OW P n ops Q rest (upd E d v') w') :
    OW P n ops Q (⟨some d, .buildSlice T 1 parts, ty, ps, af, none⟩ :: rest) E w := by
  have hone := I.one hin
  have hcells : u.cells.toList = [u] := cells_one hone
  refine OW_lit (τ := tVal) [u] [u] hT he (by decide) hs rfl (by decide) hp ⟨⟨hcells, hone⟩, trivial⟩ hd fun v' w' xs' hr hs' => ?_
  obtain rfl := rowVal_eq hr
  refine k v' w' _ _ ((GRel.nil (g := g)).cons hin) ?_
  have hil := (List.getElem?_eq_some_iff.1 hi).1
  have hr2 : A[i]'hil = r := (List.getElem?_eq_some_iff.1 hi).2
  refine hs'.perm ?_
  have p1 := erase_perm hil
  rw [hr2] at p1
  have p2 : (A ++ B).Perm (A.eraseIdx i ++ ([r] ++ B)) := (List.Perm.append_right B p1).trans List.perm_middle.symm
  exact List.Perm.cons _ p2
/-- Rows of rows are joined. -/
theorem OW_appendG {β : Type} {I : InT β} {T el : TypeId} {bytes : Nat} {z : Value} {x y : Operand} {v u : Value} {ll mm r : List β} {xs ys : List Value} {i j : Nat}
    (hT : P.underlying T = some (.slice el)) (he : TyI P el false 1 bytes z) (hzs : z.cells.size = 1) (hbp : 0 < bytes) (hs : Sep g0 w0 g w (A ++ (H ++ (G ++ B))))
    (hi : A[i]? = some (.row v el 1 ll.length xs)) (hj : A[j]? = some (.row u el 1 mm.length ys)) (_ : i ≠ j) (hG : GRel I g xs ll G) (hH : GRel I g ys mm H)
    (hx : ev E x = v) (hy : ev E y = u) (hM : appM bytes ll mm = some r) (hd : Nat.blt d n.sz = true)
    (k : ∀ v' w' xs' G', GRel I g xs' r G' → Sep g0 w0 g w' ((A.set i (.row v' el 1 r.length xs')).eraseIdx j ++ (G' ++ B)) → OW P n ops Q rest (upd E d v') w') :
    OW P n ops Q (⟨some d, .call { callee := .builtin .append, args := #[x, y], argTypes := #[T, T] }, ty, ps, af, none⟩ :: rest) E w := by
  obtain ⟨hM2, rfl⟩ := appM_len (l' := xs) (m' := ys) hM hG.lx hH.lx
  have hil := (List.getElem?_eq_some_iff.1 hi).1
  have hjl := (List.getElem?_eq_some_iff.1 hj).1
  have hi' : (A ++ (H ++ (G ++ B)))[i]? = some (.row v el tVal.sz xs.length xs) := by rw [List.getElem?_append_left hil, hG.lx]; exact hi
  have hj' : (A ++ (H ++ (G ++ B)))[j]? = some (.row u el tVal.sz ys.length ys) := by rw [List.getElem?_append_left hjl, hH.lx]; exact hj
  refine OW_append (τ := tVal) hT he hzs (by decide) hbp hs hi' (rowVal hG.ones) hx hy (hs.rowSrc hj') (rowVal hH.ones) hM2 hd fun v' w' xs' hr hs' => ?_
  obtain rfl := rowVal_eq hr
  refine k v' w' _ _ (hG.append hH) ?_
  have hlen : (xs ++ ys).length = (ll ++ mm).length := by simp [hG.lx, hH.lx]
  rw [List.set_append_left _ _ hil, hlen] at hs'
  generalize hA2 : A.set i (.row v' el tVal.sz (ll ++ mm).length (xs ++ ys)) = A2 at hs'
  have hA2' : A.set i (.row v' el 1 (ll ++ mm).length (xs ++ ys)) = A2 := hA2
  rw [hA2']
  have s1 : Sep g0 w0 g w' (A2.eraseIdx j ++ (H ++ (G ++ B))) := hs'.sub ((List.eraseIdx_sublist A2 j).append_right _)
  refine s1.perm (List.Perm.append_left _ ?_)
  rw [List.append_assoc]
  exact List.perm_append_comm_assoc _ _ _
theorem pswap {G H B : List Res} : (H ++ (G ++ B)).Perm (G ++ (H ++ B)) := List.perm_append_comm_assoc _ _ _
theorem r_storeS {T : TypeId} {x y : Operand} {a : Addr} {v : Value} {agg : Bool} {bytes : Nat} {z : Value} {w' : World} {dd : Option Tmp} {gg : Option (Nat × Bool)} (ht : TyI P T agg 1 bytes z) (hx : ev E x = .pointer (some a)) (hy : ev E y = v) (ho : v.oneCell' = true)
    (hs : ∀ P : Program, (storeCells a [v]).run P w = .ok () w') : RunsU P E ⟨dd, .store T x y, ty, ps, af, gg⟩ w w' :=
  r_store ht hx hy (by have := congrArg List.length (cells_one ho); simpa using this) (by rw [cells_one ho]; exact hs)
end
end Go.Lx
