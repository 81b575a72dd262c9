/- Lx, part 22: readings that also know a bound of how much was read. -/
import Derived.Test.YtbfmbiapjgpfhaaGreatDoorLxEntry
import Derived.JoinedCond
namespace Go.Lx
open Go.RowKit Go.ChangeShapes Go.WideShapes Go.ChangeAt

/-- A measure of data that counts all parts. -/
structure Bulk (B : ∀ H : Type, DataW H → Nat) : Prop where
  slice : ∀ (H : Type) (es sp : List (DataW H)), (es.map (B H)).sum ≤ B H (.slice es sp)
  agg : ∀ (H : Type) (ps : List (DataW H)), (ps.map (B H)).sum + 1 ≤ B H (.agg ps)
def ReadsU (B : ∀ H : Type, DataW H → Nat) (P : Program) (T : TypeId) {α : Type} (τ : Ty α) (ok : α → Nat → Prop) (f : Nat) : Prop :=
  ∀ (H : Type) (enc : TypeId × Value → H) (w : World) (cs : List Value) (x : DataW H × List MemPlace),
    DataW.trod enc P w 0 (fun _ => true) true f T cs = some x → ∃ y, τ.rel (allHp w) cs y ∧ ok y (B H x.1)
theorem Reads.u {B : ∀ H : Type, DataW H → Nat} {P : Program} {T : TypeId} {α : Type} {τ : Ty α} {ok : α → Prop} (h : Reads P T τ ok) (f : Nat) : ReadsU B P T τ (fun y _ => ok y) f := fun H enc w cs x hx => h H enc w f cs x hx
/-- What a list of parts says, with their measures. -/
def LstU {α : Type} (ok : α → Nat → Prop) (l : List α) (n : Nat) : Prop := ∃ ns : List Nat, ns.length = l.length ∧ ns.sum ≤ n ∧ ∀ (i : Nat) (x : α), l[i]? = some x → ∃ k, ns[i]? = some k ∧ ok x k
theorem readsU_sliceAt {B : ∀ H : Type, DataW H → Nat} (hB : Bulk B) {P : Program} {T : TypeId} {α : Type} {el : TypeId} {τ : Ty α} {ok : α → Nat → Prop} {f : Nat} (hT : P.underlying T = some (.slice el)) (hc : P.cellsOf el = τ.sz) (hsz : 0 < τ.sz) (hr : ∀ m, m < f → ReadsU B P el τ ok m) :
    ReadsU B P T (tSl τ) (fun l n => LstU ok l n ∧ l.length ≤ maxLen) f := by
  intro H enc w cs x h
  rcases DataW.trod_slice hT h with ⟨rfl, _⟩ | ⟨a, len, cap, elems, rest, m, hfm, rfl, rfl, _, hlc, hcm, hlen, hel, _⟩
  · exact ⟨[], ⟨_, rfl, RdS.nil⟩, ⟨[], rfl, by simp, by simp⟩, by simp⟩
  · have hsum := hB.slice H (elems.map (·.1)) (rest.map (·.1))
    have hfin : ∀ l : List α, l.length = len → (∀ (i : Nat) (x : α), l[i]? = some x → ∃ e, elems[i]? = some e ∧ ok x (B H e.1)) → LstU ok l (B H (.slice (elems.map (·.1)) (rest.map (·.1)))) := by
      intro l hl hok
      refine ⟨(elems.map (·.1)).map (B H), by simp [hlen, hl], hsum, fun i x hx => ?_⟩
      obtain ⟨e, he, hk⟩ := hok i x hx
      exact ⟨_, by simp [he], hk⟩
    have hex : ∀ i, i < len → ∃ ci y e, elems[i]? = some e ∧ (∀ j u, ci[j]? = some u → w.cell? ((a.add (i * τ.sz)).add j) = some u) ∧ ci.length = τ.sz ∧ τ.rel (allHp w) ci y ∧ ok y (B H e.1) := by
      intro i hi
      have h1 := hel i hi
      rw [List.getElem?_eq_getElem (by omega), hc] at h1
      cases h2 : w.cells? 0 (a.add (i * τ.sz)) τ.sz with
      | none => rw [h2] at h1; simp at h1
      | some ci =>
        rw [h2] at h1
        simp only [Option.bind_some] at h1
        obtain ⟨y, hy, hok⟩ := hr m (by omega) H enc w ci _ h1
        simp only [World.cells?, Nat.zero_le, if_true] at h2
        obtain ⟨hl, hcell⟩ := mapM_cells h2
        exact ⟨ci, y, _, List.getElem?_eq_getElem (by omega), hcell, hl, hy, hok⟩
    rcases Nat.eq_zero_or_pos len with h0 | h0
    · subst h0
      exact ⟨[], ⟨_, rfl, [], RowRel.nil, .inl ⟨rfl, rfl, some a, cap, rfl, fun h => by cases h⟩⟩, hfin [] rfl (by simp), by simp⟩
    · have hspot : a.spot = none := by
        obtain ⟨ci, _, _, _, hcell, hl, _⟩ := hex 0 h0
        have hci : ci[0]? = some (ci[0]'(by omega)) := List.getElem?_eq_getElem (by omega)
        have := hcell 0 _ hci
        have := World.cell?_spot this
        simpa [Addr.add] using this
      obtain ⟨b, off, spot⟩ := a
      simp only at hspot
      subst hspot
      have build : ∀ k, k ≤ len → ∃ (xs : List Value) (l : List α), l.length = k ∧ RowRel τ (allHp w) xs l ∧ (∀ (i : Nat) (x : α), l[i]? = some x → ∃ e, elems[i]? = some e ∧ ok x (B H e.1)) ∧ ∀ j u, xs[j]? = some u → w.cell? ⟨b, off + j, none⟩ = some u := by
        intro k
        induction k with
        | zero => intro _; exact ⟨[], [], rfl, RowRel.nil, by simp, by simp⟩
        | succ k ih =>
          intro hk
          obtain ⟨xs, l, hl, hrr, hok, hcell⟩ := ih (by omega)
          obtain ⟨ci, y, e, he, hci, hcl, hy, hoky⟩ := hex k (by omega)
          refine ⟨xs ++ ci, l ++ [y], by simp [hl], hrr.append (RowRel.one hy), ?_, ?_⟩
          · intro i z hz
            rw [List.getElem?_append] at hz
            split at hz
            · exact hok i z hz
            · rw [List.getElem?_singleton] at hz
              split at hz
              · cases hz
                have : i = k := by omega
                subst this
                exact ⟨e, he, hoky⟩
              · cases hz
          · intro j u hu
            rw [List.getElem?_append] at hu
            split at hu
            · exact hcell j u hu
            · rename_i hj
              have := hci _ _ hu
              rw [Addr.add_lit, Addr.add_lit] at this
              have hx := hrr.1
              rw [hl] at hx
              rw [show off + j = off + k * τ.sz + (j - xs.length) by omega]
              exact this
      obtain ⟨xs, l, hl, hrr, hok, hcell⟩ := build len (Nat.le_refl _)
      have hx0 : 0 < xs.length := by rw [hrr.1, hl]; exact Nat.mul_pos h0 hsz
      have hfirst := hcell 0 xs[0] (List.getElem?_eq_getElem hx0)
      cases hblk : w.heap[b]? with
      | none => simp [World.cell?, hblk] at hfirst
      | some o =>
        cases o with
        | cells arr e fz =>
          refine ⟨l, ⟨_, rfl, xs, hrr, .inr ⟨b, off, cap, arr, e, fz, by rw [hl], by omega, hblk, fun j u hu => ?_⟩⟩, hfin l hl hok, by omega⟩
          have := hcell j u hu
          simpa [World.cell?, hblk] using this
        | _ => simp [World.cell?, hblk] at hfirst
theorem field_readsU {B : ∀ H : Type, DataW H → Nat} {P : Program} {α : Type} {H : Type} {enc : TypeId × Value → H} {w : World} {n : Nat} {fs : Array Field} {cs : List Value} {xs : List (DataW H × List MemPlace)} {f : Field} {τ : Ty α} {ok : α → Nat → Prop}
    (hr : ReadsU B P f.type τ ok n) (hf : ∀ (i : Nat) (f : Field), fs[i]? = some f → DataW.trod enc P w 0 (fun _ => true) true n f.type ((cs.drop f.offset).take (P.cellsOf f.type)) = xs[i]?) (hlen : xs.length = fs.size)
    (i : Nat) (hi : fs[i]? = some f) {o s : Nat} (ho : f.offset = o) (hs : P.cellsOf f.type = s) : ∃ y e, xs[i]? = some e ∧ τ.rel (allHp w) ((cs.drop o).take s) y ∧ ok y (B H e.1) := by
  have h := hf i f hi
  have hl : i < xs.length := by rw [hlen]; exact (Array.getElem?_eq_some_iff.1 hi).1
  rw [List.getElem?_eq_getElem hl, ho, hs] at h
  obtain ⟨y, h1, h2⟩ := hr H enc w _ _ h
  exact ⟨y, _, List.getElem?_eq_getElem hl, h1, h2⟩
theorem vrdU_one {B : ∀ H : Type, DataW H → Nat} {P : Program} {T : TypeId} {α : Type} {τ : Ty α} {ok : α → Nat → Prop} (hs : Single P T) (hr : ∀ f, ReadsU B P T τ ok f) {H : Type} {enc : TypeId × Value → H} {w : World} {v : Value} {d : DataW H} {p : List MemPlace} {r : Reach} {base : Nat}
    (hv : Value.okWide P w r base T v) (h : DataW.Trod enc P w 0 (fun _ => true) true T v d p) : ∃ y, VRd τ false (allHp w) v y ∧ ok y (B H d) := by
  obtain ⟨f, hf⟩ := h
  obtain ⟨y, hy, hok⟩ := hr f H enc w _ _ hf
  refine ⟨y, ⟨v.cells.toList, ?_, hy⟩, hok⟩
  cases v with
  | agg cs => exact (hs w r base cs hv).elim
  | _ => simp [valOf, Value.cells]
theorem sum_get {ns : List Nat} {i k : Nat} (h : ns[i]? = some k) : k ≤ ns.sum := by
  induction ns generalizing i with
  | nil => simp at h
  | cons a ns ih =>
    cases i with
    | zero => simp at h; subst h; simp
    | succ i => have := ih (i := i) (by simpa using h); simp only [List.sum_cons]; omega
end Go.Lx
