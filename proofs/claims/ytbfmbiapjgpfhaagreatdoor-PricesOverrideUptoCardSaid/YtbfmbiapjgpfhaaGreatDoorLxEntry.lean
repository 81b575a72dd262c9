/- Lx, part 10: from what a row says of its arguments to readings. -/
import Derived.Test.YtbfmbiapjgpfhaaGreatDoorLxOrd
import Derived.ProofKit
import Derived.OpenShut
import Derived.ShutString
import Derived.ChangeOld
import Derived.Deep.Slices
namespace Go.Lx
open Go.RowKit Go.ChangeShapes Go.WideShapes Go.ChangeAt

def allHp (w : World) : Hp := fun b => w.heap[b]?
theorem imm_all (w : World) : Imm (allHp w) w := fun _ _ h => h
def IOk (k : IntKind) (n : Int) : Prop := k.min ≤ n ∧ n ≤ k.max

/-- Whatever the form reads as data of type T lies in memory as τ says; and ok holds of it. -/
def Reads (P : Program) (T : TypeId) {α : Type} (τ : Ty α) (ok : α → Prop) : Prop :=
  ∀ (H : Type) (enc : TypeId × Value → H) (w : World) (f : Nat) (cs : List Value) (x : DataW H × List MemPlace),
    DataW.trod enc P w 0 (fun _ => true) true f T cs = some x → ∃ y, τ.rel (allHp w) cs y ∧ ok y

/-- The same, of what is read with this much fuel. -/
def ReadsAt (P : Program) (T : TypeId) {α : Type} (τ : Ty α) (ok : α → Prop) (f : Nat) : Prop :=
  ∀ (H : Type) (enc : TypeId × Value → H) (w : World) (cs : List Value) (x : DataW H × List MemPlace),
    DataW.trod enc P w 0 (fun _ => true) true f T cs = some x → ∃ y, τ.rel (allHp w) cs y ∧ ok y
theorem Reads.at {P : Program} {T : TypeId} {α : Type} {τ : Ty α} {ok : α → Prop} (h : Reads P T τ ok) (f : Nat) : ReadsAt P T τ ok f := fun H enc w cs x hx => h H enc w f cs x hx
theorem Reads.of {P : Program} {T : TypeId} {α : Type} {τ : Ty α} {ok : α → Prop} (h : ∀ f, ReadsAt P T τ ok f) : Reads P T τ ok := fun H enc w f cs x hx => h f H enc w cs x hx
section
variable {P : Program} {T : TypeId}
theorem reads_int {k : IntKind} (hT : P.underlying T = some (.int k)) : Reads P T (tInt k) (IOk k) := by
  intro H enc w f cs x h
  obtain ⟨n, rfl, _, hw⟩ := DataW.trod_int hT h
  exact ⟨n, rfl, by unfold IOk; simpa [Lit.wf] using hw⟩
theorem reads_bool (hT : P.underlying T = some .bool) : Reads P T tBool (fun _ => True) := by
  intro H enc w f cs x h
  obtain ⟨n, rfl, _⟩ := DataW.trod_bool hT h
  exact ⟨n, rfl, trivial⟩
theorem reads_str (hT : P.underlying T = some .string) : Reads P T tStr (fun s => s.length ≤ maxLen) := by
  intro H enc w f cs x h
  obtain ⟨s, rfl, _, hw⟩ := DataW.trod_string hT h
  exact ⟨s.data.toList, rfl, (show s.data.toList.length ≤ maxLen from hw)⟩
theorem reads_vec {n : Nat} {el : TypeId} {k : IntKind} (hT : P.underlying T = some (.array n el)) (hE : P.underlying el = some (.int k)) (hc : P.cellsOf el = 1) (hn : P.cellsOf T = n) :
    Reads P T (tVec n k) (fun v => ∀ x ∈ v.1, IOk k x) := by
  intro H enc w f cs x h
  obtain ⟨xs, m, _, _, hl, hlen, hel⟩ := DataW.trod_array hT h
  have hcell : ∀ i, i < n → ∃ z, cs[i]? = some (.int k z) ∧ IOk k z := by
    intro i hi
    have := hel i hi
    rw [List.getElem?_eq_getElem (by omega)] at this
    obtain ⟨z, hz, _, hw⟩ := DataW.trod_int hE this
    rw [hc, Nat.mul_one] at hz
    have h0 := congrArg (fun l => l[0]?) hz
    simp only [List.getElem?_take, List.getElem?_drop] at h0
    exact ⟨z, by simpa using h0, by unfold IOk; simpa [Lit.wf] using hw⟩
  have hlen2 : cs.length = n := by omega
  have hex : ∃ l : List Int, cs = l.map (Value.int k) ∧ ∀ z ∈ l, IOk k z := by
    clear hel hl h
    have hall : ∀ c ∈ cs, ∃ z, c = .int k z ∧ IOk k z := by
      intro c hcm
      obtain ⟨i, hi, rfl⟩ := List.mem_iff_getElem.1 hcm
      obtain ⟨z, hz, hw⟩ := hcell i (by omega)
      rw [List.getElem?_eq_getElem hi] at hz
      exact ⟨z, Option.some.inj hz, hw⟩
    clear hcell hlen2
    induction cs with
    | nil => exact ⟨[], rfl, by simp⟩
    | cons c cs ih =>
      obtain ⟨z, rfl, hw⟩ := hall c (by simp)
      obtain ⟨l, rfl, hl⟩ := ih (fun c hc => hall c (by simp [hc]))
      exact ⟨z :: l, rfl, by
        intro y hy
        rcases List.mem_cons.1 hy with rfl | hy
        · exact hw
        · exact hl y hy⟩
  obtain ⟨l, rfl, hok⟩ := hex
  exact ⟨⟨l, by simpa using hlen2⟩, rfl, hok⟩

theorem mapM_cells {w : World} {a : Addr} : ∀ {n : Nat} {cs : List Value}, (List.range n).mapM (fun i => w.cell? (a.add i)) = some cs → cs.length = n ∧ ∀ j u, cs[j]? = some u → w.cell? (a.add j) = some u := by
  intro n cs h
  have hl : cs.length = n := by simpa using mapM_some_length h
  refine ⟨hl, fun j u hu => ?_⟩
  have hj : j < n := by have := (List.getElem?_eq_some_iff.1 hu).1; omega
  have := mapM_some_get h j j (by simp [hj])
  rw [this]; exact hu

theorem reads_sliceAt {α : Type} {el : TypeId} {τ : Ty α} {ok : α → Prop} {f : Nat} (hT : P.underlying T = some (.slice el)) (hc : P.cellsOf el = τ.sz) (hsz : 0 < τ.sz) (hr : ∀ m, m < f → ReadsAt P el τ ok m) :
    ReadsAt P T (tSl τ) (fun l => (∀ x ∈ l, ok x) ∧ l.length ≤ maxLen) f := by
  intro H enc w cs x h
  rcases DataW.trod_slice hT h with ⟨rfl, _⟩ | ⟨a, len, cap, elems, rest, m, hfm, rfl, _, _, hlc, hcm, hlen, hel, _⟩
  · exact ⟨[], ⟨_, rfl, RdS.nil⟩, by simp, by simp⟩
  · have hex : ∀ i, i < len → ∃ ci y, (∀ j u, ci[j]? = some u → w.cell? ((a.add (i * τ.sz)).add j) = some u) ∧ ci.length = τ.sz ∧ τ.rel (allHp w) ci y ∧ ok y := by
      intro i hi
      have h1 := hel i hi
      rw [List.getElem?_eq_getElem (by omega), hc] at h1
      cases h2 : w.cells? 0 (a.add (i * τ.sz)) τ.sz with
      | none => rw [h2] at h1; simp at h1
      | some ci =>
        rw [h2] at h1
        simp only [Option.bind_some] at h1
        obtain ⟨y, hy, hok⟩ := hr m (by omega) H enc w ci _ h1
        simp only [World.cells?, Nat.zero_le, if_true] at h2
        obtain ⟨hl, hcell⟩ := mapM_cells h2
        exact ⟨ci, y, hcell, hl, hy, hok⟩
    rcases Nat.eq_zero_or_pos len with h0 | h0
    · subst h0
      exact ⟨[], ⟨_, rfl, [], RowRel.nil, .inl ⟨rfl, rfl, some a, cap, rfl, fun h => by cases h⟩⟩, by simp, by simp⟩
    · have hspot : a.spot = none := by
        obtain ⟨ci, _, hcell, hl, _⟩ := hex 0 h0
        have hci : ci[0]? = some (ci[0]'(by omega)) := List.getElem?_eq_getElem (by omega)
        have := hcell 0 _ hci
        have := World.cell?_spot this
        simpa [Addr.add] using this
      obtain ⟨b, off, spot⟩ := a
      simp only at hspot
      subst hspot
      -- build the list and its cells
      have build : ∀ k, k ≤ len → ∃ (xs : List Value) (l : List α), l.length = k ∧ RowRel τ (allHp w) xs l ∧ (∀ y ∈ l, ok y) ∧ ∀ j u, xs[j]? = some u → w.cell? ⟨b, off + j, none⟩ = some u := by
        intro k
        induction k with
        | zero => intro _; exact ⟨[], [], rfl, RowRel.nil, by simp, by simp⟩
        | succ k ih =>
          intro hk
          obtain ⟨xs, l, hl, hrr, hok, hcell⟩ := ih (by omega)
          obtain ⟨ci, y, hci, hcl, hy, hoky⟩ := hex k (by omega)
          refine ⟨xs ++ ci, l ++ [y], by simp [hl], hrr.append (RowRel.one hy), ?_, ?_⟩
          · intro z hz
            rcases List.mem_append.1 hz with hz | hz
            · exact hok z hz
            · simp at hz; subst hz; exact hoky
          · intro j u hu
            rw [List.getElem?_append] at hu
            split at hu
            · exact hcell j u hu
            · rename_i hj
              have := hci _ _ hu
              rw [Addr.add_lit, Addr.add_lit] at this
              have hx := hrr.1
              rw [hl] at hx
              rw [show off + j = off + k * τ.sz + (j - xs.length) by omega]
              exact this
      obtain ⟨xs, l, hl, hrr, hok, hcell⟩ := build len (Nat.le_refl _)
      have hx0 : 0 < xs.length := by rw [hrr.1, hl]; exact Nat.mul_pos h0 hsz
      have hfirst := hcell 0 xs[0] (List.getElem?_eq_getElem hx0)
      cases hblk : w.heap[b]? with
      | none => simp [World.cell?, hblk] at hfirst
      | some o =>
        cases o with
        | cells arr e fz =>
          refine ⟨l, ⟨_, rfl, xs, hrr, .inr ⟨b, off, cap, arr, e, fz, by rw [hl], by omega, hblk, fun j u hu => ?_⟩⟩, hok, by omega⟩
          have := hcell j u hu
          simpa [World.cell?, hblk] using this
        | _ => simp [World.cell?, hblk] at hfirst

theorem reads_slice {α : Type} {el : TypeId} {τ : Ty α} {ok : α → Prop} (hT : P.underlying T = some (.slice el)) (hc : P.cellsOf el = τ.sz) (hsz : 0 < τ.sz) (hr : Reads P el τ ok) :
    Reads P T (tSl τ) (fun l => (∀ x ∈ l, ok x) ∧ l.length ≤ maxLen) := .of fun _ => reads_sliceAt hT hc hsz fun m _ => hr.at m
/-- A struct: its fields, one behind the other. -/
theorem field_readsAt {P : Program} {α : Type} {H : Type} {enc : TypeId × Value → H} {w : World} {n : Nat} {fs : Array Field} {cs : List Value} {xs : List (DataW H × List MemPlace)} {f : Field} {τ : Ty α} {ok : α → Prop}
    (hr : ReadsAt P f.type τ ok n) (hf : ∀ (i : Nat) (f : Field), fs[i]? = some f → DataW.trod enc P w 0 (fun _ => true) true n f.type ((cs.drop f.offset).take (P.cellsOf f.type)) = xs[i]?) (hlen : xs.length = fs.size)
    (i : Nat) (hi : fs[i]? = some f) {o s : Nat} (ho : f.offset = o) (hs : P.cellsOf f.type = s) : ∃ y, τ.rel (allHp w) ((cs.drop o).take s) y ∧ ok y := by
  have h := hf i f hi
  have hl : i < xs.length := by rw [hlen]; exact (Array.getElem?_eq_some_iff.1 hi).1
  rw [List.getElem?_eq_getElem hl, ho, hs] at h
  exact hr H enc w _ _ h
theorem field_reads {P : Program} {α : Type} {H : Type} {enc : TypeId × Value → H} {w : World} {n : Nat} {fs : Array Field} {cs : List Value} {xs : List (DataW H × List MemPlace)} {f : Field} {τ : Ty α} {ok : α → Prop}
    (hr : Reads P f.type τ ok) (hf : ∀ (i : Nat) (f : Field), fs[i]? = some f → DataW.trod enc P w 0 (fun _ => true) true n f.type ((cs.drop f.offset).take (P.cellsOf f.type)) = xs[i]?) (hlen : xs.length = fs.size)
    (i : Nat) (hi : fs[i]? = some f) {o s : Nat} (ho : f.offset = o) (hs : P.cellsOf f.type = s) : ∃ y, τ.rel (allHp w) ((cs.drop o).take s) y ∧ ok y := by
  have h := hf i f hi
  have hl : i < xs.length := by rw [hlen]; exact (Array.getElem?_eq_some_iff.1 hi).1
  rw [List.getElem?_eq_getElem hl, ho, hs] at h
  exact hr H enc w n _ _ h
theorem cutc (cs : List Value) (o s : Nat) : cs.drop o = (cs.drop o).take s ++ cs.drop (o + s) := by
  rw [← List.drop_drop, List.take_append_drop]
theorem cutl {cs : List Value} {o s : Nat} (h : cs.length = o + s) : cs.drop o = (cs.drop o).take s := by
  rw [List.take_of_length_le (by simp; omega)]

/-- A type whose values are one cell. -/
def Single (P : Program) (T : TypeId) : Prop := ∀ w r base cs, ¬ Value.okWide P w r base T (.agg cs)
theorem single_int {k : IntKind} (hT : P.underlying T = some (.int k)) : Single P T := fun _ _ _ _ h => by obtain ⟨_, h⟩ := okWide_int hT h; cases h
theorem single_bool (hT : P.underlying T = some .bool) : Single P T := fun _ _ _ _ h => by obtain ⟨_, h⟩ := okWide_bool hT h; cases h
theorem single_str (hT : P.underlying T = some .string) : Single P T := fun _ _ _ _ h => by obtain ⟨_, h⟩ := okWide_string hT h; cases h
theorem single_slice {e : TypeId} (hT : P.underlying T = some (.slice e)) : Single P T := fun _ _ _ _ h => by obtain ⟨_, _, _, h⟩ := okWide_slice hT h; cases h
/-- A value that the form lets in. -/
theorem vrd_agg {α : Type} {τ : Ty α} {ok : α → Prop} {size bytes : Nat} {z : Value} (ht : TyI P T true size bytes z) (hr : Reads P T τ ok) {H : Type} {enc : TypeId × Value → H} {w : World} {v : Value} {d : DataW H} {p : List MemPlace} {r : Reach} {base : Nat}
    (hv : Value.okWide P w r base T v) (h : DataW.Trod enc P w 0 (fun _ => true) true T v d p) : ∃ y, VRd τ true (allHp w) v y ∧ ok y := by
  obtain ⟨f, hf⟩ := h
  obtain ⟨y, hy, hok⟩ := hr H enc w f _ _ hf
  refine ⟨y, ⟨v.cells.toList, ?_, hy⟩, hok⟩
  obtain ⟨D, hD, hagg⟩ := ht.und
  unfold Value.okWide at hv
  rw [hD] at hv
  have : ∃ cs, v = .agg cs := by
    cases D <;> simp at hagg
    · obtain ⟨cs, h, _⟩ := hv; exact ⟨cs, h⟩
    · obtain ⟨cs, h, _⟩ := hv; exact ⟨cs, h⟩
  obtain ⟨cs, rfl⟩ := this
  simp [valOf, Value.cells]
theorem vrd_one {α : Type} {τ : Ty α} {ok : α → Prop} (hs : Single P T) (hr : Reads P T τ ok) {H : Type} {enc : TypeId × Value → H} {w : World} {v : Value} {d : DataW H} {p : List MemPlace} {r : Reach} {base : Nat}
    (hv : Value.okWide P w r base T v) (h : DataW.Trod enc P w 0 (fun _ => true) true T v d p) : ∃ y, VRd τ false (allHp w) v y ∧ ok y := by
  obtain ⟨f, hf⟩ := h
  obtain ⟨y, hy, hok⟩ := hr H enc w f _ _ hf
  refine ⟨y, ⟨v.cells.toList, ?_, hy⟩, hok⟩
  cases v with
  | agg cs => exact (hs w r base cs hv).elim
  | _ => simp [valOf, Value.cells]
end

/-- What a law's walk gives, as its row wants it. -/
theorem law_calls {P : Program} {f : FuncId} {args : Array Value} {W : World} (h : CallsV P f args W (fun v w' => ∃ g', (VRd tBool false g' v true) ∧ Ext (allHp W) W g' w')) :
    Calls P f args W fun e W' => e = .returned (.bool true) ∧ Below W.heap.size W W' :=
  h.mono fun e W' ⟨v, he, g', ⟨cs, hv, hb⟩, hx⟩ => by
    have hb : cs = _ := hb
    subst hb hv he
    exact ⟨rfl, hx.below⟩
end Go.Lx
