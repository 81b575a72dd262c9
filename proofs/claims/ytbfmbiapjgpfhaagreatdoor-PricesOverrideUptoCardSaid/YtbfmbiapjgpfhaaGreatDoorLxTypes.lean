/- Lx, part 4: how plain data lies in memory: types, slices that nobody writes, rows of the call's own. -/
import Derived.Test.YtbfmbiapjgpfhaaGreatDoorLxOps
namespace Go.Lx
open Go.RowKit

/-- A type of Go's, read as a type of plain data: its cells, and what they say. -/
structure Ty (α : Type) where
  sz : Nat
  rel : Hp → List Value → α → Prop
  mono : ∀ {g g' : Hp} {cs : List Value} {x : α}, Hle g g' → rel g cs x → rel g' cs x
  len : ∀ {g : Hp} {cs : List Value} {x : α}, rel g cs x → cs.length = sz
  one : ∀ {g : Hp} {cs : List Value} {x : α}, rel g cs x → ∀ v ∈ cs, v.oneCell' = true

def tInt (k : IntKind) : Ty Int := ⟨1, fun _ cs n => cs = [.int k n], fun _ h => h, fun h => by rw [h]; rfl, fun h v hv => by rw [h] at hv; simp at hv; subst hv; rfl⟩
def tBool : Ty Bool := ⟨1, fun _ cs n => cs = [.bool n], fun _ h => h, fun h => by rw [h]; rfl, fun h v hv => by rw [h] at hv; simp at hv; subst hv; rfl⟩
def tStr : Ty Str := ⟨1, fun _ cs n => cs = [encS n], fun _ h => h, fun h => by rw [h]; rfl, fun h v hv => by rw [h] at hv; simp at hv; subst hv; rfl⟩
def tVec (n : Nat) (k : IntKind) : Ty (Vec n) := ⟨n, fun _ cs v => cs = v.1.map (Value.int k), fun _ h => h, fun {_ _ x} h => by rw [h]; simp [x.2], fun h => by rw [h]; exact vec_one⟩

/-- Cells one behind the other that hold a list. -/
def RowRel {α : Type} (τ : Ty α) (g : Hp) (xs : List Value) (l : List α) : Prop :=
  xs.length = l.length * τ.sz ∧ ∀ i x, l[i]? = some x → τ.rel g ((xs.drop (i * τ.sz)).take τ.sz) x

section
variable {α : Type} {τ : Ty α} {g g' : Hp} {xs : List Value} {l : List α}
theorem RowRel.nil : RowRel τ g [] [] := ⟨by simp, by simp⟩
theorem RowRel.mono (h : RowRel τ g xs l) (hg : Hle g g') : RowRel τ g' xs l := ⟨h.1, fun i x hx => τ.mono hg (h.2 i x hx)⟩
theorem RowRel.append {ys : List Value} {m : List α} (h : RowRel τ g xs l) (h' : RowRel τ g ys m) : RowRel τ g (xs ++ ys) (l ++ m) := by
  refine ⟨by simp [h.1, h'.1, Nat.add_mul], fun i x hx => ?_⟩
  by_cases hi : i < l.length
  · rw [List.getElem?_append_left hi] at hx
    have := h.2 i x hx
    have h1 : i * τ.sz + τ.sz ≤ xs.length := by rw [h.1]; rw [← Nat.succ_mul]; exact Nat.mul_le_mul_right _ hi
    rw [List.drop_append_of_le_length (by omega), List.take_append_of_le_length (by simp; omega)]
    exact this
  · rw [List.getElem?_append_right (by omega)] at hx
    have := h'.2 _ x hx
    have e : i * τ.sz = xs.length + (i - l.length) * τ.sz := by rw [h.1, ← Nat.add_mul]; congr 1; omega
    rw [e, List.drop_append]
    have e2 : List.drop (xs.length + (i - l.length) * τ.sz) xs = [] := List.drop_eq_nil_iff.2 (by omega)
    rw [e2, List.nil_append, Nat.add_sub_cancel_left]
    exact this
theorem RowRel.one {cs : List Value} {x : α} (h : τ.rel g cs x) : RowRel τ g cs [x] := by
  refine ⟨by simp [τ.len h], fun i y hy => ?_⟩
  cases i with
  | zero => simp at hy; subst hy; simp; rw [List.take_of_length_le (by rw [τ.len h]; exact Nat.le_refl _)]; exact h
  | succ i => simp at hy
theorem RowRel.ones {g : Hp} : RowRel τ g xs l → ∀ v ∈ xs, v.oneCell' = true := by
  intro h v hv
  obtain ⟨j, hj, rfl⟩ := List.mem_iff_getElem.1 hv
  have hl := h.1
  have hs : 0 < τ.sz := by
    rcases Nat.eq_zero_or_pos τ.sz with e | e
    · rw [e] at hl; simp at hl; subst hl; simp at hj
    · exact e
  have hi : j / τ.sz < l.length := Nat.div_lt_of_lt_mul (by rw [Nat.mul_comm]; omega)
  have := h.2 (j / τ.sz) l[j / τ.sz] (List.getElem?_eq_getElem hi)
  refine τ.one this _ ?_
  have e : xs[j] = ((xs.drop (j / τ.sz * τ.sz)).take τ.sz)[j % τ.sz]'(by
    have := Nat.mod_lt j hs
    have := Nat.div_add_mod j τ.sz
    rw [Nat.mul_comm] at this
    simp; omega) := by
    simp only [List.getElem_take, List.getElem_drop]
    congr 1
    have := Nat.div_add_mod j τ.sz
    rw [Nat.mul_comm] at this; omega
  rw [e]; exact List.getElem_mem _
theorem RowRel.set {cs : List Value} {x : α} {i : Nat} (h : RowRel τ g xs l) (hc : τ.rel g cs x) (hi : i < l.length) :
    RowRel τ g (xs.take (i * τ.sz) ++ cs ++ xs.drop (i * τ.sz + cs.length)) (l.set i x) := by
  have hl := τ.len hc
  have h1 : i * τ.sz + τ.sz ≤ xs.length := by rw [h.1]; rw [← Nat.succ_mul]; exact Nat.mul_le_mul_right _ hi
  refine ⟨by rw [List.length_append, List.length_append, List.length_take, List.length_drop, List.length_set, hl]; have := h.1; omega, fun j y hy => ?_⟩
  rw [List.getElem?_set] at hy
  split at hy
  · rename_i e
    subst e
    simp at hy
    obtain ⟨_, rfl⟩ := hy
    have e1 : (List.take (i * τ.sz) xs).length = i * τ.sz := by simp; omega
    rw [List.append_assoc, List.drop_append]
    rw [List.drop_eq_nil_iff.2 (by omega), List.nil_append, e1, Nat.sub_self, List.drop_zero, List.take_append_of_le_length (by omega), List.take_of_length_le (by omega)]
    exact hc
  · rename_i hne
    have := h.2 j y hy
    have hjl := (List.getElem?_eq_some_iff.1 hy).1
    have hj1 : j * τ.sz + τ.sz ≤ xs.length := by rw [h.1]; rw [← Nat.succ_mul]; exact Nat.mul_le_mul_right _ hjl
    have e : (List.drop (j * τ.sz) (List.take (i * τ.sz) xs ++ cs ++ List.drop (i * τ.sz + cs.length) xs)).take τ.sz = (List.drop (j * τ.sz) xs).take τ.sz := by
      apply List.ext_getElem?
      intro q
      simp only [List.getElem?_take, List.getElem?_drop]
      split
      · rename_i hq
        rcases Nat.lt_or_gt_of_ne hne with hlt | hlt
        · have : (i + 1) * τ.sz ≤ j * τ.sz := Nat.mul_le_mul_right _ hlt
          rw [Nat.succ_mul] at this
          rw [List.getElem?_append_right (by simp; omega), List.getElem?_drop]
          congr 1
          simp
          omega
        · have : (j + 1) * τ.sz ≤ i * τ.sz := Nat.mul_le_mul_right _ hlt
          rw [Nat.succ_mul] at this
          rw [List.append_assoc, List.getElem?_append_left (by simp; omega), List.getElem?_take]
          rw [if_pos (by omega)]
      · rfl
    rw [e]; exact this
end

/-- A slice that nobody writes any more, whose cells (of its elements, flat) are xs. -/
def SlAt (g : Hp) (v : Value) (n : Nat) (xs : List Value) : Prop :=
  (n = 0 ∧ xs = [] ∧ ∃ a cap, v = .slice a 0 cap ∧ (a = none → cap = 0)) ∨
  ∃ b off cap arr e fz, v = .slice (some ⟨b, off, none⟩) n cap ∧ n ≤ cap ∧ g b = some (.cells arr e fz) ∧ ∀ j u, xs[j]? = some u → arr[off + j]? = some u
def RdS {α : Type} (τ : Ty α) (g : Hp) (v : Value) (l : List α) : Prop := ∃ xs, RowRel τ g xs l ∧ SlAt g v l.length xs
theorem SlAt.mono {g g' : Hp} {v : Value} {n : Nat} {xs : List Value} (h : SlAt g v n xs) (hg : Hle g g') : SlAt g' v n xs := by
  rcases h with h | ⟨b, off, cap, arr, e, fz, h1, h2, h3, h4⟩
  · exact .inl h
  · exact .inr ⟨b, off, cap, arr, e, fz, h1, h2, hg _ _ h3, h4⟩
theorem RdS.mono {α : Type} {τ : Ty α} {g g' : Hp} {v : Value} {l : List α} (h : RdS τ g v l) (hg : Hle g g') : RdS τ g' v l := by
  obtain ⟨xs, h1, h2⟩ := h
  exact ⟨xs, h1.mono hg, h2.mono hg⟩
theorem SlAt.shape {g : Hp} {v : Value} {n : Nat} {xs : List Value} (h : SlAt g v n xs) : ∃ a cap, v = .slice a n cap := by
  rcases h with ⟨rfl, _, a, cap, rfl, _⟩ | ⟨b, off, cap, arr, e, fz, rfl, _⟩
  · exact ⟨_, _, rfl⟩
  · exact ⟨_, _, rfl⟩
theorem RdS.shape {α : Type} {τ : Ty α} {g : Hp} {v : Value} {l : List α} (h : RdS τ g v l) : ∃ a cap, v = .slice a l.length cap := h.elim fun _ h => h.2.shape
theorem RdS.nil {α : Type} {τ : Ty α} {g : Hp} : RdS τ g (.slice none 0 0) [] := ⟨[], RowRel.nil, .inl ⟨rfl, rfl, none, 0, rfl, fun _ => rfl⟩⟩
def tSl {α : Type} (τ : Ty α) : Ty (List α) :=
  ⟨1, fun g cs l => ∃ v, cs = [v] ∧ RdS τ g v l, fun hg ⟨v, h1, h2⟩ => ⟨v, h1, h2.mono hg⟩, fun ⟨v, h1, _⟩ => by rw [h1]; rfl, fun ⟨v, h1, h2⟩ u hu => by
    rw [h1] at hu; simp at hu; subst hu
    obtain ⟨a, cap, rfl⟩ := h2.shape
    rfl⟩

/-- What an index into such a slice finds: the place, and its cells in every world that keeps the immutable part. -/
theorem RdS.at {α : Type} {τ : Ty α} {g : Hp} {v : Value} {l : List α} (h : RdS τ g v l) {i : Int} {x : α} (hx : idxL l i = some x) :
    ∃ b off cap, v = .slice (some ⟨b, off, none⟩) l.length cap ∧ ∃ cs, τ.rel g cs x ∧ ∀ w, Imm g w → ∀ j u, cs[j]? = some u → w.cell? ⟨b, off + i.toNat * τ.sz + j, none⟩ = some u := by
  obtain ⟨h0, h1, hl⟩ := idxL_some hx
  obtain ⟨xs, hr, hs⟩ := h
  rcases hs with ⟨hn, _⟩ | ⟨b, off, cap, arr, e, fz, hv, _, hg, hc⟩
  · rw [hn] at h1; omega
  · refine ⟨b, off, cap, hv, _, hr.2 _ _ hl, fun w hw j u hu => ?_⟩
    rw [List.getElem?_take] at hu
    split at hu
    · rw [List.getElem?_drop] at hu
      have := hc _ _ hu
      simp [World.cell?, hw b _ hg, Nat.add_assoc] at this ⊢
      exact this
    · cases hu
end Go.Lx
