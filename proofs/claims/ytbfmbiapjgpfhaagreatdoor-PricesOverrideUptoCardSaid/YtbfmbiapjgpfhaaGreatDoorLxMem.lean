/- Lx, part 2: what memory holds: an immutable part 'g' that only grows, and the call's own blocks. -/
import Derived.Test.YtbfmbiapjgpfhaaGreatDoorLxCore
namespace Go.Lx
open Go.RowKit

abbrev Hp := Nat → Option Obj
def Imm (g : Hp) (w : World) : Prop := ∀ b o, g b = some o → w.heap[b]? = some o
def Hle (g g' : Hp) : Prop := ∀ b o, g b = some o → g' b = some o
theorem Hle.refl (g : Hp) : Hle g g := fun _ _ h => h
theorem Hle.trans {g g' g'' : Hp} (h : Hle g g') (h' : Hle g' g'') : Hle g g'' := fun b o x => h' b o (h b o x)
theorem Imm.lt {g : Hp} {w : World} (h : Imm g w) {b : Nat} {o : Obj} (hb : g b = some o) : b < w.heap.size := (Array.getElem?_eq_some_iff.1 (h b o hb)).1

/-- The step from one moment to a later one, as a caller sees it: nothing that was there has turned; the immutable part has grown by new blocks alone. -/
structure Ext (g : Hp) (w : World) (g' : Hp) (w' : World) : Prop where
  below : Below w.heap.size w w'
  old : ∀ b, b < w.heap.size → g' b = g b
  imm : Imm g' w'
theorem Ext.le {g g' : Hp} {w w' : World} (h : Ext g w g' w') (hi : Imm g w) : Hle g g' := fun b o hb => by rw [h.old b (hi.lt hb)]; exact hb
theorem Ext.refl {g : Hp} {w : World} (h : Imm g w) : Ext g w g w := ⟨Below.refl _ _, fun _ _ => rfl, h⟩
theorem Ext.drew {g g' : Hp} {w w' : World} (h : Ext g w g' w') : Ext g w g' w'.drew := ⟨h.below.drew, h.old, h.imm⟩

inductive Res where
  | obj (b : Nat) (o : Obj)
  | row (v : Value) (e : TypeId) (sz n : Nat) (xs : List Value)
abbrev box (b : Nat) (T : TypeId) (cs : List Value) : Res := .obj b (.cells cs.toArray T (0, 0))
def Res.blk : Res → Option Nat
  | .obj b _ => some b
  | .row v _ _ _ _ => v.ownBlock
def Res.okB (w : World) : Res → Prop
  | .obj b o => w.heap[b]? = some o
  | .row v e sz n xs => w.ownsRow 0 e sz v n xs
structure Res.ok (w : World) (r : Res) : Prop where
  out : r.okB w

theorem Res.lt {w : World} {r : Res} (h : r.ok w) {b : Nat} (hb : r.blk = some b) : b < w.heap.size := by
  have h := h.out
  cases r with
  | obj b' o => simp [Res.blk] at hb; subst hb; exact (Array.getElem?_eq_some_iff.1 h).1
  | row v e sz n xs => exact (World.ownsRow.lt h b hb).2
theorem Res.ok.kept {w w' : World} {r : Res} (h : r.ok w) {row : Option Nat} (hg : w.grownBy w' row) (hne : r.blk = none ∨ r.blk ≠ row) : r.ok w' := by
  have h := h.out
  refine ⟨?_⟩
  cases r with
  | obj b o =>
    simp only [Res.okB] at *
    rw [hg.block b (Array.getElem?_eq_some_iff.1 h).1 (by simpa [Res.blk] using hne)]
    exact h
  | row v e sz n xs => exact World.ownsRow.kept h hg hne

/-- The state of a call: begun at (g0, w0), now at (g, w); 'L': the blocks of its own. -/
structure Sep (g0 : Hp) (w0 : World) (g : Hp) (w : World) (L : List Res) : Prop where
  ext : Ext g0 w0 g w
  ok : ∀ r ∈ L, r.ok w
  fresh : ∀ r ∈ L, ∀ b, r.blk = some b → w0.heap.size ≤ b ∧ g b = none
  apart : L.Pairwise fun r s => ∀ b, r.blk = some b → s.blk ≠ some b

section
variable {g0 g : Hp} {w0 w : World} {L : List Res}

theorem Sep.start (h : Imm g0 w0) : Sep g0 w0 g0 w0 [] := ⟨Ext.refl h, by simp, by simp, List.Pairwise.nil⟩
theorem Sep.imm (h : Sep g0 w0 g w L) : Imm g w := h.ext.imm
theorem Sep.none_at (h : Sep g0 w0 g w L) {b : Nat} (hb : w.heap.size ≤ b) : g b = none := by
  cases hg : g b with
  | none => rfl
  | some o => have := h.imm.lt hg; omega
theorem Sep.drew (h : Sep g0 w0 g w L) : Sep g0 w0 g w.drew L :=
  ⟨h.ext.drew, fun r hr => (h.ok r hr).kept (row := none) ⟨rfl, rfl, rfl, Nat.le_refl _, fun _ _ _ => rfl⟩ (by cases r.blk <;> simp), h.fresh, h.apart⟩
theorem Sep.alloc (h : Sep g0 w0 g w L) (o : Obj) : Sep g0 w0 g (w.alloc o) (.obj w.heap.size o :: L) := by
  have hs := h.ext.below.size
  refine ⟨⟨h.ext.below.alloc hs o, h.ext.old, fun b o' hb => ?_⟩, ?_, ?_, ?_⟩
  · rw [Below.heap_alloc _ _ _ (h.imm.lt hb)]; exact h.imm b o' hb
  · intro r hr
    rcases List.mem_cons.1 hr with rfl | hr
    · exact ⟨heap_alloc_new w o⟩
    · exact (h.ok r hr).kept (World.grownBy_alloc w o none) (by cases r.blk <;> simp)
  · intro r hr b hb
    rcases List.mem_cons.1 hr with rfl | hr
    · simp [Res.blk] at hb; subst hb; exact ⟨hs, h.none_at (Nat.le_refl _)⟩
    · exact h.fresh r hr b hb
  · refine List.Pairwise.cons ?_ h.apart
    intro s hs' b hb hsb
    simp [Res.blk] at hb
    subst hb
    have := Res.lt (h.ok s hs') hsb
    omega
theorem Sep.nilRow (h : Sep g0 w0 g w L) (e : TypeId) (sz : Nat) : Sep g0 w0 g w (.row (.slice none 0 0) e sz 0 [] :: L) := by
  refine ⟨h.ext, ?_, ?_, ?_⟩
  · intro r hr
    rcases List.mem_cons.1 hr with rfl | hr
    · exact ⟨⟨by simp, .inl ⟨rfl, rfl⟩⟩⟩
    · exact h.ok r hr
  · intro r hr b hb
    rcases List.mem_cons.1 hr with rfl | hr
    · simp [Res.blk, Value.ownBlock] at hb
    · exact h.fresh r hr b hb
  · exact List.Pairwise.cons (by intro s _ b hb; simp [Res.blk, Value.ownBlock] at hb) h.apart
theorem Sep.at (h : Sep g0 w0 g w L) {i : Nat} {r : Res} (hi : L[i]? = some r) : r.ok w := h.ok r (List.mem_of_getElem? hi)

/-- One of the call's own turns; all else stays. -/
theorem Sep.upd (h : Sep g0 w0 g w L) {i : Nat} {r r' : Res} (hi : L[i]? = some r) {w' : World} (hg : w.grownBy w' r.blk) (hok : r'.ok w')
    (hb : ∀ b, r'.blk = some b → r.blk = some b ∨ w.heap.size ≤ b) : Sep g0 w0 g w' (L.set i r') := by
  have hr := List.mem_of_getElem? hi
  have hfr := h.fresh r hr
  have hlt : ∀ b, r.blk = some b → b < w.heap.size := fun b hb => Res.lt (h.ok r hr) hb
  have hs := h.ext.below.size
  have hil : i < L.length := (List.getElem?_eq_some_iff.1 hi).1
  have hapart : ∀ (j : Nat) (s : Res), j ≠ i → L[j]? = some s → ∀ b, s.blk = some b → r.blk ≠ some b := by
    intro j s hji hj b hb hrb
    obtain ⟨hjl, hj⟩ := List.getElem?_eq_some_iff.1 hj
    obtain ⟨hil, hi'⟩ := List.getElem?_eq_some_iff.1 hi
    have hp := (List.pairwise_iff_getElem.1 h.apart)
    rcases Nat.lt_or_gt_of_ne hji with hlt' | hlt'
    · exact hp j i hjl hil hlt' b (by rw [hj]; exact hb) (by rw [hi']; exact hrb)
    · exact hp i j hil hjl hlt' b (by rw [hi']; exact hrb) (by rw [hj]; exact hb)
  refine ⟨⟨h.ext.below.trans ⟨hg.os, hg.tape, hg.output, hg.size, fun k hk => hg.block k (by omega) (fun e => ?_)⟩, h.ext.old, fun b o hb => ?_⟩, ?_, ?_, ?_⟩
  · have := (hfr k e.symm).1; omega
  · rw [hg.block b (h.imm.lt hb) (fun e => by rw [(hfr b e.symm).2] at hb; cases hb)]; exact h.imm b o hb
  · intro s hs'
    obtain ⟨j, hj, hjs⟩ := List.mem_iff_getElem.1 hs'
    rw [List.getElem_set] at hjs
    split at hjs
    · subst hjs; exact hok
    · rename_i hne
      have hjl : j < L.length := by simpa using hj
      have hj' : L[j]? = some s := by rw [List.getElem?_eq_getElem hjl, hjs]
      refine (h.ok s (List.mem_of_getElem? hj')).kept hg ?_
      cases hsb : s.blk with
      | none => exact .inl rfl
      | some b => exact .inr (fun e => hapart j s (Ne.symm hne) hj' b hsb e.symm)
  · intro s hs' b hb'
    obtain ⟨j, hj, hjs⟩ := List.mem_iff_getElem.1 hs'
    rw [List.getElem_set] at hjs
    split at hjs
    · subst hjs
      rcases hb b hb' with hb | hb
      · exact hfr b hb
      · exact ⟨by omega, h.none_at hb⟩
    · have hjl : j < L.length := by simpa using hj
      have hj' : L[j]? = some s := by rw [List.getElem?_eq_getElem hjl, hjs]
      exact h.fresh s (List.mem_of_getElem? hj') b hb'
  · rw [List.pairwise_iff_getElem]
    intro j k hj hk hjk b hjb hkb
    have hjl : j < L.length := by simpa using hj
    have hkl : k < L.length := by simpa using hk
    have hp := (List.pairwise_iff_getElem.1 h.apart) j k hjl hkl hjk
    rw [List.getElem_set] at hjb hkb
    by_cases hij : i = j
    · subst hij
      rw [if_pos rfl] at hjb
      rw [if_neg (by omega)] at hkb
      have hk' : L[k]? = some L[k] := List.getElem?_eq_getElem hkl
      rcases hb b hjb with hb | hb
      · exact hapart k _ (by omega) hk' b hkb hb
      · have := Res.lt (h.ok _ (List.mem_of_getElem? hk')) hkb; omega
    · rw [if_neg hij] at hjb
      by_cases hik : i = k
      · subst hik
        rw [if_pos rfl] at hkb
        have hj' : L[j]? = some L[j] := List.getElem?_eq_getElem hjl
        rcases hb b hkb with hb | hb
        · exact hapart j _ (by omega) hj' b hjb hb
        · have := Res.lt (h.ok _ (List.mem_of_getElem? hj')) hjb; omega
      · rw [if_neg hik] at hkb
        exact hp b hjb hkb

theorem Sep.call (h : Sep g0 w0 g w L) {g' : Hp} {w' : World} (he : Ext g w g' w') : Sep g0 w0 g' w' L := by
  have hs := h.ext.below.size
  have hgb : w.grownBy w' none := ⟨he.below.os, he.below.tape, he.below.output, he.below.size, fun k hk _ => he.below.block k hk⟩
  refine ⟨⟨h.ext.below.trans (he.below.mono hs), fun b hb => (he.old b (by omega)).trans (h.ext.old b hb), he.imm⟩, fun r hr => (h.ok r hr).kept hgb (by cases r.blk <;> simp), fun r hr b hb => ?_, h.apart⟩
  have h1 := h.fresh r hr b hb
  exact ⟨h1.1, by rw [he.old b (Res.lt (h.ok r hr) hb)]; exact h1.2⟩

theorem Sep.sub (h : Sep g0 w0 g w L) {L' : List Res} (hl : List.Sublist L' L) : Sep g0 w0 g w L' :=
  ⟨h.ext, fun r hr => h.ok r (hl.subset hr), fun r hr => h.fresh r (hl.subset hr), h.apart.sublist hl⟩

/-- One of the call's own becomes immutable. -/
def gadd (g : Hp) (b : Nat) (o : Obj) : Hp := fun k => if k = b then some o else g k
theorem Sep.release (h : Sep g0 w0 g w L) {i : Nat} {r : Res} (hi : L[i]? = some r) {b : Nat} {o : Obj} (hb : r.blk = some b) (ho : w.heap[b]? = some o) :
    Sep g0 w0 (gadd g b o) w (L.eraseIdx i) ∧ Hle g (gadd g b o) := by
  have hr := List.mem_of_getElem? hi
  have hf := h.fresh r hr b hb
  refine ⟨⟨⟨h.ext.below, fun k hk => ?_, fun k o' hk => ?_⟩, fun s hs => h.ok s ((List.eraseIdx_sublist L i).subset hs), fun s hs k hk => ?_, h.apart.sublist (List.eraseIdx_sublist L i)⟩, fun k o' hk => ?_⟩
  · simp only [gadd]; rw [if_neg (by omega)]; exact h.ext.old k hk
  · simp only [gadd] at hk
    split at hk
    · rename_i e; subst e; rw [ho]; exact hk
    · exact h.imm k o' hk
  · obtain ⟨j, hjl, hj, rfl⟩ := List.mem_eraseIdx_iff_getElem.1 hs
    have hfs := h.fresh _ (List.getElem_mem hjl) k hk
    refine ⟨hfs.1, ?_⟩
    simp only [gadd]
    rw [if_neg]
    · exact hfs.2
    · intro e
      subst e
      obtain ⟨hil, hi'⟩ := List.getElem?_eq_some_iff.1 hi
      have hp := List.pairwise_iff_getElem.1 h.apart
      rcases Nat.lt_or_gt_of_ne hj with hlt | hlt
      · exact hp j i hjl hil hlt _ hk (by rw [hi']; exact hb)
      · exact hp i j hil hjl hlt _ (by rw [hi']; exact hb) hk
  · simp only [gadd]
    rw [if_neg (fun e => by subst e; rw [hf.2] at hk; cases hk)]
    exact hk
end
end Go.Lx
