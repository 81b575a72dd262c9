/- Lx, part 16: package variables that a row lists with what they hold. -/
import Derived.Test.YtajmekjcnbmaaaaLxFrame
import Derived.Test.YtajmekjcnbmaaaaLxEntry
import Derived.Lib.LaidTab
import Derived.Lib.LaidU8
namespace Go.Lx
open Go.RowKit Go.Lib

theorem gbox_of_reads {P : Program} {W : World} {n : String} {d : DataW Unit} (h : VarReads P W n d) {b t e : Nat} {m : Nat} {k : IntKind} {v : Vec m} (hb : P.globalNamed n = some b) (ht : (P.globals[b]?).map (·.type) = some t)
    (hT : P.underlying t = some (.array m e)) (hE : P.underlying e = some (.int k)) (hce : P.cellsOf e = 1) (hct : P.cellsOf t = m) (hd : d = tabData k v.1) (hm : 0 < m := by decide) : GBox b (v.1.map (Value.int k)) (allHp W) := by
  obtain ⟨b', t', cs, fuel, p, h1, h2, h3, h4⟩ := h
  obtain rfl : b' = b := Option.some.inj (h1.symm.trans hb)
  obtain rfl : t' = t := Option.some.inj (h2.symm.trans ht)
  subst hd
  have hcs := cells_of_tab hT hE hce hct h4
  have hcell : ∀ (j : Nat) (u : Value), (v.1.map (Value.int k))[j]? = some u → W.cell? ⟨b', j, none⟩ = some u := by
    intro j u hj
    have := World.var?_cell hb h3 j
    rw [this]
    rw [← hcs] at hj
    simpa using hj
  have hv : v.1 ≠ [] := fun h0 => by have := v.2; rw [h0] at this; simp at this; omega
  · obtain ⟨x, hx⟩ : ∃ x, (v.1.map (Value.int k))[0]? = some x := by
      cases hl : v.1 with
      | nil => exact absurd hl hv
      | cons a l => exact ⟨_, rfl⟩
    have h0 := hcell 0 x hx
    cases ho : W.heap[b']? with
    | none => simp [World.cell?, ho] at h0
    | some o =>
      cases o with
      | cells arr T fz =>
        refine ⟨arr, T, fz, ho, fun j u hj => ?_⟩
        have := hcell j u hj
        simpa [World.cell?, ho] using this
      | _ => simp [World.cell?, ho] at h0
end Go.Lx
