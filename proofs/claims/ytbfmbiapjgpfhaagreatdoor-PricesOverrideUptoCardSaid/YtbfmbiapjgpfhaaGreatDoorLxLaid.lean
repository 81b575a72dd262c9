/- Lx, part 16: package variables that a row lists with what they hold. -/
import Derived.Test.YtbfmbiapjgpfhaaGreatDoorLxFrame
import Derived.Test.YtbfmbiapjgpfhaaGreatDoorLxEntry
import Derived.Lib.LaidTab
import Derived.Lib.LaidU8
namespace Go.Lx
open Go.RowKit Go.Lib

theorem gbox_of_reads {P : Program} {W : World} {n : String} {d : DataW Unit} (h : VarReads P W n d) {b t e : Nat} {m : Nat} {k : IntKind} {v : Vec m} (hb : P.globalNamed n = some b) (ht : (P.globals[b]?).map (·.type) = some t)
    (hT : P.underlying t = some (.array m e)) (hE : P.underlying e = some (.int k)) (hce : P.cellsOf e = 1) (hct : P.cellsOf t = m) (hd : d = tabData k v.1) (hm : 0 < m := by decide) : GBox b (v.1.map (Value.int k)) (allHp W) := by
  obtain ⟨b', t', cs, fuel, p, h1, h2, h3, h4⟩ := h
  obtain rfl : b' = b := Option.some.inj (h1.symm.trans hb)
  obtain rfl : t' = t := Option.some.inj (h2.symm.trans ht)
  subst hd
  have hcs := cells_of_tab hT hE hce hct h4
  have hcell : ∀ (j : Nat) (u : Value), (v.1.map (Value.int k))[j]? = some u → W.cell? ⟨b', j, none⟩ = some u := by
    intro j u hj
    have := World.var?_cell hb h3 j
    rw [this]
    rw [← hcs] at hj
    simpa using hj
  have hv : v.1 ≠ [] := fun h0 => by have := v.2; rw [h0] at this; simp at this; omega
  · obtain ⟨x, hx⟩ : ∃ x, (v.1.map (Value.int k))[0]? = some x := by
      cases hl : v.1 with
      | nil => exact absurd hl hv
      | cons a l => exact ⟨_, rfl⟩
    have h0 := hcell 0 x hx
    cases ho : W.heap[b']? with
    | none => simp [World.cell?, ho] at h0
    | some o =>
      cases o with
      | cells arr T fz =>
        refine ⟨arr, T, fz, ho, fun j u hj => ?_⟩
        have := hcell j u hj
        simpa [World.cell?, ho] using this
      | _ => simp [World.cell?, ho] at h0
theorem gbox_of_strs {P : Program} {W : World} {n : String} {d : DataW Unit} (h : VarReads P W n d) {b t e : Nat} {l : List Str} {m : Nat} (hb : P.globalNamed n = some b) (ht : (P.globals[b]?).map (·.type) = some t)
    (hT : P.underlying t = some (.array m e)) (hE : P.underlying e = some .string) (hce : P.cellsOf e = 1) (hct : P.cellsOf t = m) (hl : l.length = m) (hd : d = .agg (l.map fun s => .lit (.string s))) (hm : 0 < m := by decide) : GBox b (l.map encS) (allHp W) := by
  obtain ⟨b', t', cs, fuel, p, h1, h2, h3, h4⟩ := h
  obtain rfl : b' = b := Option.some.inj (h1.symm.trans hb)
  obtain rfl : t' = t := Option.some.inj (h2.symm.trans ht)
  subst hd
  obtain ⟨xs, mm, _, hx, hcl, hlen, hel⟩ := DataW.trod_array hT h4
  have hcs : cs.toList = l.map encS := by
    refine List.ext_getElem (by rw [hcl, hct, List.length_map]; exact hl.symm) fun i hi _ => ?_
    have him : i < m := by rw [hcl, hct] at hi; exact hi
    have h5 := hel i him
    rw [List.getElem?_eq_getElem (by omega), hce] at h5
    obtain ⟨s, hs, hs2, _⟩ := DataW.trod_string hE h5
    have hx2 : (DataW.agg (xs.map (·.1)) : DataW Unit) = .agg (l.map fun s => .lit (.string s)) := (congrArg Prod.fst hx).symm
    have hx3 := congrArg (fun d => match d with | DataW.agg ps => ps[i]? | _ => none) hx2
    simp only [List.getElem?_map, List.getElem?_eq_getElem (show i < xs.length by omega), List.getElem?_eq_getElem (show i < l.length by omega), Option.map_some, Option.some.injEq] at hx3
    rw [hs2] at hx3
    have h6 := congrArg (fun c => c[0]?) hs
    simp only [Nat.mul_one, List.getElem?_take, List.getElem?_drop] at h6
    simp at h6
    have h7 : cs.toList[i]? = some (Value.string s) := by rw [Array.getElem?_toList]; exact h6
    rw [List.getElem?_eq_getElem hi] at h7
    rw [Option.some.inj h7, List.getElem_map]
    unfold encS
    congr 1
    have : s.data.toList = l[i] := by simpa using hx3
    rw [← this]
  have hcell : ∀ (j : Nat) (u : Value), (l.map encS)[j]? = some u → W.cell? ⟨b', j, none⟩ = some u := by
    intro j u hj
    have := World.var?_cell hb h3 j
    rw [this]
    rw [← hcs] at hj
    simpa using hj
  obtain ⟨x, hx⟩ : ∃ x, (l.map encS)[0]? = some x := ⟨_, List.getElem?_eq_getElem (by rw [List.length_map]; omega)⟩
  have h0 := hcell 0 x hx
  cases ho : W.heap[b']? with
  | none => simp [World.cell?, ho] at h0
  | some o =>
    cases o with
    | cells arr T fz =>
      refine ⟨arr, T, fz, ho, fun j u hj => ?_⟩
      have := hcell j u hj
      simpa [World.cell?, ho] using this
    | _ => simp [World.cell?, ho] at h0
end Go.Lx
