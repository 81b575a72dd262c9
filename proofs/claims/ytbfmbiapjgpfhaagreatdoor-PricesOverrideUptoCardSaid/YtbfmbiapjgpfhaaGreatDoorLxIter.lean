/- Lx, part 20: the bytes of a string as a row; a map of functions; slices.Grow of nothing; the keys of a map, sorted. -/
import Derived.Test.YtbfmbiapjgpfhaaGreatDoorLxGrid
import Derived.Lib.ConvBytes
namespace Go.Lx
open Go.RowKit Go.Maps

def bytesL (s : Str) : List Int := s.map fun b => (b.toNat : Int)
section
variable {P : Program} {n : Fr} {Q : EPost} {E : Env} {w : World} {ops : Array Oper} {rest : List Oper} {d : Tmp} {ty : TypeId} {ps : String} {af : Array Edge} {g0 g : Hp} {w0 : World} {L : List Res}
theorem bytesWorld_grown (w : World) (e : TypeId) (s : ByteArray) : w.grownBy (Lib.bytesWorld w e s) none :=
  ⟨rfl, rfl, rfl, by rw [Lib.bytesWorld_size]; omega, fun k hk _ => Lib.bytesWorld_at_old w e s k hk⟩
/-- A block more, that nobody will write. -/
theorem Sep.gave (h : Sep g0 w0 g w L) {w' : World} (hg : w.grownBy w' none) {b : Nat} {o : Obj} (hb : w.heap.size ≤ b) (ho : w'.heap[b]? = some o) : Sep g0 w0 (gadd g b o) w' L ∧ Hle g (gadd g b o) := by
  have hx : Ext g w (gadd g b o) w' := by
    refine ⟨⟨hg.os, hg.tape, hg.output, hg.size, fun k hk => hg.block k hk (by simp)⟩, fun k hk => if_neg (by omega), fun k o' hk => ?_⟩
    simp only [gadd] at hk
    split at hk
    · rename_i e; subst e; rw [ho]; exact hk
    · rw [hg.block k (h.imm.lt hk) (by simp)]; exact h.imm k o' hk
  exact ⟨h.call hx, hx.le h.imm⟩
theorem OW_bytes {S T el : TypeId} {x : Operand} {s : Str} (hS : P.underlying S = some .string) (hT : P.underlying T = some (.slice el)) (he : P.underlying el = some (.int .u8))
    (hs : Sep g0 w0 g w L) (hx : ev E x = encS s) (hd : Nat.blt d n.sz = true)
    (k : ∀ v' w' g', Hle g g' → RdS (tInt .u8) g' v' (bytesL s) → Sep g0 w0 g' w' L → OW P n ops Q rest (upd E d v') w') :
    OW P n ops Q (⟨some d, .convert S T x, ty, ps, af, none⟩ :: rest) E w := by
  have hrun := Lib.run_convert_string_bytes (P := P) w S T el ⟨s.toArray⟩ hS hT he
  obtain ⟨h1, h2⟩ := hs.gave (bytesWorld_grown w el ⟨s.toArray⟩) (Nat.le_refl _) (Lib.bytesWorld_at_new w el ⟨s.toArray⟩)
  refine O (v := .slice (some ⟨w.heap.size, 0, none⟩) s.length (grownCap w s.length 0 el)) (.inl ?_) hd (k _ _ _ h2 ?_ h1)
  · have e : (ByteArray.mk s.toArray).size = s.length := by simp [ByteArray.size]
    rw [e] at hrun
    simp only [execOp, Sem.run_bind, hx, encS, hrun, Result.andThen_ok, Sem.run_pure]
  · refine ⟨s.map fun b => Value.int .u8 b.toNat, ?_, .inr ⟨w.heap.size, 0, grownCap w s.length 0 el, _, _, _, ?_, ?_, if_pos rfl, ?_⟩⟩
    · refine ⟨by simp [bytesL, tInt], fun i x hx => ?_⟩
      simp only [bytesL, List.getElem?_map] at hx
      cases hi : s[i]? with
      | none => rw [hi] at hx; cases hx
      | some c =>
        rw [hi] at hx
        obtain rfl := Option.some.inj hx
        show (List.drop (i * 1) _).take 1 = _
        obtain ⟨hl, rfl⟩ := List.getElem?_eq_some_iff.1 hi
        rw [Nat.mul_one, List.drop_eq_getElem_cons (by simpa using hl)]
        simp
    · simp [bytesL]
    · simp only [bytesL, List.length_map]; exact grownCap_ge w _ _ _
    · intro j v hj
      simp only [Lib.bytesCells, Nat.zero_add]
      rw [Array.getElem?_append_left (by simp at hj ⊢; obtain ⟨a, h, _⟩ := hj; exact (List.getElem?_eq_some_iff.1 h).1)]
      simpa using hj
/-- A map of functions: the entry is known. -/
theorem r_lookupF {d' : Option Tmp} {gd : Option (Nat × Bool)} {K V : Type} [BEq K] {ek : K → Value} {vf : V → Value} {T Tk Te : TypeId} {es : Array MapEntry} {clock b i : Nat} {m : List (K × V)} {x y : Operand} {kk : K} {vv : V} (hT : P.underlying T = some (.map Tk Te)) (law : KeyLaw P Tk ek)
    (hs : Sep g0 w0 g w L) (hi : L[i]? = some (.obj b (.map es clock))) (hm : MRel ek vf es clock m) (hx : ev E x = .map (some b)) (hy : ev E y = ek kk) (hg : mget m kk = some vv) :
    Runs P E ⟨d', .lookup T x y false, ty, ps, af, gd⟩ w (vf vv) w := .inl (by
  have hb := (hs.at hi).out
  simp only [Res.okB] at hb
  have hf := law.find kk es.toList (m.map (·.1)) w hm.keys
  have hv := hm.val
  rw [find?_findIdx?] at hg
  simp only [execOp, Instr.lookup, hx, hy, Sem.run_bind, run_underlying hT, Result.andThen_ok, getObj, Sem.run, hb, Sem.run_pure, law.check, hf]
  cases hj : (m.map (·.1)).findIdx? (· == kk) with
  | none => rw [hj] at hg; cases hg
  | some j =>
    have := hv j
    rw [hj] at hg
    simp only [Option.bind_some] at hg
    cases hm' : m[j]? with
    | none => rw [hm'] at hg; cases hg
    | some p =>
      rw [hm'] at this hg
      cases he' : es.toList[j]? with
      | none => rw [he'] at this; simp at this
      | some e =>
        rw [he'] at this
        simp only [Option.map_some, Option.some.injEq] at this hg
        simp only [Option.bind_some, he', Option.map_some, this, hg]
        rfl)
end
/-- An element of an array that lies in a row. -/
theorem vecElAt {n : Nat} {v : Vec n} {q c : Int} {k : IntKind} {w : World} {b o : Nat} (hc : ∀ j u, (v.1.map (Value.int k))[j]? = some u → w.cell? ⟨b, o + j, none⟩ = some u) (h : vget v q = some c) :
    ∀ j u, [Value.int k c][j]? = some u → w.cell? ⟨b, o + q.toNat * 1 + j, none⟩ = some u := by
  intro j u hj
  cases j with
  | zero =>
    simp at hj; subst hj
    have := hc _ _ (vget_cell (k := k) h)
    simpa using this
  | succ j => simp at hj
end Go.Lx
