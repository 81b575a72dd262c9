/- Lx: text: a string appended to bytes of the call's own; a builder's address; nil errors; a map asked without 'ok'; a copy within a row; contracts of the library in this layer's words. -/
import Derived.Test.YtbfmbiapjgpfhaaGreatDoorLxGrid
import Derived.Test.YtbfmbiapjgpfhaaGreatDoorLxIter
import Derived.Test.YtbfmbiapjgpfhaaGreatDoorLxFrame
import Derived.Lib.AppendStr
import Derived.Lib.Builder
import Derived.Laws.Externs
set_option linter.unusedVariables false
namespace Go.Lx
open Go.RowKit

/-! ### a string appended to bytes -/
section
variable {P : Program} {w : World}
theorem ownsRow_zero {w : World} {base : Nat} {e : TypeId} {size n : Nat} {v : Value} {xs : List Value} (h : w.ownsRow base e size v n xs) : w.ownsRow 0 e size v n xs := by
  refine ⟨h.1, ?_⟩
  rcases h.2 with h | ⟨g, cap, cur, a, b, c⟩
  · exact .inl h
  · exact .inr ⟨g, cap, cur, a, Nat.zero_le _, c⟩
theorem run_append_str (t u ty e : TypeId) (ht : P.underlying t = some (.slice e)) (hu : P.underlying u = some .string) (he : TyI P e false 1 1 (.int .u8 0))
    {v : Value} {n : Nat} {xs : List Value} (hown : w.ownsRow 0 e 1 v n xs) (s : Str) (hb : n + s.length ≤ 140737488355328) :
    ∃ v' w', (Builtin.append_ #[t, u] ty #[v, encS s]).run P w = .ok v' w' ∧ w'.ownsRow 0 e 1 v' (n + s.length) (xs ++ Lib.strCells ⟨s.toArray⟩) ∧ w.grownBy w' v.ownBlock ∧ (∀ b, v'.ownBlock = some b → v.ownBlock = some b ∨ w.heap.size ≤ b) := by
  obtain ⟨i, hi, hz, hsi, hbi⟩ := he.info
  have hsz : (ByteArray.mk s.toArray).size = s.length := by simp [ByteArray.size]
  have hm : n + (ByteArray.mk s.toArray).size ≤ maxLen := by rw [hsz]; simp only [maxLen]; omega
  rcases hown.2 with ⟨rfl, rfl⟩ | ⟨g, cap, cur, rfl, hbg, hg, hnc, hcm, hcs, htake⟩
  · have hown' : w.ownsRow w.heap.size e 1 (.slice none 0 0) 0 xs := ⟨hown.1, .inl ⟨rfl, rfl⟩⟩
    obtain ⟨v', w', h1, h2, h3, h4⟩ := Lib.run_append_own_string (P := P) w w.heap.size t u ty e i ht hu hi hz hsi hbi _ 0 xs hown' ⟨s.toArray⟩ hm (by rw [hsz]; exact hb) (Nat.le_refl _)
    rw [hsz] at h2
    exact ⟨v', w', h1, ownsRow_zero h2, h3, fun b hb => .inr (h2.lt b hb).1⟩
  · obtain ⟨v', w', h1, h2, h3, h4⟩ := Lib.run_append_own_string (P := P) w 0 t u ty e i ht hu hi hz hsi hbi _ n xs hown ⟨s.toArray⟩ hm (by rw [hsz]; exact hb) (Nat.zero_le _)
    rw [hsz] at h2
    refine ⟨v', w', h1, h2, h3, fun b hb' => ?_⟩
    by_cases hroom : n + (ByteArray.mk s.toArray).size ≤ cap
    · have hcs' : cur.size = cap := by simpa using hcs
      have hr := Lib.run_append_room_string (P := P) w t u ty e i ht hu hi hsi g n cap cur hg ⟨s.toArray⟩ hroom (by omega)
      have e1 := h1.symm.trans hr
      simp only [Result.ok.injEq] at e1
      rw [e1.1] at hb'
      exact .inl (by simpa [Value.ownBlock] using hb')
    · have holds : ∀ j u, xs[j]? = some u → w.cell? ((⟨g, 0, none⟩ : Addr).add j) = some u := hown.cells (g := g) rfl
      have hr := Lib.run_append_grow_string (P := P) w t u ty e i (.int .u8 0) ht hu hi hz ⟨g, 0, none⟩ n cap xs (by rw [hsi]; exact hown.1) holds ⟨s.toArray⟩ (by omega) (by rw [hsz]; omega) (by rw [hbi]; exact growslice_fits (by omega) (by rw [hsz]; omega))
      have e1 := h1.symm.trans hr
      simp only [Result.ok.injEq] at e1
      rw [e1.1] at hb'
      exact .inr (by simp [Value.ownBlock] at hb'; omega)
theorem rowRel_str {g : Hp} (s : Str) : RowRel (tInt .u8) g (Lib.strCells ⟨s.toArray⟩) (bytesL s) := by
  refine ⟨by simp [Lib.strCells, bytesL, tInt], fun i x hx => ?_⟩
  simp only [bytesL, List.getElem?_map] at hx
  cases hi : s[i]? with
  | none => rw [hi] at hx; cases hx
  | some c =>
    rw [hi] at hx
    obtain rfl := Option.some.inj hx
    have h3 : (Lib.strCells ⟨s.toArray⟩)[i]? = some (.int .u8 (c.toNat : Int)) := by simp [Lib.strCells, hi]
    simp only [tInt, Nat.mul_one]
    obtain ⟨hl, h4⟩ := List.getElem?_eq_some_iff.1 h3
    rw [List.drop_eq_getElem_cons hl, h4]
    simp
end
section
variable {P : Program} {n : Fr} {Q : EPost} {E : Env} {w : World} {ops : Array Oper} {rest : List Oper} {d : Tmp} {ty : TypeId} {ps : String} {af : Array Edge} {g0 g : Hp} {w0 : World} {L : List Res}
theorem OW_appendS {T U el : TypeId} {x y : Operand} {v : Value} {l r : List Int} {s : Str} {xs : List Value} {i : Nat}
    (hT : P.underlying T = some (.slice el)) (hU : P.underlying U = some .string) (he : TyI P el false 1 1 (.int .u8 0)) (hs : Sep g0 w0 g w L) (hi : L[i]? = some (.row v el (tInt .u8).sz l.length xs)) (hr : RowRel (tInt .u8) g xs l)
    (hx : ev E x = v) (hy : ev E y = encS s) (hM : appM 1 l (bytesL s) = some r) (hd : Nat.blt d n.sz = true)
    (k : ∀ v' w' xs', RowRel (tInt .u8) g xs' r → Sep g0 w0 g w' (L.set i (.row v' el (tInt .u8).sz r.length xs')) → OW P n ops Q rest (upd E d v') w') :
    OW P n ops Q (⟨some d, .call { callee := .builtin .append, args := #[x, y], argTypes := #[T, U] }, ty, ps, af, none⟩ :: rest) E w := by
  obtain ⟨rfl, hb⟩ := appM_some hM
  have hbl : (bytesL s).length = s.length := by simp [bytesL]
  rw [hbl] at hb
  obtain ⟨v', w', hrun, hown, hgr, hblk⟩ := run_append_str (P := P) (w := w) T U ty el hT hU he (hs.at hi).out s (by omega)
  refine O (.inl ?_) hd (k v' w' _ (hr.append (rowRel_str s)) (hs.upd hi hgr ⟨?_⟩ hblk))
  · simp only [execOp, resolve, invoke, builtin, Sem.run_bind, Sem.run_pure, Result.andThen_ok, List.map_toArray, List.map_cons, List.map_nil, hx, hy, hrun]
  · simp only [Res.okB, List.length_append, hbl]; exact hown
end
/-! ### a package variable, whole -/
def GTab (b : Nat) (cs : List Value) (g : Hp) : Prop := ∃ (T : TypeId) (fz : Nat × Nat), g b = some (.cells cs.toArray T fz)
theorem GTab.mono {b : Nat} {cs : List Value} {g g' : Hp} (h : GTab b cs g) (hg : Hle g g') : GTab b cs g' := let ⟨T, fz, h1⟩ := h; ⟨T, fz, hg _ _ h1⟩
theorem GTab.var {P : Program} {b : Nat} {cs : List Value} {g : Hp} {w : World} (h : GTab b cs g) (hi : Imm g w) {n : String} (hn : P.globalNamed n = some b) : w.var? P n = some cs.toArray := by
  obtain ⟨T, fz, hg⟩ := h
  simp [World.var?, hn, hi _ _ hg]
/-! ### nil errors, a builder's address -/
def tNil : Ty Unit := ⟨1, fun _ cs _ => cs = [.nilIface], fun _ h => h, fun h => by rw [h]; rfl, fun h v hv => by rw [h] at hv; simp at hv; subst hv; rfl⟩
/-- What a builder holds in 'addr'. -/
def BAdr (b : Nat) (g : Hp) (a : Value) : Prop := a = .pointer none ∨ a = .pointer (some ⟨b, 0, none⟩)
theorem BAdr.mono {b : Nat} {g g' : Hp} {a : Value} (h : BAdr b g a) (_ : Hle g g') : BAdr b g' a := h
theorem BAdr.nil {b : Nat} {g : Hp} : BAdr b g (.pointer none) := .inl rfl
theorem BAdr.one {b : Nat} {g : Hp} {a : Value} (h : BAdr b g a) : a.oneCell' = true := by rcases h with rfl | rfl <;> rfl
section
variable {P : Program} {n : Fr} {Q : EPost} {E : Env} {w : World} {d : Option Tmp} {ty : TypeId} {ps : String} {af : Array Edge} {gd : Option (Nat × Bool)}
theorem r_eqlPtrNil {T T' te : TypeId} {x y : Operand} {a : Option Addr} (hT : P.underlying T = some (.pointer te)) (hx : ev E x = .pointer a) (hy : ev E y = .pointer none) :
    Runs P E ⟨d, .binOp .eql T x y T', ty, ps, af, gd⟩ w (.bool a.isNone) w := run_binOp_of (by rw [hx, hy]; rfl) (by
  rw [hx, hy]
  have h : ∀ q : Nat, (Op.equalIn (q + 1) T (.pointer a) (.pointer none)).run P w = .ok a.isNone w := fun q => by
    cases a <;> simp [Op.equalIn, run_underlying hT]
  simp only [binOp]
  simp [Op.equal, Op.maxDepth, h 9999])
theorem r_neqPtrSame {T T' te : TypeId} {x y : Operand} {a : Addr} {agg : Bool} {size bytes : Nat} {z : Value} (hT : P.underlying T = some (.pointer te)) (he : TyI P te agg size bytes z) (hx : ev E x = .pointer (some a)) (hy : ev E y = .pointer (some a)) :
    Runs P E ⟨d, .binOp .neq T x y T', ty, ps, af, gd⟩ w (.bool false) w := run_binOp_of (by rw [hx, hy]; rfl) (by
  rw [hx, hy]
  obtain ⟨j, hj, _⟩ := he.info
  exact Lib.run_neq_ptr_same w a hT hj)
theorem r_toUnsafe {S T te e : TypeId} {x : Operand} {b cells : Nat} {agg : Bool} {size bytes : Nat} {z : Value} (hS : P.underlying S = some (.pointer te)) (hT : P.underlying T = some .unsafePointer) (he : TyI P te agg size bytes z) (hz : Nat.beq size 0 = false)
    (hx : ev E x = .pointer (some ⟨b, 0, none⟩)) (hsh : w.shape? b = some (e, cells)) (hc : Nat.blt 0 cells = true) :
    Runs P E ⟨d, .convert S T x, ty, ps, af, gd⟩ w (.pointer (some ⟨b, 0, none⟩)) w := .inl (by
  obtain ⟨j, hj, _, hs, _⟩ := he.info
  have h := Lib.run_to_unsafe (P := P) w ⟨b, 0, none⟩ hS hT hj (by rw [hs]; intro h0; subst h0; cases hz) hsh (Nat.le_of_ble_eq_true hc)
  simp only [execOp, hx, Sem.run_bind, h, Result.andThen_ok, Sem.run_pure])
theorem r_fromUnsafe {S T te e : TypeId} {x : Operand} {b cells : Nat} {agg : Bool} {size bytes : Nat} {z : Value} (hS : P.underlying S = some .unsafePointer) (hT : P.underlying T = some (.pointer te)) (he : TyI P te agg size bytes z)
    (hx : ev E x = .pointer (some ⟨b, 0, none⟩)) (hsh : w.shape? b = some (e, cells)) (hl : liesAt P P.depth e (cells / P.cellsOf e) 0 te 1 = true) :
    Runs P E ⟨d, .convert S T x, ty, ps, af, gd⟩ w (.pointer (some ⟨b, 0, none⟩)) w := .inl (by
  obtain ⟨j, hj, _⟩ := he.info
  have h := Lib.run_from_unsafe (P := P) w ⟨b, 0, none⟩ hS hT hj hsh hl
  simp only [execOp, hx, Sem.run_bind, h, Result.andThen_ok, Sem.run_pure])
theorem r_noEscape {f : FuncId} {fn : Func} {x : Operand} {ats : Array TypeId} {v : Value} (hf : P.funcs[f]? = some fn) (hname : (fn.name == "runtime.NumGoroutine") = false) (hb : fn.body.isNone = true) (hn : Extern.findNext fn = none) (he : Extern.find fn = some Extern.AbiNoEscape.same) (hx : ev E x = v) :
    Runs P E ⟨d, .call { callee := .value (.func f), args := #[x], argTypes := ats }, ty, ps, af, gd⟩ w v w := .inl (by
  have h := run_callFunc_extern hf hname hb hn he #[v] w
  rw [Lib.run_noEscape] at h
  simp only [Result.andThen] at h
  have hev : ev E (.func f) = .func (.func f) #[] #[] := rfl
  simp [execOp, resolve, Deferred.ofValue, invoke, hev, hx, h])
end
/-! ### a map asked without 'ok' -/
section
variable {P : Program} {E : Env} {w : World} {d' : Option Tmp} {ty : TypeId} {ps : String} {af : Array Edge} {gd : Option (Nat × Bool)} {g0 g : Hp} {w0 : World} {L : List Res}
theorem r_lookup0 {K V : Type} [BEq K] [LawfulBEq K] {Tm Tk Te : TypeId} {ek : K → Value} {vf : V → Value} {es : Array MapEntry} {clock b i : Nat} {m : List (K × V)} {x y : Operand} {kk : K} {agg : Bool} {size bytes : Nat} {z : V}
    (hT : P.underlying Tm = some (.map Tk Te)) (he : TyI P Te agg size bytes (vf z)) (law : KeyLaw P Tk ek)
    (hs : Sep g0 w0 g w L) (hi : L[i]? = some (.obj b (.map es clock))) (hm : MRel ek vf es clock m) (hx : ev E x = .map (some b)) (hy : ev E y = ek kk) :
    Runs P E ⟨d', .lookup Tm x y false, ty, ps, af, gd⟩ w (vf ((mget m kk).getD z)) w := .inl (by
  have hb := (hs.at hi).out
  simp only [Res.okB] at hb
  have hf := law.find kk es.toList (m.map (·.1)) w hm.keys
  have hv := hm.val
  rw [find?_findIdx?]
  simp only [execOp, Instr.lookup, hx, hy, Sem.run_bind, run_underlying hT, Result.andThen_ok, getObj, Sem.run, hb, Sem.run_pure, law.check, hf]
  cases hj : (m.map (·.1)).findIdx? (· == kk) with
  | none => simp [run_zeroValue he]
  | some j =>
    have := hv j
    obtain ⟨_, hjl, _⟩ := mset_of_some (v := z) hj
    cases hm' : m[j]? with
    | none => rw [List.getElem?_eq_none_iff] at hm'; omega
    | some p =>
      rw [hm'] at this
      cases he' : es.toList[j]? with
      | none => rw [he'] at this; simp at this
      | some e =>
        rw [he'] at this
        simp only [Option.map_some, Option.some.injEq] at this
        simp only [Option.bind_some, he', Option.map_some, hm', Option.getD_some]
        rw [this]
        rfl)
end
/-! ### a copy within a row -/
def selfM {α : Type} (l : List α) (n : Int) : Option (List α) := if 0 ≤ n ∧ n < l.length then some (l.take n.toNat ++ copyL (l.drop n.toNat) (l.take n.toNat)) else none
theorem selfM_some {α : Type} {l r : List α} {n : Int} (h : selfM l n = some r) : 0 ≤ n ∧ n < l.length ∧ r = l.take n.toNat ++ copyL (l.drop n.toNat) (l.take n.toNat) := by
  unfold selfM at h
  split at h
  · rename_i hc; exact ⟨hc.1, hc.2, (Option.some.inj h).symm⟩
  · cases h
theorem self_take {α : Type} (cu : List α) {B p : Nat} (hB : B ≤ cu.length) (hp : p < B) :
    (List.take p cu ++ List.take (min p (B - p)) (List.take B cu) ++ List.drop (p + (List.take (min p (B - p)) (List.take B cu)).length) cu).toArray.toList.take B =
      List.take p (List.take B cu) ++ (List.take (List.drop p (List.take B cu)).length (List.take p (List.take B cu)) ++ List.drop (List.take p (List.take B cu)).length (List.drop p (List.take B cu))) := by
  have e1 : (List.take (min p (B - p)) (List.take B cu)).length = min p (B - p) := by rw [List.length_take, List.length_take]; omega
  have e2 : (List.drop p (List.take B cu)).length = B - p := by rw [List.length_drop, List.length_take]; omega
  have e3 : (List.take p (List.take B cu)).length = p := by rw [List.length_take, List.length_take]; omega
  rw [e1, e2, e3]
  apply List.ext_getElem?
  intro j
  have a1 : (List.take p cu).length = p := by rw [List.length_take]; omega
  have a4 : (List.take p cu ++ List.take (min p (B - p)) (List.take B cu)).length = p + min p (B - p) := by rw [List.length_append, a1, e1]
  have a5 : (List.take (B - p) (List.take p (List.take B cu))).length = min p (B - p) := by rw [List.length_take, e3]; omega
  rw [List.getElem?_take, List.getElem?_append, a4, List.getElem?_append, a1, List.getElem?_append, e3, List.getElem?_append, a5]
  simp only [List.getElem?_take, List.getElem?_drop]
  generalize hm : min p (B - p) = m
  have hm1 : m = p ∧ p ≤ B - p ∨ m = B - p ∧ B - p ≤ p := by omega
  by_cases h1 : j < p
  · rw [if_pos (by omega), if_pos (by omega), if_pos h1, if_pos h1, if_pos h1, if_pos (by omega), if_pos (by omega)]
  · by_cases h2 : j < B
    · by_cases h3 : j < p + m
      · rw [if_pos h2, if_pos h3, if_neg h1, if_pos (by omega), if_pos (by omega), if_neg h1, if_pos (by omega), if_pos (by omega), if_pos (by omega)]
      · rw [if_pos h2, if_neg h3, if_neg h1, if_neg (by omega), if_pos (by omega)]
        congr 1
        omega
    · rw [if_neg h2, if_neg h1]
      by_cases h3 : j - p < m
      · omega
      · rw [if_neg h3, if_neg (by omega)]
theorem selfM_len {α : Type} {l r : List α} {n : Int} (h : selfM l n = some r) : r.length = l.length := by
  obtain ⟨h0, h1, rfl⟩ := selfM_some h
  rw [List.length_append, copyL_length, List.length_take, List.length_drop]
  omega
section
variable {P : Program} {n : Fr} {Q : EPost} {E : Env} {w : World} {ops : Array Oper} {rest : List Oper} {d : Option Tmp} {ty : TypeId} {ps : String} {af : Array Edge} {gd : Option (Nat × Bool)} {g0 g : Hp} {w0 : World} {L : List Res}
/-- The parts of a row of the call's own on both sides of a place. -/
theorem Sep.rowHalves {α : Type} {τ : Ty α} (h1 : τ.sz = 1) {l r : List α} {i : Nat} {v : Value} {e : TypeId} {xs : List Value} (h : Sep g0 w0 g w L) (hi : L[i]? = some (.row v e τ.sz l.length xs)) {q : Int} (hM : selfM l q = some r) :
    ∃ b cap, v = .slice (some ⟨b, 0, none⟩) l.length cap ∧ l.length ≤ cap ∧ (∀ {P : Program} {E : Env} {d : Option Tmp} {ty : TypeId} {ps : String} {af : Array Edge} {gd : Option (Nat × Bool)} {T el : TypeId} {agg : Bool} {bytes : Nat} {z : Value} {x y : Operand} {k : IntKind},
      P.underlying T = some (.slice el) → TyI P el agg 1 bytes z → ev E x = v → ev E y = .int k q → ∀ w' : World, Runs P E ⟨d, .slice T x (some y) none none, ty, ps, af, gd⟩ w' (sliced (some ⟨b, 0, none⟩) q.toNat l.length cap 1) w') ∧
      (∀ {P : Program} {E : Env} {d : Option Tmp} {ty : TypeId} {ps : String} {af : Array Edge} {gd : Option (Nat × Bool)} {T el : TypeId} {agg : Bool} {bytes : Nat} {z : Value} {x y : Operand} {k : IntKind},
      P.underlying T = some (.slice el) → TyI P el agg 1 bytes z → ev E x = v → ev E y = .int k q → ∀ w' : World, Runs P E ⟨d, .slice T x none (some y) none, ty, ps, af, gd⟩ w' (sliced (some ⟨b, 0, none⟩) 0 q.toNat cap 1) w') := by
  obtain ⟨h0, hq, _⟩ := selfM_some hM
  have hrow := (h.at hi).out
  rcases hrow.2 with ⟨_, hn⟩ | ⟨b, cap, cur, hv, _, hb, hnc, hcm, hcs, ht⟩
  · omega
  · refine ⟨b, cap, hv, hnc, ?_, ?_⟩
    · intro P E d ty ps af gd T el agg bytes z x y k hT he hx hy w'
      exact ⟨by simp only [execOp, Option.map_none, Option.map_some, hx, hy, hv, Sem.run_bind, slice_run hT he (.inr ⟨k, rfl⟩) (.inl ⟨rfl, rfl⟩) h0 (by omega) (Int.le_refl _) hnc, Result.andThen_ok, Sem.run_pure, Int.toNat_natCast]⟩
    · intro P E d ty ps af gd T el agg bytes z x y k hT he hx hy w'
      exact ⟨by simp only [execOp, Option.map_none, Option.map_some, hx, hy, hv, Sem.run_bind, slice_run hT he (.inl ⟨rfl, rfl⟩) (.inr ⟨k, rfl⟩) (Int.le_refl 0) h0 (by omega) hnc, Result.andThen_ok, Sem.run_pure, Int.toNat_zero]⟩
theorem OW_copySelf {α : Type} {τ : Ty α} {T el e : TypeId} {agg : Bool} {bytes : Nat} {z : Value} {x y : Operand} {v : Value} {l r : List α} {xs : List Value} {i b cap : Nat} {q : Int} (hT : P.underlying T = some (.slice el)) (he : TyI P el agg 1 bytes z) (h1 : τ.sz = 1)
    (hs : Sep g0 w0 g w L) (hi : L[i]? = some (.row v e τ.sz l.length xs)) (hr : RowRel τ g xs l) (hM : selfM l q = some r) (hv : v = .slice (some ⟨b, 0, none⟩) l.length cap)
    (hx : ev E x = sliced (some ⟨b, 0, none⟩) q.toNat l.length cap 1) (hy : ev E y = sliced (some ⟨b, 0, none⟩) 0 q.toNat cap 1) (hd : dstOk n d = true)
    (k : ∀ w' xs', RowRel τ g xs' r → Sep g0 w0 g w' (L.set i (.row v e τ.sz r.length xs')) → OW P n ops Q rest (updO E d (.int .i64 (min (l.length - q.toNat) q.toNat : Nat))) w') :
    OW P n ops Q (⟨d, .call { callee := .builtin .copy, args := #[x, y], argTypes := #[T, T] }, ty, ps, af, none⟩ :: rest) E w := by
  obtain ⟨h0, hq, hrr⟩ := selfM_some hM
  have hlen := selfM_len hM
  have hrow := (hs.at hi).out
  have hxl : xs.length = l.length := by have := hr.1; rw [h1, Nat.mul_one] at this; exact this
  have hsz : (P.info? el).map (·.size) = some 1 := by obtain ⟨ii, a1, _, a3, _⟩ := he.info; rw [a1]; simp [a3]
  obtain ⟨p, rfl⟩ := Int.eq_ofNat_of_zero_le h0
  simp only [Int.toNat_natCast] at *
  have hp : p < l.length := by omega
  rcases hrow.2 with ⟨_, hn⟩ | ⟨b', cap', cur, hv', hb0, hb, hnc, hcm, hcs, ht⟩
  · omega
  · rw [hv] at hv'
    obtain ⟨rfl, rfl⟩ : b = b' ∧ cap = cap' := by injection hv' with h2 _ h3; injection h2 with h2; injection h2 with h2; exact ⟨h2, h3⟩
    rw [h1, Nat.mul_one] at hcs ht
    have hcl : cur.toList.length = cap := by rw [Array.length_toList]; exact hcs
    have hx' : ev E x = .slice (some ⟨b, p, none⟩) (l.length - p) (cap - p) := by
      rw [hx]; simp only [sliced, Option.map_some, Addr.add_lit, Nat.zero_add, Nat.mul_one]
      congr 1
      rw [if_neg (by omega)]
    have hy' : ev E y = .slice (some ⟨b, 0, none⟩) p cap := by
      rw [hy]; simp only [sliced, Option.map_some, Addr.add_lit, Nat.zero_mul, Nat.add_zero, Nat.sub_zero]
      split <;> rfl
    have hcell : ∀ j u, xs[j]? = some u → w.cell? ((⟨b, 0, none⟩ : Addr).add j) = some u := fun j u hj => by
      simp only [World.cell?, Addr.add_lit, Nat.zero_add, hb]
      rw [← ht, List.getElem?_take] at hj
      split at hj
      · simpa using hj
      · cases hj
    have hcsl : (xs.take (min p (l.length - p))).length = Nat.min p (l.length - p) := by rw [List.length_take, hxl]; show min (min p (l.length - p)) l.length = min p (l.length - p); omega
    have hrun := run_copy_row (P := P) w T T ty el b p (l.length - p) (cap - p) ⟨b, 0, none⟩ p cap cur e (xs.take (min p (l.length - p))) hT hsz hb hcsl
      (fun j y hj => by
        rw [List.getElem?_take] at hj
        split at hj
        · exact hcell j y hj
        · cases hj) (by rw [List.length_take, Array.size_eq_length_toList, hcl, hxl]; omega) (fun x hx => hr.ones x (List.mem_of_mem_take hx))
    rw [← hx', ← hy'] at hrun
    have hl2 : (xs.take (min p (l.length - p))).length = min (l.length - p) p := by rw [hcsl]; show min p (l.length - p) = _; omega
    have hr1 : RowRel τ g (xs.take p) (l.take p) := by
      have := hr.sub 0 p (by omega)
      simpa [h1] using this
    have hr2 : RowRel τ g (xs.drop p) (l.drop p) := by
      have := hr.sub p l.length (Nat.le_refl _)
      simp only [h1, Nat.mul_one] at this
      rw [List.take_of_length_le (by omega), List.take_of_length_le (Nat.le_refl _)] at this
      exact this
    have hnew : RowRel τ g (xs.take p ++ ((xs.take p).take (xs.drop p).length ++ (xs.drop p).drop (xs.take p).length)) r := by rw [hrr]; exact hr1.append (hr2.copy h1 hr1)
    refine OW_op (.inl ?_) hd rfl (by
      have := k _ _ hnew (hs.upd hi (w' := w.setRow b (cur.toList.take p ++ xs.take (min p (l.length - p)) ++ cur.toList.drop (p + (xs.take (min p (l.length - p))).length)).toArray) ⟨rfl, rfl, rfl, by simp [World.setRow], fun q _ hq => setRow_other w b q _ (fun e => hq (by simp [Res.blk, hv, Value.ownBlock, e]))⟩ ⟨?_⟩ (fun b' hb' => .inl (by simpa [Res.blk] using hb')))
      · rw [← hl2] at this; exact this
      · refine ⟨hnew.1, .inr ⟨b, cap, _, by rw [hlen]; exact hv, hb0, setRow_heap w b cur _ e _ hb, by rw [hlen]; exact hnc, hcm, ?_, ?_⟩⟩
        · simp only [List.size_toArray, List.length_append, List.length_take, List.length_drop, hcl, hxl, h1, Nat.mul_one]; omega
        · rw [hlen, h1, Nat.mul_one]
          rw [← ht]
          generalize hB : l.length = B at *
          exact self_take _ (by rw [hcl]; omega) (by omega))
    · simp only [execOp, resolve, invoke, builtin, Sem.run_bind, Sem.run_pure, Result.andThen_ok, List.map_toArray, List.map_cons, List.map_nil, hrun, goInt]
end
end Go.Lx
