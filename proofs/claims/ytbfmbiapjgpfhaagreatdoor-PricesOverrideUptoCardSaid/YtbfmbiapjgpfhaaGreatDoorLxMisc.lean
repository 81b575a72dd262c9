/- Lx, part 8: calls, tuples, truth values, whole arrays held against each other, bytes and strings, functions as values. -/
import Derived.Test.YtbfmbiapjgpfhaaGreatDoorLxMap
import Derived.Laws.IdiomStrings
namespace Go.Lx
open Go.RowKit

section
variable {P : Program} {E : Env} {w : World} {d : Option Tmp} {ty : TypeId} {ps : String} {af : Array Edge} {gd : Option (Nat × Bool)}
theorem r_extract0 {x : Operand} {a b : Value} (hx : ev E x = .tuple #[a, b]) : Runs P E ⟨d, .extract x 0, ty, ps, af, gd⟩ w a w := .inl (by simp [execOp, Instr.extract, hx])
theorem r_extract1 {x : Operand} {a b : Value} (hx : ev E x = .tuple #[a, b]) : Runs P E ⟨d, .extract x 1, ty, ps, af, gd⟩ w b w := .inl (by simp [execOp, Instr.extract, hx])
theorem r_extract {x : Operand} {vs : List Value} {i : Nat} {v : Value} (hx : ev E x = .tuple vs.toArray) (hi : vs[i]? = some v) : Runs P E ⟨d, .extract x i, ty, ps, af, gd⟩ w v w := .inl (by simp [execOp, Instr.extract, hx, hi])
theorem r_eqlB {T T' : TypeId} {x y : Operand} {a b : Bool} (hT : P.underlying T = some .bool) (hx : ev E x = .bool a) (hy : ev E y = .bool b) : Runs P E ⟨d, .binOp .eql T x y T', ty, ps, af, gd⟩ w (.bool (a == b)) w :=
  run_binOp_of (by rw [hx, eqGuard_at_bool]; rfl) (by rw [hx, hy, run_eql_bool w T a b hT])
theorem r_neqB {T T' : TypeId} {x y : Operand} {a b : Bool} (hT : P.underlying T = some .bool) (hx : ev E x = .bool a) (hy : ev E y = .bool b) : Runs P E ⟨d, .binOp .neq T x y T', ty, ps, af, gd⟩ w (.bool (!(a == b))) w :=
  run_binOp_of (by rw [hx, eqGuard_at_bool]; rfl) (by rw [hx, hy, run_neq_bool w T a b hT])
theorem r_eqlS {T T' : TypeId} {x y : Operand} {a b : Str} (hx : ev E x = encS a) (hy : ev E y = encS b) : Runs P E ⟨d, .binOp .eql T x y T', ty, ps, af, gd⟩ w (.bool (a == b)) w :=
  run_binOp_of (by rw [hx, hy]; rfl) (by rw [hx, hy]; simp [binOp, Op.stringOp, encS])
theorem r_neqS {T T' : TypeId} {x y : Operand} {a b : Str} (hx : ev E x = encS a) (hy : ev E y = encS b) : Runs P E ⟨d, .binOp .neq T x y T', ty, ps, af, gd⟩ w (.bool (a != b)) w :=
  run_binOp_of (by rw [hx, hy]; rfl) (by rw [hx, hy]; simp [binOp, Op.stringOp, encS, bne])
def catS (a b : Str) : Option Str := if a.length + b.length ≤ 9223372036854775807 then some (a ++ b) else none
theorem r_catS {T T' : TypeId} {x y : Operand} {a b c : Str} (hx : ev E x = encS a) (hy : ev E y = encS b) (h : catS a b = some c) : Runs P E ⟨d, .binOp .add T x y T', ty, ps, af, gd⟩ w (encS c) w :=
  run_binOp_of (by rw [hx, hy]; rfl) (by
    unfold catS at h
    split at h
    · rename_i h0
      cases h
      have := run_string_add_sum (P := P) (w := w) ⟨a.toArray⟩ ⟨b.toArray⟩ (by simpa [ByteArray.size_mk'] using h0)
      rw [hx, hy]
      simp only [binOp, encS]
      rw [this]
      congr 2
    · cases h)
theorem r_call {f : FuncId} {fn : Func} {xs : Array Operand} {ats : Array TypeId} {args : List Value} (hf : P.funcs[f]? = some fn) (hb : fn.body.isSome = true) (hn : (fn.name == "runtime.NumGoroutine") = false) (ha : xs.toList.map (ev E) = args) :
    (execOp (ev E) ⟨d, .call { callee := .value (.func f), args := xs, argTypes := ats }, ty, ps, af, gd⟩).run P w = .ok (.enter f args.toArray) w := by
  have ha : xs.map (ev E) = args.toArray := by apply Array.ext'; rw [Array.toList_map, ha]
  have hb' : fn.body.isNone = false := by cases hfb : fn.body <;> simp [hfb] at hb ⊢
  have hn' : ¬ fn.name = "runtime.NumGoroutine" := by simpa using hn
  have hb2 : ¬ fn.body = none := by intro h; rw [h] at hb; cases hb
  simp [execOp, resolve, Deferred.ofValue, invoke, callFunc, ev, ha, hf, hb2, hn']
end
/-- bytes (as numbers) to a string -/
def toStr (l : List Int) : Str := l.map fun n => UInt8.ofNat n.toNat
theorem foldl_push : ∀ (ns : List Int) (s : ByteArray), ns.foldl (fun r n => r.push (UInt8.ofNat n.toNat)) s = ⟨(s.data.toList ++ toStr ns).toArray⟩
  | [], s => by simp [toStr]
  | n :: ns, s => by
    simp only [List.foldl_cons, foldl_push ns]
    simp [toStr, ByteArray.push]
section
variable {P : Program} {E : Env} {w : World} {d : Option Tmp} {ty : TypeId} {ps : String} {af : Array Edge} {gd : Option (Nat × Bool)}
theorem r_toStr {S T e : TypeId} {x : Operand} {v : Value} {l : List Int} {xs : List Value} {g : Hp} (hS : P.underlying S = some (.slice e)) (he : P.underlying e = some (.int .u8)) (hT : P.underlying T = some .string)
    (hx : ev E x = v) (hv : Src w v l.length xs) (hr : RowRel (tInt .u8) g xs l) : Runs P E ⟨d, .convert S T x, ty, ps, af, gd⟩ w (encS (toStr l)) w := .inl (by
  have hxs : xs = l.map (Value.int .u8) := by
    apply List.ext_getElem?
    intro i
    have hl : xs.length = l.length := by simpa [tInt] using hr.1
    by_cases hi : i < l.length
    · have := hr.2 i l[i] (List.getElem?_eq_getElem hi)
      simp only [tInt, Nat.mul_one] at this
      have h0 := congrArg (fun c => c[0]?) this
      simp only [List.getElem?_take, List.getElem?_drop] at h0
      simp at h0
      rw [h0]; simp [hi]
    · rw [List.getElem?_eq_none (by omega), List.getElem?_eq_none (by simp; omega)]
  rcases hv with ⟨rfl, hn, _⟩ | ⟨a, c, rfl, hc⟩
  · have : l = [] := List.eq_nil_of_length_eq_zero hn
    subst this
    have := run_convert_bytes_string (P := P) w S T e none 0 0 hS he hT
    simp only [execOp, Sem.run_bind, hx, this]
    rfl
  · have h1 := run_convert_bytes_string (P := P) w S T e (some a) l.length c hS he hT
    have h2 := run_loadCellsFrom (P := P) (w := w) a xs 0 #[] (fun j u hj => by rw [Nat.zero_add]; exact hc j u hj)
    have h3 := run_bytesToString (P := P) w a l.length c l (by
      rw [hxs] at h2
      simpa [loadCells] using h2)
    rw [foldl_push] at h3
    simp only [execOp, Sem.run_bind, hx, h1, h3, Result.andThen_ok, Sem.run_pure, encS]
    simp)
end

/-- A function that can be entered. -/
def CF (P : Program) (f : FuncId) : Prop := ∃ fn, P.funcs[f]? = some fn ∧ fn.body.isSome = true ∧ (fn.name == "runtime.NumGoroutine") = false
theorem cf_of {P : Program} {f : FuncId} {fn : Func} (h : P.funcs[f]? = some fn) (hb : fn.body.isSome = true) (hn : (fn.name == "runtime.NumGoroutine") = false) : CF P f := ⟨fn, h, hb, hn⟩
section
variable {P : Program} {n : Fr} {Q : EPost} {E : Env} {w : World} {ops : Array Oper} {rest : List Oper} {d : Tmp} {ty : TypeId} {ps : String} {af : Array Edge} {gd : Option (Nat × Bool)}
theorem C {f : FuncId} {xs : Array Operand} {ats : Array TypeId} (args : List Value) {R : Value → World → Prop} (hf : CF P f) (ha : xs.toList.map (ev E) = args) (hc : CallsV P f args.toArray w R) (hd : Nat.blt d n.sz = true)
    (k : ∀ v w', R v w' → OW P n ops Q rest (upd E d v) w') : OW P n ops Q (⟨some d, .call { callee := .value (.func f), args := xs, argTypes := ats }, ty, ps, af, none⟩ :: rest) E w := by
  obtain ⟨fn, h1, h2, h3⟩ := hf
  exact OW_call (r_call h1 h2 h3 ha) hd rfl hc k
/-- A guarded operation: taken, passed over. -/
theorem OG {d0 : Tmp} {op : Op} {v : Value} {w' : World} {j : Nat} {want : Bool} {b : Bool} {oj : Oper} (hj : ops[j]? = some oj) (hdj : oj.dst = some d0) (hb : ev E (.tmp d0) = .bool b) (hne : (b == want) = true)
    (hr : Runs P E ⟨some d, op, ty, ps, af, some (j, want)⟩ w v w') (hd : Nat.blt d n.sz = true) (k : OW P n ops Q rest (upd E d v) w') : OW P n ops Q (⟨some d, op, ty, ps, af, some (j, want)⟩ :: rest) E w :=
  OW_take rfl hj hdj hb hne hr hd k
theorem OK {d0 : Tmp} {op : Op} {j : Nat} {want : Bool} {b : Bool} {oj : Oper} (hj : ops[j]? = some oj) (hdj : oj.dst = some d0) (hb : ev E (.tmp d0) = .bool b) (hne : (b == want) = false)
    (hd : Nat.blt d n.sz = true) (k : OW P n ops Q rest (upd E d undef) w) : OW P n ops Q (⟨some d, op, ty, ps, af, some (j, want)⟩ :: rest) E w :=
  OW_skip rfl hj hdj hb hne hd k
theorem CG {f : FuncId} {xs : Array Operand} {ats : Array TypeId} {d0 : Tmp} {j : Nat} {want : Bool} {b : Bool} {oj : Oper} (hj : ops[j]? = some oj) (hdj : oj.dst = some d0) (hb : ev E (.tmp d0) = .bool b) (hne : (b == want) = true)
    (args : List Value) {R : Value → World → Prop} (hf : CF P f) (ha : xs.toList.map (ev E) = args) (hc : CallsV P f args.toArray w R) (hd : Nat.blt d n.sz = true)
    (k : ∀ v w', R v w' → OW P n ops Q rest (upd E d v) w') : OW P n ops Q (⟨some d, .call { callee := .value (.func f), args := xs, argTypes := ats }, ty, ps, af, some (j, want)⟩ :: rest) E w := by
  obtain ⟨fn, h1, h2, h3⟩ := hf
  exact OW_callG rfl hj hdj hb hne (r_call h1 h2 h3 ha) hd hc k
theorem SG {Q : Env → Prop} {d0 : Tmp} {op : Op} {v : Value} {j : Nat} {want : Bool} {b : Bool} {oj : Oper} (hj : ops[j]? = some oj) (hdj : oj.dst = some d0) (hb : ev E (.tmp d0) = .bool b) (hne : (b == want) = true)
    (hr : Runs P E ⟨some d, op, ty, ps, af, some (j, want)⟩ w v w) (hd : Nat.blt d n.sz = true) (k : SW P n ops w Q rest (upd E d v)) : SW P n ops w Q (⟨some d, op, ty, ps, af, some (j, want)⟩ :: rest) E :=
  SW_take rfl hj hdj hb hne hr hd k
theorem SK {Q : Env → Prop} {d0 : Tmp} {op : Op} {j : Nat} {want : Bool} {b : Bool} {oj : Oper} (hj : ops[j]? = some oj) (hdj : oj.dst = some d0) (hb : ev E (.tmp d0) = .bool b) (hne : (b == want) = false)
    (hd : Nat.blt d n.sz = true) (k : SW P n ops w Q rest (upd E d undef)) : SW P n ops w Q (⟨some d, op, ty, ps, af, some (j, want)⟩ :: rest) E :=
  SW_skip rfl hj hdj hb hne hd k
theorem r_pickT {d : Option Tmp} {c x y : Operand} {b : Bool} {v : Value} (hc : ev E c = .bool b) (hb : b = true) (h : ev E x = v) : Runs P E ⟨d, .pick c x y, ty, ps, af, gd⟩ w v w := r_pick hc (by subst hb; exact h)
theorem r_pickF {d : Option Tmp} {c x y : Operand} {b : Bool} {v : Value} (hc : ev E c = .bool b) (hb : b = false) (h : ev E y = v) : Runs P E ⟨d, .pick c x y, ty, ps, af, gd⟩ w v w := r_pick hc (by subst hb; exact h)
end
/-- A value of a type of Go's. -/
def VRd {α : Type} (τ : Ty α) (agg : Bool) (g : Hp) (v : Value) (x : α) : Prop := ∃ cs, valOf agg cs = v ∧ τ.rel g cs x
def fuel : Nat := 18446744073709551616
def bindStep {σ ρ : Type} (o : Option (Step σ ρ)) (k : σ → Option ρ) : Option ρ := match o with
  | none => none
  | some (.next s) => k s
  | some (.stop r) => some r
def onStep {σ ρ : Type} (o : Step σ ρ) (k : σ → Option ρ) : Option ρ := match o with
  | .next s => k s
  | .stop r => some r
theorem stepS {σ ρ : Type} {o : Option (Step σ ρ)} {k : σ → Option ρ} {r : ρ} (h : bindStep o k = some r) : ∃ s, o = some s ∧ onStep s k = some r := by
  cases o with
  | none => cases h
  | some s => cases s <;> exact ⟨_, rfl, h⟩
section
variable {P : Program} {E : Env} {w : World} {d : Option Tmp} {ty : TypeId} {ps : String} {af : Array Edge} {gd : Option (Nat × Bool)}
theorem run_forIn_all (f : Nat → Option Bool × Unit → Sem (ForInStep (Option Bool × Unit))) (p : Nat → Bool) :
    ∀ (l : List Nat), (∀ i ∈ l, (f i (none, ())).run P w = .ok (if p i then .yield (none, ()) else .done (some false, ())) w) →
    (forIn l (none, ()) f).run P w = .ok (if l.all p then (none, ()) else (some false, ())) w
  | [], _ => by simp [Sem.run_pure]
  | i :: l, h => by
    rw [List.forIn_cons, Sem.run_bind, h i (by simp)]
    cases hp : p i
    · simp [Sem.run_pure, hp]
    · simp only [if_true, Result.andThen_ok, List.all_cons, hp, Bool.true_and]
      exact run_forIn_all f p l (fun j hj => h j (by simp [hj]))
theorem run_equalIn_int (D : Nat) {T : TypeId} {k : IntKind} (hT : P.underlying T = some (.int k)) (a b : Int) : (Op.equalIn (D + 1) T (.int k a) (.int k b)).run P w = .ok (a == b) w := by
  simp [Op.equalIn, run_underlying hT]
theorem run_equalIn_vec (D : Nat) {T el : TypeId} {n : Nat} {k : IntKind} {bytes : Nat} {z : Value} (hT : P.underlying T = some (.array n el)) (hE : P.underlying el = some (.int k)) (he : TyI P el false 1 bytes z) (a b : Vec n) :
    (Op.equalIn (D + 2) T (encV k a) (encV k b)).run P w = .ok (a == b) w := by
  have hcell : ∀ (c : Vec n) (i : Nat) (hi : i < n), (part el (c.1.map (Value.int k)).toArray (i * 1)).run P w = .ok (.int k (c.1[i]'(by rw [c.2]; exact hi))) w := by
    intro c i hi
    have hi' : i < c.1.length := by rw [c.2]; exact hi
    simp [part, run_isAgg he, hi']
  unfold encV
  rw [Op.equalIn]
  simp only [Sem.run_bind, run_underlying hT, Result.andThen_ok, run_sizeOf he]
  rw [Std.Legacy.Range.forIn_eq_forIn_range']
  rw [run_forIn_all (P := P) (w := w) _ (fun i => a.1[i]? == b.1[i]?)]
  · simp only [Result.andThen_ok]
    have : ((List.range' 0 n 1).all fun i => a.1[i]? == b.1[i]?) = (a == b) := by
      rw [Bool.eq_iff_iff]
      simp only [List.all_eq_true, beq_iff_eq]
      constructor
      · intro h
        apply Subtype.ext
        apply List.ext_getElem?
        intro i
        by_cases hi : i < n
        · exact h i (by simp [List.mem_range']; omega)
        · rw [List.getElem?_eq_none (by rw [a.2]; omega), List.getElem?_eq_none (by rw [b.2]; omega)]
      · rintro rfl i _; rfl
    simp only [Std.Legacy.Range.size, Nat.sub_zero, Nat.add_sub_cancel, Nat.div_one]
    rw [this]
    cases (a == b) <;> rfl
  · intro i hi
    have hi' : i < n := by simp [List.mem_range', Std.Legacy.Range.size] at hi; omega
    have ha : i < a.1.length := by rw [a.2]; exact hi'
    have hb : i < b.1.length := by rw [b.2]; exact hi'
    simp only [Sem.run_bind, hcell a i hi', hcell b i hi', Result.andThen_ok, run_equalIn_int D hE, List.getElem?_eq_getElem ha, List.getElem?_eq_getElem hb]
    cases h : (a.1[i] == b.1[i]) <;> simp_all
theorem r_eqlV {T T' el : TypeId} {x y : Operand} {n : Nat} {k : IntKind} {bytes : Nat} {z : Value} {a b : Vec n} (hT : P.underlying T = some (.array n el)) (hE : P.underlying el = some (.int k)) (he : TyI P el false 1 bytes z)
    (hx : ev E x = encV k a) (hy : ev E y = encV k b) (hq : P.eqGuardType P.depth T = false) : Runs P E ⟨d, .binOp .eql T x y T', ty, ps, af, gd⟩ w (.bool (a == b)) w :=
  run_binOp_of (by rw [hx, hy]; simp only [eqGuard, encV]; simp [program, Sem.run, hq]) (by
    rw [hx, hy]
    have := run_equalIn_vec (P := P) (w := w) 9998 hT hE he a b
    unfold encV at *
    simp only [binOp, Sem.run_bind, Op.equal, Op.maxDepth, this, Result.andThen_ok, Sem.run_pure])
theorem r_neqV {T T' el : TypeId} {x y : Operand} {n : Nat} {k : IntKind} {bytes : Nat} {z : Value} {a b : Vec n} (hT : P.underlying T = some (.array n el)) (hE : P.underlying el = some (.int k)) (he : TyI P el false 1 bytes z)
    (hx : ev E x = encV k a) (hy : ev E y = encV k b) (hq : P.eqGuardType P.depth T = false) : Runs P E ⟨d, .binOp .neq T x y T', ty, ps, af, gd⟩ w (.bool (a != b)) w :=
  run_binOp_of (by rw [hx, hy]; simp only [eqGuard, encV]; simp [program, Sem.run, hq]) (by
    rw [hx, hy]
    have := run_equalIn_vec (P := P) (w := w) 9998 hT hE he a b
    unfold encV at *
    simp only [binOp, Sem.run_bind, Op.equal, Op.maxDepth, this, Result.andThen_ok, Sem.run_pure, bne])
def complM (k : IntKind) (n : Int) : Int := bits .xor k (if k.signed then -1 else k.max) n
theorem r_compl {T : TypeId} {x : Operand} {k : IntKind} {a : Int} (hx : ev E x = .int k a) : Runs P E ⟨d, .unOp .xor T x, ty, ps, af, gd⟩ w (.int k (complM k a)) w := .inl (by simp [execOp, hx, Op.unary, intBits_xor, complM])
theorem r_neg {T : TypeId} {x : Operand} {k : IntKind} {a : Int} (hx : ev E x = .int k a) : Runs P E ⟨d, .unOp .neg T x, ty, ps, af, gd⟩ w (.int k (k.wrap (-a))) w := .inl (by simp [execOp, hx, Op.unary, Op.intArith])
end
theorem Runs.cast {P : Program} {E : Env} {o : Oper} {w w' : World} {v v' : Value} (h : Runs P E o w v w') (e : v = v') : Runs P E o w v' w' := e ▸ h
section
variable {P : Program} {n : Fr} {Q : EPost} {E : Env} {w : World} {ops : Array Oper} {rest : List Oper} {d : Tmp} {ty : TypeId} {ps : String} {af : Array Edge}
theorem yielded_undef {a : Act} (ha : Fits n E a) {j : Nat} {oj : Oper} {d : Tmp} (hj : ops[j]? = some oj) (hd : oj.dst = some d) (hb : E d = undef) : yielded ops a.tmps j = none := by
  have := ha.get d
  rw [hb, Array.getD_eq_getD_getElem?] at this
  unfold yielded
  simp only [hj, Option.bind_some, hd]
  cases hx : a.tmps[d]? with
  | none => rfl
  | some x => rw [hx] at this; simp at this; subst this; rfl
/-- The guard itself was passed over. -/
theorem OKU {d0 : Tmp} {op : Op} {j : Nat} {want : Bool} {oj : Oper} (hj : ops[j]? = some oj) (hdj : oj.dst = some d0) (hb : ev E (.tmp d0) = undef)
    (hd : Nat.blt d n.sz = true) (k : OW P n ops Q rest (upd E d undef) w) : OW P n ops Q (⟨some d, op, ty, ps, af, some (j, want)⟩ :: rest) E w := by
  intro a ha
  refine wpListIn_step fun K hK => ?_
  have hy := yielded_undef ha hj hdj hb
  rw [if_neg (by simp [Region.wanted, hy])]
  exact ⟨fun _ _ => trivial, hK _ _ (k _ (ha.put (d := some d) hd undef))⟩
theorem SKU {Q : Env → Prop} {d0 : Tmp} {op : Op} {j : Nat} {want : Bool} {oj : Oper} (hj : ops[j]? = some oj) (hdj : oj.dst = some d0) (hb : ev E (.tmp d0) = undef)
    (hd : Nat.blt d n.sz = true) (k : SW P n ops w Q rest (upd E d undef)) : SW P n ops w Q (⟨some d, op, ty, ps, af, some (j, want)⟩ :: rest) E := by
  intro a ha
  have hy := yielded_undef ha hj hdj hb
  unfold wpStill
  rw [if_neg (by simp [Region.wanted, hy])]
  exact k _ (ha.put (d := some d) hd undef)
end
end Go.Lx
