/- Lx, part 11: fields, struct values, function values, pointers to what nobody writes, blocks that are lent for the time of a call. -/
import Derived.Test.YtbfmbiapjgpfhaaGreatDoorLxMisc
import Derived.WalkSpells
namespace Go.Lx
open Go.RowKit

section
variable {P : Program} {n : Fr} {Q : EPost} {E : Env} {w : World} {ops : Array Oper} {rest : List Oper} {d : Option Tmp} {ty : TypeId} {ps : String} {af : Array Edge} {gd : Option (Nat × Bool)}
theorem r_fieldAddr {T ft : TypeId} {x : Operand} {f b o o' : Nat} {fs : Array Field} {fd : Field} {agg : Bool} {size bytes : Nat} {z : Value} (hT : P.underlying T = some (.struct fs)) (ht : TyI P ft agg size bytes z) (hf : fs[f]? = some fd) (he : fd.type = ft) (h0 : Nat.blt 0 size = true) (hx : ev E x = .pointer (some ⟨b, o, none⟩)) (ho : o' = o + fd.offset) :
    Runs P E ⟨d, .fieldAddr T x f, ty, ps, af, gd⟩ w (.pointer (some ⟨b, o', none⟩)) w := .inl (by
  subst he; subst ho
  have h0 : ¬ size = 0 := by have : 0 < size := Nat.le_of_ble_eq_true h0; omega
  simp [execOp, Instr.fieldAt, run_underlying hT, hf, hx, Instr.sureAddr, fieldPlace, run_sizeOf ht, h0, Addr.add])
theorem r_field {T ft : TypeId} {x : Operand} {f : Nat} {fs : Array Field} {fd : Field} {agg : Bool} {size bytes : Nat} {z : Value} {cs ds : List Value} {v : Value} (hT : P.underlying T = some (.struct fs)) (ht : TyI P ft agg size bytes z) (hf : fs[f]? = some fd) (he : fd.type = ft)
    (hx : ev E x = .agg cs.toArray) (pre post : List Value) (hp : cs = pre ++ (ds ++ post)) (hpl : pre.length = fd.offset) (hl : ds.length = size) (hv : valOf agg ds = v) (h1 : agg = true ∨ size = 1) :
    Runs P E ⟨d, .field T x f, ty, ps, af, gd⟩ w v w := .inl (by
  subst he; subst hp; subst hv; subst hl
  cases agg with
  | true =>
    simp [execOp, Instr.field, run_underlying hT, hf, hx, asAgg, part, run_isAgg ht, run_sizeOf ht, ← hpl, valOf]
  | false =>
    have h1 : ds.length = 1 := by simpa using h1
    match ds, h1 with
    | [c], _ => simp [execOp, Instr.field, run_underlying hT, hf, hx, asAgg, part, run_isAgg ht, ← hpl, valOf])

/-- One part of a struct value is filled in. -/
theorem fill_cells (off : Nat) : ∀ (cs : List Value) (q : Nat) (acc old : List Value), acc.length = off + q → cs.length ≤ old.length →
    (cs.zipIdx q).foldl (fun a (x : Value × Nat) => a.setIfInBounds (off + x.2) x.1) (acc ++ old).toArray = (acc ++ cs ++ old.drop cs.length).toArray := by
  intro cs
  induction cs with
  | nil => intro q acc old _ _; simp
  | cons c cs ihc =>
    intro q acc old ha hlo
    match old, hlo with
    | o :: old, hlo =>
      simp only [List.zipIdx_cons, List.foldl_cons]
      have e1 : (acc ++ o :: old).toArray.setIfInBounds (off + q) c = ((acc ++ [c]) ++ old).toArray := by
        rw [← ha]
        simp [List.setIfInBounds_toArray]
      rw [e1, ihc (q + 1) (acc ++ [c]) old (by simp [ha]; omega) (by simpa using hlo)]
      simp
theorem fill_step {place : Nat → Option (Nat × Nat)} {cells : List Value} {i off size : Nat} {v : Value} {rest : List (Nat × Value)} {r : Option (Array Value)} (pre old post cs : List Value) (hpl : place i = some (off, size)) (hc : cells = pre ++ (old ++ post)) (hv : v.cells.toList = cs) (h1 : pre.length = off) (h2 : old.length = size) (h3 : cs.length = size)
    (k : Instr.fill place (pre ++ (cs ++ post)).toArray rest = r) : Instr.fill place cells.toArray ((i, v) :: rest) = r := by
  subst hc; subst h1; subst h2
  subst hv
  have hvs : v.cells.size = old.length := by simpa using h3
  simp only [Instr.fill, hpl]
  rw [if_neg (by simp [hvs])]
  rw [← Array.foldl_toList, Array.toList_zipIdx, fill_cells pre.length v.cells.toList 0 pre (old ++ post) (by simp) (by simp [hvs]), ← k]
  congr 2
  rw [List.append_assoc, List.drop_append_of_le_length (by rw [h3]; exact Nat.le_refl _), h3, List.drop_length, List.nil_append]
theorem fill_done {place : Nat → Option (Nat × Nat)} {cells : Array Value} : Instr.fill place cells [] = some cells := rfl
theorem fill_last {place : Nat → Option (Nat × Nat)} {cells cs : List Value} (h : cells = cs) : Instr.fill place cells.toArray [] = some cs.toArray := by rw [h]; rfl
theorem built_fill {T : TypeId} (places : List (Nat × Nat)) (zs : List Value) {vs : List (Nat × Value)} {r : Option (Array Value)} (h : ∀ vs, P.built T vs = Instr.fill (places.toArray[·]?) zs.toArray vs) (k : Instr.fill (places.toArray[·]?) zs.toArray vs = r) : P.built T vs = r := (h vs).trans k
theorem one_nil : ∀ v ∈ ([] : List Value), v.oneCell' = true := by simp
theorem one_cons {a : Value} {l : List Value} (h : a.oneCell' = true) (t : ∀ v ∈ l, v.oneCell' = true) : ∀ v ∈ a :: l, v.oneCell' = true := List.forall_mem_cons.2 ⟨h, t⟩
theorem one_append {l m : List Value} (h : ∀ v ∈ l, v.oneCell' = true) (t : ∀ v ∈ m, v.oneCell' = true) : ∀ v ∈ l ++ m, v.oneCell' = true := List.forall_mem_append.2 ⟨h, t⟩
theorem one_of_shape {v : Value} {n : Nat} (h : ∃ a cap, v = .slice a n cap) : v.oneCell' = true := by obtain ⟨a, c, h⟩ := h; rw [h]; rfl
theorem cells_one {v : Value} (h : v.oneCell' = true) : v.cells.toList = [v] := by cases v <;> first | rfl | simp [Value.oneCell'] at h
theorem r_build {T : TypeId} {parts : Array (Nat × Operand)} {vs : List (Nat × Value)} {cs : List Value} (hp : parts.toList.map (fun p => (p.1, ev E p.2)) = vs) (hb : P.built T vs = some cs.toArray) :
    Runs P E ⟨d, .build T parts, ty, ps, af, gd⟩ w (.agg cs.toArray) w := .inl (by
  have hpa : (parts.map fun (x : Nat × Operand) => (x.1, ev E x.2)) = vs.toArray := by apply Array.ext'; rw [Array.toList_map, ← hp]
  have hpa' : (parts.map fun ((i, x) : Nat × Operand) => (i, ev E x)) = vs.toArray := hpa
  have := run_build (P := P) w T vs.toArray cs.toArray (by simpa using hb)
  simp only [execOp, Sem.run_bind, hpa', this, Result.andThen_ok, Sem.run_pure])
/-- A field of an element. -/
theorem elemField {b o off : Nat} {cs : List Value} (hc : ∀ j u, cs[j]? = some u → w.cell? ⟨b, o + j, none⟩ = some u) (pre ds post : List Value) (he : cs = pre ++ (ds ++ post)) (hl : pre.length = off) :
    ∀ j u, ds[j]? = some u → w.cell? ⟨b, o + off + j, none⟩ = some u := by
  intro j u hj
  subst he; subst hl
  rw [Nat.add_assoc]
  refine hc _ u ?_
  have hjl : j < ds.length := (List.getElem?_eq_some_iff.1 hj).1
  rw [List.getElem?_append_right (by omega), Nat.add_sub_cancel_left, List.getElem?_append_left hjl]
  exact hj
end

/-! ### boxes that nobody writes -/
def IBox (T : TypeId) (b : Nat) (cs : List Value) (g : Hp) : Prop := g b = some (.cells cs.toArray T (0, 0))
theorem IBox.mono {T : TypeId} {b : Nat} {cs : List Value} {g g' : Hp} (h : IBox T b cs g) (hg : Hle g g') : IBox T b cs g' := hg _ _ h
theorem IBox.cells {T : TypeId} {b : Nat} {cs : List Value} {g : Hp} {w : World} (h : IBox T b cs g) (hi : Imm g w) : ∀ j u, cs[j]? = some u → w.cell? ⟨b, 0 + j, none⟩ = some u := fun j u hj => by
  have := hi b _ h
  simp [World.cell?, this, hj]
section
variable {g0 g : Hp} {w0 w : World} {L : List Res}
theorem Sep.relBox (h : Sep g0 w0 g w L) {i b : Nat} {T : TypeId} {cs : List Value} (hi : L[i]? = some (box b T cs)) : ∃ g', Hle g g' ∧ IBox T b cs g' ∧ Sep g0 w0 g' w (L.eraseIdx i) := by
  have ho := (h.at hi).out
  obtain ⟨hs, hle⟩ := h.release hi (b := b) rfl ho
  exact ⟨_, hle, by simp [IBox, gadd], hs⟩
/-- Blocks of the call's own were shown to another call, which answers plain data. -/
theorem Sep.lent (h : Sep g0 w0 g w L) {g1 g1' : Hp} {w' : World} (he : Ext g1 w g1' w') : ∃ g', Hle g g' ∧ Sep g0 w0 g' w' L := by
  have hx : Ext g w (fun k => if k < w.heap.size then g k else g1' k) w' := by
    refine ⟨he.below, fun b hb => if_pos hb, fun b o hb => ?_⟩
    split at hb
    · rename_i hlt
      have := h.imm b o hb
      rw [he.below.block b hlt]; exact this
    · exact he.imm b o hb
  exact ⟨_, hx.le h.imm, h.call hx⟩
end

/-- A call answers with blocks that are its caller's own from then on. -/
theorem Sep.callOwn {g0 g : Hp} {w0 w : World} {L L' : List Res} (h : Sep g0 w0 g w L) {g' : Hp} {w' : World} (he : Sep g w g' w' L') : Sep g0 w0 g' w' (L' ++ L) := by
  have hc := h.call he.ext
  refine ⟨hc.ext, fun r hr => ?_, fun r hr b hb => ?_, ?_⟩
  · rcases List.mem_append.1 hr with hr | hr
    · exact he.ok r hr
    · exact hc.ok r hr
  · rcases List.mem_append.1 hr with hr | hr
    · have := he.fresh r hr b hb
      have hs := h.ext.below.size
      exact ⟨by omega, this.2⟩
    · exact hc.fresh r hr b hb
  · refine List.pairwise_append.2 ⟨he.apart, h.apart, fun r hr s hs b hb hb' => ?_⟩
    have h1 := he.fresh r hr b hb
    have h2 := Res.lt (h.ok s hs) hb'
    omega

/-- Some of the blocks, in any order. -/
theorem Sep.sel {g0 g : Hp} {w0 w : World} {L L' : List Res} (h : Sep g0 w0 g w L) (is : List Nat) (hn : is.Nodup) (hl : L'.map some = is.map (L[·]?)) : Sep g0 w0 g w L' := by
  have hm : ∀ r ∈ L', r ∈ L := by
    intro r hr
    have : some r ∈ L'.map some := List.mem_map_of_mem hr
    rw [hl] at this
    obtain ⟨i, _, hi⟩ := List.mem_map.1 this
    exact List.mem_of_getElem? hi
  refine ⟨h.ext, fun r hr => h.ok r (hm r hr), fun r hr => h.fresh r (hm r hr), ?_⟩
  have hlen : L'.length = is.length := by have := congrArg List.length hl; simpa using this
  have hat : ∀ (i : Nat) (hi : i < L'.length), L[is[i]'(by omega)]? = some L'[i] := by
    intro i hi
    have := congrArg (fun l => l[i]?) hl
    have h2 : i < is.length := by omega
    simp [hi, h2] at this
    exact this.symm
  rw [List.pairwise_iff_getElem]
  intro i j hi hj hij b hb hb'
  have e1 := hat i hi
  have e2 := hat j hj
  obtain ⟨l1, e1⟩ := List.getElem?_eq_some_iff.1 e1
  obtain ⟨l2, e2⟩ := List.getElem?_eq_some_iff.1 e2
  have hne : is[i]'(by omega) ≠ is[j]'(by omega) := fun e => by
    exact List.pairwise_iff_getElem.1 hn i j (by omega) (by omega) hij e
  have hp := List.pairwise_iff_getElem.1 h.apart
  rcases Nat.lt_or_gt_of_ne hne with hlt | hlt
  · exact hp _ _ l1 l2 hlt b (by rw [e1]; exact hb) (by rw [e2]; exact hb')
  · exact hp _ _ l2 l1 hlt b (by rw [e2]; exact hb') (by rw [e1]; exact hb)

/-! ### function values -/
section
variable {P : Program} {n : Fr} {Q : EPost} {E : Env} {w : World} {ops : Array Oper} {rest : List Oper} {d : Tmp} {ty : TypeId} {ps : String} {af : Array Edge} {gd : Option (Nat × Bool)}
theorem r_makeFunc {d : Option Tmp} {f : FuncId} {cap : Array Operand} {vs : List Value} (hc : cap.toList.map (ev E) = vs) : Runs P E ⟨d, .makeFunc (.func f) #[] cap, ty, ps, af, gd⟩ w (.func (.func f) #[] vs.toArray) w := .inl (by
  have : cap.map (ev E) = vs.toArray := by apply Array.ext'; rw [Array.toList_map, hc]
  simp [execOp, Instr.makeFunc, this])
theorem run_callV {d : Option Tmp} {f : FuncId} {x : Operand} {xs : Array Operand} {ats : Array TypeId} {args cap : List Value} (hf : CF P f) (hx : ev E x = .func (.func f) #[] cap.toArray) (ha : xs.toList.map (ev E) = args) :
    (execOp (ev E) ⟨d, .call { callee := .value x, args := xs, argTypes := ats }, ty, ps, af, gd⟩).run P w = .ok (.enter f (args ++ cap).toArray) w := by
  obtain ⟨fn, h1, h2, h3⟩ := hf
  have ha : xs.map (ev E) = args.toArray := by apply Array.ext'; rw [Array.toList_map, ha]
  have hn' : ¬ fn.name = "runtime.NumGoroutine" := by simpa using h3
  have hb2 : ¬ fn.body = none := by intro h; rw [h] at h2; cases h2
  simp [execOp, resolve, Deferred.ofValue, invoke, callFunc, hx, ha, h1, hb2, hn']
theorem CV {f : FuncId} {x : Operand} {xs : Array Operand} {ats : Array TypeId} (args cap : List Value) {R : Value → World → Prop} (hf : CF P f) (hx : ev E x = .func (.func f) #[] cap.toArray) (ha : xs.toList.map (ev E) = args) (hc : CallsV P f (args ++ cap).toArray w R) (hd : Nat.blt d n.sz = true)
    (k : ∀ v w', R v w' → OW P n ops Q rest (upd E d v) w') : OW P n ops Q (⟨some d, .call { callee := .value x, args := xs, argTypes := ats }, ty, ps, af, none⟩ :: rest) E w :=
  OW_call (run_callV hf hx ha) hd rfl hc k
theorem CVG {f : FuncId} {x : Operand} {xs : Array Operand} {ats : Array TypeId} {d0 : Tmp} {j : Nat} {want : Bool} {b : Bool} {oj : Oper} (hj : ops[j]? = some oj) (hdj : oj.dst = some d0) (hb : ev E (.tmp d0) = .bool b) (hne : (b == want) = true)
    (args cap : List Value) {R : Value → World → Prop} (hf : CF P f) (hx : ev E x = .func (.func f) #[] cap.toArray) (ha : xs.toList.map (ev E) = args) (hc : CallsV P f (args ++ cap).toArray w R) (hd : Nat.blt d n.sz = true)
    (k : ∀ v w', R v w' → OW P n ops Q rest (upd E d v) w') : OW P n ops Q (⟨some d, .call { callee := .value x, args := xs, argTypes := ats }, ty, ps, af, some (j, want)⟩ :: rest) E w :=
  OW_callG rfl hj hdj hb hne (run_callV hf hx ha) hd hc k
end
/-- A function value that answers as F says, and turns nothing that is there. -/
def FnRd1 {α β : Type} (P : Program) (A : Hp → Value → α → Prop) (B : Hp → Value → β → Prop) (v : Value) (F : α → Option β) (g : Hp) : Prop :=
  ∃ f cap, v = .func (.func f) #[] (List.toArray cap) ∧ CF P f ∧ ∀ g' w' a x r, Hle g g' → Imm g' w' → A g' a x → F x = some r →
    CallsV P f ([a] ++ cap).toArray w' (fun v w'' => ∃ g'', B g'' v r ∧ Ext g' w' g'' w'')
theorem FnRd1.mono {α β : Type} {P : Program} {A : Hp → Value → α → Prop} {B : Hp → Value → β → Prop} {v : Value} {F : α → Option β} {g g' : Hp} (h : FnRd1 P A B v F g) (hg : Hle g g') : FnRd1 P A B v F g' := by
  obtain ⟨f, cap, h1, h2, h3⟩ := h
  exact ⟨f, cap, h1, h2, fun g2 w' a x r hle => h3 g2 w' a x r (hg.trans hle)⟩
def FnRd2 {α β γ : Type} (P : Program) (A : Hp → Value → α → Prop) (A2 : Hp → Value → β → Prop) (B : Hp → Value → γ → Prop) (v : Value) (F : α → β → Option γ) (g : Hp) : Prop :=
  ∃ f cap, v = .func (.func f) #[] (List.toArray cap) ∧ CF P f ∧ ∀ g' w' a x a2 x2 r, Hle g g' → Imm g' w' → A g' a x → A2 g' a2 x2 → F x x2 = some r →
    CallsV P f ([a, a2] ++ cap).toArray w' (fun v w'' => ∃ g'', B g'' v r ∧ Ext g' w' g'' w'')
theorem FnRd2.mono {α β γ : Type} {P : Program} {A : Hp → Value → α → Prop} {A2 : Hp → Value → β → Prop} {B : Hp → Value → γ → Prop} {v : Value} {F : α → β → Option γ} {g g' : Hp} (h : FnRd2 P A A2 B v F g) (hg : Hle g g') : FnRd2 P A A2 B v F g' := by
  obtain ⟨f, cap, h1, h2, h3⟩ := h
  exact ⟨f, cap, h1, h2, fun g2 w' a x a2 x2 r hle => h3 g2 w' a x a2 x2 r (hg.trans hle)⟩

/-- The same, without arguments. -/
def FnRd0 {β : Type} (P : Program) (B : Hp → Value → β → Prop) (v : Value) (F : Option β) (g : Hp) : Prop :=
  ∃ f cap, v = .func (.func f) #[] (List.toArray cap) ∧ CF P f ∧ ∀ g' w' r, Hle g g' → Imm g' w' → F = some r →
    CallsV P f (([] : List Value) ++ cap).toArray w' (fun v w'' => ∃ g'', B g'' v r ∧ Ext g' w' g'' w'')
theorem FnRd0.mono {β : Type} {P : Program} {B : Hp → Value → β → Prop} {v : Value} {F : Option β} {g g' : Hp} (h : FnRd0 P B v F g) (hg : Hle g g') : FnRd0 P B v F g' := by
  obtain ⟨f, cap, h1, h2, h3⟩ := h
  exact ⟨f, cap, h1, h2, fun g2 w' r hle => h3 g2 w' r (hg.trans hle)⟩
theorem FnRd0.one {β : Type} {P : Program} {B : Hp → Value → β → Prop} {v : Value} {F : Option β} {g : Hp} (h : FnRd0 P B v F g) : v.oneCell' = true := by
  obtain ⟨f, cap, rfl, _⟩ := h; rfl
/-- A function value as plain data. -/
def tFn0 {β : Type} (P : Program) (B : Hp → Value → β → Prop) : Ty (Option β) :=
  ⟨1, fun g cs F => ∃ v, cs = [v] ∧ FnRd0 P B v F g, fun hg ⟨v, h1, h2⟩ => ⟨v, h1, h2.mono hg⟩, fun ⟨v, h, _⟩ => by rw [h]; rfl, fun ⟨v, h, hf⟩ u hu => by rw [h] at hu; simp at hu; subst hu; exact hf.one⟩

/-! ### comparisons with nil -/
section
variable {P : Program} {E : Env} {w : World} {d : Option Tmp} {ty : TypeId} {ps : String} {af : Array Edge} {gd : Option (Nat × Bool)}
theorem r_eqlNil {T T' e : TypeId} {x y : Operand} {a : Option Addr} {n c n' c' : Nat} {v : Value} (hT : P.underlying T = some (.slice e)) (hx : ev E x = v) (hv : v = .slice a n c) (hy : ev E y = .slice none n' c') :
    Runs P E ⟨d, .binOp .eql T x y T', ty, ps, af, gd⟩ w (.bool a.isNone) w := run_binOp_of (by rw [hx, hv, hy]; rfl) (by
  rw [hx, hv, hy]
  simp only [binOp]
  simp [Op.equal, Op.maxDepth, Lib.run_equalIn_slice_nil w 9999 T e a n c n' c' hT])
theorem r_neqNil {T T' e : TypeId} {x y : Operand} {a : Option Addr} {n c n' c' : Nat} {v : Value} (hT : P.underlying T = some (.slice e)) (hx : ev E x = v) (hv : v = .slice a n c) (hy : ev E y = .slice none n' c') :
    Runs P E ⟨d, .binOp .neq T x y T', ty, ps, af, gd⟩ w (.bool (!a.isNone)) w := run_binOp_of (by rw [hx, hv, hy]; rfl) (by
  rw [hx, hv, hy]; exact run_neq_slice_nil_any w T e a n c n' c' hT)
theorem RdS.none_nil {α : Type} {τ : Ty α} {g : Hp} {v : Value} {l : List α} (h : RdS τ g v l) {n c : Nat} (hv : v = .slice none n c) : l = [] := by
  obtain ⟨xs, hr, hs⟩ := h
  rcases hs with ⟨hn, _⟩ | ⟨b, off, cap, arr, e, fz, h1, _⟩
  · exact List.eq_nil_of_length_eq_zero hn
  · rw [h1] at hv; cases hv
theorem truth_cases (b : Bool) : b = true ∨ b = false := by cases b <;> simp
end

/-! ### strings in order -/
def ltS : Str → Str → Bool
  | _, [] => false
  | [], _ :: _ => true
  | a :: x, b :: y => decide (a < b) || (a == b && ltS x y)
theorem ltS_eq : ∀ a b : Str, Op.bytesLess a b = ltS a b
  | _, [] => by cases ‹List UInt8› <;> rfl
  | [], _ :: _ => rfl
  | a :: x, b :: y => by simp only [Op.bytesLess, ltS, ltS_eq x y]
section
variable {P : Program} {E : Env} {w : World} {d : Option Tmp} {ty : TypeId} {ps : String} {af : Array Edge} {gd : Option (Nat × Bool)} {T T' : TypeId} {x y : Operand} {a b : Str}
theorem r_lssS (hx : ev E x = encS a) (hy : ev E y = encS b) : Runs P E ⟨d, .binOp .lss T x y T', ty, ps, af, gd⟩ w (.bool (ltS a b)) w :=
  run_binOp_of (by rw [hx, hy]; rfl) (by rw [hx, hy]; simp [binOp, Op.stringOp, encS, ltS_eq])
theorem r_leqS (hx : ev E x = encS a) (hy : ev E y = encS b) : Runs P E ⟨d, .binOp .leq T x y T', ty, ps, af, gd⟩ w (.bool (ltS a b || a == b)) w :=
  run_binOp_of (by rw [hx, hy]; rfl) (by rw [hx, hy]; simp [binOp, Op.stringOp, encS, ltS_eq])
theorem r_gtrS (hx : ev E x = encS a) (hy : ev E y = encS b) : Runs P E ⟨d, .binOp .gtr T x y T', ty, ps, af, gd⟩ w (.bool (!(ltS a b || a == b))) w :=
  run_binOp_of (by rw [hx, hy]; rfl) (by rw [hx, hy]; simp [binOp, Op.stringOp, encS, ltS_eq])
theorem r_geqS (hx : ev E x = encS a) (hy : ev E y = encS b) : Runs P E ⟨d, .binOp .geq T x y T', ty, ps, af, gd⟩ w (.bool (!(ltS a b))) w :=
  run_binOp_of (by rw [hx, hy]; rfl) (by rw [hx, hy]; simp [binOp, Op.stringOp, encS, ltS_eq])
end

/-! ### pairs of numbers as keys -/
theorem part_one {P : Program} {w : World} {T : TypeId} {size bytes : Nat} {z : Value} (ht : TyI P T false size bytes z) {cs : Array Value} {o : Nat} {v : Value} (hv : cs[o]? = some v) : (part T cs o).run P w = .ok v w := by
  simp [part, run_isAgg ht, hv]
theorem keyLaw_pair {P : Program} {T : TypeId} {f0 f1 : Field} {k : IntKind} {bytes : Nat} {z : Value} {K : Type} [BEq K] [LawfulBEq K] {ek : K → Value} (pa pb : K → Int) (hT : P.underlying T = some (.struct #[f0, f1])) (h0 : P.underlying f0.type = some (.int k)) (h1 : P.underlying f1.type = some (.int k))
    (t0 : TyI P f0.type false 1 bytes z) (t1 : TyI P f1.type false 1 bytes z) (o0 : f0.offset = 0) (o1 : f1.offset = 1) (hn0 : f0.name ≠ "_") (hn1 : f1.name ≠ "_") (hst : P.stoodInHeld T = false)
    (he : ∀ x, ek x = .agg #[.int k (pa x), .int k (pb x)]) (hb : ∀ x y, (x == y) = (pa x == pa y && pb x == pb y)) : KeyLaw P T ek where
  check b x w := by
    rw [he]
    have c0 : ∀ n (a : Int) w, (Instr.checkKey b (n + 1) f0.type (.int k a)).run P w = .ok () w := fun n a w => MapKept.run_checkKey h0 (k := .int k a) rfl b n
    have c1 : ∀ n (a : Int) w, (Instr.checkKey b (n + 1) f1.type (.int k a)).run P w = .ok () w := fun n a w => MapKept.run_checkKey h1 (k := .int k a) rfl b n
    have p0 : ∀ w, (part f0.type #[.int k (pa x), .int k (pb x)] 0).run P w = .ok (.int k (pa x)) w := fun w => part_one t0 rfl
    have p1 : ∀ w, (part f1.type #[.int k (pa x), .int k (pb x)] 1).run P w = .ok (.int k (pb x)) w := fun w => part_one t1 rfl
    have key : ∀ n, (Instr.checkKey b (n + 1 + 1) T (.agg #[.int k (pa x), .int k (pb x)])).run P w = .ok () w := fun n => by
      rw [Instr.checkKey]
      simp only [Sem.run_bind, run_underlying hT, Result.andThen_ok]
      simp [o0, o1, hn0, hn1, p0, p1, c0 n, c1 n]
    exact key 9998
  find x es ks w h := by
    have hq : ∀ y w, (Op.equal T (ek x) (ek y)).run P w = .ok (x == y) w := fun y w => by
      have p0 : ∀ x w, (part f0.type #[.int k (pa x), .int k (pb x)] 0).run P w = .ok (.int k (pa x)) w := fun x w => part_one t0 rfl
      have p1 : ∀ x w, (part f1.type #[.int k (pa x), .int k (pb x)] 1).run P w = .ok (.int k (pb x)) w := fun x w => part_one t1 rfl
      have hp : ∀ w, (program).run P w = .ok P w := fun w => rfl
      rw [he, he, hb]
      have key : ∀ n, (Op.equalIn (n + 1 + 1) T (.agg #[.int k (pa x), .int k (pb x)]) (.agg #[.int k (pa y), .int k (pb y)])).run P w = .ok (pa x == pa y && pb x == pb y) w := fun n => by
        rw [Op.equalIn]
        simp only [Sem.run_bind, run_underlying hT, Result.andThen_ok, hp, hst]
        have e0 := fun a b w => run_equalIn_int (P := P) (w := w) n h0 a b
        have e1 := fun a b w => run_equalIn_int (P := P) (w := w) n h1 a b
        cases hA : pa x == pa y <;> cases hB : pb x == pb y <;> simp [o0, o1, hn0, hn1, p0, p1, e0, e1, hA, hB] <;> simp_all
      exact key 9998
    have hnow : Instr.findNow (.struct #[f0, f1]) (ek x) es 0 = none ∨ es = [] := by
      match es, ks, h with
      | [], _, _ => exact .inr rfl
      | e :: es, [], h => simp at h
      | e :: es, y :: ks, h =>
        simp only [List.map_cons, List.cons.injEq] at h
        refine .inl ?_
        rw [he]
        simp [Instr.findNow, Instr.sameNow]
    have hask : ∀ (es : List MapEntry) (ks : List K) (i : Nat), es.map (·.key) = ks.map ek → (Instr.findAsking T (ek x) es i).run P w = .ok ((ks.findIdx? (· == x)).bind fun j => (es[j]?).map fun e => (i + j, e.val)) w := by
      intro es
      induction es with
      | nil => intro ks i h; cases ks with
        | nil => rfl
        | cons _ _ => simp at h
      | cons e es ih =>
        intro ks i h
        match ks, h with
        | y :: ks, h =>
          simp only [List.map_cons, List.cons.injEq] at h
          rw [Instr.findAsking, h.1]
          simp only [Sem.run_bind, hq, Result.andThen_ok]
          rw [List.findIdx?_cons, BEq.comm (a := y)]
          cases hx : x == y
          · have := ih ks (i + 1) h.2
            simp only [Bool.false_eq_true, if_false, this]
            cases hj : ks.findIdx? (· == x) with
            | none => simp
            | some j => simp [Nat.add_assoc, Nat.add_comm 1 j]
          · simp
    have hf := hask es ks 0 h
    simp only [Nat.zero_add] at hf
    simp only [Instr.findKey, Sem.run_bind, run_underlying hT, Result.andThen_ok]
    rcases hnow with hnow | rfl
    · rw [hnow]; exact hf
    · cases ks with
      | nil => rfl
      | cons _ _ => simp at h
  stays x := by
    rw [he]
    simp [Instr.sameBits]
  lawful := inferInstance
  inj x y h := by
    rw [he, he] at h
    have h2 := (Array.mk.inj (Value.agg.inj h))
    simp only [List.cons.injEq, Value.int.injEq, true_and, and_true] at h2
    exact eq_of_beq (by rw [hb, h2.1, h2.2]; simp)
end Go.Lx
