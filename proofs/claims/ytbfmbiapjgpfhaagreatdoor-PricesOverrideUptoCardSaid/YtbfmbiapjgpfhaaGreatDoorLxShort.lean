/- Lx: shorter spellings of what the walks say most. No program in sight. -/
import Derived.Test.YtbfmbiapjgpfhaaGreatDoorLxOrd
import Derived.Test.YtbfmbiapjgpfhaaGreatDoorLxFn
import Derived.Test.YtbfmbiapjgpfhaaGreatDoorLxFrame
import Derived.Test.YtbfmbiapjgpfhaaGreatDoorLxSlice
namespace Go.Lx
open Go.RowKit

abbrev I6 (n : Int) : Value := Value.int .i64 n
abbrev U8 (n : Int) : Value := Value.int .u8 n
abbrev U6 (n : Int) : Value := Value.int .u64 n
abbrev Bo (b : Bool) : Value := Value.bool b
abbrev Z0 : Value := Value.slice none 0 0
abbrev P0 (b : Nat) : Value := Value.pointer (some ⟨b, 0, none⟩)
abbrev Ag (l : List Value) : Value := Value.agg l.toArray
abbrev bx (b : Nat) (T : TypeId) (cs : List Value) : Res := .obj b (.cells cs.toArray T (0, 0))
abbrev Sp (g0 : Hp) (w0 : World) (g : Hp) (w : World) (L : List Res) : Prop := Sep g0 w0 g w L
theorem si {α : Type} {a b : α} (h : some a = some b) : a = b := Option.some.inj h
theorem pq2 {t0 t1 : Type} {a a' : t0} {b b' : t1} (h : (a, b) = (a', b')) : a = a' ∧ b = b' := by simpa only [Prod.mk.injEq] using h
theorem pi2 {t0 t1 : Type} {a a' : t0} {b b' : t1} (h : some (a, b) = some (a', b')) : a = a' ∧ b = b' := pq2 (Option.some.inj h)
theorem pq3 {t0 t1 t2 : Type} {a a' : t0} {b b' : t1} {c c' : t2} (h : (a, b, c) = (a', b', c')) : a = a' ∧ b = b' ∧ c = c' := by simpa only [Prod.mk.injEq] using h
theorem pi3 {t0 t1 t2 : Type} {a a' : t0} {b b' : t1} {c c' : t2} (h : some (a, b, c) = some (a', b', c')) : a = a' ∧ b = b' ∧ c = c' := pq3 (Option.some.inj h)
theorem pq4 {t0 t1 t2 t3 : Type} {a a' : t0} {b b' : t1} {c c' : t2} {d d' : t3} (h : (a, b, c, d) = (a', b', c', d')) : a = a' ∧ b = b' ∧ c = c' ∧ d = d' := by simpa only [Prod.mk.injEq] using h
theorem pi4 {t0 t1 t2 t3 : Type} {a a' : t0} {b b' : t1} {c c' : t2} {d d' : t3} (h : some (a, b, c, d) = some (a', b', c', d')) : a = a' ∧ b = b' ∧ c = c' ∧ d = d' := pq4 (Option.some.inj h)
theorem pq5 {t0 t1 t2 t3 t4 : Type} {a a' : t0} {b b' : t1} {c c' : t2} {d d' : t3} {e e' : t4} (h : (a, b, c, d, e) = (a', b', c', d', e')) : a = a' ∧ b = b' ∧ c = c' ∧ d = d' ∧ e = e' := by simpa only [Prod.mk.injEq] using h
theorem pi5 {t0 t1 t2 t3 t4 : Type} {a a' : t0} {b b' : t1} {c c' : t2} {d d' : t3} {e e' : t4} (h : some (a, b, c, d, e) = some (a', b', c', d', e')) : a = a' ∧ b = b' ∧ c = c' ∧ d = d' ∧ e = e' := pq5 (Option.some.inj h)
theorem pq6 {t0 t1 t2 t3 t4 t5 : Type} {a a' : t0} {b b' : t1} {c c' : t2} {d d' : t3} {e e' : t4} {f f' : t5} (h : (a, b, c, d, e, f) = (a', b', c', d', e', f')) : a = a' ∧ b = b' ∧ c = c' ∧ d = d' ∧ e = e' ∧ f = f' := by simpa only [Prod.mk.injEq] using h
theorem pi6 {t0 t1 t2 t3 t4 t5 : Type} {a a' : t0} {b b' : t1} {c c' : t2} {d d' : t3} {e e' : t4} {f f' : t5} (h : some (a, b, c, d, e, f) = some (a', b', c', d', e', f')) : a = a' ∧ b = b' ∧ c = c' ∧ d = d' ∧ e = e' ∧ f = f' := pq6 (Option.some.inj h)
theorem pq7 {t0 t1 t2 t3 t4 t5 t6 : Type} {a a' : t0} {b b' : t1} {c c' : t2} {d d' : t3} {e e' : t4} {f f' : t5} {g g' : t6} (h : (a, b, c, d, e, f, g) = (a', b', c', d', e', f', g')) : a = a' ∧ b = b' ∧ c = c' ∧ d = d' ∧ e = e' ∧ f = f' ∧ g = g' := by simpa only [Prod.mk.injEq] using h
theorem pi7 {t0 t1 t2 t3 t4 t5 t6 : Type} {a a' : t0} {b b' : t1} {c c' : t2} {d d' : t3} {e e' : t4} {f f' : t5} {g g' : t6} (h : some (a, b, c, d, e, f, g) = some (a', b', c', d', e', f', g')) : a = a' ∧ b = b' ∧ c = c' ∧ d = d' ∧ e = e' ∧ f = f' ∧ g = g' := pq7 (Option.some.inj h)
theorem onNext {σ ρ : Type} {s : σ} {k : σ → Option ρ} {r : ρ} (h : onStep (.next s) k = some r) : k s = some r := h
theorem nods : ([] : List Deferred) = [] := rfl
def ndB : List Nat → Bool
  | [] => true
  | i :: l => !(l.elem i) && ndB l
theorem ndB_nodup : ∀ {l : List Nat}, ndB l = true → l.Nodup
  | [], _ => List.nodup_nil
  | i :: l, h => by
    simp only [ndB, Bool.and_eq_true, Bool.not_eq_true'] at h
    refine List.nodup_cons.2 ⟨fun hm => ?_, ndB_nodup h.2⟩
    have := List.elem_eq_true_of_mem hm
    rw [h.1] at this; cases this
def selO (A : List Res) : List Nat → Option (List Res)
  | [] => some []
  | i :: l => match A[i]?, selO A l with
    | some r, some m => some (r :: m)
    | _, _ => none
theorem selO_map {A : List Res} : ∀ {is : List Nat} {L : List Res}, selO A is = some L → L.map some = is.map (A[·]?)
  | [], L, h => by cases h; rfl
  | i :: is, L, h => by
    unfold selO at h
    split at h
    · rename_i r m h1 h2
      cases h
      rw [List.map_cons, List.map_cons, h1, selO_map h2]
    · cases h
def selX (n : Nat) (is : List Nat) (L : List Res) : Option (List Res) := bif ndB is then (match selO (L.take n) is with | some A => some (A ++ L.drop n) | none => none) else none
theorem Sep.sU {g0 g : Hp} {w0 w : World} {L L' : List Res} (h : Sep g0 w0 g w L) (n : Nat) (is : List Nat) (hl : selX n is L = some L') : Sep g0 w0 g w L' := by
  unfold selX at hl
  cases hn : ndB is with
  | false => rw [hn] at hl; cases hl
  | true =>
    rw [hn, cond_true] at hl
    split at hl
    · rename_i A h1
      cases hl
      have h2 : Sep g0 w0 g w (L.take n ++ L.drop n) := by rw [List.take_append_drop]; exact h
      exact h2.selT is (ndB_nodup hn) (selO_map h1)
    · cases hl

section
variable {P : Program} {n : Fr} {Q : EPost} {E : Env} {w : World} {ops : Array Oper} {rest : List Oper} {op : Op} {ty : TypeId} {ps : String} {af : Array Edge} {g0 g : Hp} {w0 : World} {L : List Res}
theorem SR {id : Nat} {l : List Oper} {y : Code} (h : OW P n l.toArray (EThen (WP P n y Q) Q) l E w) : WP P n (.seq (.region id l.toArray false) y) Q E w := WP_seq (WP_region h)
theorem NR {id : Nat} {l : List Oper} {y : Code} {Q' : EPost} (h : OW P n l.toArray (EThen (WP P n y Q) Q) l E w) : OW P n ops (EThen (WP P n (.seq (.region id l.toArray false) y) Q) Q') [] E w := OW_nil (SR h)
theorem Om {d : Tmp} {x : Operand} (v : Value) (h : (ev E x, Nat.blt d n.sz) = (v, true)) (k : OW P n ops Q rest (upd E d v) w) : OW P n ops Q (⟨some d, .move x, ty, ps, af, none⟩ :: rest) E w := O (r_move (congrArg Prod.fst h)) (congrArg Prod.snd h) k
theorem Oa {d : Tmp} {x : Operand} (v : Value) (h : (ev E x, Nat.blt d n.sz) = (v, true)) (k : OW P n ops Q rest (upd E d v) w) : OW P n ops Q (⟨some d, .assign x, ty, ps, af, none⟩ :: rest) E w := O (r_assign (congrArg Prod.fst h)) (congrArg Prod.snd h) k
theorem Of {d : Tmp} {T ft : TypeId} {x : Operand} {f b o o' : Nat} {fs : Array Field} {fd : Field} {agg : Bool} {size bytes : Nat} {z : Value} (hT : P.underlying T = some (.struct fs)) (ht : TyI P ft agg size bytes z) (h : (fs[f]?, fd.type, Nat.blt 0 size, ev E x, o', Nat.blt d n.sz) = (some fd, ft, true, Value.pointer (some ⟨b, o, none⟩), o + fd.offset, true))
    (k : OW P n ops Q rest (upd E d (.pointer (some ⟨b, o', none⟩))) w) : OW P n ops Q (⟨some d, .fieldAddr T x f, ty, ps, af, none⟩ :: rest) E w := by
  obtain ⟨hf, he, h0, hx, ho, hd⟩ : fs[f]? = some fd ∧ fd.type = ft ∧ Nat.blt 0 size = true ∧ ev E x = .pointer (some ⟨b, o, none⟩) ∧ o' = o + fd.offset ∧ Nat.blt d n.sz = true := by simpa only [Prod.mk.injEq] using h
  exact O (r_fieldAddr hT ht hf he h0 hx ho) hd k
theorem Ol {d : Tmp} {T : TypeId} {size bytes : Nat} {z : Value} {x : Operand} (v : Value) (ht : TyI P T false size bytes z) (hs : Sep g0 w0 g w L) (i o : Nat) {b : Nat} {T' : TypeId} {cs : List Value} (hx : ev E x = .pointer (some ⟨b, o, none⟩)) (hi : L[i]? = some (box b T' cs)) (hv : cs[o]? = some v)
    (hd : Nat.blt d n.sz = true) (k : OW P n ops Q rest (upd E d v) w) : OW P n ops Q (⟨some d, .load T x, ty, ps, af, none⟩ :: rest) E w := O (r_load ht hx (hs.cell hi hv)) hd k
theorem On {d : Tmp} {T : TypeId} {size bytes : Nat} {z : Value} {x : Operand} {b : Nat} {T' : TypeId} (cs : List Value) (ht : TyI P T true size bytes z) (hl : cs.length = size) (hs : Sep g0 w0 g w L) (i : Nat) (hx : ev E x = .pointer (some ⟨b, 0, none⟩)) (hi : L[i]? = some (box b T' cs))
    (hd : Nat.blt d n.sz = true) (k : OW P n ops Q rest (upd E d (.agg cs.toArray)) w) : OW P n ops Q (⟨some d, .load T x, ty, ps, af, none⟩ :: rest) E w := O (r_loadN ht hx hl (hs.cells hi)) hd k
theorem Oe {d : Tmp} {T : TypeId} {size bytes : Nat} {z : Value} {x : Operand} {b o : Nat} (cs : List Value) (ht : TyI P T true size bytes z) (hl : cs.length = size) (hc : ∀ j u, cs[j]? = some u → w.cell? ⟨b, o + j, none⟩ = some u) (hx : ev E x = .pointer (some ⟨b, o, none⟩))
    (hd : Nat.blt d n.sz = true) (k : OW P n ops Q rest (upd E d (.agg cs.toArray)) w) : OW P n ops Q (⟨some d, .load T x, ty, ps, af, none⟩ :: rest) E w := O (r_loadEl ht hx hl (.inl rfl) hc rfl) hd k
theorem Oc {d : Tmp} {T : TypeId} {bytes : Nat} {z : Value} {x : Operand} {b o : Nat} (v : Value) (ht : TyI P T false 1 bytes z) (hc : ∀ j u, [v][j]? = some u → w.cell? ⟨b, o + j, none⟩ = some u) (hx : ev E x = .pointer (some ⟨b, o, none⟩))
    (hd : Nat.blt d n.sz = true) (k : OW P n ops Q rest (upd E d v) w) : OW P n ops Q (⟨some d, .load T x, ty, ps, af, none⟩ :: rest) E w := O (r_loadEl (cs := [v]) ht hx rfl (.inr rfl) hc rfl) hd k
theorem Ox {d : Tmp} {x : Operand} {vs : List Value} {i : Nat} (v : Value) (hx : ev E x = .tuple vs.toArray) (hi : vs[i]? = some v) (hd : Nat.blt d n.sz = true) (k : OW P n ops Q rest (upd E d v) w) : OW P n ops Q (⟨some d, .extract x i, ty, ps, af, none⟩ :: rest) E w := O (r_extract hx hi) hd k
theorem Ob {d : Tmp} {T : TypeId} {x : Operand} (zs : List Value) (hs : Sep g0 w0 g w L) (hx : ev E x = .agg zs.toArray) (hd : Nat.blt d n.sz = true)
    (k : ∀ b w', Sep g0 w0 g w' (box b T zs :: L) → OW P n ops Q rest (upd E d (.pointer (some ⟨b, 0, none⟩))) w') : OW P n ops Q (⟨some d, .box T x, ty, ps, af, none⟩ :: rest) E w := OW_box hx hs zs rfl hd k
theorem Osa {T T' : TypeId} {x y : Operand} {b : Nat} {cs : List Value} {size bytes : Nat} {z : Value} (ht : TyI P T true size bytes z) (hs : Sep g0 w0 g w L) (i : Nat) (vs : List Value) (hi : L[i]? = some (box b T' cs))
    (hx : ev E x = .pointer (some ⟨b, 0, none⟩)) (hy : ev E y = .agg vs.toArray) (h1 : ∀ v ∈ vs, v.oneCell' = true) (hl : vs.length = size) (hl' : cs.length = vs.length)
    (k : ∀ w', Sep g0 w0 g w' (L.set i (box b T' vs)) → OW P n ops Q rest E w') : OW P n ops Q (⟨none, .store T x y, ty, ps, af, none⟩ :: rest) E w := OW_storeAll ht hs hi hx hy rfl h1 hl hl' k
theorem ones {l : List Value} (h : (l.all fun v => v.oneCell') = true) : ∀ v ∈ l, v.oneCell' = true := fun v hv => List.all_eq_true.1 h v hv
def gotB (ops : Array Oper) (E : Env) (j : Nat) : Option Value := match ops[j]? with
  | some o => match o.dst with
    | some d => some (E d)
    | none => none
  | none => none
theorem gotB_some {j : Nat} {v : Value} (h : gotB ops E j = some v) : ∃ oj d0, ops[j]? = some oj ∧ oj.dst = some d0 ∧ ev E (.tmp d0) = v := by
  unfold gotB at h
  split at h
  · rename_i o h1
    split at h
    · rename_i d h2
      cases h
      exact ⟨o, d, h1, h2, rfl⟩
    · cases h
  · cases h
theorem OJ {d : Tmp} {j : Nat} {want b c : Bool} (hg : b = c) (h : (gotB ops E j, c == want, Nat.blt d n.sz) = (some (.bool b), false, true)) (k : OW P n ops Q rest (upd E d undef) w) : OW P n ops Q (⟨some d, op, ty, ps, af, some (j, want)⟩ :: rest) E w := by
  obtain ⟨hj, hne, hd⟩ : gotB ops E j = some (.bool b) ∧ (c == want) = false ∧ Nat.blt d n.sz = true := by simpa only [Prod.mk.injEq] using h
  obtain ⟨oj, d0, h1, h2, h3⟩ := gotB_some hj
  exact OK h1 h2 h3 (by rw [hg]; exact hne) hd k
theorem OI {d : Tmp} {v : Value} {w' : World} {j : Nat} {want b c : Bool} (hg : b = c) (h : (gotB ops E j, c == want, Nat.blt d n.sz) = (some (.bool b), true, true)) (hr : Runs P E ⟨some d, op, ty, ps, af, some (j, want)⟩ w v w') (k : OW P n ops Q rest (upd E d v) w') : OW P n ops Q (⟨some d, op, ty, ps, af, some (j, want)⟩ :: rest) E w := by
  obtain ⟨hj, hne, hd⟩ : gotB ops E j = some (.bool b) ∧ (c == want) = true ∧ Nat.blt d n.sz = true := by simpa only [Prod.mk.injEq] using h
  obtain ⟨oj, d0, h1, h2, h3⟩ := gotB_some hj
  exact OG h1 h2 h3 (by rw [hg]; exact hne) hr hd k
theorem CI {d : Tmp} {f : FuncId} {xs : Array Operand} {ats : Array TypeId} {j : Nat} {want b c : Bool} (hg : b = c) (hj : gotB ops E j = some (.bool b)) (hne : (c == want) = true) (args : List Value) {R : Value → World → Prop} (hf : CF P f) (ha : xs.toList.map (ev E) = args) (hc : CallsV P f args.toArray w R) (hd : Nat.blt d n.sz = true)
    (k : ∀ v w', R v w' → OW P n ops Q rest (upd E d v) w') : OW P n ops Q (⟨some d, .call { callee := .value (.func f), args := xs, argTypes := ats }, ty, ps, af, some (j, want)⟩ :: rest) E w := by
  obtain ⟨oj, d0, h1, h2, h3⟩ := gotB_some hj
  exact CG h1 h2 h3 (by rw [hg]; exact hne) args hf ha hc hd k
theorem SI {Q : Env → Prop} {d : Tmp} {v : Value} {j : Nat} {want b c : Bool} (hg : b = c) (hj : gotB ops E j = some (.bool b)) (hne : (c == want) = true) (hr : Runs P E ⟨some d, op, ty, ps, af, some (j, want)⟩ w v w) (hd : Nat.blt d n.sz = true) (k : SW P n ops w Q rest (upd E d v)) : SW P n ops w Q (⟨some d, op, ty, ps, af, some (j, want)⟩ :: rest) E := by
  obtain ⟨oj, d0, h1, h2, h3⟩ := gotB_some hj
  exact SG h1 h2 h3 (by rw [hg]; exact hne) hr hd k
theorem SJ {Q : Env → Prop} {d : Tmp} {j : Nat} {want b c : Bool} (hg : b = c) (h : (gotB ops E j, c == want, Nat.blt d n.sz) = (some (.bool b), false, true)) (k : SW P n ops w Q rest (upd E d undef)) : SW P n ops w Q (⟨some d, op, ty, ps, af, some (j, want)⟩ :: rest) E := by
  obtain ⟨hj, hne, hd⟩ : gotB ops E j = some (.bool b) ∧ (c == want) = false ∧ Nat.blt d n.sz = true := by simpa only [Prod.mk.injEq] using h
  obtain ⟨oj, d0, h1, h2, h3⟩ := gotB_some hj
  exact SK h1 h2 h3 (by rw [hg]; exact hne) hd k
theorem Ok {d : Tmp} {j : Nat} {want b : Bool} (h : (gotB ops E j, b == want, Nat.blt d n.sz) = (some (.bool b), false, true)) (k : OW P n ops Q rest (upd E d undef) w) : OW P n ops Q (⟨some d, op, ty, ps, af, some (j, want)⟩ :: rest) E w := OJ rfl h k
theorem Sk {Q : Env → Prop} {d : Tmp} {j : Nat} {want b : Bool} (h : (gotB ops E j, b == want, Nat.blt d n.sz) = (some (.bool b), false, true)) (k : SW P n ops w Q rest (upd E d undef)) : SW P n ops w Q (⟨some d, op, ty, ps, af, some (j, want)⟩ :: rest) E := SJ rfl h k
theorem Im {d : Tmp} {x : Operand} {j : Nat} {want b c : Bool} (hg : b = c) (v : Value) (h : (ev E x, gotB ops E j, c == want, Nat.blt d n.sz) = (v, some (.bool b), true, true)) (k : OW P n ops Q rest (upd E d v) w) : OW P n ops Q (⟨some d, .move x, ty, ps, af, some (j, want)⟩ :: rest) E w := OI hg (congrArg Prod.snd h) (r_move (congrArg Prod.fst h)) k
theorem Ia {d : Tmp} {x : Operand} {j : Nat} {want b c : Bool} (hg : b = c) (v : Value) (h : (ev E x, gotB ops E j, c == want, Nat.blt d n.sz) = (v, some (.bool b), true, true)) (k : OW P n ops Q rest (upd E d v) w) : OW P n ops Q (⟨some d, .assign x, ty, ps, af, some (j, want)⟩ :: rest) E w := OI hg (congrArg Prod.snd h) (r_assign (congrArg Prod.fst h)) k
theorem Sm {Q : Env → Prop} {d : Tmp} {x : Operand} (v : Value) (h : (ev E x, Nat.blt d n.sz) = (v, true)) (k : SW P n ops w Q rest (upd E d v)) : SW P n ops w Q (⟨some d, .move x, ty, ps, af, none⟩ :: rest) E := S (r_move (congrArg Prod.fst h)) (congrArg Prod.snd h) k
theorem Sa {Q : Env → Prop} {d : Tmp} {x : Operand} (v : Value) (h : (ev E x, Nat.blt d n.sz) = (v, true)) (k : SW P n ops w Q rest (upd E d v)) : SW P n ops w Q (⟨some d, .assign x, ty, ps, af, none⟩ :: rest) E := S (r_assign (congrArg Prod.fst h)) (congrArg Prod.snd h) k
theorem Jm {Q : Env → Prop} {d : Tmp} {x : Operand} {j : Nat} {want b c : Bool} (hg : b = c) (v : Value) (h : (ev E x, gotB ops E j, c == want, Nat.blt d n.sz) = (v, some (.bool b), true, true)) (k : SW P n ops w Q rest (upd E d v)) : SW P n ops w Q (⟨some d, .move x, ty, ps, af, some (j, want)⟩ :: rest) E := by
  obtain ⟨hx, hj, hne, hd⟩ : ev E x = v ∧ gotB ops E j = some (.bool b) ∧ (c == want) = true ∧ Nat.blt d n.sz = true := by simpa only [Prod.mk.injEq] using h
  exact SI hg hj hne (r_move hx) hd k
theorem WA {id : Nat} {l : List Oper} (hs : Sep g0 w0 g w L) (t : OT) (hm : P.follows .mixedOrders = true) (hB : okPlan l.toArray t = true) [hP : PanOk Q] (h : AT P n l.toArray Q (SS g0 w0 g L) t.qs t E w.drew) : WP P n (.region id l.toArray true) Q E w := WP_any t _ hm hB h
theorem Sep.ss (hs : Sep g0 w0 g w L) : SS g0 w0 g L w := ⟨g, Hle.refl _, hs⟩
end
/-- Which resources stay: the bits of a number. -/
def keepB : Nat → List Res → List Res
  | _, [] => []
  | m, r :: l => bif Nat.beq (Nat.mod m 2) 1 then r :: keepB (Nat.div m 2) l else keepB (Nat.div m 2) l
theorem keepB_sub : ∀ (l : List Res) (m : Nat), List.Sublist (keepB m l) l
  | [], _ => .slnil
  | r :: l, m => by
    unfold keepB
    cases Nat.beq (Nat.mod m 2) 1
    · exact .cons _ (keepB_sub l _)
    · exact .cons_cons _ (keepB_sub l _)
theorem Sep.kp {g0 g : Hp} {w0 w : World} {L L' : List Res} (h : Sep g0 w0 g w L) (m : Nat) (e : keepB m L = L') : Sep g0 w0 g w L' := h.sub (e ▸ keepB_sub L m)
theorem RdS.oc {α : Type} {τ : Ty α} {g : Hp} {v : Value} {l : List α} (h : RdS τ g v l) : v.oneCell' = true := one_of_shape h.shape
theorem Sep.oc {g0 g : Hp} {w0 w : World} {L : List Res} (h : Sep g0 w0 g w L) (i : Nat) {v : Value} {e : TypeId} {sz n : Nat} {xs : List Value} (hi : L[i]? = some (.row v e sz n xs)) : v.oneCell' = true := one_of_shape (h.rowShape hi)
section
variable {P : Program} {n : Fr} {Q : EPost} {E : Env} {w : World} {ops : Array Oper} {S : World → Prop} {qs : List Nat} {t : OT} {k : Nat} {d : Tmp} {ty : TypeId} {ps : String} {af : Array Edge}
theorem Am {x : Operand} (v : Value) (hS : S w) (h : (ops[k]?, ev E x, Nat.blt d n.sz) = (some ⟨some d, .move x, ty, ps, af, none⟩, v, true)) (hk : AT P n ops Q S qs t (upd E d v) w) : AT P n ops Q S qs (.q k t) E w := by
  obtain ⟨ho, hx, hd⟩ : ops[k]? = some ⟨some d, .move x, ty, ps, af, none⟩ ∧ ev E x = v ∧ Nat.blt d n.sz = true := by simpa only [Prod.mk.injEq] using h
  exact A ho hS (fun _ _ => r_move hx) hd hk
theorem Aa {x : Operand} (v : Value) (hS : S w) (h : (ops[k]?, ev E x, Nat.blt d n.sz) = (some ⟨some d, .assign x, ty, ps, af, none⟩, v, true)) (hk : AT P n ops Q S qs t (upd E d v) w) : AT P n ops Q S qs (.q k t) E w := by
  obtain ⟨ho, hx, hd⟩ : ops[k]? = some ⟨some d, .assign x, ty, ps, af, none⟩ ∧ ev E x = v ∧ Nat.blt d n.sz = true := by simpa only [Prod.mk.injEq] using h
  exact A ho hS (fun _ _ => r_assign hx) hd hk
end
abbrev Ev (E : Env) (ks : List Nat) (vs : List Value) : Prop := ks.map E.s = vs
def ups (E : Env) : List Nat → List Value → Env
  | k :: ks, v :: vs => upd (ups E ks vs) k v
  | _, _ => E
theorem upsS {E : Env} : ∀ {ks : List Nat} {vs : List Value}, Ev E ks vs → ups E ks vs = E
  | [], vs, _ => by unfold ups; rfl
  | k :: ks, [], h => by cases h
  | k :: ks, v :: vs, h => by
    have h1 := (List.cons.inj h).1
    show upd (ups E ks vs) k v = E
    rw [upsS (List.cons.inj h).2]
    exact upd_self h1
theorem oeL {E : Env} {ks : List Nat} {vs : List Value} (h : Ev E ks vs) : ∃ E0, E = ups E0 ks vs := ⟨E, (upsS h).symm⟩
theorem oe1 {E : Env} {k0 : Nat} {v0 : Value} (h : Ev E [k0] [v0]) : ∃ E0, E = upd E0 k0 v0 := oeL h
theorem oe2 {E : Env} {k0 k1 : Nat} {v0 v1 : Value} (h : Ev E [k0, k1] [v0, v1]) : ∃ E0, E = upd (upd E0 k1 v1) k0 v0 := oeL h
theorem oe3 {E : Env} {k0 k1 k2 : Nat} {v0 v1 v2 : Value} (h : Ev E [k0, k1, k2] [v0, v1, v2]) : ∃ E0, E = upd (upd (upd E0 k2 v2) k1 v1) k0 v0 := oeL h
theorem oe4 {E : Env} {k0 k1 k2 k3 : Nat} {v0 v1 v2 v3 : Value} (h : Ev E [k0, k1, k2, k3] [v0, v1, v2, v3]) : ∃ E0, E = upd (upd (upd (upd E0 k3 v3) k2 v2) k1 v1) k0 v0 := oeL h
theorem oe5 {E : Env} {k0 k1 k2 k3 k4 : Nat} {v0 v1 v2 v3 v4 : Value} (h : Ev E [k0, k1, k2, k3, k4] [v0, v1, v2, v3, v4]) : ∃ E0, E = upd (upd (upd (upd (upd E0 k4 v4) k3 v3) k2 v2) k1 v1) k0 v0 := oeL h
theorem oe6 {E : Env} {k0 k1 k2 k3 k4 k5 : Nat} {v0 v1 v2 v3 v4 v5 : Value} (h : Ev E [k0, k1, k2, k3, k4, k5] [v0, v1, v2, v3, v4, v5]) : ∃ E0, E = upd (upd (upd (upd (upd (upd E0 k5 v5) k4 v4) k3 v3) k2 v2) k1 v1) k0 v0 := oeL h
theorem oe7 {E : Env} {k0 k1 k2 k3 k4 k5 k6 : Nat} {v0 v1 v2 v3 v4 v5 v6 : Value} (h : Ev E [k0, k1, k2, k3, k4, k5, k6] [v0, v1, v2, v3, v4, v5, v6]) : ∃ E0, E = upd (upd (upd (upd (upd (upd (upd E0 k6 v6) k5 v5) k4 v4) k3 v3) k2 v2) k1 v1) k0 v0 := oeL h
theorem oe8 {E : Env} {k0 k1 k2 k3 k4 k5 k6 k7 : Nat} {v0 v1 v2 v3 v4 v5 v6 v7 : Value} (h : Ev E [k0, k1, k2, k3, k4, k5, k6, k7] [v0, v1, v2, v3, v4, v5, v6, v7]) : ∃ E0, E = upd (upd (upd (upd (upd (upd (upd (upd E0 k7 v7) k6 v6) k5 v5) k4 v4) k3 v3) k2 v2) k1 v1) k0 v0 := oeL h
theorem oe9 {E : Env} {k0 k1 k2 k3 k4 k5 k6 k7 k8 : Nat} {v0 v1 v2 v3 v4 v5 v6 v7 v8 : Value} (h : Ev E [k0, k1, k2, k3, k4, k5, k6, k7, k8] [v0, v1, v2, v3, v4, v5, v6, v7, v8]) : ∃ E0, E = upd (upd (upd (upd (upd (upd (upd (upd (upd E0 k8 v8) k7 v7) k6 v6) k5 v5) k4 v4) k3 v3) k2 v2) k1 v1) k0 v0 := oeL h
theorem oe10 {E : Env} {k0 k1 k2 k3 k4 k5 k6 k7 k8 k9 : Nat} {v0 v1 v2 v3 v4 v5 v6 v7 v8 v9 : Value} (h : Ev E [k0, k1, k2, k3, k4, k5, k6, k7, k8, k9] [v0, v1, v2, v3, v4, v5, v6, v7, v8, v9]) : ∃ E0, E = upd (upd (upd (upd (upd (upd (upd (upd (upd (upd E0 k9 v9) k8 v8) k7 v7) k6 v6) k5 v5) k4 v4) k3 v3) k2 v2) k1 v1) k0 v0 := oeL h
theorem oe11 {E : Env} {k0 k1 k2 k3 k4 k5 k6 k7 k8 k9 k10 : Nat} {v0 v1 v2 v3 v4 v5 v6 v7 v8 v9 v10 : Value} (h : Ev E [k0, k1, k2, k3, k4, k5, k6, k7, k8, k9, k10] [v0, v1, v2, v3, v4, v5, v6, v7, v8, v9, v10]) : ∃ E0, E = upd (upd (upd (upd (upd (upd (upd (upd (upd (upd (upd E0 k10 v10) k9 v9) k8 v8) k7 v7) k6 v6) k5 v5) k4 v4) k3 v3) k2 v2) k1 v1) k0 v0 := oeL h
theorem oe12 {E : Env} {k0 k1 k2 k3 k4 k5 k6 k7 k8 k9 k10 k11 : Nat} {v0 v1 v2 v3 v4 v5 v6 v7 v8 v9 v10 v11 : Value} (h : Ev E [k0, k1, k2, k3, k4, k5, k6, k7, k8, k9, k10, k11] [v0, v1, v2, v3, v4, v5, v6, v7, v8, v9, v10, v11]) : ∃ E0, E = upd (upd (upd (upd (upd (upd (upd (upd (upd (upd (upd (upd E0 k11 v11) k10 v10) k9 v9) k8 v8) k7 v7) k6 v6) k5 v5) k4 v4) k3 v3) k2 v2) k1 v1) k0 v0 := oeL h
theorem oe13 {E : Env} {k0 k1 k2 k3 k4 k5 k6 k7 k8 k9 k10 k11 k12 : Nat} {v0 v1 v2 v3 v4 v5 v6 v7 v8 v9 v10 v11 v12 : Value} (h : Ev E [k0, k1, k2, k3, k4, k5, k6, k7, k8, k9, k10, k11, k12] [v0, v1, v2, v3, v4, v5, v6, v7, v8, v9, v10, v11, v12]) : ∃ E0, E = upd (upd (upd (upd (upd (upd (upd (upd (upd (upd (upd (upd (upd E0 k12 v12) k11 v11) k10 v10) k9 v9) k8 v8) k7 v7) k6 v6) k5 v5) k4 v4) k3 v3) k2 v2) k1 v1) k0 v0 := oeL h
theorem oe14 {E : Env} {k0 k1 k2 k3 k4 k5 k6 k7 k8 k9 k10 k11 k12 k13 : Nat} {v0 v1 v2 v3 v4 v5 v6 v7 v8 v9 v10 v11 v12 v13 : Value} (h : Ev E [k0, k1, k2, k3, k4, k5, k6, k7, k8, k9, k10, k11, k12, k13] [v0, v1, v2, v3, v4, v5, v6, v7, v8, v9, v10, v11, v12, v13]) : ∃ E0, E = upd (upd (upd (upd (upd (upd (upd (upd (upd (upd (upd (upd (upd (upd E0 k13 v13) k12 v12) k11 v11) k10 v10) k9 v9) k8 v8) k7 v7) k6 v6) k5 v5) k4 v4) k3 v3) k2 v2) k1 v1) k0 v0 := oeL h
theorem oe15 {E : Env} {k0 k1 k2 k3 k4 k5 k6 k7 k8 k9 k10 k11 k12 k13 k14 : Nat} {v0 v1 v2 v3 v4 v5 v6 v7 v8 v9 v10 v11 v12 v13 v14 : Value} (h : Ev E [k0, k1, k2, k3, k4, k5, k6, k7, k8, k9, k10, k11, k12, k13, k14] [v0, v1, v2, v3, v4, v5, v6, v7, v8, v9, v10, v11, v12, v13, v14]) : ∃ E0, E = upd (upd (upd (upd (upd (upd (upd (upd (upd (upd (upd (upd (upd (upd (upd E0 k14 v14) k13 v13) k12 v12) k11 v11) k10 v10) k9 v9) k8 v8) k7 v7) k6 v6) k5 v5) k4 v4) k3 v3) k2 v2) k1 v1) k0 v0 := oeL h
theorem oe16 {E : Env} {k0 k1 k2 k3 k4 k5 k6 k7 k8 k9 k10 k11 k12 k13 k14 k15 : Nat} {v0 v1 v2 v3 v4 v5 v6 v7 v8 v9 v10 v11 v12 v13 v14 v15 : Value} (h : Ev E [k0, k1, k2, k3, k4, k5, k6, k7, k8, k9, k10, k11, k12, k13, k14, k15] [v0, v1, v2, v3, v4, v5, v6, v7, v8, v9, v10, v11, v12, v13, v14, v15]) : ∃ E0, E = upd (upd (upd (upd (upd (upd (upd (upd (upd (upd (upd (upd (upd (upd (upd (upd E0 k15 v15) k14 v14) k13 v13) k12 v12) k11 v11) k10 v10) k9 v9) k8 v8) k7 v7) k6 v6) k5 v5) k4 v4) k3 v3) k2 v2) k1 v1) k0 v0 := oeL h
theorem oe17 {E : Env} {k0 k1 k2 k3 k4 k5 k6 k7 k8 k9 k10 k11 k12 k13 k14 k15 k16 : Nat} {v0 v1 v2 v3 v4 v5 v6 v7 v8 v9 v10 v11 v12 v13 v14 v15 v16 : Value} (h : Ev E [k0, k1, k2, k3, k4, k5, k6, k7, k8, k9, k10, k11, k12, k13, k14, k15, k16] [v0, v1, v2, v3, v4, v5, v6, v7, v8, v9, v10, v11, v12, v13, v14, v15, v16]) : ∃ E0, E = upd (upd (upd (upd (upd (upd (upd (upd (upd (upd (upd (upd (upd (upd (upd (upd (upd E0 k16 v16) k15 v15) k14 v14) k13 v13) k12 v12) k11 v11) k10 v10) k9 v9) k8 v8) k7 v7) k6 v6) k5 v5) k4 v4) k3 v3) k2 v2) k1 v1) k0 v0 := oeL h
theorem oe18 {E : Env} {k0 k1 k2 k3 k4 k5 k6 k7 k8 k9 k10 k11 k12 k13 k14 k15 k16 k17 : Nat} {v0 v1 v2 v3 v4 v5 v6 v7 v8 v9 v10 v11 v12 v13 v14 v15 v16 v17 : Value} (h : Ev E [k0, k1, k2, k3, k4, k5, k6, k7, k8, k9, k10, k11, k12, k13, k14, k15, k16, k17] [v0, v1, v2, v3, v4, v5, v6, v7, v8, v9, v10, v11, v12, v13, v14, v15, v16, v17]) : ∃ E0, E = upd (upd (upd (upd (upd (upd (upd (upd (upd (upd (upd (upd (upd (upd (upd (upd (upd (upd E0 k17 v17) k16 v16) k15 v15) k14 v14) k13 v13) k12 v12) k11 v11) k10 v10) k9 v9) k8 v8) k7 v7) k6 v6) k5 v5) k4 v4) k3 v3) k2 v2) k1 v1) k0 v0 := oeL h
theorem oe19 {E : Env} {k0 k1 k2 k3 k4 k5 k6 k7 k8 k9 k10 k11 k12 k13 k14 k15 k16 k17 k18 : Nat} {v0 v1 v2 v3 v4 v5 v6 v7 v8 v9 v10 v11 v12 v13 v14 v15 v16 v17 v18 : Value} (h : Ev E [k0, k1, k2, k3, k4, k5, k6, k7, k8, k9, k10, k11, k12, k13, k14, k15, k16, k17, k18] [v0, v1, v2, v3, v4, v5, v6, v7, v8, v9, v10, v11, v12, v13, v14, v15, v16, v17, v18]) : ∃ E0, E = upd (upd (upd (upd (upd (upd (upd (upd (upd (upd (upd (upd (upd (upd (upd (upd (upd (upd (upd E0 k18 v18) k17 v17) k16 v16) k15 v15) k14 v14) k13 v13) k12 v12) k11 v11) k10 v10) k9 v9) k8 v8) k7 v7) k6 v6) k5 v5) k4 v4) k3 v3) k2 v2) k1 v1) k0 v0 := oeL h
theorem oe20 {E : Env} {k0 k1 k2 k3 k4 k5 k6 k7 k8 k9 k10 k11 k12 k13 k14 k15 k16 k17 k18 k19 : Nat} {v0 v1 v2 v3 v4 v5 v6 v7 v8 v9 v10 v11 v12 v13 v14 v15 v16 v17 v18 v19 : Value} (h : Ev E [k0, k1, k2, k3, k4, k5, k6, k7, k8, k9, k10, k11, k12, k13, k14, k15, k16, k17, k18, k19] [v0, v1, v2, v3, v4, v5, v6, v7, v8, v9, v10, v11, v12, v13, v14, v15, v16, v17, v18, v19]) : ∃ E0, E = upd (upd (upd (upd (upd (upd (upd (upd (upd (upd (upd (upd (upd (upd (upd (upd (upd (upd (upd (upd E0 k19 v19) k18 v18) k17 v17) k16 v16) k15 v15) k14 v14) k13 v13) k12 v12) k11 v11) k10 v10) k9 v9) k8 v8) k7 v7) k6 v6) k5 v5) k4 v4) k3 v3) k2 v2) k1 v1) k0 v0 := oeL h
theorem oe21 {E : Env} {k0 k1 k2 k3 k4 k5 k6 k7 k8 k9 k10 k11 k12 k13 k14 k15 k16 k17 k18 k19 k20 : Nat} {v0 v1 v2 v3 v4 v5 v6 v7 v8 v9 v10 v11 v12 v13 v14 v15 v16 v17 v18 v19 v20 : Value} (h : Ev E [k0, k1, k2, k3, k4, k5, k6, k7, k8, k9, k10, k11, k12, k13, k14, k15, k16, k17, k18, k19, k20] [v0, v1, v2, v3, v4, v5, v6, v7, v8, v9, v10, v11, v12, v13, v14, v15, v16, v17, v18, v19, v20]) : ∃ E0, E = upd (upd (upd (upd (upd (upd (upd (upd (upd (upd (upd (upd (upd (upd (upd (upd (upd (upd (upd (upd (upd E0 k20 v20) k19 v19) k18 v18) k17 v17) k16 v16) k15 v15) k14 v14) k13 v13) k12 v12) k11 v11) k10 v10) k9 v9) k8 v8) k7 v7) k6 v6) k5 v5) k4 v4) k3 v3) k2 v2) k1 v1) k0 v0 := oeL h
theorem oe22 {E : Env} {k0 k1 k2 k3 k4 k5 k6 k7 k8 k9 k10 k11 k12 k13 k14 k15 k16 k17 k18 k19 k20 k21 : Nat} {v0 v1 v2 v3 v4 v5 v6 v7 v8 v9 v10 v11 v12 v13 v14 v15 v16 v17 v18 v19 v20 v21 : Value} (h : Ev E [k0, k1, k2, k3, k4, k5, k6, k7, k8, k9, k10, k11, k12, k13, k14, k15, k16, k17, k18, k19, k20, k21] [v0, v1, v2, v3, v4, v5, v6, v7, v8, v9, v10, v11, v12, v13, v14, v15, v16, v17, v18, v19, v20, v21]) : ∃ E0, E = upd (upd (upd (upd (upd (upd (upd (upd (upd (upd (upd (upd (upd (upd (upd (upd (upd (upd (upd (upd (upd (upd E0 k21 v21) k20 v20) k19 v19) k18 v18) k17 v17) k16 v16) k15 v15) k14 v14) k13 v13) k12 v12) k11 v11) k10 v10) k9 v9) k8 v8) k7 v7) k6 v6) k5 v5) k4 v4) k3 v3) k2 v2) k1 v1) k0 v0 := oeL h
theorem oe23 {E : Env} {k0 k1 k2 k3 k4 k5 k6 k7 k8 k9 k10 k11 k12 k13 k14 k15 k16 k17 k18 k19 k20 k21 k22 : Nat} {v0 v1 v2 v3 v4 v5 v6 v7 v8 v9 v10 v11 v12 v13 v14 v15 v16 v17 v18 v19 v20 v21 v22 : Value} (h : Ev E [k0, k1, k2, k3, k4, k5, k6, k7, k8, k9, k10, k11, k12, k13, k14, k15, k16, k17, k18, k19, k20, k21, k22] [v0, v1, v2, v3, v4, v5, v6, v7, v8, v9, v10, v11, v12, v13, v14, v15, v16, v17, v18, v19, v20, v21, v22]) : ∃ E0, E = upd (upd (upd (upd (upd (upd (upd (upd (upd (upd (upd (upd (upd (upd (upd (upd (upd (upd (upd (upd (upd (upd (upd E0 k22 v22) k21 v21) k20 v20) k19 v19) k18 v18) k17 v17) k16 v16) k15 v15) k14 v14) k13 v13) k12 v12) k11 v11) k10 v10) k9 v9) k8 v8) k7 v7) k6 v6) k5 v5) k4 v4) k3 v3) k2 v2) k1 v1) k0 v0 := oeL h
theorem oe24 {E : Env} {k0 k1 k2 k3 k4 k5 k6 k7 k8 k9 k10 k11 k12 k13 k14 k15 k16 k17 k18 k19 k20 k21 k22 k23 : Nat} {v0 v1 v2 v3 v4 v5 v6 v7 v8 v9 v10 v11 v12 v13 v14 v15 v16 v17 v18 v19 v20 v21 v22 v23 : Value} (h : Ev E [k0, k1, k2, k3, k4, k5, k6, k7, k8, k9, k10, k11, k12, k13, k14, k15, k16, k17, k18, k19, k20, k21, k22, k23] [v0, v1, v2, v3, v4, v5, v6, v7, v8, v9, v10, v11, v12, v13, v14, v15, v16, v17, v18, v19, v20, v21, v22, v23]) : ∃ E0, E = upd (upd (upd (upd (upd (upd (upd (upd (upd (upd (upd (upd (upd (upd (upd (upd (upd (upd (upd (upd (upd (upd (upd (upd E0 k23 v23) k22 v22) k21 v21) k20 v20) k19 v19) k18 v18) k17 v17) k16 v16) k15 v15) k14 v14) k13 v13) k12 v12) k11 v11) k10 v10) k9 v9) k8 v8) k7 v7) k6 v6) k5 v5) k4 v4) k3 v3) k2 v2) k1 v1) k0 v0 := oeL h
end Go.Lx
