/- Lx, part 12: contracts that take blocks in and hand them back; panics; slicing; interface values. -/
import Derived.Test.YtbfmbiapjgpfhaaGreatDoorLxOrd
import Derived.Test.YtbfmbiapjgpfhaaGreatDoorLxFn
import Derived.Laws.Cover1
import Derived.Laws.Small
import Derived.Laws.CopyRow
import Derived.Laws.IdiomCopy
import Derived.Laws.Runes
import Derived.Laws.Strings2
import Derived.Laws.Slices
namespace Go.Lx
open Go.RowKit

/-- What a function that may panic answers. -/
inductive Rt (α : Type) where
  | ret (a : α)
  | pan (x : Int)
def Rt.on {α β : Type} (x : Rt α) (k : α → β) (p : Int → β) : β := match x with
  | .ret a => k a
  | .pan x => p x
def pent (v : Value) : List PanicEntry := [{ v := v, recovered := false }]
/-- A call that panics with v. -/
def CallsN (P : Program) (f : FuncId) (args : Array Value) (w : World) (v : Value) (R : World → Prop) : Prop :=
  Calls P f args w fun e w' => e = .panicked (pent v) ∧ R w'
def FX (P : Program) (fn : Func) (n : Fr) {α : Type} (T : TypeId) (o : Rt α) (R : α → Value → World → Prop) (R' : World → Prop) : EPost := fun e E w => match e, o with
  | .normal, .ret a => FL P fn n E (R a) E.ds w
  | .ret, .ret a => FL P fn n E (R a) E.ds w
  | .panic ch, .pan x => ch = pent (.iface T (.int .i64 x)) ∧ E.ds = [] ∧ R' w
  | _, _ => False
def CallsX (P : Program) (f : FuncId) (args : Array Value) (w : World) {α : Type} (T : TypeId) (o : Rt α) (R : α → Value → World → Prop) (R' : World → Prop) : Prop := match o with
  | .ret a => CallsV P f args w (R a)
  | .pan x => CallsN P f args w (.iface T (.int .i64 x)) R'
instance {P : Program} {fn : Func} {n : Fr} {α : Type} {T : TypeId} {o : Rt α} {R : α → Value → World → Prop} {R' : World → Prop} : PanOk (FX P fn n T o R R') := ⟨fun c E E' w hd q => by
  cases o with
  | ret a => exact q
  | pan x => exact ⟨q.1, hd ▸ q.2.1, q.2.2⟩⟩
section
variable {P : Program} {n : Fr} {Q : EPost} {E : Env} {w : World} {α : Type}
theorem calls_of_WPX {f : FuncId} {fn : Func} {c : Code} {m : Nat} {args : List Value} {T : TypeId} {o : Rt α} {R : α → Value → World → Prop} {R' : World → Prop} (hf : P.funcs[f]? = some fn) (hb : fn.body = some c) (hn : fn.ntmps = m) (hl : Nat.ble args.length m = true)
    (h : WP P ⟨m, none⟩ c (FX P fn ⟨m, none⟩ T o R R') (argEnv args) w) : CallsX P f args.toArray w T o R R' := by
  subst hn
  have key := h _ (fits_args args _ (Nat.le_of_ble_eq_true hl))
  cases o with
  | ret a =>
    refine callsIn_wide (n := 0) |>.1 (callsIn_of_wp_marks (F := Fz ⟨fn.ntmps, none⟩) hf hb trivial ?_)
    refine wpIn_mono key ?_
    rintro e a' w ⟨E, hfit, q⟩
    cases e <;> first
      | exact q.elim
      | (show LeavesInM _ _ _ _ _ _ a'.defers _ _; rw [hfit.defers]; exact fl_leaves hfit E.ds w q)
  | pan x =>
    refine callsIn_wide (n := 0) |>.1 (callsIn_of_wp_marks (F := Fz ⟨fn.ntmps, none⟩) hf hb trivial ?_)
    refine wpIn_mono key ?_
    rintro e a' w ⟨E, hfit, q⟩
    cases e <;> first
      | exact q.elim
      | (show LeavesInM _ _ _ _ _ _ a'.defers _ _; rw [hfit.defers, q.2.1, q.1]; exact ⟨rfl, q.2.2⟩)
section
variable {ops : Array Oper} {rest : List Oper} {ty : TypeId} {ps : String} {af : Array Edge}
theorem OW_panic {x : Operand} {T : TypeId} {v : Value} {dd : Option Tmp} (hx : ev E x = .iface T v) (h : Q (.panic (pent (.iface T v))) E w) : OW P n ops Q (⟨dd, .panic x, ty, ps, af, none⟩ :: rest) E w := by
  intro a ha
  refine wpListIn_plain rfl fun K hK => ⟨fun _ _ => trivial, ?_⟩
  rw [Oper.semAt_eq _ _ _ (by simp), ha.eval]
  simp only [execOp, hx]
  exact ⟨E, ha, h⟩
theorem opIn_panic {o : Oper} {f : FuncId} {args : Array Value} {v : Value} {R : World → Prop} {a : Act} {K : Act → World → Prop} (ha : Fits n E a)
    (hr : (execOp (ev E) o).run P w = .ok (.enter f args) w) (hc : CallsN P f args w v R) (k : ∀ w', R w' → Q (.panic (pent v)) E w') : o.wpIn (Fz n) 0 P a w K (lift n Q) := by
  refine opIn_enter ha hr (hc.mono fun e w' ⟨he, hR⟩ => ?_)
  subst he
  exact ⟨E, ha, k w' hR⟩
theorem CN {f : FuncId} {xs : Array Operand} {ats : Array TypeId} {dd : Option Tmp} (args : List Value) {v : Value} {R : World → Prop} (hf : CF P f) (ha : xs.toList.map (ev E) = args) (hc : CallsN P f args.toArray w v R)
    (k : ∀ w', R w' → Q (.panic (pent v)) E w') : OW P n ops Q (⟨dd, .call { callee := .value (.func f), args := xs, argTypes := ats }, ty, ps, af, none⟩ :: rest) E w := by
  obtain ⟨fn, h1, h2, h3⟩ := hf
  exact fun a hfit => wpListIn_plain rfl fun K hK => opIn_panic hfit (r_call h1 h2 h3 ha) hc k
theorem CNG {f : FuncId} {xs : Array Operand} {ats : Array TypeId} {dd : Option Tmp} {d0 : Tmp} {j : Nat} {want : Bool} {b : Bool} {oj : Oper} (hj : ops[j]? = some oj) (hdj : oj.dst = some d0) (hb : ev E (.tmp d0) = .bool b) (hne : (b == want) = true)
    (args : List Value) {v : Value} {R : World → Prop} (hf : CF P f) (ha : xs.toList.map (ev E) = args) (hc : CallsN P f args.toArray w v R)
    (k : ∀ w', R w' → Q (.panic (pent v)) E w') : OW P n ops Q (⟨dd, .call { callee := .value (.func f), args := xs, argTypes := ats }, ty, ps, af, some (j, want)⟩ :: rest) E w := by
  obtain ⟨fn, h1, h2, h3⟩ := hf
  intro a hfit
  refine wpListIn_step fun K hK => ?_
  have hy := yielded_of hfit hj hdj hb
  rw [if_pos (by simp only [Region.wanted, hy]; simpa using hne)]
  exact opIn_panic hfit (r_call h1 h2 h3 ha) hc k
/-- A function without a result, called for what it does. -/
theorem CU {f : FuncId} {xs : Array Operand} {ats : Array TypeId} (args : List Value) {R : Value → World → Prop} (hf : CF P f) (ha : xs.toList.map (ev E) = args) (hc : CallsV P f args.toArray w R)
    (k : ∀ v w', R v w' → OW P n ops Q rest E w') : OW P n ops Q (⟨none, .call { callee := .value (.func f), args := xs, argTypes := ats }, ty, ps, af, none⟩ :: rest) E w := by
  obtain ⟨fn, h1, h2, h3⟩ := hf
  exact OW_call (r_call h1 h2 h3 ha) rfl rfl hc k
end
end
theorem rtS {α β : Type} {o : Option (Rt α)} {k : α → Option β} {kp : Int → Option β} {r : β} (h : (o.bind fun x => x.on k kp) = some r) :
    (∃ a, o = some (.ret a) ∧ k a = some r) ∨ (∃ x, o = some (.pan x) ∧ kp x = some r) := by
  obtain ⟨x, h1, h2⟩ := bindS h
  cases x with
  | ret a => exact .inl ⟨a, h1, h2⟩
  | pan x => exact .inr ⟨x, h1, h2⟩
theorem ext_of_below {g : Hp} {w w' : World} (hi : Imm g w) (hb : Below w.heap.size w w') : Ext g w g w' :=
  ⟨hb, fun _ _ => rfl, fun b o h => by rw [hb.block b (hi.lt h)]; exact hi b o h⟩
/-- Some of the blocks, in any order; the rest stays behind. -/
theorem Sep.selT {g0 g : Hp} {w0 w : World} {A A' L : List Res} (h : Sep g0 w0 g w (A ++ L)) (is : List Nat) (hn : is.Nodup) (hl : A'.map some = is.map (A[·]?)) : Sep g0 w0 g w (A' ++ L) := by
  have hlt : ∀ i ∈ is, i < A.length := by
    intro i hi
    have : A[i]? ∈ A'.map some := by rw [hl]; exact List.mem_map_of_mem hi
    obtain ⟨r, _, hr⟩ := List.mem_map.1 this
    exact (List.getElem?_eq_some_iff.1 hr.symm).1
  refine h.sel (is ++ (List.range L.length).map (A.length + ·)) ?_ ?_
  · rw [List.nodup_append]
    refine ⟨hn, ?_, fun a ha b hb => ?_⟩
    · exact List.pairwise_map.2 (List.nodup_range.imp fun {a b} hab he => hab (by omega))
    · obtain ⟨c, _, rfl⟩ := List.mem_map.1 hb
      have := hlt a ha; omega
  · rw [List.map_append, List.map_append]
    congr 1
    · rw [hl]
      refine List.map_congr_left fun i hi => ?_
      rw [List.getElem?_append_left (hlt i hi)]
    · rw [List.map_map]
      apply List.ext_getElem?
      intro i
      by_cases hi : i < L.length
      · simp [hi]
      · simp [hi]
/-- What a call that takes no blocks in gives to one that does. -/
theorem Sep.ofExt {g0 g g' : Hp} {w0 w w' : World} {L : List Res} (h : Sep g0 w0 g w L) (he : Ext g w g' w') : Hle g g' ∧ Sep g0 w0 g' w' L := ⟨he.le h.imm, h.call he⟩
section
variable {P : Program} {E : Env} {w : World} {d : Option Tmp} {ty : TypeId} {ps : String} {af : Array Edge} {gd : Option (Nat × Bool)}
theorem r_nilCheck {x : Operand} {b o : Nat} (hx : ev E x = .pointer (some ⟨b, o, none⟩)) : Runs P E ⟨d, .nilCheck x, ty, ps, af, gd⟩ w (.pointer (some ⟨b, o, none⟩)) w := .inl (by simp [execOp, hx])
theorem r_makeIface {T : TypeId} {x : Operand} {v : Value} (hT : P.concrete T = true) (hx : ev E x = v) : Runs P E ⟨d, .makeInterface T x, ty, ps, af, gd⟩ w (.iface T v) w := .inl (by
  subst hx; simp [execOp, run_makeInterface w T _ hT])
/-! ### slicing -/
def subL {α : Type} (l : List α) (i j : Int) : Option (List α) := if 0 ≤ i ∧ i ≤ j ∧ j ≤ l.length then some ((l.take j.toNat).drop i.toNat) else none
theorem subL_some {α : Type} {l m : List α} {i j : Int} (h : subL l i j = some m) : 0 ≤ i ∧ i ≤ j ∧ j ≤ l.length ∧ m = (l.take j.toNat).drop i.toNat := by
  unfold subL at h
  split at h
  · rename_i hc; simp only [Option.some.injEq] at h; exact ⟨hc.1, hc.2.1, hc.2.2, h.symm⟩
  · cases h
theorem extract_toArray (a : Str) (i j : Nat) : (ByteArray.extract ⟨a.toArray⟩ i j) = ⟨((a.take j).drop i).toArray⟩ := by
  apply ByteArray.ext
  rw [ByteArray.data_extract]
  simp [List.extract_eq_take_drop, List.drop_take]
theorem size_toArray (a : Str) : (ByteArray.mk a.toArray).size = a.length := by simp [ByteArray.size]
theorem r_sliceS {T : TypeId} {x lo hi : Operand} {a b : Str} {i j : Int} {k k' : IntKind} (hT : P.underlying T = some .string) (hx : ev E x = encS a) (hlo : ev E lo = .int k i) (hhi : ev E hi = .int k' j) (h : subL a i j = some b) :
    Runs P E ⟨d, .slice T x (some lo) (some hi) none, ty, ps, af, gd⟩ w (encS b) w := .inl (by
  obtain ⟨h0, h1, h2, rfl⟩ := subL_some h
  simp only [execOp, Option.map_some, Option.map_none, hx, hlo, hhi, Sem.run_bind, run_sliceAt_string _ _ _ _ _ _ hT, encS]
  rw [run_slice_string w T _ k k' i j hT h0 h1 (by rw [size_toArray]; omega), extract_toArray]
  rfl)
theorem r_sliceS_lo {T : TypeId} {x lo : Operand} {a b : Str} {i : Int} {k : IntKind} (hT : P.underlying T = some .string) (hx : ev E x = encS a) (hlo : ev E lo = .int k i) (h : subL a i a.length = some b) :
    Runs P E ⟨d, .slice T x (some lo) none none, ty, ps, af, gd⟩ w (encS b) w := .inl (by
  obtain ⟨h0, h1, h2, rfl⟩ := subL_some h
  simp only [execOp, Option.map_some, Option.map_none, hx, hlo, Sem.run_bind, run_sliceAt_string _ _ _ _ _ _ hT, encS]
  rw [run_slice_string_l w T _ hT k i h0 (by rw [size_toArray]; omega), extract_toArray, size_toArray, Int.toNat_natCast]
  rfl)
theorem r_sliceS_hi {T : TypeId} {x hi : Operand} {a b : Str} {j : Int} {k : IntKind} (hT : P.underlying T = some .string) (hx : ev E x = encS a) (hhi : ev E hi = .int k j) (h : subL a 0 j = some b) :
    Runs P E ⟨d, .slice T x none (some hi) none, ty, ps, af, gd⟩ w (encS b) w := .inl (by
  obtain ⟨h0, h1, h2, rfl⟩ := subL_some h
  simp only [execOp, Option.map_some, Option.map_none, hx, hhi, Sem.run_bind, run_sliceAt_string _ _ _ _ _ _ hT, encS]
  rw [run_slice_string_h w T _ hT k j h1 (by rw [size_toArray]; omega), extract_toArray]
  rfl)
theorem run_sizeOf_eq {T : TypeId} {agg : Bool} {size bytes : Nat} {z : Value} (h : TyI P T agg size bytes z) : (sizeOf T).run P w = .ok size w := run_sizeOf h
/-- A slice of a slice. -/
theorem slice_run {T el : TypeId} {agg : Bool} {size bytes : Nat} {z : Value} (hT : P.underlying T = some (.slice el)) (he : TyI P el agg size bytes z) {a : Option Addr} {n cap : Nat} {lo hi : Option Value} {i j : Int}
    (hlo : (lo = none ∧ i = 0) ∨ ∃ k, lo = some (.int k i)) (hhi : (hi = none ∧ j = n) ∨ ∃ k, hi = some (.int k j)) (h0 : 0 ≤ i) (h1 : i ≤ j) (h2 : j ≤ n) (hc : n ≤ cap) :
    (Instr.sliceAt T (.slice a n cap) lo hi none).run P w = .ok (sliced a i.toNat j.toNat cap size) w := by
  have hE : P.elem T = el := by simp [Program.elem, hT]
  have hT' : P.underlying T = some (.slice (P.elem T)) := by rw [hE]; exact hT
  have he' : TyI P (P.elem T) agg size bytes z := by rw [hE]; exact he
  rw [run_sliceAt_slice _ _ _ _ _ _ hT']
  rcases hlo with ⟨rfl, rfl⟩ | ⟨k, rfl⟩ <;> rcases hhi with ⟨rfl, rfl⟩ | ⟨k', rfl⟩
  · rw [run_slice_all w T a n cap hT', run_sizeOf_eq he']; simp [Result.andThen]
  · rw [run_slice_h w T a n cap hT' k' j (by omega) (by omega), run_sizeOf_eq he']; simp [Result.andThen]
  · rw [run_slice_l w T a n cap hT' k i h0 (by omega), run_sizeOf_eq he']; simp [Result.andThen]
  · rw [run_slice_lh w T a n cap hT' k k' i j h0 h1 (by omega), run_sizeOf_eq he']; simp [Result.andThen]
end

/-- The bounds of a slice expression. -/
def Bnd (E : Env) (lo : Option Operand) (i dflt : Int) : Prop := (lo = none ∧ i = dflt) ∨ ∃ k y, lo = some y ∧ ev E y = .int k i
theorem Bnd.none {E : Env} {i : Int} : Bnd E none i i := .inl ⟨rfl, rfl⟩
theorem Bnd.some {E : Env} {y : Operand} {i dflt : Int} {k : IntKind} (h : ev E y = .int k i) : Bnd E (some y) i dflt := .inr ⟨k, y, rfl, h⟩
theorem Bnd.val {E : Env} {lo : Option Operand} {i dflt : Int} (h : Bnd E lo i dflt) : (lo.map (ev E) = .none ∧ i = dflt) ∨ ∃ k, lo.map (ev E) = .some (.int k i) := by
  rcases h with ⟨rfl, rfl⟩ | ⟨k, y, rfl, h⟩
  · exact .inl ⟨rfl, rfl⟩
  · exact .inr ⟨k, by rw [Option.map_some, h]⟩
theorem RowRel.sub {α : Type} {τ : Ty α} {g : Hp} {xs : List Value} {l : List α} (h : RowRel τ g xs l) (i j : Nat) (hj : j ≤ l.length) : RowRel τ g ((xs.take (j * τ.sz)).drop (i * τ.sz)) ((l.take j).drop i) := by
  refine ⟨?_, fun q x hx => ?_⟩
  · have h1 : j * τ.sz ≤ xs.length := by rw [h.1]; exact Nat.mul_le_mul_right _ hj
    rw [List.length_drop, List.length_drop, List.length_take, List.length_take, Nat.min_eq_left h1, Nat.min_eq_left hj, Nat.sub_mul]
  · rw [List.getElem?_drop, List.getElem?_take] at hx
    split at hx
    · rename_i hlt
      have := h.2 _ _ hx
      have e : ((((xs.take (j * τ.sz)).drop (i * τ.sz)).drop (q * τ.sz)).take τ.sz) = (xs.drop ((i + q) * τ.sz)).take τ.sz := by
        apply List.ext_getElem?
        intro p
        simp only [List.getElem?_take, List.getElem?_drop]
        split
        · rename_i hp
          have h2 : (i + q + 1) * τ.sz ≤ j * τ.sz := Nat.mul_le_mul_right _ hlt
          rw [Nat.succ_mul] at h2
          have h3 : (i + q) * τ.sz = i * τ.sz + q * τ.sz := Nat.add_mul _ _ _
          rw [if_pos (by omega)]
          congr 1
          omega
        · rfl
      rw [e]; exact this
    · cases hx
theorem sub_len {α : Type} {l m : List α} {i j : Int} (h : subL l i j = some m) : m.length = j.toNat - i.toNat := by
  obtain ⟨h0, h1, h2, rfl⟩ := subL_some h
  rw [List.length_drop, List.length_take]
  omega
section
variable {P : Program} {E : Env} {w : World} {d : Option Tmp} {ty : TypeId} {ps : String} {af : Array Edge} {gd : Option (Nat × Bool)}
theorem RdS.slice {α : Type} {τ : Ty α} {g : Hp} {v : Value} {l m : List α} (h : RdS τ g v l) {i j : Int} (hs : subL l i j = some m) :
    ∃ v', RdS τ g v' m ∧ ∀ {P : Program} {E : Env} {w : World} {d : Option Tmp} {ty : TypeId} {ps : String} {af : Array Edge} {gd : Option (Nat × Bool)} {T el : TypeId} {agg : Bool} {bytes : Nat} {z : Value} {x : Operand} {lo hi : Option Operand},
      P.underlying T = some (.slice el) → TyI P el agg τ.sz bytes z → ev E x = v → Bnd E lo i 0 → Bnd E hi j l.length → Runs P E ⟨d, .slice T x lo hi none, ty, ps, af, gd⟩ w v' w := by
  obtain ⟨h0, h1, h2, hm⟩ := subL_some hs
  have hml := sub_len hs
  obtain ⟨xs, hr, hsl⟩ := h
  have run : ∀ (a : Option Addr) (cap : Nat), v = .slice a l.length cap → l.length ≤ cap → ∀ {P : Program} {E : Env} {w : World} {d : Option Tmp} {ty : TypeId} {ps : String} {af : Array Edge} {gd : Option (Nat × Bool)} {T el : TypeId} {agg : Bool} {bytes : Nat} {z : Value} {x : Operand} {lo hi : Option Operand},
      P.underlying T = some (.slice el) → TyI P el agg τ.sz bytes z → ev E x = v → Bnd E lo i 0 → Bnd E hi j l.length → Runs P E ⟨d, .slice T x lo hi none, ty, ps, af, gd⟩ w (sliced a i.toNat j.toNat cap τ.sz) w := by
    intro a cap hv hc P E w d ty ps af gd T el agg bytes z x lo hi hT he hx hlo hhi
    exact ⟨by simp only [execOp, Option.map_none, hx, hv, Sem.run_bind, slice_run hT he hlo.val hhi.val h0 h1 h2 hc, Result.andThen_ok, Sem.run_pure]⟩
  rcases hsl with ⟨hn, hxs, a, cap, hv, ha⟩ | ⟨b, off, cap, arr, e, fz, hv, hnc, hg, hcells⟩
  · refine ⟨_, ⟨(xs.take (j.toNat * τ.sz)).drop (i.toNat * τ.sz), hm ▸ hr.sub _ _ (by omega), .inl ⟨by omega, by rw [hxs]; simp, (if cap = i.toNat then a else a.map (·.add (i.toNat * τ.sz))), cap - i.toNat, ?_, ?_⟩⟩, run a cap (by rw [hv, hn]) (by omega)⟩
    · simp only [sliced]; congr 1; omega
    · intro h
      have : a = none := by
        split at h
        · exact h
        · simpa using h
      have := ha this; omega
  · by_cases hij : j.toNat - i.toNat = 0
    · refine ⟨_, ⟨(xs.take (j.toNat * τ.sz)).drop (i.toNat * τ.sz), hm ▸ hr.sub _ _ (by omega), .inl ⟨by omega, ?_, (if cap = i.toNat then some ⟨b, off, none⟩ else (some (⟨b, off, none⟩ : Addr)).map (·.add (i.toNat * τ.sz))), cap - i.toNat, ?_, ?_⟩⟩, run _ cap hv hnc⟩
      · apply List.eq_nil_of_length_eq_zero
        rw [List.length_drop, List.length_take]
        have : j.toNat = i.toNat := by omega
        rw [this]; omega
      · simp only [sliced]; congr 1
      · intro h; split at h <;> simp at h
    · refine ⟨_, ⟨(xs.take (j.toNat * τ.sz)).drop (i.toNat * τ.sz), hm ▸ hr.sub _ _ (by omega), .inr ⟨b, off + i.toNat * τ.sz, cap - i.toNat, arr, e, fz, ?_, by omega, hg, fun q u hu => ?_⟩⟩, run _ cap hv hnc⟩
      · simp only [sliced]; rw [if_neg (by omega), hml]; simp [Addr.add]
      · rw [List.getElem?_drop, List.getElem?_take] at hu
        split at hu
        · have := hcells _ _ hu
          rw [Nat.add_assoc]; exact this
        · cases hu
/-- A row of the call's own is cut short. -/
theorem Sep.rowCut {α : Type} {τ : Ty α} {g0 g : Hp} {w0 w : World} {L : List Res} (h : Sep g0 w0 g w L) {i : Nat} {v : Value} {e : TypeId} {xs : List Value} {l m : List α} (hi : L[i]? = some (.row v e τ.sz l.length xs)) (hr : RowRel τ g xs l) {j : Int} (hs : subL l 0 j = some m) :
    ∃ v' xs', RowRel τ g xs' m ∧ Sep g0 w0 g w (L.set i (.row v' e τ.sz m.length xs')) ∧ ∀ {P : Program} {E : Env} {d : Option Tmp} {ty : TypeId} {ps : String} {af : Array Edge} {gd : Option (Nat × Bool)} {T el : TypeId} {agg : Bool} {bytes : Nat} {z : Value} {x : Operand} {lo hi : Option Operand},
      P.underlying T = some (.slice el) → TyI P el agg τ.sz bytes z → ev E x = v → Bnd E lo 0 0 → Bnd E hi j l.length → Runs P E ⟨d, .slice T x lo hi none, ty, ps, af, gd⟩ w v' w := by
  obtain ⟨_, h1, h2, hm⟩ := subL_some hs
  have hml := sub_len hs
  have hrow := (h.at hi).out
  have hxl : xs.length = l.length * τ.sz := hr.1
  have key : ∀ (a : Option Addr) (cap : Nat), v = .slice a l.length cap → l.length ≤ cap → ∀ {P : Program} {E : Env} {d : Option Tmp} {ty : TypeId} {ps : String} {af : Array Edge} {gd : Option (Nat × Bool)} {T el : TypeId} {agg : Bool} {bytes : Nat} {z : Value} {x : Operand} {lo hi : Option Operand},
      P.underlying T = some (.slice el) → TyI P el agg τ.sz bytes z → ev E x = v → Bnd E lo 0 0 → Bnd E hi j l.length → Runs P E ⟨d, .slice T x lo hi none, ty, ps, af, gd⟩ w (.slice a m.length cap) w := by
    intro a cap hv hc P E d ty ps af gd T el agg bytes z x lo hi hT he hx hlo hhi
    have e : sliced a (0 : Int).toNat j.toNat cap τ.sz = .slice a m.length cap := by
      simp only [sliced, hml]
      congr 1
      split
      · rfl
      · cases a <;> simp [Addr.add]
    exact ⟨by simp only [execOp, Option.map_none, hx, hv, Sem.run_bind, slice_run hT he hlo.val hhi.val (Int.le_refl 0) h1 h2 hc, Result.andThen_ok, Sem.run_pure, e]⟩
  have hrel : RowRel τ g (xs.take (m.length * τ.sz)) m := by
    have := hr.sub 0 j.toNat (by omega)
    rw [hml]
    subst hm
    simpa using this
  rcases hrow.2 with ⟨hv, hn⟩ | ⟨b, cap, cur, hv, hb0, hb, hnc, hcm, hcs, ht⟩
  · refine ⟨.slice none m.length 0, _, hrel, h.upd hi (w' := w) ⟨rfl, rfl, rfl, Nat.le_refl _, fun _ _ _ => rfl⟩ ⟨⟨hrel.1, .inl ⟨?_, ?_⟩⟩⟩ (fun b hb => by simp [Res.blk, Value.ownBlock] at hb), key none 0 (by rw [hv, hn]) (by omega)⟩
    · congr 1; omega
    · omega
  · refine ⟨.slice (some ⟨b, 0, none⟩) m.length cap, _, hrel, h.upd hi (w' := w) ⟨rfl, rfl, rfl, Nat.le_refl _, fun _ _ _ => rfl⟩ ⟨⟨hrel.1, .inr ⟨b, cap, cur, rfl, hb0, hb, by omega, hcm, hcs, ?_⟩⟩⟩ (fun b' hb' => .inl (by rw [hv]; exact hb')), key _ cap hv hnc⟩
    rw [← ht, List.take_take]
    congr 1
    exact (Nat.min_eq_left (Nat.mul_le_mul_right _ (by omega))).symm
end
/-- An element of an array that nobody writes. -/
theorem vecEl {n : Nat} {v : Vec n} {q c : Int} {k : IntKind} {w : World} {b : Nat} (hc : ∀ j u, (v.1.map (Value.int k))[j]? = some u → w.cell? ⟨b, 0 + j, none⟩ = some u) (h : vget v q = some c) :
    ∀ j u, [Value.int k c][j]? = some u → w.cell? ⟨b, 0 + q.toNat * 1 + j, none⟩ = some u := by
  intro j u hj
  cases j with
  | zero =>
    simp at hj; subst hj
    have := hc _ _ (vget_cell (k := k) h)
    simpa using this
  | succ j => simp at hj
/-- An element of an array of strings that nobody writes. -/
theorem sarrEl {l : List Str} {q : Int} {x : Str} {w : World} {b : Nat} (hc : ∀ j u, (l.map encS)[j]? = some u → w.cell? ⟨b, 0 + j, none⟩ = some u) (h : idxL l q = some x) :
    ∀ j u, [encS x][j]? = some u → w.cell? ⟨b, 0 + q.toNat * 1 + j, none⟩ = some u := by
  intro j u hj
  cases j with
  | zero =>
    simp at hj; subst hj
    obtain ⟨h0, h1, h2⟩ := idxL_some h
    have := hc q.toNat (encS x) (by rw [List.getElem?_map, h2]; rfl)
    simpa using this
  | succ j => simp at hj
theorem r_sliceArr {P : Program} {E : Env} {w : World} {d : Option Tmp} {ty : TypeId} {ps : String} {af : Array Edge} {gd : Option (Nat × Bool)} {T el : TypeId} {x : Operand} {b len : Nat} {agg : Bool} {size bytes : Nat} {z : Value} (hT : P.underlying T = some (.array len el)) (he : TyI P el agg size bytes z) (hx : ev E x = .pointer (some ⟨b, 0, none⟩)) :
    Runs P E ⟨d, .slice T x none none none, ty, ps, af, gd⟩ w (.slice (some ⟨b, 0, none⟩) len len) w := .inl (by
  simp [execOp, Instr.sliceAt, hx, run_underlying hT, Instr.sliceBounds, Instr.sureAddr, run_sizeOf he, Addr.add])
/-- A number as a string: its rune. -/
def runeS (n : Int) : Str := (Utf8.encode n).data.toList
theorem r_runeS {P : Program} {E : Env} {w : World} {d : Option Tmp} {ty : TypeId} {ps : String} {af : Array Edge} {gd : Option (Nat × Bool)} {src dst : TypeId} {x : Operand} {k : IntKind} {n : Int} {td : TypeDesc} (hs : P.underlying src = some td) (hd : P.underlying dst = some .string) (hx : ev E x = .int k n) :
    Runs P E ⟨d, .convert src dst x, ty, ps, af, gd⟩ w (encS (runeS n)) w := .inl (by
  simp only [execOp, hx, Sem.run_bind, run_convert_int_string w src dst k n (by rw [hs]; rfl) hd, Result.andThen_ok, Sem.run_pure, encS, runeS])
/-! ### copy -/
def copyL {α : Type} (l m : List α) : List α := m.take l.length ++ l.drop m.length
theorem copyL_length {α : Type} (l m : List α) : (copyL l m).length = l.length := by unfold copyL; rw [List.length_append, List.length_take, List.length_drop]; omega
theorem RowRel.copy {α : Type} {τ : Ty α} (h1 : τ.sz = 1) {g : Hp} {xs ys : List Value} {l m : List α} (h : RowRel τ g xs l) (h' : RowRel τ g ys m) : RowRel τ g (ys.take xs.length ++ xs.drop ys.length) (copyL l m) := by
  have hx := h.1
  have hy := h'.1
  rw [h1, Nat.mul_one] at hx hy
  unfold copyL
  rw [hx, hy]
  refine RowRel.append ?_ ?_
  · have := h'.sub 0 (min l.length m.length) (by omega)
    simp only [h1, Nat.mul_one, List.drop_zero] at this
    have e1 : ys.take (min l.length m.length) = ys.take l.length := by rw [List.take_eq_take_iff]; omega
    have e2 : m.take (min l.length m.length) = m.take l.length := by rw [List.take_eq_take_iff]; omega
    rw [e1, e2] at this; exact this
  · have := h.sub m.length l.length (Nat.le_refl _)
    simp only [h1, Nat.mul_one] at this
    rw [List.take_of_length_le (by omega), List.take_of_length_le (Nat.le_refl _)] at this
    exact this
section
variable {P : Program} {n : Fr} {Q : EPost} {E : Env} {w : World} {ops : Array Oper} {rest : List Oper} {d : Option Tmp} {ty : TypeId} {ps : String} {af : Array Edge} {g0 g : Hp} {w0 : World} {L : List Res}
theorem OW_copy {α : Type} {τ : Ty α} {T el e : TypeId} {agg : Bool} {bytes : Nat} {z : Value} {x y : Operand} {v u : Value} {l m : List α} {xs ys : List Value} {i : Nat} (hT : P.underlying T = some (.slice el)) (he : TyI P el agg 1 bytes z) (h1 : τ.sz = 1)
    (hs : Sep g0 w0 g w L) (hi : L[i]? = some (.row v e τ.sz l.length xs)) (hr : RowRel τ g xs l) (hx : ev E x = v) (hy : ev E y = u) (hu : Src w u m.length ys) (hru : RowRel τ g ys m) (hd : dstOk n d = true)
    (k : ∀ w' xs', RowRel τ g xs' (copyL l m) → Sep g0 w0 g w' (L.set i (.row v e τ.sz (copyL l m).length xs')) → OW P n ops Q rest (updO E d (.int .i64 (min l.length m.length : Nat))) w') :
    OW P n ops Q (⟨d, .call { callee := .builtin .copy, args := #[x, y], argTypes := #[T, T] }, ty, ps, af, none⟩ :: rest) E w := by
  have hrow := (hs.at hi).out
  have hxl : xs.length = l.length := by have := hr.1; rw [h1, Nat.mul_one] at this; exact this
  have hyl : ys.length = m.length := by have := hru.1; rw [h1, Nat.mul_one] at this; exact this
  have hsz : (P.info? el).map (·.size) = some 1 := by obtain ⟨ii, h1, _, h3, _⟩ := he.info; rw [h1]; simp [h3]
  have exec : ∀ {r : Value} {w' : World}, (Builtin.copy_ #[T, T] ty #[v, u]).run P w = .ok r w' → Runs P E ⟨d, .call { callee := .builtin .copy, args := #[x, y], argTypes := #[T, T] }, ty, ps, af, none⟩ w r w' := by
    intro r w' h
    exact ⟨by simp [execOp, resolve, invoke, builtin, hx, hy, h, Result.andThen]⟩
  by_cases hz : min l.length m.length = 0
  · have hnew : RowRel τ g xs (copyL l m) := by
      have := hr.copy h1 hru
      have e : ys.take xs.length ++ xs.drop ys.length = xs := by
        rcases Nat.eq_zero_or_pos l.length with h0 | h0
        · have hxe : xs = [] := List.eq_nil_of_length_eq_zero (by omega)
          rw [hxe]; simp
        · have hye : ys = [] := List.eq_nil_of_length_eq_zero (by omega)
          rw [hye]; simp
      rw [e] at this; exact this
    have hrun : (Builtin.copy_ #[T, T] ty #[v, u]).run P w = .ok (goInt 0) w := by
      obtain ⟨a, cap, rfl⟩ := hs.rowShape hi
      have hn0 : Nat.min m.length l.length = 0 := by rw [← hz]; exact Nat.min_comm _ _
      rcases hu with ⟨rfl, h0, _⟩ | ⟨a', c', rfl, _⟩
      · exact run_copy_none w T T ty el a none l.length cap 0 0 hT hsz (Nat.zero_min _)
      · exact run_copy_none w T T ty el a (some a') l.length cap m.length c' hT hsz hn0
    refine OW_op (exec hrun) hd rfl ?_
    have hs' : Sep g0 w0 g w (L.set i (.row v e τ.sz (copyL l m).length xs)) := by
      have e : L.set i (.row v e τ.sz (copyL l m).length xs) = L := by
        rw [copyL_length]
        obtain ⟨hlt, he'⟩ := List.getElem?_eq_some_iff.1 hi
        rw [← he']; exact List.set_getElem_self hlt
      rw [e]; exact hs
    have := k w xs hnew hs'
    rw [hz] at this
    exact this
  · rcases hrow.2 with ⟨_, hn⟩ | ⟨b, cap, cur, hv, hb0, hb, hnc, hcm, hcs, ht⟩
    · omega
    · rcases hu with ⟨_, h0, _⟩ | ⟨a', c', hu', hsrc⟩
      · omega
      · rw [h1, Nat.mul_one] at hcs ht
        have hcl : cur.toList.length = cap := by rw [Array.length_toList]; exact hcs
        have hcsl : (ys.take l.length).length = Nat.min m.length l.length := by rw [List.length_take, hyl]; exact Nat.min_comm _ _
        have hrun := run_copy_row (P := P) w T T ty el b 0 l.length cap a' m.length c' cur e (ys.take l.length) hT hsz hb hcsl
          (fun j y hj => by
            rw [List.getElem?_take] at hj
            split at hj
            · exact hsrc j y hj
            · cases hj) (by rw [List.length_take, Array.size_eq_length_toList, hcl]; omega) (fun x hx => hru.ones x (List.mem_of_mem_take hx))
        rw [← hv, ← hu'] at hrun
        refine OW_op (exec hrun) hd rfl ?_
        have hl2 : (ys.take l.length).length = min l.length m.length := by rw [List.length_take, hyl]
        have := k (w.setRow b (cur.toList.take 0 ++ ys.take l.length ++ cur.toList.drop (0 + (ys.take l.length).length)).toArray) _ (hr.copy h1 hru) ?_
        · rw [hl2] at this ⊢
          exact this
        · have hnew := hr.copy h1 hru
          refine hs.upd hi (w' := w.setRow b _) ⟨rfl, rfl, rfl, by simp [World.setRow], fun q _ hq => setRow_other w b q _ (fun e => hq (by simp [Res.blk, hv, Value.ownBlock, e]))⟩ ⟨?_⟩ (fun b' hb' => .inl (by simpa [Res.blk] using hb'))
          have hlen : (cur.toList.take 0 ++ ys.take l.length ++ cur.toList.drop (0 + (ys.take l.length).length)).length = cap := by
            simp only [List.length_append, List.length_take, List.length_drop, hcl, hyl]; omega
          refine ⟨hnew.1, .inr ⟨b, cap, _, by rw [copyL_length]; exact hv, hb0, setRow_heap w b cur _ e _ hb, by rw [copyL_length]; exact hnc, hcm, by rw [List.size_toArray, hlen, h1, Nat.mul_one], ?_⟩⟩
          rw [copyL_length, h1, Nat.mul_one]
          simp only [List.take_zero, List.nil_append, Nat.zero_add]
          rw [hxl, hyl, hl2, ← ht, List.take_append, List.length_take, hyl, List.take_of_length_le (l := ys.take l.length) (by rw [List.length_take]; omega)]
          congr 1
          rw [List.drop_take]
          by_cases hlm : m.length ≤ l.length
          · have e2 : min l.length m.length = m.length := by omega
            rw [e2]
          · have e2 : l.length - min l.length m.length = 0 := by omega
            have e3 : l.length - m.length = 0 := by omega
            rw [e2, e3]; simp
end
def max2 (x y : Int) : Int := if y > x then y else x
def min2 (x y : Int) : Int := if y < x then y else x
def max3 (x y z : Int) : Int := max2 (max2 x y) z
def min3 (x y z : Int) : Int := min2 (min2 x y) z
section
variable {P : Program} {E : Env} {w : World} {d : Option Tmp} {ty : TypeId} {ps : String} {af : Array Edge} {gd : Option (Nat × Bool)} {ts : Array TypeId} {x y z : Operand} {k k' k'' : IntKind} {a b c : Int}
theorem r_max2 (hx : ev E x = .int k a) (hy : ev E y = .int k' b) : Runs P E ⟨d, .call { callee := .builtin .max, args := #[x, y], argTypes := ts }, ty, ps, af, gd⟩ w (.int k (max2 a b)) w := .inl (by
  simp [execOp, resolve, invoke, builtin, hx, hy, run_max_int2, max2, Result.andThen])
theorem r_min2 (hx : ev E x = .int k a) (hy : ev E y = .int k' b) : Runs P E ⟨d, .call { callee := .builtin .min, args := #[x, y], argTypes := ts }, ty, ps, af, gd⟩ w (.int k (min2 a b)) w := .inl (by
  simp [execOp, resolve, invoke, builtin, hx, hy, run_min_int2, min2, Result.andThen])
theorem r_min3 (hx : ev E x = .int k a) (hy : ev E y = .int k' b) (hz : ev E z = .int k'' c) : Runs P E ⟨d, .call { callee := .builtin .min, args := #[x, y, z], argTypes := ts }, ty, ps, af, gd⟩ w (.int k (min3 a b c)) w := .inl (by
  simp [execOp, resolve, invoke, builtin, hx, hy, hz, run_min_int3, Result.andThen]
  rfl)
end
theorem sub_at {cs pre ds post : List Value} {o j : Nat} {u : Value} (hl : pre.length = o) (e : cs = pre ++ (ds ++ post)) (hj : ds[j]? = some u) : cs[o + j]? = some u := by
  subst e; subst hl
  have hjl : j < ds.length := (List.getElem?_eq_some_iff.1 hj).1
  rw [List.getElem?_append_right (by omega), Nat.add_sub_cancel_left, List.getElem?_append_left hjl]
  exact hj
/-- Blocks of the call's own were shown to another call, which answers with new blocks. -/
theorem Sep.lentOwn {g0 g : Hp} {w0 w : World} {L L' : List Res} (h : Sep g0 w0 g w L) {g1 g1' : Hp} {w' : World} (he : Sep g1 w g1' w' L') : ∃ g', Hle g g' ∧ Sep g0 w0 g' w' (L' ++ L) := by
  have hx : Ext g w (fun k => if k < w.heap.size then g k else g1' k) w' := by
    refine ⟨he.ext.below, fun b hb => if_pos hb, fun b o hb => ?_⟩
    split at hb
    · rename_i hlt
      have := h.imm b o hb
      rw [he.ext.below.block b hlt]; exact this
    · exact he.imm b o hb
  refine ⟨_, hx.le h.imm, h.callOwn (L' := L') ⟨hx, he.ok, fun r hr b hb => ?_, he.apart⟩⟩
  have := he.fresh r hr b hb
  refine ⟨this.1, ?_⟩
  show (if b < w.heap.size then g b else g1' b) = none
  rw [if_neg (by omega)]; exact this.2
theorem RowRel.flat {α : Type} {τ : Ty α} (hτ : ∀ g g' cs x, τ.rel g cs x → τ.rel g' cs x) {g g' : Hp} {xs : List Value} {l : List α} (h : RowRel τ g xs l) : RowRel τ g' xs l := ⟨h.1, fun i x hx => hτ _ _ _ _ (h.2 i x hx)⟩
/-- A guarded operation that is wanted is carried out as one without a guard. -/
theorem OW_g {P : Program} {n : Fr} {Q : EPost} {E : Env} {w : World} {ops : Array Oper} {rest : List Oper} {d : Option Tmp} {op : Op} {ty : TypeId} {ps : String} {af : Array Edge} {d0 : Tmp} {j : Nat} {want b : Bool} {oj : Oper} (hj : ops[j]? = some oj) (hdj : oj.dst = some d0) (hb : ev E (.tmp d0) = .bool b) (hne : (b == want) = true)
    (h : OW P n ops Q (⟨d, op, ty, ps, af, none⟩ :: rest) E w) : OW P n ops Q (⟨d, op, ty, ps, af, some (j, want)⟩ :: rest) E w := by
  intro a ha
  have h := h a ha
  have hy := yielded_of ha hj hdj hb
  unfold wpListIn at h ⊢
  rw [if_pos (wanted_none rfl)] at h
  rw [if_pos (by simp only [Region.wanted, hy]; simpa using hne)]
  exact h
/-- A package variable that nobody writes. -/
def GBox (b : Nat) (cs : List Value) (g : Hp) : Prop := ∃ (arr : Array Value) (T : TypeId) (fz : Nat × Nat), g b = some (.cells arr T fz) ∧ ∀ (j : Nat) (u : Value), cs[j]? = some u → arr[j]? = some u
theorem GBox.mono {b : Nat} {cs : List Value} {g g' : Hp} (h : GBox b cs g) (hg : Hle g g') : GBox b cs g' := let ⟨arr, T, fz, h1, h2⟩ := h; ⟨arr, T, fz, hg _ _ h1, h2⟩
theorem GBox.cells {b : Nat} {cs : List Value} {g : Hp} {w : World} (h : GBox b cs g) (hi : Imm g w) : ∀ j u, cs[j]? = some u → w.cell? ⟨b, 0 + j, none⟩ = some u := fun j u hj => by
  obtain ⟨arr, T, fz, h1, h2⟩ := h
  have := hi b _ h1
  simp [World.cell?, this, h2 j u hj]
/-- All of an array of strings, as a slice. -/
theorem GBox.strs {b : Nat} {l : List Str} {g : Hp} (h : GBox b (l.map encS) g) : RdS tStr g (.slice (some ⟨b, 0, none⟩) l.length l.length) l := by
  obtain ⟨arr, T, fz, h1, h2⟩ := h
  refine ⟨l.map encS, ⟨by simp [tStr], fun i x hx => ?_⟩, .inr ⟨b, 0, l.length, arr, T, fz, rfl, Nat.le_refl _, h1, fun j u hj => by rw [Nat.zero_add]; exact h2 j u hj⟩⟩
  show (List.drop (i * 1) _).take 1 = [encS x]
  obtain ⟨hl, rfl⟩ := List.getElem?_eq_some_iff.1 hx
  rw [Nat.mul_one, List.drop_eq_getElem_cons (by simpa using hl)]
  simp
end Go.Lx
