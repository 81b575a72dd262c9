/- Lx, part 1: frames as functions of the slot, control rules, calls. Generic over the program. -/
import Derived.WalkKit
import Derived.StillTailTactics
import Derived.Laws.AppendOwn
import Derived.Below
namespace Go.Lx
open Go.RowKit

abbrev Env := Nat → Value
def upd (E : Env) (k : Nat) (v : Value) : Env := fun t => bif Nat.beq t k then v else E t
def updO (E : Env) : Option Tmp → Value → Env
  | some d, v => upd E d v
  | none, _ => E
def ev (E : Env) : Operand → Value
  | .tmp t => E t
  | .const v => v
  | .global g => .pointer (some ⟨g, 0, none⟩)
  | .func f => .func (.func f) #[] #[]

theorem upd_self {E : Env} {k : Nat} {v : Value} (h : E k = v) : upd E k v = E := by
  funext t
  unfold upd
  cases hb : Nat.beq t k
  · rfl
  · have := Nat.eq_of_beq_eq_true hb; subst this; exact h.symm
theorem open1 {E : Env} {k : Nat} {v : Value} (h : E k = v) : ∃ E0, E = upd E0 k v := ⟨E, (upd_self h).symm⟩

structure Fits (n : Nat) (E : Env) (a : Act) : Prop where
  defers : a.defers = []
  size : a.tmps.size = n
  get : ∀ t, a.tmps.getD t undef = E t

theorem Fits.eval {n : Nat} {E : Env} {a : Act} (h : Fits n E a) : a.eval = ev E := by
  funext x
  cases x with
  | tmp t => exact h.get t
  | _ => rfl

def dstOk (n : Nat) : Option Tmp → Bool
  | some d => Nat.blt d n
  | none => true

theorem Fits.put {n : Nat} {E : Env} {a : Act} (h : Fits n E a) {d : Option Tmp} (hd : dstOk n d = true) (v : Value) : Fits n (updO E d v) (a.put d v) := by
  cases d with
  | none => exact h
  | some d =>
    have hd' : d < n := Nat.le_of_ble_eq_true hd
    refine ⟨h.defers, by simp [Act.put, h.size], fun t => ?_⟩
    simp only [Act.put, updO, upd]
    cases hb : Nat.beq t d
    · have hne : ¬ d = t := fun e => by subst e; simp at hb
      have := h.get t
      simp only [cond_false, ← this, Array.getD_eq_getD_getElem?, Array.getElem?_setIfInBounds_ne hne]
    · have := Nat.eq_of_beq_eq_true hb
      subst this
      have hs := h.size
      simp [Array.getD_eq_getD_getElem?, hs, hd']

/-- The frame at a call: the arguments, then nothing. -/
def argEnv (args : List Value) : Env := fun t => args.getD t undef
theorem fits_args (args : List Value) (n : Nat) (h : args.length ≤ n) : Fits n (argEnv args) ⟨args.toArray ++ Array.replicate (n - args.toArray.size) undef, []⟩ := by
  refine ⟨rfl, by simp; omega, fun t => ?_⟩
  simp only [argEnv, Array.getD_eq_getD_getElem?, List.getD_eq_getElem?_getD]
  by_cases ht : t < args.length
  · simp [Array.getElem?_append, ht]
  · by_cases h2 : t - args.length < n - args.length
    · simp [Array.getElem?_append, ht, h2]
    · simp [Array.getElem?_append, ht, h2]

abbrev EPost := Exit → Env → World → Prop
def lift (n : Nat) (Q : EPost) : Exit → Act → World → Prop := fun e a w => ∃ E, Fits n E a ∧ Q e E w
def WP (P : Program) (n : Nat) (c : Code) (Q : EPost) (E : Env) (w : World) : Prop :=
  ∀ a, Fits n E a → c.wp P (lift n Q) a w

def EThen (R : Env → World → Prop) (Q : EPost) : EPost := fun e E w => match e with
  | .normal => R E w
  | e => Q e E w
def EBlock (id : Nat) (Q : EPost) : EPost := fun e E w => match e with
  | .exit i => if i = id then Q .normal E w else Q (.exit i) E w
  | e => Q e E w

section
variable {P : Program} {n : Nat} {Q : EPost} {E : Env} {w : World}

theorem WP.mono {c : Code} {Q' : EPost} (h : WP P n c Q E w) (hq : ∀ e E w, Q e E w → Q' e E w) : WP P n c Q' E w :=
  fun a ha => wp_mono (h a ha) fun e _ w ⟨E, f, q⟩ => ⟨E, f, hq e E w q⟩
theorem WP_skip (h : Q .normal E w) : WP P n .skip Q E w := fun _ ha => wp_skip ⟨E, ha, h⟩
theorem WP_exit {id : Nat} (h : Q (.exit id) E w) : WP P n (.exit id) Q E w := fun _ ha => wp_exit ⟨E, ha, h⟩
theorem WP_ret (h : Q .ret E w) : WP P n .ret Q E w := fun _ ha => wp_ret ⟨E, ha, h⟩
theorem WP_seq {x y : Code} (h : WP P n x (EThen (WP P n y Q) Q) E w) : WP P n (.seq x y) Q E w :=
  fun a ha => wp_seq (wp_mono (h a ha) fun e a' w' hq => by
    obtain ⟨E', f, q⟩ := hq
    cases e with
    | normal => exact q a' f
    | _ => exact ⟨E', f, q⟩)
/-- Sequence with an assertion between. -/
theorem WP_cut {x y : Code} (R : Env → World → Prop) (h : WP P n x (EThen R Q) E w) (h2 : ∀ E w, R E w → WP P n y Q E w) : WP P n (.seq x y) Q E w :=
  WP_seq (h.mono fun e E w q => by
    cases e with
    | normal => exact h2 E w q
    | _ => exact q)
theorem WP_block {id : Nat} {c : Code} (h : WP P n c (EBlock id Q) E w) : WP P n (.block id c) Q E w :=
  fun a ha => wp_block (wp_mono (h a ha) fun e a' w' hq => by
    obtain ⟨E', f, q⟩ := hq
    cases e with
    | exit i =>
      simp only [EBlock] at q
      simp only [Exit.inBlock]
      split
      · rename_i hi; rw [if_pos hi] at q; exact ⟨E', f, q⟩
      · rename_i hi; rw [if_neg hi] at q; exact ⟨E', f, q⟩
    | _ => exact ⟨E', f, q⟩)
theorem WP_true {c : Operand} {x y : Code} {b : Bool} (hc : ev E c = .bool b) (hb : b = true) (h : WP P n x Q E w) : WP P n (.cond c x y) Q E w :=
  fun a ha => wp_cond (t := true) (by rw [ha.eval, hc, hb]) (h a ha)
theorem WP_false {c : Operand} {x y : Code} {b : Bool} (hc : ev E c = .bool b) (hb : b = false) (h : WP P n y Q E w) : WP P n (.cond c x y) Q E w :=
  fun a ha => wp_cond (t := false) (by rw [ha.eval, hc, hb]) (h a ha)

inductive Step (σ ρ : Type) where
  | next (s : σ)
  | stop (r : ρ)
def loopM {σ ρ : Type} (body : σ → Option (Step σ ρ)) : Nat → σ → Option ρ
  | 0, _ => none
  | k + 1, s => match body s with
    | some (.next s') => loopM body k s'
    | some (.stop r) => some r
    | none => none

/-- What a round of a loop owes: behind 'next' the invariant; behind 'stop' what the loop owes. -/
def LQ {σ ρ : Type} (I : σ → Env → World → Prop) (r : ρ) (Q : EPost) (o : Step σ ρ) : EPost := fun e E w => match e with
  | .panic _ => False
  | .outgrown => False
  | .normal => (match o with
    | .next s => I s E w
    | .stop _ => False)
  | e => (match o with
    | .next _ => False
    | .stop r' => r' = r → Q e E w)

theorem WP_loop {σ ρ : Type} {c : Code} {bodyM : σ → Option (Step σ ρ)} (I : σ → Env → World → Prop) {k : Nat} {s : σ} {r : ρ} (hM : loopM bodyM k s = some r) (h0 : I s E w)
    (round : ∀ s o E w, bodyM s = some o → I s E w → WP P n c (LQ I r Q o) E w) : WP P n (.loop c) Q E w := by
  intro a ha
  refine wp_loop_rounds k ?_
  induction k generalizing s E w a with
  | zero => simp [loopM] at hM
  | succ k ih =>
    rw [rounds_succ]
    simp only [loopM] at hM
    cases hb : bodyM s with
    | none => rw [hb] at hM; simp at hM
    | some o =>
      rw [hb] at hM
      refine wp_mono (round s o E w hb h0 a ha) ?_
      rintro e a' w' ⟨E', f', q⟩
      cases o with
      | next s' => cases e <;> first | exact ih hM q a' f' | exact q.elim
      | stop r' =>
        have hr : r' = r := by simpa using hM
        cases e <;> first | exact q.elim | exact ⟨E', f', q hr⟩

/-! ### A region's operations -/
def OW (P : Program) (n : Nat) (ops : Array Oper) (Q : EPost) (l : List Oper) (E : Env) (w : World) : Prop :=
  ∀ a, Fits n E a → wpList P ops (lift n Q) l a w

/-- What an operation gives: a value and a world. -/
structure Runs (P : Program) (E : Env) (o : Oper) (w : World) (v : Value) (w' : World) : Prop where
  inl ::
  out : (execOp (ev E) o).run P w = .ok (.value v) w'
/-- An operation without a value. -/
structure RunsU (P : Program) (E : Env) (o : Oper) (w : World) (w' : World) : Prop where
  inl ::
  out : (execOp (ev E) o).run P w = .ok .skip w'

theorem WP_region {id : Nat} {l : List Oper} (h : OW P n l.toArray Q l E w) : WP P n (.region id l.toArray false) Q E w :=
  fun a ha => wp_region_lit (h a ha)
theorem OW_nil {ops : Array Oper} (h : Q .normal E w) : OW P n ops Q [] E w := fun _ ha => ⟨E, ha, h⟩

theorem wanted_none {o : Oper} {y : Nat → Option Bool} (hg : o.guard = none) : Region.wanted o y = true := by simp [Region.wanted, hg]

theorem OW_op {ops : Array Oper} {o : Oper} {rest : List Oper} {v : Value} {w' : World} (hr : Runs P E o w v w') (hd : dstOk n o.dst = true) (hg : o.guard = none)
    (k : OW P n ops Q rest (updO E o.dst v) w') : OW P n ops Q (o :: rest) E w := by
  intro a ha
  refine wpList_plain hg fun K hK => ?_
  have hk := hK _ _ (k _ (ha.put hd v))
  unfold Oper.wp
  rw [ha.eval]
  rw [hr.out]; exact hk

theorem OW_opU {ops : Array Oper} {o : Oper} {rest : List Oper} {w' : World} (hr : RunsU P E o w w') (hd : o.dst = none) (hg : o.guard = none)
    (k : OW P n ops Q rest E w') : OW P n ops Q (o :: rest) E w := by
  intro a ha
  refine wpList_plain hg fun K hK => ?_
  have hk := hK _ _ (k _ ha)
  unfold Oper.wp
  rw [ha.eval, hr.out]
  show K (a.put o.dst undef) w'
  rw [hd]
  exact hk

/-- A guarded operation that is not wanted. -/
theorem yielded_of {ops : Array Oper} {a : Act} (ha : Fits n E a) {j : Nat} {oj : Oper} {d : Tmp} {b : Bool} (hj : ops[j]? = some oj) (hd : oj.dst = some d) (hb : E d = .bool b) : yielded ops a.tmps j = some b := by
  have := ha.get d
  rw [hb, Array.getD_eq_getD_getElem?] at this
  unfold yielded
  simp only [hj, Option.bind_some, hd]
  cases hx : a.tmps[d]? with
  | none => rw [hx] at this; simp [undef] at this
  | some x => rw [hx] at this; simp at this; subst this; rfl
theorem OW_skip {ops : Array Oper} {o : Oper} {rest : List Oper} {j : Nat} {want : Bool} {oj : Oper} {d : Tmp} {b : Bool} (hg : o.guard = some (j, want)) (hj : ops[j]? = some oj) (hdj : oj.dst = some d)
    (hb : ev E (.tmp d) = .bool b) (hne : (b == want) = false) (hd : dstOk n o.dst = true) (k : OW P n ops Q rest (updO E o.dst undef) w) : OW P n ops Q (o :: rest) E w := by
  intro a ha
  refine wpList_step fun K hK => ?_
  have hy := yielded_of ha hj hdj hb
  rw [if_neg (by simp only [Region.wanted, hg, hy]; intro h; simp at h; simp [h] at hne)]
  exact hK _ _ (k _ (ha.put hd undef))
theorem OW_take {ops : Array Oper} {o : Oper} {rest : List Oper} {j : Nat} {want : Bool} {oj : Oper} {d : Tmp} {b : Bool} {v : Value} {w' : World} (hg : o.guard = some (j, want)) (hj : ops[j]? = some oj) (hdj : oj.dst = some d)
    (hb : ev E (.tmp d) = .bool b) (hne : (b == want) = true) (hr : Runs P E o w v w') (hd : dstOk n o.dst = true) (k : OW P n ops Q rest (updO E o.dst v) w') : OW P n ops Q (o :: rest) E w := by
  intro a ha
  refine wpList_step fun K hK => ?_
  have hy := yielded_of ha hj hdj hb
  rw [if_pos (by simp only [Region.wanted, hg, hy]; simpa using hne)]
  have hk := hK _ _ (k _ (ha.put hd v))
  unfold Oper.wp
  rw [ha.eval]
  rw [hr.out]; exact hk

/-- A call of a function with a body. -/
def CallsV (P : Program) (f : FuncId) (args : Array Value) (w : World) (R : Value → World → Prop) : Prop :=
  Calls P f args w fun e w' => ∃ v, e = .returned v ∧ R v w'
theorem OW_call {ops : Array Oper} {o : Oper} {rest : List Oper} {f : FuncId} {args : Array Value} {R : Value → World → Prop}
    (hr : (execOp (ev E) o).run P w = .ok (.enter f args) w) (hd : dstOk n o.dst = true) (hg : o.guard = none) (hc : CallsV P f args w R)
    (k : ∀ v w', R v w' → OW P n ops Q rest (updO E o.dst v) w') : OW P n ops Q (o :: rest) E w := by
  intro a ha
  refine wpList_plain hg fun K hK => ?_
  unfold Oper.wp
  rw [ha.eval, hr]
  refine hc.mono fun e w' ⟨v, he, hR⟩ => ?_
  subst he
  exact hK _ _ (k v w' hR _ (ha.put hd v))
theorem OW_callG {ops : Array Oper} {o : Oper} {rest : List Oper} {f : FuncId} {args : Array Value} {R : Value → World → Prop} {j : Nat} {want : Bool} {oj : Oper} {d : Tmp} {b : Bool}
    (hg : o.guard = some (j, want)) (hj : ops[j]? = some oj) (hdj : oj.dst = some d) (hb : ev E (.tmp d) = .bool b) (hne : (b == want) = true)
    (hr : (execOp (ev E) o).run P w = .ok (.enter f args) w) (hd : dstOk n o.dst = true) (hc : CallsV P f args w R)
    (k : ∀ v w', R v w' → OW P n ops Q rest (updO E o.dst v) w') : OW P n ops Q (o :: rest) E w := by
  intro a ha
  refine wpList_step fun K hK => ?_
  have hy := yielded_of ha hj hdj hb
  rw [if_pos (by simp only [Region.wanted, hg, hy]; simpa using hne)]
  unfold Oper.wp
  rw [ha.eval, hr]
  refine hc.mono fun e w' ⟨v, he, hR⟩ => ?_
  subst he
  exact hK _ _ (k v w' hR _ (ha.put hd v))

/-! ### A region that draws its order: a quiet head, in the order of the text; then the rest, which the edges chain. -/
def SW (P : Program) (n : Nat) (ops : Array Oper) (w : World) (Q : Env → Prop) (l : List Oper) (E : Env) : Prop :=
  ∀ a, Fits n E a → wpStill P ops w (fun a' => ∃ E', Fits n E' a' ∧ Q E') l a
theorem SW_nil {ops : Array Oper} {Q : Env → Prop} (h : Q E) : SW P n ops w Q [] E := fun _ ha => ⟨E, ha, h⟩
theorem SW_op {ops : Array Oper} {Q : Env → Prop} {o : Oper} {rest : List Oper} {v : Value} (hr : Runs P E o w v w) (hd : dstOk n o.dst = true) (hg : o.guard = none)
    (k : SW P n ops w Q rest (updO E o.dst v)) : SW P n ops w Q (o :: rest) E := by
  intro a ha
  unfold wpStill
  rw [if_pos (wanted_none hg)]
  have hk := k _ (ha.put hd v)
  unfold Oper.still
  rw [ha.eval]
  rw [hr.out, Oper.stillUpon_value]; exact hk
theorem SW_skip {ops : Array Oper} {Q : Env → Prop} {o : Oper} {rest : List Oper} {j : Nat} {want : Bool} {oj : Oper} {d : Tmp} {b : Bool} (hg : o.guard = some (j, want)) (hj : ops[j]? = some oj) (hdj : oj.dst = some d)
    (hb : ev E (.tmp d) = .bool b) (hne : (b == want) = false) (hd : dstOk n o.dst = true) (k : SW P n ops w Q rest (updO E o.dst undef)) : SW P n ops w Q (o :: rest) E := by
  intro a ha
  have hy := yielded_of ha hj hdj hb
  unfold wpStill
  rw [if_neg (by simp only [Region.wanted, hg, hy]; intro h; simp at h; simp [h] at hne)]
  exact k _ (ha.put hd undef)
theorem SW_take {ops : Array Oper} {Q : Env → Prop} {o : Oper} {rest : List Oper} {j : Nat} {want : Bool} {oj : Oper} {d : Tmp} {b : Bool} {v : Value} (hg : o.guard = some (j, want)) (hj : ops[j]? = some oj) (hdj : oj.dst = some d)
    (hb : ev E (.tmp d) = .bool b) (hne : (b == want) = true) (hr : Runs P E o w v w) (hd : dstOk n o.dst = true) (k : SW P n ops w Q rest (updO E o.dst v)) : SW P n ops w Q (o :: rest) E := by
  intro a ha
  have hy := yielded_of ha hj hdj hb
  unfold wpStill
  rw [if_pos (by simp only [Region.wanted, hg, hy]; simpa using hne)]
  have hk := k _ (ha.put hd v)
  unfold Oper.still
  rw [ha.eval]
  rw [hr.out, Oper.stillUpon_value]; exact hk
/-- A quiet call in a quiet region: it leaves the world alone. -/
theorem SW_call {ops : Array Oper} {Q : Env → Prop} {o : Oper} {rest : List Oper} {f : FuncId} {args : Array Value} {v : Value}
    (hr : (execOp (ev E) o).run P w = .ok (.enter f args) w) (hd : dstOk n o.dst = true) (hg : o.guard = none) (hc : CallsV P f args w (fun v' w' => v' = v ∧ w' = w))
    (k : SW P n ops w Q rest (updO E o.dst v)) : SW P n ops w Q (o :: rest) E := by
  intro a ha
  unfold wpStill
  rw [if_pos (wanted_none hg)]
  have hk := k _ (ha.put hd v)
  unfold Oper.still
  rw [ha.eval, hr]
  exact ⟨rfl, v, hc.mono (by rintro e w' ⟨v', rfl, rfl, rfl⟩; exact ⟨rfl, rfl⟩), hk⟩

theorem still_mono {ops : Array Oper} {Q Q' : Act → Prop} (hq : ∀ a, Q a → Q' a) : ∀ (l : List Oper) (a : Act), wpStill P ops w Q l a → wpStill P ops w Q' l a
  | [], a, h => hq a h
  | o :: l, a, h => by
    unfold wpStill at *
    split
    · rename_i hw; rw [if_pos hw] at h; exact Oper.still_mono (fun a' h' => still_mono hq l a' h') h
    · rename_i hw; rw [if_neg hw] at h; exact still_mono hq l _ h
theorem SW.mono {ops : Array Oper} {Q Q' : Env → Prop} {l : List Oper} (h : SW P n ops w Q l E) (hq : ∀ E, Q E → Q' E) : SW P n ops w Q' l E :=
  fun a ha => still_mono (fun _ ⟨E', f, q⟩ => ⟨E', f, hq _ q⟩) l a (h a ha)

theorem WP_draw {id : Nat} {l : List Oper} (hm : P.follows .mixedOrders = true) (hB : Region.lexB .any l.toArray = true)
    (h : SW P n l.toArray w.drew (fun E' => Q .normal E' w.drew) l E) : WP P n (.region id l.toArray true) Q E w :=
  fun a ha => wp_region_still_lit hm hB (h a ha)
theorem WP_drawTail {id : Nat} {l : List Oper} (m : Nat) (hm : P.follows .mixedOrders = true) (hB : Region.lexTailB .any l.toArray m = true)
    (h : SW P n l.toArray w.drew (fun E' => OW P n l.toArray Q (l.drop m) E' w.drew) (l.take m) E) : WP P n (.region id l.toArray true) Q E w :=
  fun a ha => wp_region_still_tail m hm hB (still_mono (fun a' ⟨_, f, q⟩ => q a' f) _ _ (h a ha))

/-! ### The body of a function -/
def ResIs (P : Program) (fn : Func) (n : Nat) (E : Env) (w : World) (v : Value) : Prop := ∀ a, Fits n E a → (results fn a.tmps).run P w = .ok v w
def FQ (P : Program) (fn : Func) (n : Nat) (R : Value → World → Prop) : EPost := fun e E w => match e with
  | .normal | .ret => ∃ v, ResIs P fn n E w v ∧ R v w
  | _ => False
theorem calls_of_WP {f : FuncId} {fn : Func} {c : Code} {args : List Value} {R : Value → World → Prop} (hf : P.funcs[f]? = some fn) (hb : fn.body = some c) (hn : fn.ntmps = n) (hl : Nat.ble args.length n = true)
    (h : WP P n c (FQ P fn n R) (argEnv args) w) : CallsV P f args.toArray w R := by
  subst hn
  refine calls_of_wp hf hb ?_
  refine wp_mono (h _ (fits_args args _ (Nat.le_of_ble_eq_true hl))) ?_
  rintro e a w ⟨E, hfit, q⟩
  cases e <;> first
    | exact q.elim
    | (obtain ⟨v, hr, hR⟩ := q; exact ⟨hfit.defers, v, hr a hfit, v, rfl, hR⟩)
end

theorem res_tmp {P : Program} {fn : Func} {n : Nat} {E : Env} {w : World} {t : Tmp} {v : Value} (h : fn.results = #[.tmp t]) (hv : ev E (.tmp t) = v) : ResIs P fn n E w v := by
  intro a ha
  rw [results_tmp h, ha.get t]
  exact congrArg (fun x => Result.ok x w) hv
theorem res_none {P : Program} {fn : Func} {n : Nat} {E : Env} {w : World} (h : fn.results = #[]) : ResIs P fn n E w (.tuple #[]) := fun a _ => results_none h a.tmps P w
theorem bindS {α β : Type} {o : Option α} {f : α → Option β} {r : β} (h : o.bind f = some r) : ∃ a, o = some a ∧ f a = some r := Option.bind_eq_some_iff.1 h
theorem condS {α : Type} {c : Bool} {x y : Option α} {r : α} (h : (bif c then x else y) = some r) : (c = true ∧ x = some r) ∨ (c = false ∧ y = some r) := by cases c <;> simp_all
end Go.Lx
