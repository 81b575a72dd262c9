/- Lx, part 1: frames as functions of the slot, control rules, calls. Generic over the program. -/
import Derived.WalkKit
import Derived.StillTailTactics
import Derived.Laws.AppendOwn
import Derived.Below
import Derived.TacticsIn
import Derived.OrdersIn
import Derived.LoopNIn
import Derived.RangeFuncRecord
namespace Go.Lx
open Go.RowKit

/-- The slots of a frame, and its deferred calls. -/
structure Env where
  s : Nat → Value
  ds : List Deferred
instance : CoeFun Env (fun _ => Nat → Value) := ⟨Env.s⟩
def upd (E : Env) (k : Nat) (v : Value) : Env := ⟨fun t => bif Nat.beq t k then v else E.s t, E.ds⟩
def updO (E : Env) : Option Tmp → Value → Env
  | some d, v => upd E d v
  | none, _ => E
def ev (E : Env) : Operand → Value
  | .tmp t => E.s t
  | .const v => v
  | .global g => .pointer (some ⟨g, 0, none⟩)
  | .func f => .func (.func f) #[] #[]

theorem upd_self {E : Env} {k : Nat} {v : Value} (h : E k = v) : upd E k v = E := by
  cases E with
  | mk s ds =>
    simp only [upd, Env.mk.injEq, and_true]
    funext t
    cases hb : Nat.beq t k
    · rfl
    · have := Nat.eq_of_beq_eq_true hb; subst this; exact h.symm
theorem open1 {E : Env} {k : Nat} {v : Value} (h : E k = v) : ∃ E0, E = upd E0 k v := ⟨E, (upd_self h).symm⟩
theorem open2 {E : Env} {k1 : Nat} {v1 : Value} (h1 : E k1 = v1) {k2 : Nat} {v2 : Value} (h2 : E k2 = v2) : ∃ E0, E = upd (upd E0 k2 v2) k1 v1 := ⟨E, by rw [upd_self h2, upd_self h1]⟩
theorem open3 {E : Env} {k1 : Nat} {v1 : Value} (h1 : E k1 = v1) {k2 : Nat} {v2 : Value} (h2 : E k2 = v2) {k3 : Nat} {v3 : Value} (h3 : E k3 = v3) : ∃ E0, E = upd (upd (upd E0 k3 v3) k2 v2) k1 v1 := ⟨E, by rw [upd_self h3, upd_self h2, upd_self h1]⟩
theorem open4 {E : Env} {k1 : Nat} {v1 : Value} (h1 : E k1 = v1) {k2 : Nat} {v2 : Value} (h2 : E k2 = v2) {k3 : Nat} {v3 : Value} (h3 : E k3 = v3) {k4 : Nat} {v4 : Value} (h4 : E k4 = v4) : ∃ E0, E = upd (upd (upd (upd E0 k4 v4) k3 v3) k2 v2) k1 v1 := ⟨E, by rw [upd_self h4, upd_self h3, upd_self h2, upd_self h1]⟩
theorem open5 {E : Env} {k1 : Nat} {v1 : Value} (h1 : E k1 = v1) {k2 : Nat} {v2 : Value} (h2 : E k2 = v2) {k3 : Nat} {v3 : Value} (h3 : E k3 = v3) {k4 : Nat} {v4 : Value} (h4 : E k4 = v4) {k5 : Nat} {v5 : Value} (h5 : E k5 = v5) : ∃ E0, E = upd (upd (upd (upd (upd E0 k5 v5) k4 v4) k3 v3) k2 v2) k1 v1 := ⟨E, by rw [upd_self h5, upd_self h4, upd_self h3, upd_self h2, upd_self h1]⟩
theorem open6 {E : Env} {k1 : Nat} {v1 : Value} (h1 : E k1 = v1) {k2 : Nat} {v2 : Value} (h2 : E k2 = v2) {k3 : Nat} {v3 : Value} (h3 : E k3 = v3) {k4 : Nat} {v4 : Value} (h4 : E k4 = v4) {k5 : Nat} {v5 : Value} (h5 : E k5 = v5) {k6 : Nat} {v6 : Value} (h6 : E k6 = v6) : ∃ E0, E = upd (upd (upd (upd (upd (upd E0 k6 v6) k5 v5) k4 v4) k3 v3) k2 v2) k1 v1 := ⟨E, by rw [upd_self h6, upd_self h5, upd_self h4, upd_self h3, upd_self h2, upd_self h1]⟩
theorem open7 {E : Env} {k1 : Nat} {v1 : Value} (h1 : E k1 = v1) {k2 : Nat} {v2 : Value} (h2 : E k2 = v2) {k3 : Nat} {v3 : Value} (h3 : E k3 = v3) {k4 : Nat} {v4 : Value} (h4 : E k4 = v4) {k5 : Nat} {v5 : Value} (h5 : E k5 = v5) {k6 : Nat} {v6 : Value} (h6 : E k6 = v6) {k7 : Nat} {v7 : Value} (h7 : E k7 = v7) : ∃ E0, E = upd (upd (upd (upd (upd (upd (upd E0 k7 v7) k6 v6) k5 v5) k4 v4) k3 v3) k2 v2) k1 v1 := ⟨E, by rw [upd_self h7, upd_self h6, upd_self h5, upd_self h4, upd_self h3, upd_self h2, upd_self h1]⟩
theorem open8 {E : Env} {k1 : Nat} {v1 : Value} (h1 : E k1 = v1) {k2 : Nat} {v2 : Value} (h2 : E k2 = v2) {k3 : Nat} {v3 : Value} (h3 : E k3 = v3) {k4 : Nat} {v4 : Value} (h4 : E k4 = v4) {k5 : Nat} {v5 : Value} (h5 : E k5 = v5) {k6 : Nat} {v6 : Value} (h6 : E k6 = v6) {k7 : Nat} {v7 : Value} (h7 : E k7 = v7) {k8 : Nat} {v8 : Value} (h8 : E k8 = v8) : ∃ E0, E = upd (upd (upd (upd (upd (upd (upd (upd E0 k8 v8) k7 v7) k6 v6) k5 v5) k4 v4) k3 v3) k2 v2) k1 v1 := ⟨E, by rw [upd_self h8, upd_self h7, upd_self h6, upd_self h5, upd_self h4, upd_self h3, upd_self h2, upd_self h1]⟩

/-- What make a frame is of: how many slots; the loop whose round it runs. -/
structure Fr where
  sz : Nat
  ro : Option Nat
abbrev Fz (n : Fr) : Fence := { fn := fun _ => True, depth := none, alive := false, round := n.ro }

structure Fits (n : Fr) (E : Env) (a : Act) : Prop where
  defers : a.defers = E.ds
  size : a.tmps.size = n.sz
  get : ∀ t, a.tmps.getD t undef = E t

theorem Fits.eval {n : Fr} {E : Env} {a : Act} (h : Fits n E a) : a.eval = ev E := by
  funext x
  cases x with
  | tmp t => exact h.get t
  | _ => rfl

def dstOk (n : Fr) : Option Tmp → Bool
  | some d => Nat.blt d n.sz
  | none => true

theorem Fits.put {n : Fr} {E : Env} {a : Act} (h : Fits n E a) {d : Option Tmp} (hd : dstOk n d = true) (v : Value) : Fits n (updO E d v) (a.put d v) := by
  cases d with
  | none => exact h
  | some d =>
    have hd' : d < n.sz := Nat.le_of_ble_eq_true hd
    refine ⟨h.defers, by simp [Act.put, h.size], fun t => ?_⟩
    simp only [Act.put, updO, upd]
    cases hb : Nat.beq t d
    · have hne : ¬ d = t := fun e => by subst e; simp at hb
      have := h.get t
      simp only [cond_false, ← this, Array.getD_eq_getD_getElem?, Array.getElem?_setIfInBounds_ne hne]
    · have := Nat.eq_of_beq_eq_true hb
      subst this
      have hs := h.size
      simp [Array.getD_eq_getD_getElem?, hs, hd']
theorem Fits.same {n : Fr} {E : Env} {a : Act} {d : Option Tmp} {v : Value} (h : Fits n E (a.put d v)) : ∃ E', Fits n E' a ∧ E.ds = E'.ds := by
  refine ⟨⟨fun t => a.tmps.getD t undef, a.defers⟩, ⟨rfl, ?_, fun t => rfl⟩, ?_⟩
  · have := h.size
    cases d <;> simpa [Act.put] using this
  · rw [← h.defers]; cases d <;> rfl

/-- The frame at a call: the arguments, then nothing. -/
def argEnv (args : List Value) : Env := ⟨fun t => args.getD t undef, []⟩
theorem fits_args (args : List Value) (n : Fr) (h : args.length ≤ n.sz) : Fits n (argEnv args) ⟨args.toArray ++ Array.replicate (n.sz - args.toArray.size) undef, []⟩ := by
  refine ⟨rfl, by simp; omega, fun t => ?_⟩
  simp only [argEnv, Array.getD_eq_getD_getElem?, List.getD_eq_getElem?_getD]
  by_cases ht : t < args.length
  · simp [Array.getElem?_append, ht]
  · by_cases h2 : t - args.length < n.sz - args.length
    · simp [Array.getElem?_append, ht, h2]
    · simp [Array.getElem?_append, ht, h2]

abbrev EPost := Exit → Env → World → Prop
def lift (n : Fr) (Q : EPost) : Exit → Act → World → Prop := fun e a w => ∃ E, Fits n E a ∧ Q e E w
def WP (P : Program) (n : Fr) (c : Code) (Q : EPost) (E : Env) (w : World) : Prop :=
  ∀ a, Fits n E a → c.wpIn (Fz n) 0 P (lift n Q) a w
theorem wpIn_plain {n : Fr} {m : Nat} (hn : n.ro = none) {P : Program} {c : Code} {Q : Exit → Act → World → Prop} {a : Act} {w : World} : c.wpIn (Fz n) m P Q a w ↔ c.wp P Q a w := by
  cases n with
  | mk s r => simp only at hn; subst hn; exact wpIn_wide
theorem callsIn_plain {n : Fr} {m : Nat} {P : Program} {f : FuncId} {args : Array Value} {w : World} {R : Ending → World → Prop} : CallsIn (Fz n) m P f args w R ↔ Calls P f args w R :=
  callsIn_wide (n := m)

/-- What is asked of a panic does not hang on the slots. -/
class PanOk (Q : EPost) : Prop where
  ok : ∀ c E E' w, E.ds = E'.ds → Q (.panic c) E w → Q (.panic c) E' w
def EThen (R : Env → World → Prop) (Q : EPost) : EPost := fun e E w => match e with
  | .normal => R E w
  | e => Q e E w
def EBlock (id : Nat) (Q : EPost) : EPost := fun e E w => match e with
  | .exit i => if i = id then Q .normal E w else Q (.exit i) E w
  | e => Q e E w

def EScope (Q : EPost) : EPost := fun e E w => match e with
  | .goto _ => False
  | e => Q e E w
instance {Q : EPost} [h : PanOk Q] : PanOk (EScope Q) := ⟨h.ok⟩
theorem stepR_scope {P : Program} {b : Frame} {a : Act} {k : List Item} {cs : List Frame} {w : World} {c : Code} : step P (lone (b.atR a (.code (.scope c) :: k)) cs w) = .next (lone (b.atR a (.code c :: .inScope c :: k)) cs w) :=
  step_lone_go (by simp [stepG, stepG.exec, Frame.atR])
theorem stepR_inScope {P : Program} {b : Frame} {a : Act} {k : List Item} {cs : List Frame} {w : World} {c : Code} : step P (lone (b.atR a (.inScope c :: k)) cs w) = .next (lone (b.atR a k) cs w) :=
  step_lone_go (by simp [stepG, stepG.exec, Frame.atR])
instance {R : Env → World → Prop} {Q : EPost} [h : PanOk Q] : PanOk (EThen R Q) := ⟨h.ok⟩
instance {id : Nat} {Q : EPost} [h : PanOk Q] : PanOk (EBlock id Q) := ⟨h.ok⟩
section
variable {P : Program} {n : Fr} {Q : EPost} {E : Env} {w : World}

theorem WP.mono {c : Code} {Q' : EPost} (h : WP P n c Q E w) (hq : ∀ e E w, Q e E w → Q' e E w) : WP P n c Q' E w :=
  fun a ha => wpIn_mono (h a ha) fun e _ w ⟨E, f, q⟩ => ⟨E, f, hq e E w q⟩
theorem WP_skip (h : Q .normal E w) : WP P n .skip Q E w := fun _ ha => wpIn_skip ⟨E, ha, h⟩
theorem WP_exit {id : Nat} (h : Q (.exit id) E w) : WP P n (.exit id) Q E w := fun _ ha => wpIn_exit ⟨E, ha, h⟩
theorem WP_ret (h : Q .ret E w) : WP P n .ret Q E w := fun _ ha => wpIn_ret ⟨E, ha, h⟩
theorem WP_seq {x y : Code} (h : WP P n x (EThen (WP P n y Q) Q) E w) : WP P n (.seq x y) Q E w :=
  fun a ha => wpIn_seq (wpIn_mono (h a ha) fun e a' w' hq => by
    obtain ⟨E', f, q⟩ := hq
    cases e with
    | normal => exact q a' f
    | _ => exact ⟨E', f, q⟩)
/-- Sequence with an assertion between. -/
theorem WP_cut {x y : Code} (R : Env → World → Prop) (h : WP P n x (EThen R Q) E w) (h2 : ∀ E w, R E w → WP P n y Q E w) : WP P n (.seq x y) Q E w :=
  WP_seq (h.mono fun e E w q => by
    cases e with
    | normal => exact h2 E w q
    | _ => exact q)
theorem WP_block {id : Nat} {c : Code} (h : WP P n c (EBlock id Q) E w) : WP P n (.block id c) Q E w :=
  fun a ha => wpIn_block (wpIn_mono (h a ha) fun e a' w' hq => by
    obtain ⟨E', f, q⟩ := hq
    cases e with
    | exit i =>
      simp only [EBlock] at q
      simp only [Exit.inBlock]
      split
      · rename_i hi; rw [if_pos hi] at q; exact ⟨E', f, q⟩
      · rename_i hi; rw [if_neg hi] at q; exact ⟨E', f, q⟩
    | _ => exact ⟨E', f, q⟩)
theorem WP_label {l : Nat} (h : Q .normal E w) : WP P n (.label l) Q E w := fun _ ha => wpIn_label ⟨E, ha, h⟩
/-- A scope through which the run goes without a jump to a label. -/
theorem WP_scope {c : Code} (h : WP P n c (EScope Q) E w) : WP P n (.scope c) Q E w := by
  intro a ha b k cs hro hb hr
  have h0 : (lone (b.atR a (.code (.scope c) :: k)) cs w).fenced P (Fz n) := fenced_calm hb hr rfl
  obtain ⟨e, a₁, w₁, ⟨E1, f1, hq⟩, harr⟩ := h a ha b (.inScope c :: k) cs hro hb hr
  cases e with
  | normal => exact ⟨.normal, a₁, w₁, ⟨E1, f1, hq⟩, .head h0 stepR_scope (StepsIn.trans harr (.one (fenced_calm hb hr rfl) stepR_inScope))⟩
  | exit id =>
    have hx : exitTo id (.inScope c :: k) = exitTo id k := by simp [exitTo]
    exact ⟨.exit id, a₁, w₁, ⟨E1, f1, hq⟩, fun k' hk => .head h0 stepR_scope (harr.1 k' (by rw [hx]; exact hk)),
      fun hr' hk => let ⟨k₁, h1, h2⟩ := harr.2 hr' (by rw [hx]; exact hk); ⟨k₁, h1, .head h0 stepR_scope h2⟩⟩
  | goto l => exact hq.elim
  | ret => exact ⟨_, a₁, w₁, ⟨E1, f1, hq⟩, .of_steps (.one h0 stepR_scope) harr⟩
  | panic ch => exact ⟨_, a₁, w₁, ⟨E1, f1, hq⟩, .of_steps (.one h0 stepR_scope) harr⟩
  | outgrown => exact ⟨_, a₁, w₁, ⟨E1, f1, hq⟩, .of_steps (.one h0 stepR_scope) harr⟩
theorem WP_true {c : Operand} {x y : Code} {b : Bool} (hc : ev E c = .bool b) (hb : b = true) (h : WP P n x Q E w) : WP P n (.cond c x y) Q E w :=
  fun a ha => wpIn_cond (t := true) (by rw [ha.eval, hc, hb]) (h a ha)
theorem WP_false {c : Operand} {x y : Code} {b : Bool} (hc : ev E c = .bool b) (hb : b = false) (h : WP P n y Q E w) : WP P n (.cond c x y) Q E w :=
  fun a ha => wpIn_cond (t := false) (by rw [ha.eval, hc, hb]) (h a ha)

inductive Step (σ ρ : Type) where
  | next (s : σ)
  | stop (r : ρ)
def loopM {σ ρ : Type} (body : σ → Option (Step σ ρ)) : Nat → σ → Option ρ
  | 0, _ => none
  | k + 1, s => match body s with
    | some (.next s') => loopM body k s'
    | some (.stop r) => some r
    | none => none

/-- What a round of a loop owes: behind 'next' the invariant; behind 'stop' what the loop owes. -/
def LQ {σ ρ : Type} (I : σ → Env → World → Prop) (r : ρ) (Q : EPost) (o : Step σ ρ) : EPost := fun e E w => match e with
  | .outgrown => False
  | .normal => (match o with
    | .next s => I s E w
    | .stop _ => False)
  | e => (match o with
    | .next _ => False
    | .stop r' => r' = r → Q e E w)

instance {σ ρ : Type} {I : σ → Env → World → Prop} {r : ρ} {Q : EPost} {o : Step σ ρ} [h : PanOk Q] : PanOk (LQ I r Q o) := ⟨fun c E E' w hd q => by
  cases o with
  | next s => exact q
  | stop r' => exact fun hr => h.ok c E E' w hd (q hr)⟩
theorem WP_loop {σ ρ : Type} {c : Code} {bodyM : σ → Option (Step σ ρ)} (I : σ → Env → World → Prop) {k : Nat} {s : σ} {r : ρ} (hM : loopM bodyM k s = some r) (h0 : I s E w)
    (round : ∀ s o E w, bodyM s = some o → I s E w → WP P n c (LQ I r Q o) E w) : WP P n (.loop c) Q E w := by
  intro a ha
  refine wpIn_loop_rounds k ?_
  induction k generalizing s E w a with
  | zero => simp [loopM] at hM
  | succ k ih =>
    rw [roundsIn_succ]
    simp only [loopM] at hM
    cases hb : bodyM s with
    | none => rw [hb] at hM; simp at hM
    | some o =>
      rw [hb] at hM
      refine wpIn_mono (round s o E w hb h0 a ha) ?_
      rintro e a' w' ⟨E', f', q⟩
      cases o with
      | next s' => cases e <;> first | exact ih hM q a' f' | exact q.elim
      | stop r' =>
        have hr : r' = r := by simpa using hM
        cases e <;> first | exact q.elim | exact ⟨E', f', q hr⟩

/-! ### A region's operations -/
def OW (P : Program) (n : Fr) (ops : Array Oper) (Q : EPost) (l : List Oper) (E : Env) (w : World) : Prop :=
  ∀ a, Fits n E a → wpListIn (Fz n) 0 P ops (lift n Q) l a w

/-- What an operation gives: a value and a world. -/
structure Runs (P : Program) (E : Env) (o : Oper) (w : World) (v : Value) (w' : World) : Prop where
  inl ::
  out : (execOp (ev E) o).run P w = .ok (.value v) w'
/-- An operation without a value. -/
structure RunsU (P : Program) (E : Env) (o : Oper) (w : World) (w' : World) : Prop where
  inl ::
  out : (execOp (ev E) o).run P w = .ok .skip w'

theorem no_defer {ρ : Operand → Value} {o : Oper} {r : Next} {w' : World} (h : (execOp ρ o).run P w = .ok r w') (hr : ∀ d, r ≠ .defer d) : ∀ c, o.op ≠ .defer c := by
  intro c hc
  unfold execOp at h
  rw [hc] at h
  simp only [Sem.run_bind] at h
  cases hx : (resolve ρ c o.type).run P w with
  | ok d w1 => rw [hx] at h; simp only [Result.andThen_ok, Sem.run_pure, Result.ok.injEq] at h; exact hr d h.1.symm
  | halt x w1 => rw [hx] at h; cases h
theorem semAt_run {ro : Option Nat} {ρ : Operand → Value} {o : Oper} {r : Next} {w' : World} (h : (execOp ρ o).run P w = .ok r w') (hr : ∀ d, r ≠ .defer d) : (o.semAt ro ρ).run P w = .ok r w' := by
  rw [Oper.semAt_eq _ _ _ (no_defer h hr)]; exact h

theorem WP_region {id : Nat} {l : List Oper} (h : OW P n l.toArray Q l E w) : WP P n (.region id l.toArray false) Q E w :=
  fun a ha => wpIn_region_lit (h a ha)
theorem OW_nil {ops : Array Oper} (h : Q .normal E w) : OW P n ops Q [] E w := fun _ ha => ⟨E, ha, h⟩

theorem wanted_none {o : Oper} {y : Nat → Option Bool} (hg : o.guard = none) : Region.wanted o y = true := by simp [Region.wanted, hg]

theorem opIn_value {o : Oper} {v : Value} {w' : World} {a : Act} {K : Act → World → Prop} {Q : Exit → Act → World → Prop} (ha : Fits n E a) (hr : (execOp (ev E) o).run P w = .ok (.value v) w') (hk : K (a.put o.dst v) w') : o.wpIn (Fz n) 0 P a w K Q := by
  refine ⟨fun _ _ => trivial, ?_⟩
  rw [ha.eval, semAt_run hr (by simp)]
  exact hk
theorem opIn_enter {o : Oper} {f : FuncId} {args : Array Value} {w' : World} {a : Act} {K : Act → World → Prop} {Q : Exit → Act → World → Prop} (ha : Fits n E a) (hr : (execOp (ev E) o).run P w = .ok (.enter f args) w')
    (hc : Calls P f args w' (fun e w'' => match e with | .returned v => K (a.put o.dst v) w'' | .panicked c => Q (.panic c) a w'' | .outgrown => False)) : o.wpIn (Fz n) 0 P a w K Q := by
  refine ⟨fun _ _ => trivial, ?_⟩
  rw [ha.eval, semAt_run hr (by simp)]
  refine ⟨fun h => (by cases h), callsIn_plain.2 (hc.mono fun e w'' h => ?_)⟩
  cases e with
  | outgrown => exact h.elim
  | _ => exact h

theorem OW_op {ops : Array Oper} {o : Oper} {rest : List Oper} {v : Value} {w' : World} (hr : Runs P E o w v w') (hd : dstOk n o.dst = true) (hg : o.guard = none)
    (k : OW P n ops Q rest (updO E o.dst v) w') : OW P n ops Q (o :: rest) E w := by
  intro a ha
  exact wpListIn_plain hg fun K hK => opIn_value ha hr.out (hK _ _ (k _ (ha.put hd v)))

theorem OW_opU {ops : Array Oper} {o : Oper} {rest : List Oper} {w' : World} (hr : RunsU P E o w w') (hd : o.dst = none) (hg : o.guard = none)
    (k : OW P n ops Q rest E w') : OW P n ops Q (o :: rest) E w := by
  intro a ha
  refine wpListIn_plain hg fun K hK => ⟨fun _ _ => trivial, ?_⟩
  have hk := hK _ _ (k _ ha)
  rw [ha.eval, semAt_run hr.out (by simp)]
  show K (a.put o.dst undef) w'
  rw [hd]
  exact hk

/-- A guarded operation that is not wanted. -/
theorem yielded_of {ops : Array Oper} {a : Act} (ha : Fits n E a) {j : Nat} {oj : Oper} {d : Tmp} {b : Bool} (hj : ops[j]? = some oj) (hd : oj.dst = some d) (hb : E d = .bool b) : yielded ops a.tmps j = some b := by
  have := ha.get d
  rw [hb, Array.getD_eq_getD_getElem?] at this
  unfold yielded
  simp only [hj, Option.bind_some, hd]
  cases hx : a.tmps[d]? with
  | none => rw [hx] at this; simp [undef] at this
  | some x => rw [hx] at this; simp at this; subst this; rfl
theorem OW_skip {ops : Array Oper} {o : Oper} {rest : List Oper} {j : Nat} {want : Bool} {oj : Oper} {d : Tmp} {b : Bool} (hg : o.guard = some (j, want)) (hj : ops[j]? = some oj) (hdj : oj.dst = some d)
    (hb : ev E (.tmp d) = .bool b) (hne : (b == want) = false) (hd : dstOk n o.dst = true) (k : OW P n ops Q rest (updO E o.dst undef) w) : OW P n ops Q (o :: rest) E w := by
  intro a ha
  refine wpListIn_step fun K hK => ?_
  have hy := yielded_of ha hj hdj hb
  rw [if_neg (by simp only [Region.wanted, hg, hy]; intro h; simp at h; simp [h] at hne)]
  exact ⟨fun _ _ => trivial, hK _ _ (k _ (ha.put hd undef))⟩
theorem OW_take {ops : Array Oper} {o : Oper} {rest : List Oper} {j : Nat} {want : Bool} {oj : Oper} {d : Tmp} {b : Bool} {v : Value} {w' : World} (hg : o.guard = some (j, want)) (hj : ops[j]? = some oj) (hdj : oj.dst = some d)
    (hb : ev E (.tmp d) = .bool b) (hne : (b == want) = true) (hr : Runs P E o w v w') (hd : dstOk n o.dst = true) (k : OW P n ops Q rest (updO E o.dst v) w') : OW P n ops Q (o :: rest) E w := by
  intro a ha
  refine wpListIn_step fun K hK => ?_
  have hy := yielded_of ha hj hdj hb
  rw [if_pos (by simp only [Region.wanted, hg, hy]; simpa using hne)]
  exact opIn_value ha hr.out (hK _ _ (k _ (ha.put hd v)))

/-- A call of a function with a body. -/
def CallsV (P : Program) (f : FuncId) (args : Array Value) (w : World) (R : Value → World → Prop) : Prop :=
  Calls P f args w fun e w' => ∃ v, e = .returned v ∧ R v w'
theorem OW_call {ops : Array Oper} {o : Oper} {rest : List Oper} {f : FuncId} {args : Array Value} {R : Value → World → Prop}
    (hr : (execOp (ev E) o).run P w = .ok (.enter f args) w) (hd : dstOk n o.dst = true) (hg : o.guard = none) (hc : CallsV P f args w R)
    (k : ∀ v w', R v w' → OW P n ops Q rest (updO E o.dst v) w') : OW P n ops Q (o :: rest) E w := by
  intro a ha
  refine wpListIn_plain hg fun K hK => opIn_enter ha hr (hc.mono fun e w' ⟨v, he, hR⟩ => ?_)
  subst he
  exact hK _ _ (k v w' hR _ (ha.put hd v))
theorem OW_callG {ops : Array Oper} {o : Oper} {rest : List Oper} {f : FuncId} {args : Array Value} {R : Value → World → Prop} {j : Nat} {want : Bool} {oj : Oper} {d : Tmp} {b : Bool}
    (hg : o.guard = some (j, want)) (hj : ops[j]? = some oj) (hdj : oj.dst = some d) (hb : ev E (.tmp d) = .bool b) (hne : (b == want) = true)
    (hr : (execOp (ev E) o).run P w = .ok (.enter f args) w) (hd : dstOk n o.dst = true) (hc : CallsV P f args w R)
    (k : ∀ v w', R v w' → OW P n ops Q rest (updO E o.dst v) w') : OW P n ops Q (o :: rest) E w := by
  intro a ha
  refine wpListIn_step fun K hK => ?_
  have hy := yielded_of ha hj hdj hb
  rw [if_pos (by simp only [Region.wanted, hg, hy]; simpa using hne)]
  refine opIn_enter ha hr (hc.mono fun e w' ⟨v, he, hR⟩ => ?_)
  subst he
  exact hK _ _ (k v w' hR _ (ha.put hd v))

/-! ### A region that draws its order: a quiet head, in the order of the text; then the rest, which the edges chain. -/
def SW (P : Program) (n : Fr) (ops : Array Oper) (w : World) (Q : Env → Prop) (l : List Oper) (E : Env) : Prop :=
  ∀ a, Fits n E a → wpStill P ops w (fun a' => ∃ E', Fits n E' a' ∧ Q E') l a
theorem SW_nil {ops : Array Oper} {Q : Env → Prop} (h : Q E) : SW P n ops w Q [] E := fun _ ha => ⟨E, ha, h⟩
theorem SW_op {ops : Array Oper} {Q : Env → Prop} {o : Oper} {rest : List Oper} {v : Value} (hr : Runs P E o w v w) (hd : dstOk n o.dst = true) (hg : o.guard = none)
    (k : SW P n ops w Q rest (updO E o.dst v)) : SW P n ops w Q (o :: rest) E := by
  intro a ha
  unfold wpStill
  rw [if_pos (wanted_none hg)]
  have hk := k _ (ha.put hd v)
  unfold Oper.still
  rw [ha.eval]
  rw [hr.out, Oper.stillUpon_value]; exact hk
theorem SW_skip {ops : Array Oper} {Q : Env → Prop} {o : Oper} {rest : List Oper} {j : Nat} {want : Bool} {oj : Oper} {d : Tmp} {b : Bool} (hg : o.guard = some (j, want)) (hj : ops[j]? = some oj) (hdj : oj.dst = some d)
    (hb : ev E (.tmp d) = .bool b) (hne : (b == want) = false) (hd : dstOk n o.dst = true) (k : SW P n ops w Q rest (updO E o.dst undef)) : SW P n ops w Q (o :: rest) E := by
  intro a ha
  have hy := yielded_of ha hj hdj hb
  unfold wpStill
  rw [if_neg (by simp only [Region.wanted, hg, hy]; intro h; simp at h; simp [h] at hne)]
  exact k _ (ha.put hd undef)
theorem SW_take {ops : Array Oper} {Q : Env → Prop} {o : Oper} {rest : List Oper} {j : Nat} {want : Bool} {oj : Oper} {d : Tmp} {b : Bool} {v : Value} (hg : o.guard = some (j, want)) (hj : ops[j]? = some oj) (hdj : oj.dst = some d)
    (hb : ev E (.tmp d) = .bool b) (hne : (b == want) = true) (hr : Runs P E o w v w) (hd : dstOk n o.dst = true) (k : SW P n ops w Q rest (updO E o.dst v)) : SW P n ops w Q (o :: rest) E := by
  intro a ha
  have hy := yielded_of ha hj hdj hb
  unfold wpStill
  rw [if_pos (by simp only [Region.wanted, hg, hy]; simpa using hne)]
  have hk := k _ (ha.put hd v)
  unfold Oper.still
  rw [ha.eval]
  rw [hr.out, Oper.stillUpon_value]; exact hk
theorem still_mono {ops : Array Oper} {Q Q' : Act → Prop} (hq : ∀ a, Q a → Q' a) : ∀ (l : List Oper) (a : Act), wpStill P ops w Q l a → wpStill P ops w Q' l a
  | [], a, h => hq a h
  | o :: l, a, h => by
    unfold wpStill at *
    split
    · rename_i hw; rw [if_pos hw] at h; exact Oper.still_mono (fun a' h' => still_mono hq l a' h') h
    · rename_i hw; rw [if_neg hw] at h; exact still_mono hq l _ h
theorem SW.mono {ops : Array Oper} {Q Q' : Env → Prop} {l : List Oper} (h : SW P n ops w Q l E) (hq : ∀ E, Q E → Q' E) : SW P n ops w Q' l E :=
  fun a ha => still_mono (fun _ ⟨E', f, q⟩ => ⟨E', f, hq _ q⟩) l a (h a ha)

theorem opIn_of_stOp {ops : Array Oper} {i : Nat} {a : Act} {K : Act → Prop} {K' : Act → World → Prop} {Q' : Exit → Act → World → Prop} (h : ∀ a, K a → K' a w) (hh : stOp P ops w i K a) : wpOpIn (Fz n) 0 P ops Q' i K' a w := by
  unfold stOp at hh
  unfold wpOpIn
  split
  · rename_i ho; simp only [ho] at hh; exact h _ hh
  · rename_i o ho
    simp only [ho] at hh
    split
    · rename_i hw
      simp only [hw, if_true] at hh
      unfold Oper.still at hh
      refine ⟨fun _ _ => trivial, ?_⟩
      cases hr : (execOp a.eval o).run P w with
      | halt x w1 => rw [hr] at hh; exact hh.elim
      | ok r w1 =>
        rw [hr] at hh
        cases r with
        | value v => rw [semAt_run hr (by simp)]; obtain ⟨rfl, hh⟩ := hh; exact h _ hh
        | skip => rw [semAt_run hr (by simp)]; obtain ⟨rfl, hh⟩ := hh; exact h _ hh
        | enter f args =>
          rw [semAt_run hr (by simp)]
          obtain ⟨rfl, v, hc, hh⟩ := hh
          refine ⟨fun h => (by cases h), callsIn_plain.2 (hc.mono fun e w'' he => ?_)⟩
          obtain ⟨rfl, rfl⟩ := he
          exact h _ hh
        | _ => exact hh.elim
    · rename_i hw; simp only [hw] at hh; exact ⟨fun _ _ => trivial, h _ hh⟩
theorem anyIn_of_still {ops : Array Oper} {Q : Act → Prop} {Q' : Exit → Act → World → Prop} (hQ : ∀ a, Q a → Q' .normal a w) : ∀ (fuel : Nat) (listed : Array Bool) (a : Act),
    wpAnyS P .any ops w Q fuel listed a → wpAnyIn (Fz n) 0 P .any ops Q' fuel listed a w
  | 0, _, _, h => ⟨h.1, hQ _ h.2⟩
  | fuel + 1, _, _, h => ⟨fun h0 => hQ _ (h.1 h0), fun i hi => opIn_of_stOp (fun a' => anyIn_of_still hQ fuel _ a') (h.2 i hi)⟩
theorem anyIn_of_head {ops : Array Oper} {m g : Nat} {L : Array Bool → Act → Prop} {Q' : Exit → Act → World → Prop} (hL : ∀ listed a, L listed a → wpAnyIn (Fz n) 0 P .any ops Q' g listed a w) :
    ∀ (f : Nat) (listed : Array Bool) (a : Act), wpAnyL P .any ops w m L f listed a → wpAnyIn (Fz n) 0 P .any ops Q' (f + g) listed a w
  | 0, listed, a, h => by rw [Nat.zero_add]; exact hL _ _ h
  | f + 1, listed, a, h => by
    rw [show f + 1 + g = (f + g) + 1 by omega]
    exact ⟨fun h0 => absurd h0 h.1, fun i hi => opIn_of_stOp (fun a' h' => anyIn_of_head hL f _ a' h') (h.2 i hi).2⟩
theorem anyIn_of_seq {ops : Array Oper} {Q' : Exit → Act → World → Prop} : ∀ (l : List Oper) (k : Nat) (listed : Array Bool) (a : Act) (w : World), (∀ j, l[j]? = ops[k + j]?) →
    Region.seqB .any ops l.length k listed = true → wpListIn (Fz n) 0 P ops Q' l a w → wpAnyIn (Fz n) 0 P .any ops Q' l.length listed a w
  | [], _, _, _, _, _, hB, h => ⟨by simpa [Region.seqB] using hB, h⟩
  | o :: l, k, listed, a, w, hl, hB, h => by
    have h0 : ops[k]? = some o := by simpa using (hl 0).symm
    simp only [List.length_cons, Region.seqB, Bool.and_eq_true, decide_eq_true_eq] at hB
    refine ⟨fun h1 => (by rw [hB.1] at h1; cases h1), fun i hi => ?_⟩
    rw [hB.1] at hi
    have hik : i = k := by simpa using hi
    subst hik
    have hw : wpOpIn (Fz n) 0 P ops Q' i (wpListIn (Fz n) 0 P ops Q' l) a w := by unfold wpOpIn; simp only [h0]; exact h
    exact wpOpIn_mono (fun a' w' h' => anyIn_of_seq l (i + 1) _ a' w' (fun j => by have := hl (j + 1); simpa [Nat.add_assoc, Nat.add_comm 1 j] using this) hB.2 h') hw
theorem WP_draw {id : Nat} {l : List Oper} (hm : P.follows .mixedOrders = true) (hB : Region.lexB .any l.toArray = true)
    (h : SW P n l.toArray w.drew (fun E' => Q .normal E' w.drew) l E) : WP P n (.region id l.toArray true) Q E w := by
  intro a ha
  simp only [Region.lexB, Bool.and_eq_true] at hB
  refine wpIn_region_any hm (anyIn_of_still (w := w.drew) (Q := fun a' => lift n Q .normal a' w.drew) (fun _ h => h) _ _ _ ?_)
  have := wpAnyS_lex (md := .any) hB.1 l.toArray.toList 0 (Array.replicate l.toArray.size false) a (by simp) (by simpa using hB.2) (by simpa using h a ha)
  simpa [lift] using this
theorem WP_drawTail {id : Nat} {l : List Oper} (m : Nat) (hm : P.follows .mixedOrders = true) (hB : Region.lexTailB .any l.toArray m = true)
    (h : SW P n l.toArray w.drew (fun E' => OW P n l.toArray Q (l.drop m) E' w.drew) (l.take m) E) : WP P n (.region id l.toArray true) Q E w := by
  intro a ha
  have h := still_mono (fun a' ⟨_, f, q⟩ => q a' f) _ _ (h a ha)
  simp only [Region.lexTailB, Bool.and_eq_true, decide_eq_true_eq] at hB
  obtain ⟨⟨⟨⟨hsel, hn⟩, hs⟩, hc⟩, hlex⟩ := hB
  have hn' : m < l.length := by simpa using hn
  have htl : (l.take m).length = m := by simp; omega
  have hdl : (l.drop m).length = l.toArray.size - m := by simp
  have inv0 : HeadInv .any l.toArray m (Array.replicate l.toArray.size false) :=
    ⟨by simp, fun j oj _ hl => (by rw [getD_replicate_false] at hl; cases hl), fun t _ ht => getD_in (by simpa using ht) (getD_replicate_false _ _)⟩
  have H := wpAnyL_lex (md := .any) (g := l.toArray.size - m) hsel hs hc hn (l.take m) 0 _ a (fun j hj => by
    have hj' : j < m := by rw [htl] at hj; exact hj
    simp [hj']) (by simpa using htl) inv0 (by rw [htl]; exact hlex) h
  refine wpIn_region_any hm ?_
  have := anyIn_of_head (n := n) (Q' := lift n Q) (g := l.toArray.size - m) (fun listed a' hL => by
    have := anyIn_of_seq (n := n) (Q' := lift n Q) (l.drop m) m listed a' w.drew (fun j => by simp [List.getElem?_drop]) (by rw [hdl]; exact hL.1) hL.2
    rwa [hdl] at this) _ _ _ H
  rw [htl, show m + (l.toArray.size - m) = l.toArray.size by omega] at this
  exact this

/-! ### The body of a function -/
def ResIs (P : Program) (fn : Func) (n : Fr) (E : Env) (w : World) (v : Value) : Prop := ∀ a, Fits n E a → (results fn a.tmps).run P w = .ok v w
/-- The frame on its way out: the blocks of its loops over functions are shut, then the results are read. -/
def FL (P : Program) (fn : Func) (n : Fr) (E : Env) (R : Value → World → Prop) : List Deferred → World → Prop
  | [], w => ∃ v, ResIs P fn n E w v ∧ R v w
  | d :: ds, w => ∃ D w', d = { target := .collected D, args := #[] } ∧ (Instr.takeDeferred D).run P w = .ok [] w' ∧ FL P fn n E R ds w'
def FQ (P : Program) (fn : Func) (n : Fr) (R : Value → World → Prop) : EPost := fun e E w => match e with
  | .normal | .ret => FL P fn n E R E.ds w
  | _ => False
instance {P : Program} {fn : Func} {n : Fr} {R : Value → World → Prop} : PanOk (FQ P fn n R) := ⟨fun _ _ _ _ _ q => q⟩
theorem FL_nil {fn : Func} {R : Value → World → Prop} {ds : List Deferred} (hd : ds = []) (h : ∃ v, ResIs P fn n E w v ∧ R v w) : FL P fn n E R ds w := by subst hd; exact h
theorem FL_cons {fn : Func} {R : Value → World → Prop} {ds ds' : List Deferred} {D : Nat} {w' : World} (hd : ds = { target := .collected D, args := #[] } :: ds') (ht : (Instr.takeDeferred D).run P w = .ok [] w') (h : FL P fn n E R ds' w') : FL P fn n E R ds w := by subst hd; exact ⟨D, w', rfl, ht, h⟩
theorem fl_leaves {fn : Func} {R : Value → World → Prop} {a : Act} (ha : Fits n E a) : ∀ (ds : List Deferred) (w : World), FL P fn n E R ds w → LeavesInM (Fz n) 0 P fn a.tmps (fun e w' => ∃ v, e = .returned v ∧ R v w') ds .returning w
  | [], _, ⟨v, hr, hR⟩ => ⟨v, hr a ha, v, rfl, hR⟩
  | _ :: ds, _, ⟨D, w', hd, ht, h⟩ => ⟨by simp, .inl ⟨D, w', by rw [hd], ht, fl_leaves ha ds w' h⟩⟩
theorem calls_of_WP {f : FuncId} {fn : Func} {c : Code} {m : Nat} {args : List Value} {R : Value → World → Prop} (hf : P.funcs[f]? = some fn) (hb : fn.body = some c) (hn : fn.ntmps = m) (hl : Nat.ble args.length m = true)
    (h : WP P ⟨m, none⟩ c (FQ P fn ⟨m, none⟩ R) (argEnv args) w) : CallsV P f args.toArray w R := by
  subst hn
  refine callsIn_wide (n := 0) |>.1 (callsIn_of_wp_marks (F := Fz ⟨fn.ntmps, none⟩) hf hb trivial ?_)
  refine wpIn_mono (h _ (fits_args args _ (Nat.le_of_ble_eq_true hl))) ?_
  rintro e a w ⟨E, hfit, q⟩
  cases e <;> first
    | exact q.elim
    | (show LeavesInM _ _ _ _ _ _ a.defers _ _; rw [hfit.defers]; exact fl_leaves hfit E.ds w q)
end

theorem res_tmp {P : Program} {fn : Func} {n : Fr} {E : Env} {w : World} {t : Tmp} {v : Value} (h : fn.results = #[.tmp t]) (hv : ev E (.tmp t) = v) : ResIs P fn n E w v := by
  intro a ha
  rw [results_tmp h, ha.get t]
  exact congrArg (fun x => Result.ok x w) hv
theorem res_none {P : Program} {fn : Func} {n : Fr} {E : Env} {w : World} (h : fn.results = #[]) : ResIs P fn n E w (.tuple #[]) := fun a _ => results_none h a.tmps P w
theorem bindS {α β : Type} {o : Option α} {f : α → Option β} {r : β} (h : o.bind f = some r) : ∃ a, o = some a ∧ f a = some r := Option.bind_eq_some_iff.1 h
theorem condS {α : Type} {c : Bool} {x y : Option α} {r : α} (h : (bif c then x else y) = some r) : (c = true ∧ x = some r) ∨ (c = false ∧ y = some r) := by cases c <;> simp_all
end Go.Lx
