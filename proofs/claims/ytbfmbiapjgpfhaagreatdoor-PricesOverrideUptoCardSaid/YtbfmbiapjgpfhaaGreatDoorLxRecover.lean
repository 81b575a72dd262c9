/- Lx, part 15: a deferred call that recovers. -/
import Derived.Test.YtbfmbiapjgpfhaaGreatDoorLxRange
import Derived.RecoverIn
import Derived.RangeFuncLeaves
namespace Go.Lx
open Go.RowKit

/-- A deferred call, by what it makes of the frame below. -/
def CallsR (P : Program) (f : FuncId) (args : Array Value) (u u' : FrameMode) (w : World) (R : World → Prop) : Prop :=
  CallsDIn (Fz ⟨0, none⟩) 0 P f args u w fun e u2 w' => u2 = u' ∧ ∃ v, e = .returned v ∧ R w'
def FQ0 (P : Program) (fn : Func) (n : Fr) (R : World → Prop) : EPost := fun e E w => match e with
  | .normal | .ret => E.ds = [] ∧ ∃ v, ResIs P fn n E w v ∧ R w
  | _ => False
instance {P : Program} {fn : Func} {n : Fr} {R : World → Prop} : PanOk (FQ0 P fn n R) := ⟨fun _ _ _ _ _ q => q⟩
def recd (v : Value) : FrameMode := .panicking [{ v := v, recovered := true }]
section
variable {P : Program} {w : World}
theorem calls_rec {f : FuncId} {fn : Func} {rest : Code} {m id a b : Nat} {args : List Value} {R : World → Prop} {ats : Array TypeId} {ty1 ty2 : TypeId} {p1 p2 : String} {af1 af2 : Array Edge} {u u' : FrameMode} {val : Value}
    (hu : (u = .returning ∧ val = .nilIface ∧ u' = .returning) ∨ (u = .panicking (pent val) ∧ u' = recd val)) (hf : P.funcs[f]? = some fn)
    (hb : fn.body = some (.seq (.region id #[⟨some a, .call { callee := .builtin .recover, args := #[], argTypes := ats }, ty1, p1, af1, none⟩, ⟨some b, .assign (.tmp a), ty2, p2, af2, none⟩] false) rest))
    (hn : fn.ntmps = m) (hl : Nat.ble args.length m = true) (ha : Nat.blt a m = true) (hbm : Nat.blt b m = true)
    (h : WP P ⟨m, none⟩ rest (FQ0 P fn ⟨m, none⟩ R) (upd (upd (argEnv args) a val) b val) w) : CallsR P f args.toArray u u' w R := by
  subst hn
  refine callsDIn_of_wpSIn hf hb trivial fun c0 cs hc => ?_
  refine wpSIn_seq (wpSIn_region ?_)
  have hfit := fits_args args ⟨fn.ntmps, none⟩ (Nat.le_of_ble_eq_true hl)
  have hfit1 := hfit.put (d := some a) ha val
  have hfit2 := hfit1.put (d := some b) hbm val
  have hasg : ∀ (t : Tmp), (Act.put ⟨args.toArray ++ Array.replicate (fn.ntmps - args.toArray.size) undef, []⟩ (some a) val).eval (.tmp t) = (upd (argEnv args) a val) t := fun t => by
    have := congrFun hfit1.eval (.tmp t)
    exact this
  have hva : (Act.put ⟨args.toArray ++ Array.replicate (fn.ntmps - args.toArray.size) undef, []⟩ (some a) val).eval (.tmp a) = val := by
    rw [hasg]; simp [upd]
  have main : ∀ cs', (cs' = c0 :: cs ∧ c0.mode = u' ∨ cs' = { c0 with mode := u' } :: cs) →
      rest.wpSIn (Fz ⟨0, none⟩) 0 P (bodyPostS P fn c0 cs fun e u2 w' => u2 = u' ∧ ∃ v, e = .returned v ∧ R w') ((Act.put ⟨args.toArray ++ Array.replicate (fn.ntmps - args.toArray.size) undef, []⟩ (some a) val).put (some b) val) cs' w := by
    intro cs' hcs
    refine wpSIn_of_wpIn rfl ?_
    refine wpIn_mono (h _ hfit2) ?_
    rintro e a' w' ⟨E, f', q⟩
    have hc' : ∃ u2, cs' = { c0 with mode := u2 } :: cs ∧ u2 = u' := by
      rcases hcs with ⟨rfl, hm⟩ | rfl
      · exact ⟨u', by rw [← hm], rfl⟩
      · exact ⟨u', rfl, rfl⟩
    cases e <;> first
      | exact q.elim
      | (obtain ⟨u2, hcs', hu2⟩ := hc'; exact ⟨by rw [f'.defers]; exact q.1, u2, hcs', q.2.choose, q.2.choose_spec.1 _ f', hu2, _, rfl, q.2.choose_spec.2⟩)
  show wpOpsSIn _ _ _ _ _ [0, 1] _ _ _
  simp only [wpOpsSIn, List.getElem?_toArray, List.getElem?_cons_zero, List.getElem?_cons_succ]
  refine ⟨fun _ _ => trivial, ?_⟩
  rw [if_pos (wanted_none rfl)]
  have hrec : ∀ ρ : Operand → Value, (execOp ρ ⟨some a, .call { callee := .builtin .recover, args := #[], argTypes := ats }, ty1, p1, af1, none⟩).run P w = .ok .recover w := fun ρ => by
    simp [execOp, resolve, invoke, builtin]
  rw [hrec]
  have step2 : ∀ cs', (cs' = c0 :: cs ∧ c0.mode = u' ∨ cs' = { c0 with mode := u' } :: cs) → wpOpsSIn (Fz ⟨0, none⟩) 0 P #[⟨some a, .call { callee := .builtin .recover, args := #[], argTypes := ats }, ty1, p1, af1, none⟩, ⟨some b, .assign (.tmp a), ty2, p2, af2, none⟩]
      (Exit.thenS (rest.wpSIn (Fz ⟨0, none⟩) 0 P (bodyPostS P fn c0 cs fun e u2 w' => u2 = u' ∧ ∃ v, e = .returned v ∧ R w')) (bodyPostS P fn c0 cs fun e u2 w' => u2 = u' ∧ ∃ v, e = .returned v ∧ R w')) [1] (Act.put ⟨args.toArray ++ Array.replicate (fn.ntmps - args.toArray.size) undef, []⟩ (some a) val) cs' w := by
    intro cs' hcs
    simp only [wpOpsSIn, List.getElem?_toArray, List.getElem?_cons_zero, List.getElem?_cons_succ]
    refine ⟨fun _ _ => trivial, ?_⟩
    rw [if_pos (wanted_none rfl)]
    simp only [execOp, Sem.run_pure, hva]
    exact main cs' hcs
  rcases hu with ⟨rfl, rfl, rfl⟩ | ⟨rfl, rfl⟩
  · have : recoverD (c0 :: cs) = none := by simp [recoverD, hc]
    simp only [this]
    exact step2 _ (.inl ⟨rfl, hc⟩)
  · have : recoverD (c0 :: cs) = some (val, { c0 with mode := recd val } :: cs) := by simp [recoverD, hc, pent, recd]
    simp only [this]
    exact step2 _ (.inr rfl)
end

/-! ### the frame that defers it -/
def deferD (f : FuncId) (cap : List Value) : Deferred := { target := .fn (.func f) (List.toArray cap), args := #[] }
def LV (P : Program) (fn : Func) (n : Fr) (E : Env) (R : Value → World → Prop) : List Deferred → FrameMode → World → Prop
  | [], u, w => u = .returning ∧ ∃ v, ResIs P fn n E w v ∧ R v w
  | d :: ds, u, w => u ≠ .run ∧ ∃ f cap u' S, d = deferD f cap ∧ CF P f ∧ CallsR P f (List.toArray cap) u u' w S ∧ ∀ w', S w' → LV P fn n E R ds (settle u') w'
def FV (P : Program) (fn : Func) (n : Fr) (R : Value → World → Prop) : EPost := fun e E w => match e with
  | .normal | .ret => LV P fn n E R E.ds .returning w
  | .panic ch => LV P fn n E R E.ds (.panicking ch) w
  | _ => False
section
variable {P : Program} {n : Fr} {Q : EPost} {E : Env} {w : World} {fn : Func} {R : Value → World → Prop}
theorem lv_leaves {a : Act} (ha : Fits n E a) : ∀ (ds : List Deferred) (u : FrameMode) (w : World), LV P fn n E R ds u w → LeavesInM (Fz n) 0 P fn a.tmps (fun e w' => ∃ v, e = .returned v ∧ R v w') ds u w
  | [], _, _, ⟨hu, v, hr, hR⟩ => by subst hu; exact ⟨v, hr a ha, v, rfl, hR⟩
  | _ :: ds, u, w, ⟨hne, f, cap, u', S, hd, hcf, hc, hk⟩ => by
    subst hd
    obtain ⟨fd, h1, h2, h3⟩ := hcf
    have hn' : ¬ fd.name = "runtime.NumGoroutine" := by simpa using h3
    have hb2 : ¬ fd.body = none := by intro h; rw [h] at h2; cases h2
    refine ⟨hne, .inr ⟨fun h => (by cases h), .func f, List.toArray cap, f, List.toArray cap, rfl, ?_, fun _ _ => trivial, ?_⟩⟩
    · simp [deferD, invoke, callFunc, h1, hb2, hn']
    · refine CallsDIn.mono (F := Fz ⟨0, none⟩) hc ?_
      rintro e u2 w' ⟨rfl, v, rfl, hS⟩
      exact lv_leaves ha ds _ w' (hk w' hS)
theorem calls_of_WPV {f : FuncId} {c : Code} {m : Nat} {args : List Value} (hf : P.funcs[f]? = some fn) (hb : fn.body = some c) (hn : fn.ntmps = m) (hl : Nat.ble args.length m = true)
    (h : WP P ⟨m, none⟩ c (FV P fn ⟨m, none⟩ R) (argEnv args) w) : CallsV P f args.toArray w R := by
  subst hn
  refine callsIn_wide (n := 0) |>.1 (callsIn_of_wp_marks (F := Fz ⟨fn.ntmps, none⟩) hf hb trivial ?_)
  refine wpIn_mono (h _ (fits_args args _ (Nat.le_of_ble_eq_true hl))) ?_
  rintro e a w ⟨E, hfit, q⟩
  cases e <;> first
    | exact q.elim
    | (show LeavesInM _ _ _ _ _ _ a.defers _ _; rw [hfit.defers]; exact lv_leaves hfit E.ds _ w q)
theorem LV_nil {ds : List Deferred} {u : FrameMode} (hd : ds = []) (hu : u = .returning) (h : ∃ v, ResIs P fn n E w v ∧ R v w) : LV P fn n E R ds u w := by subst hd; exact ⟨hu, h⟩
theorem LV_cons {ds ds' : List Deferred} {f : FuncId} {cap : List Value} {u u' : FrameMode} {S : World → Prop} (hd : ds = deferD f cap :: ds') (hne : u ≠ .run) (hcf : CF P f) (hc : CallsR P f (List.toArray cap) u u' w S) (k : ∀ w', S w' → LV P fn n E R ds' (settle u') w') : LV P fn n E R ds u w := by
  subst hd; exact ⟨hne, f, cap, u', S, rfl, hcf, hc, k⟩
/-- A defer statement. -/
theorem OW_defer {ops : Array Oper} {rest : List Oper} {ty : TypeId} {ps : String} {af : Array Edge} {x : Operand} {ats : Array TypeId} {f : FuncId} (cap : List Value) (hro : n.ro = none) (hx : ev E x = .func (.func f) #[] cap.toArray)
    (k : OW P n ops Q rest ⟨E.s, deferD f cap :: E.ds⟩ w) : OW P n ops Q (⟨none, .defer { callee := .value x, args := #[], argTypes := ats }, ty, ps, af, none⟩ :: rest) E w := by
  intro a ha
  refine wpListIn_plain rfl fun K hK => ⟨fun _ _ => trivial, ?_⟩
  rw [show (Fz n).round = none from hro, Oper.semAt_none, ha.eval]
  have hr : (execOp (ev E) ⟨none, .defer { callee := .value x, args := #[], argTypes := ats }, ty, ps, af, none⟩).run P w = .ok (.defer (deferD f cap)) w := by
    simp [execOp, resolve, Deferred.ofValue, hx, deferD]
  rw [hr]
  exact hK _ _ (k { a with defers := deferD f cap :: a.defers } ⟨by simp [ha.defers], ha.size, ha.get⟩)
end
section
variable {P : Program} {E : Env} {w : World} {d : Option Tmp} {ty : TypeId} {ps : String} {af : Array Edge} {gd : Option (Nat × Bool)}
def isI : TypeDesc → Bool
  | .interface _ => true
  | _ => false
theorem r_typeAssert {xt T : TypeId} {x : Operand} {v : Value} {td : TypeDesc} (hT : P.underlying T = some td) (hni : isI td = false) (hx : ev E x = .iface T v) :
    Runs P E ⟨d, .typeAssert x xt T false, ty, ps, af, gd⟩ w v w := .inl (by
  simp only [execOp, Instr.typeAssert, hx, Sem.run_bind, run_underlying hT]
  cases td with
  | interface ms => simp [isI] at hni
  | _ => simp)
theorem eqIn_nilI {T : TypeId} {ms : Array (String × TypeId)} (hT : P.underlying T = some (.interface ms)) (V : TypeId) (v : Value) (n : Nat) : (Op.equalIn (n + 1) T (.iface V v) .nilIface).run P w = .ok false w := by
  rw [Op.equalIn]
  simp [run_underlying hT]
theorem eqIn_nilN {T : TypeId} {ms : Array (String × TypeId)} (hT : P.underlying T = some (.interface ms)) (n : Nat) : (Op.equalIn (n + 1) T .nilIface .nilIface).run P w = .ok true w := by
  rw [Op.equalIn]
  simp [run_underlying hT]
theorem r_neqNilI {T T' : TypeId} {ms : Array (String × TypeId)} {x y : Operand} {V : TypeId} {v : Value} (hT : P.underlying T = some (.interface ms)) (hx : ev E x = .iface V v) (hy : ev E y = .nilIface) : Runs P E ⟨d, .binOp .neq T x y T', ty, ps, af, gd⟩ w (.bool true) w :=
  run_binOp_of (by rw [hx, hy]; rfl) (by
    rw [hx, hy]
    have h : (Op.equal T (.iface V v) .nilIface).run P w = .ok false w := eqIn_nilI hT V v 9999
    simp only [binOp, Sem.run_bind, h, Result.andThen_ok, Sem.run_pure, Bool.not_false])
theorem r_neqNilN {T T' : TypeId} {ms : Array (String × TypeId)} {x y : Operand} (hT : P.underlying T = some (.interface ms)) (hx : ev E x = .nilIface) (hyc : y = .const .nilIface) : Runs P E ⟨d, .binOp .neq T x y T', ty, ps, af, gd⟩ w (.bool false) w := by
  subst hyc
  exact run_binOp_of (by rw [hx]; cases x <;> rfl) (by
    rw [hx]
    have h : (Op.equal T .nilIface .nilIface).run P w = .ok true w := eqIn_nilN hT 9999
    simp only [binOp, ev, Sem.run_bind, h, Result.andThen_ok, Sem.run_pure, Bool.not_true])
end
end Go.Lx
