/- Lx, part 17: values of any comparable type are compared. -/
import Derived.Test.YtbfmbiapjgpfhaaGreatDoorLxFn
namespace Go.Lx
open Go.RowKit

/-- The comparison at depth D answers b. -/
def EqV (P : Program) (D : Nat) (t : TypeId) (x y : Value) (b : Bool) : Prop := ∀ w, (Op.equalIn D t x y).run P w = .ok b w
/-- The parts of two struct values. -/
inductive EqFs (P : Program) (D : Nat) (xs ys : List Value) : List Field → Bool → Prop where
  | nil : EqFs P D xs ys [] true
  | cons {f : Field} {fs : List Field} {x y : Value} {b c : Bool} : f.name ≠ "_" → (∀ w, (part f.type xs.toArray f.offset).run P w = .ok x w) → (∀ w, (part f.type ys.toArray f.offset).run P w = .ok y w) →
      EqV P D f.type x y b → EqFs P D xs ys fs c → EqFs P D xs ys (f :: fs) (b && c)
section
variable {P : Program} {D : Nat} {t : TypeId}
theorem eqv_int {k : IntKind} (hT : P.underlying t = some (.int k)) (a b : Int) : EqV P (D + 1) t (.int k a) (.int k b) (a == b) := fun _ => run_equalIn_int D hT a b
theorem eqv_bool (hT : P.underlying t = some .bool) (a b : Bool) : EqV P (D + 1) t (.bool a) (.bool b) (a == b) := fun w => by simp [Op.equalIn, run_underlying hT]
theorem eqv_str (hT : P.underlying t = some .string) (a b : Str) : EqV P (D + 1) t (encS a) (encS b) (a == b) := fun w => by
  have h : (Value.string ⟨a.toArray⟩) = encS a := rfl
  have : (Op.equalIn (D + 1) t (encS a) (encS b)).run P w = .ok ((⟨a.toArray⟩ : ByteArray) == ⟨b.toArray⟩) w := by simp [Op.equalIn, run_underlying hT, encS]
  rw [this, ← encS_beq]
theorem eqv_vec {el : TypeId} {n : Nat} {k : IntKind} {bytes : Nat} {z : Value} (hT : P.underlying t = some (.array n el)) (hE : P.underlying el = some (.int k)) (he : TyI P el false 1 bytes z) (a b : Vec n) : EqV P (D + 2) t (encV k a) (encV k b) (a == b) :=
  fun _ => run_equalIn_vec D hT hE he a b
theorem part_agg {ft : TypeId} {size bytes : Nat} {z : Value} (ht : TyI P ft true size bytes z) {cs ds pre post : List Value} (hp : cs = pre ++ (ds ++ post)) {o : Nat} (hpl : pre.length = o) (hl : ds.length = size) (w : World) : (part ft cs.toArray o).run P w = .ok (.agg ds.toArray) w := by
  subst hp; subst hpl; subst hl
  simp [part, run_isAgg ht, run_sizeOf ht]
theorem part_at {ft : TypeId} {bytes : Nat} {z : Value} (ht : TyI P ft false 1 bytes z) {cs : List Value} {o : Nat} {v : Value} (hv : cs[o]? = some v) (w : World) : (part ft cs.toArray o).run P w = .ok v w := by
  have : cs.toArray[o]? = some v := by simpa using hv
  exact part_one ht this
theorem part_in {ft : TypeId} {bytes : Nat} {z : Value} (ht : TyI P ft false 1 bytes z) {cs pre post : List Value} {v : Value} (hp : cs = pre ++ ([v] ++ post)) {o : Nat} (hpl : pre.length = o) (w : World) : (part ft cs.toArray o).run P w = .ok v w := by
  subst hp; subst hpl
  exact part_one ht (by simp)
theorem eqv_struct {fs : Array Field} {xs ys : List Value} {b : Bool} (hT : P.underlying t = some (.struct fs)) (hst : P.stoodInHeld t = false) (h : EqFs P D xs ys fs.toList b) : EqV P (D + 1) t (.agg xs.toArray) (.agg ys.toArray) b := fun w => by
  have hp : ∀ w, (program).run P w = .ok P w := fun w => rfl
  rw [Op.equalIn]
  simp only [Sem.run_bind, run_underlying hT, Result.andThen_ok, hp, hst, Bool.false_eq_true, if_false]
  rw [← Array.forIn_toList]
  generalize fs.toList = l at h
  have key : ∀ (l : List Field) (b : Bool), EqFs P D xs ys l b → ∀ w,
      (forIn l ((none, ()) : Option Bool × Unit) fun f r => (do
        if f.name ≠ "_" then
          if (!(← Op.equalIn D f.type (← part f.type xs.toArray f.offset) (← part f.type ys.toArray f.offset))) = true then pure (ForInStep.done (some false, ()))
          else pure (ForInStep.yield (none, ()))
        else pure (ForInStep.yield (none, ())) : Sem (ForInStep (Option Bool × Unit)))).run P w = .ok (if b then (none, ()) else (some false, ())) w := by
    intro l b h
    induction h with
    | nil => intro w; simp [Sem.run_pure]
    | cons hn hx hy he hr ih =>
      intro w
      rename_i b c
      rw [List.forIn_cons, Sem.run_bind, if_pos hn]
      simp only [Sem.run_bind, hx, hy, Result.andThen_ok, he w]
      cases b
      · simp [Sem.run_pure]
      · simpa using ih w
  have := key l b h w
  rw [this]
  cases b <;> rfl
variable {E : Env} {w : World} {d : Option Tmp} {ty : TypeId} {ps : String} {af : Array Edge} {gd : Option (Nat × Bool)} {T T' : TypeId} {x y : Operand} {xs ys : List Value} {b : Bool}
theorem r_eqlA (hx : ev E x = .agg xs.toArray) (hy : ev E y = .agg ys.toArray) (hq : P.eqGuardType P.depth T = false) (h : EqV P 10000 T (.agg xs.toArray) (.agg ys.toArray) b) : Runs P E ⟨d, .binOp .eql T x y T', ty, ps, af, gd⟩ w (.bool b) w :=
  run_binOp_of (by rw [hx, hy]; simp only [eqGuard]; simp [program, Sem.run, hq]) (by
    rw [hx, hy]
    simp only [binOp, Sem.run_bind, Op.equal, Op.maxDepth, h w, Result.andThen_ok, Sem.run_pure])
theorem r_neqA (hx : ev E x = .agg xs.toArray) (hy : ev E y = .agg ys.toArray) (hq : P.eqGuardType P.depth T = false) (h : EqV P 10000 T (.agg xs.toArray) (.agg ys.toArray) b) : Runs P E ⟨d, .binOp .neq T x y T', ty, ps, af, gd⟩ w (.bool (!b)) w :=
  run_binOp_of (by rw [hx, hy]; simp only [eqGuard]; simp [program, Sem.run, hq]) (by
    rw [hx, hy]
    simp only [binOp, Sem.run_bind, Op.equal, Op.maxDepth, h w, Result.andThen_ok, Sem.run_pure])
end
end Go.Lx
