/- in a minimal automaton two bytes are of one class if and only if all states have the same successors for both, and the classes are numbered by their least bytes (automata of at most 12 states and 8 classes), for every input. -/
import Derived.Test.YtogpainomdfpnaaWalk6
import Derived.Test.YtogpainomdfpnaaPl10k
set_option linter.unusedVariables false
namespace Go.Proofs.Ytogpainomdfpnaa.LdfaClasses
open Go.Lx Go.RowKit Go.ChangeShapes Go.WideShapes Go.ChangeAt
/- (x0 : T_DFA) (ok0 : okT_DFA x0) (x1 : (Vec 2)) (ok1 : (fun v => ∀ x ∈ v.1, IOk .u8 x) x1) : M.law10_DfaClasses x0 x1 = some true -/
theorem ti36 : TyI Try.prog 36 true 2 2 (encV .u8 (Vec.zero 2)) := ty_of (by kernel_rfl) (by kernel_rfl)
theorem own : ownKnob Try.prog.godebug = none := by kernel_rfl
theorem laidOut : laidOutB Try.prog = true := by kernel_rfl
set_option maxRecDepth 100000 in
theorem lifted (os : Os) (started : os.Started) (H : Type) (enc : TypeId × Value → H) :
    ReturnsInHanded {} Try.checked os 7 .any (Rows.dfaClassesSpec.pre6 enc Try.prog Try.f7 Rows.dfaClassesRow.domain false) (Rows.dfaClassesSpec.post enc Try.prog Try.f7 false true false false) := by
  refine returnsInHanded_of_change (C := Try.checked) own started (by kernel_rfl) Try.func7
    (ChangeSpec.witness6 (enc := enc) (C := Try.checked) false ⟨#[], #[.agg #[.slice none 0 0, .slice none 0 0, .slice none 0 0], .agg #[.int .u8 0, .int .u8 0]], []⟩ 8 (by kernel_rfl) (by kernel_rfl) (by kernel_rfl) (by kernel_rfl)) ?_
  intro W base args ds gs before hval0 hW hcnd _
  have hval : ∀ (j : Nat) t v, Try.f7.params[j]? = some t → args[j]? = some v → Value.okWide Try.prog W .any base t v := hval0
  have hW' := hW
  obtain ⟨p, q, hA0, hV, rfl, hfz, hnd⟩ := hW
  have hA : DataW.TrodAll enc Try.prog W 0 (fun _ => true) true Try.f7.params.toList args.toList ds p := hA0
  rw [Try.params7] at hA hval
  obtain ⟨v0, vs0, d0, ds0, p0, q0, hargs, rfl, rfl, h0, r0⟩ := trodAll_cons hA
  obtain ⟨v1, vs1, d1, ds1, p1, q1, rfl, rfl, rfl, h1, r1⟩ := trodAll_cons r0
  obtain ⟨rfl, rfl, rfl⟩ := trodAll_nil r1
  obtain rfl : args = #[v0, v1] := by cases args; simp_all
  obtain ⟨rfl, rfl⟩ := trodVars_none hV
  have lt0 : ∀ x ∈ p0, x.block < W.heap.size := by obtain ⟨m, hm⟩ := h0; exact DataW.trod_lt m _ _ _ hm
  obtain ⟨x0, y0, ok0⟩ := vrd_agg ti25 readsT_DFA (hval 0 25 v0 rfl rfl) h0
  obtain ⟨c0, hc0, y0⟩ := y0
  subst hc0
  have lt1 : ∀ x ∈ p1, x.block < W.heap.size := by obtain ⟨m, hm⟩ := h1; exact DataW.trod_lt m _ _ _ hm
  obtain ⟨x1, y1, ok1⟩ := vrd_agg ti36 (reads_vec Try.underlying36 Try.underlying5 (by kernel_rfl) (by kernel_rfl)) (hval 1 36 v1 rfl rfl) h1
  obtain ⟨c1, hc1, y1⟩ := y1
  have y1 : c1 = _ := y1; subst y1; subst hc1
  refine (law_calls (law10_DfaClasses_ok (law_classes10 x0 ok0 x1 ok1) (imm_all W) y0)).mono fun e W' ⟨he, bel⟩ => ?_
  subst he
  exact ⟨_, rfl, _, _, _, [], _, [], hW', trodAll_mk1 (shut_bool Try.underlying4 _), (trodAll_cons_mk (Below.trod laidOut (by kernel_rfl) (of_decide_eq_true (by kernel_rfl)) h0 bel lt0) (trodAll_cons_mk (Below.trod laidOut (by kernel_rfl) (of_decide_eq_true (by kernel_rfl)) h1 bel lt1) trodAll_mk0)), rfl, bel.frame _, fun h => by cases h⟩
theorem holds : Rows.DfaClassesSaid :=
  OpenClaim.holds_of_wide 7 Try.f7 rfl rfl rfl rfl rfl rfl rfl ⟨rfl, rfl, rfl, rfl, rfl⟩ rfl rfl rfl rfl rfl (by kernel_rfl) Try.func7 (by kernel_rfl)
    (of_decide_eq_true (by kernel_rfl)) (by unfold Func.isWrapper; first | (rw [if_pos (by decide +kernel)]; kernel_rfl) | (rw [if_neg (by decide +kernel)]; exact ⟨rfl, rfl⟩))
    (fun os started H enc _ => lifted os started H enc)
end Go.Proofs.Ytogpainomdfpnaa.LdfaClasses
