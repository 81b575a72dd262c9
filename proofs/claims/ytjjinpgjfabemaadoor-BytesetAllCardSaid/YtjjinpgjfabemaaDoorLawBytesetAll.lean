/- All yields exactly the elements, in strictly increasing order, and may be stopped early (any set, any place to stop), for every input. -/
import Derived.Test.YtjjinpgjfabemaaDoorWBytesetAll
import Derived.Test.YtjjinpgjfabemaaDoorPl07u
set_option linter.unusedVariables false
set_option linter.unusedSimpArgs false
namespace Go.Proofs.YtjjinpgjfabemaaDoor.LbytesetAll
open Go.Lx Go.RowKit Go.ChangeShapes Go.WideShapes Go.ChangeAt
/- (x0 : (Vec 4)) (ok0 : (fun v => ∀ x ∈ v.1, IOk .u64 x) x0) (x1 : Int) (ok1 : (IOk .u8) x1) : M.law07_BytesetAll x0 x1 = some true -/
theorem own : ownKnob Tryd.prog.godebug = none := by kernel_rfl
/-- A world that meets the condition. -/
noncomputable def laidWorld (os : Os) : World :=
  let w0 := World.holding Tryd.prog os ⟨#[], #[], []⟩
  { w0 with heap := (w0.heap.modify 0 fun o => match o with | .cells _ t fz => .cells (M.deBruijn.1.map (Value.int .u8)).toArray t fz | o => o) }
theorem laidWorld_met (os : Os) (args : Array Value) : laidMetH Tryd.prog [("math/bits.deBruijn64tab", Rows.laid_math_bits_deBruijn64tab)] ((laidWorld os).forCall (fun _ _ => 0) ⟨#[], args, []⟩).memory :=
  laidMet_of_run' 8 (by kernel_rfl) (by kernel_rfl)
set_option maxRecDepth 100000 in
theorem lifted (os : Os) (started : os.Started) (H : Type) (enc : TypeId × Value → H) :
    ReturnsInHanded {} Tryd.checked os 3 .any (fun w args => (Rows.bytesetAllSpec.pre enc Tryd.prog Tryd.f3 Rows.bytesetAllRow.domain false w args ∧ laidMetH Tryd.prog [("math/bits.deBruijn64tab", Rows.laid_math_bits_deBruijn64tab)] w) ∧ sizedMet enc Tryd.prog Tryd.f3 (OpenSpec.ofChange Rows.bytesetAllSpec) false w args)
      (Rows.bytesetAllSpec.post enc Tryd.prog Tryd.f3 false true false false) := by
  refine returnsInHanded_of_change_and (C := Tryd.checked) (X := fun w _ => laidMetH Tryd.prog [("math/bits.deBruijn64tab", Rows.laid_math_bits_deBruijn64tab)] w) (fun _ _ _ hh h => h.of_heap hh) own started (by kernel_rfl) Tryd.func3
    (ChangeSpec.witness_at (enc := enc) (C := Tryd.checked) (os := os) (X := fun w _ => laidMetH Tryd.prog [("math/bits.deBruijn64tab", Rows.laid_math_bits_deBruijn64tab)] w) false (laidWorld os) #[.agg #[.int .u64 0, .int .u64 0, .int .u64 0, .int .u64 0], Value.int .u8 0] 8 rfl (by kernel_rfl) (by kernel_rfl) (by kernel_rfl) (by kernel_rfl) (by kernel_rfl) (laidWorld_met os _)) ?_
  intro W base args ds gs before hval0 hW hcnd _ hL _
  have hval : ∀ (j : Nat) t v, Tryd.f3.params[j]? = some t → args[j]? = some v → Value.okWide Tryd.prog W .any base t v := hval0
  have hW' := hW
  obtain ⟨p, q, hA0, hV, rfl, hfz, hnd⟩ := hW
  have hA : DataW.TrodAll enc Tryd.prog W 0 (fun _ => true) true Tryd.f3.params.toList args.toList ds p := hA0
  rw [Tryd.params3] at hA hval
  obtain ⟨v0, vs0, d0, ds0, p0, q0, hargs, rfl, rfl, h0, r0⟩ := trodAll_cons hA
  obtain ⟨v1, vs1, d1, ds1, p1, q1, rfl, rfl, rfl, h1, r1⟩ := trodAll_cons r0
  obtain ⟨rfl, rfl, rfl⟩ := trodAll_nil r1
  obtain rfl : args = #[v0, v1] := by cases args; simp_all
  obtain ⟨rfl, rfl⟩ := trodVars_none hV
  have lt0 : ∀ x ∈ p0, x.block < W.heap.size := by obtain ⟨m, hm⟩ := h0; exact DataW.trod_lt m _ _ _ hm
  obtain ⟨x0, y0, ok0⟩ := vrd_agg ti24 (reads_vec Tryd.underlying24 Tryd.underlying22 (by kernel_rfl) (by kernel_rfl)) (hval 0 24 v0 rfl rfl) h0
  obtain ⟨c0, hc0, y0⟩ := y0
  have y0 : c0 = _ := y0; subst y0; subst hc0
  have lt1 : ∀ x ∈ p1, x.block < W.heap.size := by obtain ⟨m, hm⟩ := h1; exact DataW.trod_lt m _ _ _ hm
  obtain ⟨x1, y1, ok1⟩ := vrd_one (single_int Tryd.underlying5) (reads_int Tryd.underlying5) (hval 1 5 v1 rfl rfl) h1
  obtain ⟨c1, hc1, y1⟩ := y1
  have y1 : c1 = _ := y1; subst y1; subst hc1
  have hG0 : GBox 0 (M.deBruijn.1.map (Value.int .u8)) (allHp W) := gbox_of_reads (Go.Lib.laidMet.reads (l := [("math/bits.deBruijn64tab", Rows.laid_math_bits_deBruijn64tab)]) (n := "math/bits.deBruijn64tab") (d := Rows.laid_math_bits_deBruijn64tab) hL (by simp)) (by kernel_rfl) (by kernel_rfl) Tryd.underlying42 Tryd.underlying5 (by kernel_rfl) (by kernel_rfl) (by kernel_rfl)
  refine (law_calls (law07_BytesetAll_ok (law_all x0 ok0 x1 ok1) (imm_all W) hG0)).mono fun e W' ⟨he, bel⟩ => ?_
  subst he
  have laidOut : laidOutB Tryd.prog = true := by kernel_rfl
  exact ⟨_, rfl, _, _, _, [], _, [], hW', trodAll_mk1 (shut_bool Tryd.underlying4 _), (trodAll_cons_mk (Below.trod laidOut (by kernel_rfl) (of_decide_eq_true (by kernel_rfl)) h0 bel lt0) (trodAll_cons_mk (Below.trod laidOut (by kernel_rfl) (of_decide_eq_true (by kernel_rfl)) h1 bel lt1) trodAll_mk0)), rfl, bel.frame _, fun h => by cases h⟩
theorem rowHolds : Rows.BytesetAllSaid :=
  OpenClaim.holds_of_wide 3 Tryd.f3 rfl rfl rfl rfl rfl rfl rfl ⟨rfl, rfl, rfl, rfl, rfl⟩ rfl rfl rfl rfl rfl (by kernel_rfl) Tryd.func3 (by kernel_rfl)
    (of_decide_eq_true (by kernel_rfl)) (by unfold Func.isWrapper; first | (rw [if_pos (by decide +kernel)]; kernel_rfl) | (rw [if_neg (by decide +kernel)]; exact ⟨rfl, rfl⟩))
    (fun os started H enc _ => lifted os started H enc)
theorem holds : Rows.BytesetAllCardSaid :=
  Claim7.holds_tied_plain_at .later [] [.data] true Rows.bytesetAllCard.stood.harness false
    rowHolds (fun _ h => by cases h) (by kernel_rfl) (fun _ h => by cases h) bytesetAll_row_tie rfl ⟨rfl, rfl⟩ (by kernel_rfl) rfl
    (fun f fn hf hfn => by
      obtain rfl : f = 3 := Option.some.inj ((show Tryd.prog.funcNamed Rows.bytesetAllRow.func = some 3 by kernel_rfl).symm.trans hf) |>.symm
      obtain rfl : fn = Tryd.f3 := (Option.some.inj (Tryd.func3.symm.trans hfn)).symm
      refine ⟨by kernel_rfl, fun j t ht => ?_⟩
      rw [Tryd.params3] at ht
      have hall : ∀ t ∈ [24, 5], Tryd.prog.wantsStandIn t = false := by
        intro t ht
        simp only [List.mem_cons, List.not_mem_nil, or_false] at ht
        rcases ht with rfl | rfl <;> kernel_rfl
      exact hall t (List.mem_of_getElem? (by simpa using ht)))
    (by kernel_rfl)
end Go.Proofs.YtjjinpgjfabemaaDoor.LbytesetAll
