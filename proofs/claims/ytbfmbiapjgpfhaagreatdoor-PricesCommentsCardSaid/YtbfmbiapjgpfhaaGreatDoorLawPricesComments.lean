/- comments and blank lines change no price and no error, and a malformed line behind a text is an error at its line (any text of at most 300 bytes for the terminals a, b, c, any comment of at most 50 bytes without a newline; for others the law asks the examples alone), for every input. -/
import Derived.Test.YtbfmbiapjgpfhaaGreatDoorWPricesComments
import Derived.Test.YtbfmbiapjgpfhaaGreatDoorPl34n
import Derived.Lay
import Derived.MakeChecks
import Derived.LaidOnce
import Derived.SevenTiedAt
import Derived.Deep.DeepHandedRow
import Derived.Test.YtbfmbiapjgpfhaaGreatDoorCards
import Derived.Test.YtbfmbiapjgpfhaaGreatDoorTie
set_option linter.unusedVariables false
set_option linter.unusedSimpArgs false
namespace Go.Proofs.YtbfmbiapjgpfhaaGreatDoor.LpricesComments
open Go.Lx Go.RowKit Go.ChangeShapes Go.WideShapes Go.ChangeAt
/- (x0 : Str) (ok0 : (fun s => s.length ≤ maxLen) x0) (x1 : Str) (ok1 : (fun s => s.length ≤ maxLen) x1) : M.law34_PricesComments x0 x1 = some true -/
theorem conc9 : Tryz.prog.concrete 9 = true := by kernel_rfl
theorem own : ownKnob Tryz.prog.godebug = none := by kernel_rfl
set_option maxRecDepth 100000 in
theorem lifted (os : Os) (started : os.Started) (H : Type) (enc : TypeId × Value → H) :
    ReturnsInHanded {} Tryz.checked os 8 .any (fun w args => (Rows.pricesCommentsSpec.pre enc Tryz.prog Tryz.f8 Rows.pricesCommentsRow.domain false w args ∧ laidMetH Tryz.prog Rows.pricesCommentsRow.laid w) ∧ sizedMet enc Tryz.prog Tryz.f8 (OpenSpec.ofChange Rows.pricesCommentsSpec) false w args)
      (Rows.pricesCommentsSpec.post enc Tryz.prog Tryz.f8 false true false false) := by
  refine returnsInHanded_of_change_and (C := Tryz.checked) (X := fun w _ => laidMetH Tryz.prog Rows.pricesCommentsRow.laid w) (fun _ _ _ hh h => h.of_heap hh) own started (by kernel_rfl) Tryz.func8
    (ChangeSpec.witness_shaped (enc := enc) (C := Tryz.checked) (os := os) (X := fun w _ => laidMetH Tryz.prog Rows.pricesCommentsRow.laid w) false (World.laidAll Tryz.prog os Rows.pricesCommentsRow.laid) #[.string ByteArray.empty, .string ByteArray.empty] 8 (World.laidAll_os _ _ _)
      (World.shaped_of_ZipB (by kernel_rfl) (by kernel_rfl)) (by kernel_rfl) (by kernel_rfl) (by kernel_rfl)
      (by rw [MakeChecks.laidMetH_plain _ _ _ (by kernel_rfl)]; exact laidMet_laidAll _ (by kernel_rfl) (by kernel_rfl))) ?_
  intro W base args ds gs before hval0 hW hcnd _ hL _
  replace hL : laidMet Tryz.prog Rows.pricesCommentsRow.laid W := by rw [← MakeChecks.laidMetH_plain _ _ _ (by kernel_rfl)]; exact hL
  have hval : ∀ (j : Nat) t v, Tryz.f8.params[j]? = some t → args[j]? = some v → Value.okWide Tryz.prog W .any base t v := hval0
  have hW' := hW
  obtain ⟨p, q, hA0, hV, rfl, hfz, hnd⟩ := hW
  have hA : DataW.TrodAll enc Tryz.prog W 0 (fun _ => true) true Tryz.f8.params.toList args.toList ds p := hA0
  rw [Tryz.params8] at hA hval
  obtain ⟨v0, vs0, d0, ds0, p0, q0, hargs, rfl, rfl, h0, r0⟩ := trodAll_cons hA
  obtain ⟨v1, vs1, d1, ds1, p1, q1, rfl, rfl, rfl, h1, r1⟩ := trodAll_cons r0
  obtain ⟨rfl, rfl, rfl⟩ := trodAll_nil r1
  obtain rfl : args = #[v0, v1] := by cases args; simp_all
  obtain ⟨rfl, rfl⟩ := trodVars_none hV
  have lt0 : ∀ x ∈ p0, x.block < W.heap.size := by obtain ⟨m, hm⟩ := h0; exact DataW.trod_lt m _ _ _ hm
  obtain ⟨x0, y0, ok0⟩ := vrd_one (single_str Tryz.underlying9) (reads_str Tryz.underlying9) (hval 0 9 v0 rfl rfl) h0
  obtain ⟨c0, hc0, y0⟩ := y0
  have y0 : c0 = _ := y0; subst y0; subst hc0
  have lt1 : ∀ x ∈ p1, x.block < W.heap.size := by obtain ⟨m, hm⟩ := h1; exact DataW.trod_lt m _ _ _ hm
  obtain ⟨x1, y1, ok1⟩ := vrd_one (single_str Tryz.underlying9) (reads_str Tryz.underlying9) (hval 1 9 v1 rfl rfl) h1
  obtain ⟨c1, hc1, y1⟩ := y1
  have y1 : c1 = _ := y1; subst y1; subst hc1
  have hG1 : GTab 1 (M.pow10.1.map (Value.int .u64)) (allHp W) := gtab_of_reads (Go.Lib.laidMet.reads (l := Rows.pricesCommentsRow.laid) (n := "internal/strconv.uint64pow10") (d := Rows.laid_internal_strconv_uint64pow10) hL (List.Mem.tail _ (List.Mem.tail _ (List.Mem.head _)))) (by kernel_rfl) (by kernel_rfl) Tryz.underlying149 Tryz.underlying100 (by kernel_rfl) (by kernel_rfl) (by kernel_rfl)
  refine (law_calls (law34_PricesComments_ok (law_comments x0 ok0 x1 ok1) (imm_all W) hG1)).mono fun e W' ⟨he, bel⟩ => ?_
  subst he
  have laidOut : laidOutB Tryz.prog = true := by kernel_rfl
  exact ⟨_, rfl, _, _, _, [], _, [], hW', trodAll_mk1 (shut_bool Tryz.underlying4 _), (trodAll_cons_mk (Below.trod laidOut (by kernel_rfl) (of_decide_eq_true (by kernel_rfl)) h0 bel lt0) (trodAll_cons_mk (Below.trod laidOut (by kernel_rfl) (of_decide_eq_true (by kernel_rfl)) h1 bel lt1) trodAll_mk0)), rfl, bel.frame _, fun h => by cases h⟩
theorem rowHolds : Rows.PricesCommentsSaid :=
  OpenClaim.holds_of_wide 8 Tryz.f8 rfl rfl rfl rfl rfl rfl rfl ⟨rfl, rfl, rfl, rfl, rfl⟩ rfl rfl rfl rfl rfl (by kernel_rfl) Tryz.func8 (by kernel_rfl)
    (of_decide_eq_true (by kernel_rfl)) (by unfold Func.isWrapper; first | (rw [if_pos (by decide +kernel)]; kernel_rfl) | (rw [if_neg (by decide +kernel)]; exact ⟨rfl, rfl⟩))
    (fun os started H enc _ => lifted os started H enc)
theorem holds : Rows.PricesCommentsCardSaid :=
  Claim7.holds_tied_plain_at .later [] [.data, .data, .data, .data, .sentinel, .sentinel, .pinned] true Rows.pricesCommentsCard.stood.harness true
    rowHolds (fun _ h => by cases h) (by kernel_rfl) (fun _ h => by cases h) pricesComments_row_tie rfl ⟨rfl, rfl⟩ (by kernel_rfl) rfl
    (fun f fn hf hfn => by
      obtain rfl : f = 8 := Option.some.inj ((show Tryz.prog.funcNamed Rows.pricesCommentsRow.func = some 8 by kernel_rfl).symm.trans hf) |>.symm
      obtain rfl : fn = Tryz.f8 := (Option.some.inj (Tryz.func8.symm.trans hfn)).symm
      refine ⟨by kernel_rfl, fun j t ht => ?_⟩
      rw [Tryz.params8] at ht
      have hall : ∀ t ∈ [9, 9], Tryz.prog.wantsStandIn t = false := by
        intro t ht
        simp only [List.mem_cons, List.not_mem_nil, or_false] at ht
        rcases ht with rfl | rfl <;> kernel_rfl
      exact hall t (List.mem_of_getElem? (by simpa using ht)))
    (by kernel_rfl)
end Go.Proofs.YtbfmbiapjgpfhaaGreatDoor.LpricesComments
