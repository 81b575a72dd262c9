/- lines behind a text set their own prices and no other (any text of at most 500 bytes that Parse takes for the terminals a, b, c, any two numbers; for others the law asks the examples alone); the second form: for texts of at most 1048576 letters, for every input. -/
import Derived.Test.YtbfmbiapjgpfhaaGreatDoorWPricesOverride
import Derived.Test.YtbfmbiapjgpfhaaGreatDoorPl34n
import Derived.Lay
import Derived.MakeChecks
import Derived.LaidOnce
import Derived.SevenTiedAt
import Derived.Deep.DeepHandedRow
import Derived.Test.YtbfmbiapjgpfhaaGreatDoorCards
import Derived.Test.YtbfmbiapjgpfhaaGreatDoorTie
set_option linter.unusedVariables false
set_option linter.unusedSimpArgs false
namespace Go.Proofs.YtbfmbiapjgpfhaaGreatDoor.LpricesOverride
open Go.Lx Go.RowKit Go.ChangeShapes Go.WideShapes Go.ChangeAt
/- (x0 : Str) (ok0 : (fun s => s.length ≤ maxLen) x0) (x1 : Int) (ok1 : (IOk .u16) x1) (x2 : Int) (ok2 : (IOk .u16) x2) : M.law34_PricesOverride x0 x1 x2 = some true -/
theorem conc9 : Tryz.prog.concrete 9 = true := by kernel_rfl
theorem own : ownKnob Tryz.prog.godebug = none := by kernel_rfl
set_option maxRecDepth 100000 in
theorem lifted (os : Os) (started : os.Started) (H : Type) (enc : TypeId × Value → H) :
    ∀ F : Stop.Interp, ReturnsInHanded {} Tryz.checked os 7 .any ((Rows.OpenSpec.upto Rows.pricesOverrideSpec).preRow enc Tryz.prog Tryz.f7 Rows.pricesOverrideUptoRow.domain false Rows.pricesOverrideUptoRow.laid) (((Rows.OpenSpec.upto Rows.pricesOverrideSpec).at F).post enc Tryz.prog Tryz.f7 false true false false) := by
  intro F
  have hread : (DataW.whole enc Tryz.prog ((World.laidAll Tryz.prog os Rows.pricesOverrideUptoRow.laid).forCall (fun _ _ => 0) ⟨#[], #[.string ByteArray.empty, Value.int .u16 0, Value.int .u16 0], []⟩).memory Tryz.f7.params.toList Rows.pricesOverrideSpec.vars false #[.string ByteArray.empty, Value.int .u16 0, Value.int .u16 0].toList 8).map (fun x => (x.1, x.2.1)) = some ([.lit (.string []), .lit (.int .u16 0), .lit (.int .u16 0)], []) := by kernel_rfl
  obtain ⟨⟨x1, x2, x3⟩, hx, hx1⟩ := Option.map_eq_some_iff.1 hread
  simp only [Prod.mk.injEq] at hx1
  obtain ⟨rfl, rfl⟩ := hx1
  have hmet : laidMetH Tryz.prog Rows.pricesOverrideUptoRow.laid ((World.laidAll Tryz.prog os Rows.pricesOverrideUptoRow.laid).forCall (fun _ _ => 0) ⟨#[], #[.string ByteArray.empty, Value.int .u16 0, Value.int .u16 0], []⟩).memory := by rw [MakeChecks.laidMetH_plain _ _ _ (by kernel_rfl)]; exact laidMet_laidAll _ (by kernel_rfl) (by kernel_rfl)
  have hok : Input.okWideB Tryz.prog ((World.laidAll Tryz.prog os Rows.pricesOverrideUptoRow.laid).forCall (fun _ _ => 0) ⟨#[], #[.string ByteArray.empty, Value.int .u16 0, Value.int .u16 0], []⟩) 7 ⟨#[], #[.string ByteArray.empty, Value.int .u16 0, Value.int .u16 0], []⟩ = true := by kernel_rfl
  refine returnsInHanded_of_row (C := Tryz.checked) (s := (Rows.OpenSpec.upto Rows.pricesOverrideSpec)) own started (by kernel_rfl) Tryz.func7
    ⟨World.laidAll Tryz.prog os Rows.pricesOverrideUptoRow.laid, fun _ _ => 0, ⟨#[], #[.string ByteArray.empty, Value.int .u16 0, Value.int .u16 0], []⟩, World.laidAll_os _ _ _, World.shaped_of_ZipB (by kernel_rfl) (by kernel_rfl), (Input.okWide_of_okWideB (base := 0) hok).1, (Input.okWide_of_okWideB hok).2, OpenSpec.preRow_of_cond 8 hx (by kernel_rfl) (fun k hk => by cases hk; kernel_rfl) (by kernel_rfl) hmet, by
      simp only [Assume.holds]
      exact ⟨by simp, by simp, by simp, by simp, by simp⟩⟩ ?_
  intro W base args ds gs before hval0 hW _ hk _ hL _ _
  replace hk := hk _ rfl
  replace hL : laidMet Tryz.prog Rows.pricesOverrideUptoRow.laid W := by rw [← MakeChecks.laidMetH_plain _ _ _ (by kernel_rfl)]; exact hL
  have hval : ∀ (j : Nat) t v, Tryz.f7.params[j]? = some t → args[j]? = some v → Value.okWide Tryz.prog W .any base t v := hval0
  have hW' := hW
  obtain ⟨p, q, hA0, hV, rfl, hfz, hnd⟩ := hW
  have hA : DataW.TrodAll enc Tryz.prog W 0 (fun _ => true) true Tryz.f7.params.toList args.toList ds p := hA0
  rw [Tryz.params7] at hA hval
  obtain ⟨v0, vs0, d0, ds0, p0, q0, hargs, rfl, rfl, h0, r0⟩ := trodAll_cons hA
  obtain ⟨v1, vs1, d1, ds1, p1, q1, rfl, rfl, rfl, h1, r1⟩ := trodAll_cons r0
  obtain ⟨v2, vs2, d2, ds2, p2, q2, rfl, rfl, rfl, h2, r2⟩ := trodAll_cons r1
  obtain ⟨rfl, rfl, rfl⟩ := trodAll_nil r2
  obtain rfl : args = #[v0, v1, v2] := by cases args; simp_all
  obtain ⟨rfl, rfl⟩ := trodVars_none hV
  have lt0 : ∀ x ∈ p0, x.block < W.heap.size := by obtain ⟨m, hm⟩ := h0; exact DataW.trod_lt m _ _ _ hm
  obtain ⟨x0, y0, ok0, up0⟩ := vrdU_one (single_str Tryz.underlying9) (readsU_str Tryz.underlying9) (hval 0 9 v0 rfl rfl) h0
  replace up0 := Nat.le_trans up0 (show Rows.uptoBulk d0 ≤ 1048576 by have h9 := of_decide_eq_true hk; simp only [List.append_nil, Rows.uptoBulkAll] at h9; omega)
  obtain ⟨c0, hc0, y0⟩ := y0
  have y0 : c0 = _ := y0; subst y0; subst hc0
  have lt1 : ∀ x ∈ p1, x.block < W.heap.size := by obtain ⟨m, hm⟩ := h1; exact DataW.trod_lt m _ _ _ hm
  obtain ⟨x1, y1, ok1⟩ := vrd_one (single_int Tryz.underlying41) (reads_int Tryz.underlying41) (hval 1 41 v1 rfl rfl) h1
  obtain ⟨c1, hc1, y1⟩ := y1
  have y1 : c1 = _ := y1; subst y1; subst hc1
  have lt2 : ∀ x ∈ p2, x.block < W.heap.size := by obtain ⟨m, hm⟩ := h2; exact DataW.trod_lt m _ _ _ hm
  obtain ⟨x2, y2, ok2⟩ := vrd_one (single_int Tryz.underlying41) (reads_int Tryz.underlying41) (hval 2 41 v2 rfl rfl) h2
  obtain ⟨c2, hc2, y2⟩ := y2
  have y2 : c2 = _ := y2; subst y2; subst hc2
  have hG1 : GTab 1 (M.pow10.1.map (Value.int .u64)) (allHp W) := gtab_of_reads (Go.Lib.laidMet.reads (l := Rows.pricesOverrideUptoRow.laid) (n := "internal/strconv.uint64pow10") (d := Rows.laid_internal_strconv_uint64pow10) hL (List.Mem.tail _ (List.Mem.tail _ (List.Mem.head _)))) (by kernel_rfl) (by kernel_rfl) Tryz.underlying149 Tryz.underlying100 (by kernel_rfl) (by kernel_rfl) (by kernel_rfl)
  refine (law_calls (law34_PricesOverride_ok (law_override x0 ok0 x1 ok1 x2 ok2 up0) (imm_all W) hG1)).mono fun e W' ⟨he, bel⟩ => ?_
  subst he
  have laidOut : laidOutB Tryz.prog = true := by kernel_rfl
  exact ⟨_, rfl, _, _, _, [], _, [], hW', trodAll_mk1 (shut_bool Tryz.underlying4 _), (trodAll_cons_mk (Below.trod laidOut (by kernel_rfl) (of_decide_eq_true (by kernel_rfl)) h0 bel lt0) (trodAll_cons_mk (Below.trod laidOut (by kernel_rfl) (of_decide_eq_true (by kernel_rfl)) h1 bel lt1) (trodAll_cons_mk (Below.trod laidOut (by kernel_rfl) (of_decide_eq_true (by kernel_rfl)) h2 bel lt2) trodAll_mk0))), rfl, bel.frame _, fun h => by cases h⟩
theorem rowHolds : Rows.PricesOverrideUptoSaid :=
  OpenClaim.holds_of_cond 7 Tryz.f7 rfl rfl rfl rfl rfl rfl rfl ⟨rfl, rfl, rfl, rfl, rfl⟩ rfl rfl rfl rfl rfl (by kernel_rfl) Tryz.func7 (by kernel_rfl)
    (of_decide_eq_true (by kernel_rfl)) (by unfold Func.isWrapper; first | (rw [if_pos (by decide +kernel)]; kernel_rfl) | (rw [if_neg (by decide +kernel)]; exact ⟨rfl, rfl⟩))
    (fun os started H enc _ F => by rw [OpenClaim.pre_eq_preRow]; exact lifted os started H enc F)
theorem holds : Rows.PricesOverrideUptoCardSaid :=
  Claim7.holds_tied_plain_at .later [] [.data, .data, .data, .data, .sentinel, .sentinel, .pinned] true Rows.pricesOverrideUptoCard.stood.harness true
    rowHolds (fun _ h => by cases h) (by kernel_rfl) (fun _ h => by cases h) pricesOverrideUpto_row_tie rfl ⟨rfl, rfl⟩ (by kernel_rfl) rfl
    (fun f fn hf hfn => by
      obtain rfl : f = 7 := Option.some.inj ((show Tryz.prog.funcNamed Rows.pricesOverrideUptoRow.func = some 7 by kernel_rfl).symm.trans hf) |>.symm
      obtain rfl : fn = Tryz.f7 := (Option.some.inj (Tryz.func7.symm.trans hfn)).symm
      refine ⟨by kernel_rfl, fun j t ht => ?_⟩
      rw [Tryz.params7] at ht
      have hall : ∀ t ∈ [9, 41, 41], Tryz.prog.wantsStandIn t = false := by
        intro t ht
        simp only [List.mem_cons, List.not_mem_nil, or_false] at ht
        rcases ht with rfl | rfl | rfl <;> kernel_rfl
      exact hall t (List.mem_of_getElem? (by simpa using ht)))
    (by kernel_rfl)
end Go.Proofs.YtbfmbiapjgpfhaaGreatDoor.LpricesOverride
