/- what Parse gives without an error is valid, and Parse reads back the prices of any text that Format writes (any prices with at most 10 entries a list, at most 8 terminals with names of at most 30 bytes, any text of at most 500 bytes; for others the law asks the examples alone), for every input. -/
import Derived.Test.YtbfmbiapjgpfhaaGreatDoorWPricesRoundTrip
import Derived.Test.YtbfmbiapjgpfhaaGreatDoorPl34m
import Derived.Lay
import Derived.MakeChecks
import Derived.LaidOnce
import Derived.SevenTiedAt
import Derived.Deep.DeepHandedRow
import Derived.Test.YtbfmbiapjgpfhaaGreatDoorCards
import Derived.Test.YtbfmbiapjgpfhaaGreatDoorTie
set_option linter.unusedVariables false
set_option linter.unusedSimpArgs false
namespace Go.Proofs.YtbfmbiapjgpfhaaGreatDoor.LpricesRoundTrip
open Go.Lx Go.RowKit Go.ChangeShapes Go.WideShapes Go.ChangeAt
/- (x0 : T_Prices) (ok0 : okT_Prices x0) (x1 : (List Str)) (ok1 : (fun l => (∀ x ∈ l, (fun s => s.length ≤ maxLen) x) ∧ l.length ≤ maxLen) x1) (x2 : Str) (ok2 : (fun s => s.length ≤ maxLen) x2) : M.law34_PricesRoundTrip x0 x1 x2 = some true -/
theorem conc9 : Tryz.prog.concrete 9 = true := by kernel_rfl
theorem own : ownKnob Tryz.prog.godebug = none := by kernel_rfl
set_option maxRecDepth 100000 in
theorem lifted (os : Os) (started : os.Started) (H : Type) (enc : TypeId × Value → H) :
    ReturnsInHanded {} Tryz.checked os 6 .any (fun w args => (Rows.pricesRoundTripSpec.pre enc Tryz.prog Tryz.f6 Rows.pricesRoundTripRow.domain false w args ∧ laidMetH Tryz.prog Rows.pricesRoundTripRow.laid w) ∧ sizedMet enc Tryz.prog Tryz.f6 (OpenSpec.ofChange Rows.pricesRoundTripSpec) false w args)
      (Rows.pricesRoundTripSpec.post enc Tryz.prog Tryz.f6 false true false false) := by
  refine returnsInHanded_of_change_and (C := Tryz.checked) (X := fun w _ => laidMetH Tryz.prog Rows.pricesRoundTripRow.laid w) (fun _ _ _ hh h => h.of_heap hh) own started (by kernel_rfl) Tryz.func6
    (ChangeSpec.witness_shaped (enc := enc) (C := Tryz.checked) (os := os) (X := fun w _ => laidMetH Tryz.prog Rows.pricesRoundTripRow.laid w) false (World.laidAll Tryz.prog os Rows.pricesRoundTripRow.laid) #[.agg #[.slice none 0 0, .slice none 0 0, .slice none 0 0, Value.int .i64 0, Value.int .i64 0], .slice none 0 0, .string ByteArray.empty] 8 (World.laidAll_os _ _ _)
      (World.shaped_of_ZipB (by kernel_rfl) (by kernel_rfl)) (by kernel_rfl) (by kernel_rfl) (by kernel_rfl)
      (by rw [MakeChecks.laidMetH_plain _ _ _ (by kernel_rfl)]; exact laidMet_laidAll _ (by kernel_rfl) (by kernel_rfl))) ?_
  intro W base args ds gs before hval0 hW hcnd _ hL _
  replace hL : laidMet Tryz.prog Rows.pricesRoundTripRow.laid W := by rw [← MakeChecks.laidMetH_plain _ _ _ (by kernel_rfl)]; exact hL
  have hval : ∀ (j : Nat) t v, Tryz.f6.params[j]? = some t → args[j]? = some v → Value.okWide Tryz.prog W .any base t v := hval0
  have hW' := hW
  obtain ⟨p, q, hA0, hV, rfl, hfz, hnd⟩ := hW
  have hA : DataW.TrodAll enc Tryz.prog W 0 (fun _ => true) true Tryz.f6.params.toList args.toList ds p := hA0
  rw [Tryz.params6] at hA hval
  obtain ⟨v0, vs0, d0, ds0, p0, q0, hargs, rfl, rfl, h0, r0⟩ := trodAll_cons hA
  obtain ⟨v1, vs1, d1, ds1, p1, q1, rfl, rfl, rfl, h1, r1⟩ := trodAll_cons r0
  obtain ⟨v2, vs2, d2, ds2, p2, q2, rfl, rfl, rfl, h2, r2⟩ := trodAll_cons r1
  obtain ⟨rfl, rfl, rfl⟩ := trodAll_nil r2
  obtain rfl : args = #[v0, v1, v2] := by cases args; simp_all
  obtain ⟨rfl, rfl⟩ := trodVars_none hV
  have lt0 : ∀ x ∈ p0, x.block < W.heap.size := by obtain ⟨m, hm⟩ := h0; exact DataW.trod_lt m _ _ _ hm
  obtain ⟨x0, y0, ok0⟩ := vrd_agg ti25 readsT_Prices (hval 0 25 v0 rfl rfl) h0
  obtain ⟨c0, hc0, y0⟩ := y0
  subst hc0
  have lt1 : ∀ x ∈ p1, x.block < W.heap.size := by obtain ⟨m, hm⟩ := h1; exact DataW.trod_lt m _ _ _ hm
  obtain ⟨x1, y1, ok1⟩ := vrd_one (single_slice Tryz.underlying31) (reads_slice Tryz.underlying31 (by kernel_rfl) (by decide) (reads_str Tryz.underlying9)) (hval 1 31 v1 rfl rfl) h1
  obtain ⟨c1, hc1, y1⟩ := y1
  obtain ⟨s1, rfl, y1⟩ := y1; subst hc1
  have lt2 : ∀ x ∈ p2, x.block < W.heap.size := by obtain ⟨m, hm⟩ := h2; exact DataW.trod_lt m _ _ _ hm
  obtain ⟨x2, y2, ok2⟩ := vrd_one (single_str Tryz.underlying9) (reads_str Tryz.underlying9) (hval 2 9 v2 rfl rfl) h2
  obtain ⟨c2, hc2, y2⟩ := y2
  have y2 : c2 = _ := y2; subst y2; subst hc2
  have hG1 : GTab 1 (M.pow10.1.map (Value.int .u64)) (allHp W) := gtab_of_reads (Go.Lib.laidMet.reads (l := Rows.pricesRoundTripRow.laid) (n := "internal/strconv.uint64pow10") (d := Rows.laid_internal_strconv_uint64pow10) hL (List.Mem.tail _ (List.Mem.tail _ (List.Mem.head _)))) (by kernel_rfl) (by kernel_rfl) Tryz.underlying149 Tryz.underlying100 (by kernel_rfl) (by kernel_rfl) (by kernel_rfl)
  refine (law_calls (law34_PricesRoundTrip_ok (law_roundTrip x0 ok0 x1 ok1 x2 ok2) (imm_all W) y0 y1 hG1)).mono fun e W' ⟨he, bel⟩ => ?_
  subst he
  have laidOut : laidOutB Tryz.prog = true := by kernel_rfl
  exact ⟨_, rfl, _, _, _, [], _, [], hW', trodAll_mk1 (shut_bool Tryz.underlying4 _), (trodAll_cons_mk (Below.trod laidOut (by kernel_rfl) (of_decide_eq_true (by kernel_rfl)) h0 bel lt0) (trodAll_cons_mk (Below.trod laidOut (by kernel_rfl) (of_decide_eq_true (by kernel_rfl)) h1 bel lt1) (trodAll_cons_mk (Below.trod laidOut (by kernel_rfl) (of_decide_eq_true (by kernel_rfl)) h2 bel lt2) trodAll_mk0))), rfl, bel.frame _, fun h => by cases h⟩
theorem rowHolds : Rows.PricesRoundTripSaid :=
  OpenClaim.holds_of_wide 6 Tryz.f6 rfl rfl rfl rfl rfl rfl rfl ⟨rfl, rfl, rfl, rfl, rfl⟩ rfl rfl rfl rfl rfl (by kernel_rfl) Tryz.func6 (by kernel_rfl)
    (of_decide_eq_true (by kernel_rfl)) (by unfold Func.isWrapper; first | (rw [if_pos (by decide +kernel)]; kernel_rfl) | (rw [if_neg (by decide +kernel)]; exact ⟨rfl, rfl⟩))
    (fun os started H enc _ => lifted os started H enc)
theorem holds : Rows.PricesRoundTripCardSaid :=
  Claim7.holds_tied_plain_at .later [] [.data, .data, .data, .data, .sentinel, .sentinel, .pinned] true Rows.pricesRoundTripCard.stood.harness true
    rowHolds (fun _ h => by cases h) (by kernel_rfl) (fun _ h => by cases h) pricesRoundTrip_row_tie rfl ⟨rfl, rfl⟩ (by kernel_rfl) rfl
    (fun f fn hf hfn => by
      obtain rfl : f = 6 := Option.some.inj ((show Tryz.prog.funcNamed Rows.pricesRoundTripRow.func = some 6 by kernel_rfl).symm.trans hf) |>.symm
      obtain rfl : fn = Tryz.f6 := (Option.some.inj (Tryz.func6.symm.trans hfn)).symm
      refine ⟨by kernel_rfl, fun j t ht => ?_⟩
      rw [Tryz.params6] at ht
      have hall : ∀ t ∈ [25, 31, 9], Tryz.prog.wantsStandIn t = false := by
        intro t ht
        simp only [List.mem_cons, List.not_mem_nil, or_false] at ht
        rcases ht with rfl | rfl | rfl <;> kernel_rfl
      exact hall t (List.mem_of_getElem? (by simpa using ht)))
    (by kernel_rfl)
end Go.Proofs.YtbfmbiapjgpfhaaGreatDoor.LpricesRoundTrip
