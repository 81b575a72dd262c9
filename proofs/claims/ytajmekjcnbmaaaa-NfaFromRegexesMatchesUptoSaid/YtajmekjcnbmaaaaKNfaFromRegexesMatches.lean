/- FromRegexes returns the position automaton of the reference, which accepts a text with the least number of an expression that matches it (at most 6 valid expressions of at most 30 nodes each, texts of at most 12 bytes; for others the law asks the examples alone); the second form: arguments of a bulk of at most 1048576, for every input. -/
import Derived.Test.YtajmekjcnbmaaaaKNfaFromRegexesMatches10
set_option linter.unusedVariables false
set_option linter.unusedSimpArgs false
namespace Go.Proofs.Ytajmekjcnbmaaaa.LnfaFromRegexesMatches
open Go.Lx Go.RowKit Go.ChangeShapes Go.WideShapes Go.ChangeAt
theorem conc9 : Try.prog.concrete 9 = true := by kernel_rfl
theorem own : ownKnob Try.prog.godebug = none := by kernel_rfl
theorem laidOut : laidOutB Try.prog = true := by kernel_rfl
set_option maxRecDepth 100000 in
theorem lifted (os : Os) (started : os.Started) (H : Type) (enc : TypeId × Value → H) :
    ∀ F : Stop.Interp, ReturnsInHanded {} Try.checked os 9 .any ((Rows.OpenSpec.upto Rows.nfaFromRegexesMatchesSpec).pre6 enc Try.prog Try.f9 Rows.nfaFromRegexesMatchesUptoRow.domain false) (((Rows.OpenSpec.upto Rows.nfaFromRegexesMatchesSpec).at F).post enc Try.prog Try.f9 false true false false) := by
  intro F
  refine returnsInHanded_of_cond (C := Try.checked) (k := Rows.uptoSmall) rfl own started (by kernel_rfl) Try.func9
    (OpenSpec.witness (enc := enc) (C := Try.checked) (k := Rows.uptoSmall) rfl false ⟨#[], #[.slice none 0 0, .string ByteArray.empty], []⟩ 8 (by kernel_rfl) (by kernel_rfl) (by kernel_rfl) (x := ([.nil, .lit (.string [])], [], [])) (by kernel_rfl) (by kernel_rfl) (by kernel_rfl) (by kernel_rfl)) ?_
  intro W base args ds gs before hval0 hW hcnd hk _
  have hval : ∀ (j : Nat) t v, Try.f9.params[j]? = some t → args[j]? = some v → Value.okWide Try.prog W .any base t v := hval0
  have hW' := hW
  obtain ⟨p, q, hA0, hV, rfl, hfz, hnd⟩ := hW
  have hA : DataW.TrodAll enc Try.prog W 0 (fun _ => true) true Try.f9.params.toList args.toList ds p := hA0
  rw [Try.params9] at hA hval
  obtain ⟨v0, vs0, d0, ds0, p0, q0, hargs, rfl, rfl, h0, r0⟩ := trodAll_cons hA
  obtain ⟨v1, vs1, d1, ds1, p1, q1, rfl, rfl, rfl, h1, r1⟩ := trodAll_cons r0
  obtain ⟨rfl, rfl, rfl⟩ := trodAll_nil r1
  obtain rfl : args = #[v0, v1] := by cases args; simp_all
  obtain ⟨rfl, rfl⟩ := trodVars_none hV
  have lt0 : ∀ x ∈ p0, x.block < W.heap.size := by obtain ⟨m, hm⟩ := h0; exact DataW.trod_lt m _ _ _ hm
  obtain ⟨x0, y0, ok0, up0⟩ := vrdU_one (single_slice Try.underlying37) readsU_Regexes (hval 0 37 v0 rfl rfl) h0
  replace up0 := Nat.le_trans up0 (show Rows.uptoBulk d0 ≤ 1048576 by have h9 := of_decide_eq_true hk; simp only [List.append_nil, Rows.uptoBulkAll] at h9; omega)
  obtain ⟨c0, hc0, y0⟩ := y0
  obtain ⟨s0, rfl, y0⟩ := y0; subst hc0
  have lt1 : ∀ x ∈ p1, x.block < W.heap.size := by obtain ⟨m, hm⟩ := h1; exact DataW.trod_lt m _ _ _ hm
  obtain ⟨x1, y1, ok1⟩ := vrd_one (single_str Try.underlying9) (reads_str Try.underlying9) (hval 1 9 v1 rfl rfl) h1
  obtain ⟨c1, hc1, y1⟩ := y1
  have y1 : c1 = _ := y1; subst y1; subst hc1
  refine (law_calls (law09_NfaFromRegexesMatches_ok (law_matches9 x0 ok0 x1 ok1 up0) (imm_all W) y0)).mono fun e W' ⟨he, bel⟩ => ?_
  subst he
  exact ⟨_, rfl, _, _, _, [], _, [], hW', trodAll_mk1 (shut_bool Try.underlying4 _), (trodAll_cons_mk (Below.trod laidOut (by kernel_rfl) (of_decide_eq_true (by kernel_rfl)) h0 bel lt0) (trodAll_cons_mk (Below.trod laidOut (by kernel_rfl) (of_decide_eq_true (by kernel_rfl)) h1 bel lt1) trodAll_mk0)), rfl, bel.frame _, fun h => by cases h⟩
theorem holds : Rows.NfaFromRegexesMatchesUptoSaid :=
  OpenClaim.holds_of_cond 9 Try.f9 rfl rfl rfl rfl rfl rfl rfl ⟨rfl, rfl, rfl, rfl, rfl⟩ rfl rfl rfl rfl rfl (by kernel_rfl) Try.func9 (by kernel_rfl)
    (of_decide_eq_true (by kernel_rfl)) (by unfold Func.isWrapper; first | (rw [if_pos (by decide +kernel)]; kernel_rfl) | (rw [if_neg (by decide +kernel)]; exact ⟨rfl, rfl⟩))
    (fun os started H enc _ => lifted os started H enc)
end Go.Proofs.Ytajmekjcnbmaaaa.LnfaFromRegexesMatches
