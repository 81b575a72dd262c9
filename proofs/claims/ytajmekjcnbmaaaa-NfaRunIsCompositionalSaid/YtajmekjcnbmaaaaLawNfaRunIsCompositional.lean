/- the states behind a concatenation, taken step by step, are states of the automaton, and Run returns the least number that they accept (valid automata of at most 60 arcs and 40 states, two texts of at most 20 bytes; for others the law asks the examples alone), for every input. -/
import Derived.Test.YtajmekjcnbmaaaaWNfaRunIsCompositional
import Derived.Test.YtajmekjcnbmaaaaPl09a
set_option linter.unusedVariables false
set_option linter.unusedSimpArgs false
namespace Go.Proofs.Ytajmekjcnbmaaaa.LnfaRunIsCompositional
open Go.Lx Go.RowKit Go.ChangeShapes Go.WideShapes Go.ChangeAt
/- (x0 : T_NFA) (ok0 : okT_NFA x0) (x1 : Str) (ok1 : (fun s => s.length ≤ maxLen) x1) (x2 : Str) (ok2 : (fun s => s.length ≤ maxLen) x2) : M.law09_NfaRunIsCompositional x0 x1 x2 = some true -/
theorem conc9 : Try.prog.concrete 9 = true := by kernel_rfl
theorem own : ownKnob Try.prog.godebug = none := by kernel_rfl
theorem laidOut : laidOutB Try.prog = true := by kernel_rfl
set_option maxRecDepth 100000 in
theorem lifted (os : Os) (started : os.Started) (H : Type) (enc : TypeId × Value → H) :
    ReturnsInHanded {} Try.checked os 8 .any (Rows.nfaRunIsCompositionalSpec.pre6 enc Try.prog Try.f8 Rows.nfaRunIsCompositionalRow.domain false) (Rows.nfaRunIsCompositionalSpec.post enc Try.prog Try.f8 false true false false) := by
  refine returnsInHanded_of_change (C := Try.checked) own started (by kernel_rfl) Try.func8
    (ChangeSpec.witness6 (enc := enc) (C := Try.checked) false ⟨#[], #[.agg #[Value.int .i64 0, Value.int .i64 0, .slice none 0 0, .slice none 0 0], .string ByteArray.empty, .string ByteArray.empty], []⟩ 8 (by kernel_rfl) (by kernel_rfl) (by kernel_rfl) (by kernel_rfl)) ?_
  intro W base args ds gs before hval0 hW hcnd _
  have hval : ∀ (j : Nat) t v, Try.f8.params[j]? = some t → args[j]? = some v → Value.okWide Try.prog W .any base t v := hval0
  have hW' := hW
  obtain ⟨p, q, hA0, hV, rfl, hfz, hnd⟩ := hW
  have hA : DataW.TrodAll enc Try.prog W 0 (fun _ => true) true Try.f8.params.toList args.toList ds p := hA0
  rw [Try.params8] at hA hval
  obtain ⟨v0, vs0, d0, ds0, p0, q0, hargs, rfl, rfl, h0, r0⟩ := trodAll_cons hA
  obtain ⟨v1, vs1, d1, ds1, p1, q1, rfl, rfl, rfl, h1, r1⟩ := trodAll_cons r0
  obtain ⟨v2, vs2, d2, ds2, p2, q2, rfl, rfl, rfl, h2, r2⟩ := trodAll_cons r1
  obtain ⟨rfl, rfl, rfl⟩ := trodAll_nil r2
  obtain rfl : args = #[v0, v1, v2] := by cases args; simp_all
  obtain ⟨rfl, rfl⟩ := trodVars_none hV
  have lt0 : ∀ x ∈ p0, x.block < W.heap.size := by obtain ⟨m, hm⟩ := h0; exact DataW.trod_lt m _ _ _ hm
  obtain ⟨x0, y0, ok0⟩ := vrd_agg ti25 readsT_NFA (hval 0 25 v0 rfl rfl) h0
  obtain ⟨c0, hc0, y0⟩ := y0
  subst hc0
  have lt1 : ∀ x ∈ p1, x.block < W.heap.size := by obtain ⟨m, hm⟩ := h1; exact DataW.trod_lt m _ _ _ hm
  obtain ⟨x1, y1, ok1⟩ := vrd_one (single_str Try.underlying9) (reads_str Try.underlying9) (hval 1 9 v1 rfl rfl) h1
  obtain ⟨c1, hc1, y1⟩ := y1
  have y1 : c1 = _ := y1; subst y1; subst hc1
  have lt2 : ∀ x ∈ p2, x.block < W.heap.size := by obtain ⟨m, hm⟩ := h2; exact DataW.trod_lt m _ _ _ hm
  obtain ⟨x2, y2, ok2⟩ := vrd_one (single_str Try.underlying9) (reads_str Try.underlying9) (hval 2 9 v2 rfl rfl) h2
  obtain ⟨c2, hc2, y2⟩ := y2
  have y2 : c2 = _ := y2; subst y2; subst hc2
  refine (law_calls (law09_NfaRunIsCompositional_ok (law_comp9 x0 ok0 x1 ok1 x2 ok2) (imm_all W) y0)).mono fun e W' ⟨he, bel⟩ => ?_
  subst he
  exact ⟨_, rfl, _, _, _, [], _, [], hW', trodAll_mk1 (shut_bool Try.underlying4 _), (trodAll_cons_mk (Below.trod laidOut (by kernel_rfl) (of_decide_eq_true (by kernel_rfl)) h0 bel lt0) (trodAll_cons_mk (Below.trod laidOut (by kernel_rfl) (of_decide_eq_true (by kernel_rfl)) h1 bel lt1) (trodAll_cons_mk (Below.trod laidOut (by kernel_rfl) (of_decide_eq_true (by kernel_rfl)) h2 bel lt2) trodAll_mk0))), rfl, bel.frame _, fun h => by cases h⟩
theorem holds : Rows.NfaRunIsCompositionalSaid :=
  OpenClaim.holds_of_wide 8 Try.f8 rfl rfl rfl rfl rfl rfl rfl ⟨rfl, rfl, rfl, rfl, rfl⟩ rfl rfl rfl rfl rfl (by kernel_rfl) Try.func8 (by kernel_rfl)
    (of_decide_eq_true (by kernel_rfl)) (by unfold Func.isWrapper; first | (rw [if_pos (by decide +kernel)]; kernel_rfl) | (rw [if_neg (by decide +kernel)]; exact ⟨rfl, rfl⟩))
    (fun os started H enc _ => lifted os started H enc)
end Go.Proofs.Ytajmekjcnbmaaaa.LnfaRunIsCompositional
