/- The walks: what each function does is what its model says. Printed by a program of my own. -/
import Derived.Test.YtajmekjcnbmaaaaTyp
set_option linter.unusedVariables false
set_option linter.unusedSimpArgs false
namespace Go.Proofs.Ytajmekjcnbmaaaa
open Go.Lx Go.RowKit
set_option maxRecDepth 100000 in
theorem ref09_Same_ok {a1 : (List Int)} {b1 : (List Int)} {r : Bool} (hM : M.ref09_Same a1 b1 = some r) {g0 : Hp} {w0 : World} (hi : Imm g0 w0) {v1 : Value} (hRv1 : RdS (tInt .i64) g0 v1 a1) {v2 : Value} (hRv2 : RdS (tInt .i64) g0 v2 b1) :
    CallsV Try.prog 16 #[v1, v2] w0 (fun v w' => ∃ g', (VRd tBool false g' v r) ∧ Ext g0 w0 g' w') := by
 unfold M.ref09_Same at hM
 have hs := Sep.start hi
 refine calls_of_WP (args := [v1, v2]) Try.func16 rfl Try.ntmps16 rfl ?_
 have hds : (argEnv [v1, v2]).ds = [] := rfl
 refine WP_seq <| WP_region <| O (r_assign (v := Value.bool false) rfl) rfl <| OW_nil <| WP_seq <| WP_seq <| WP_region <| O (r_move (v := v1) rfl) rfl ?_
 obtain ⟨a2, ca2, hva2⟩ := hRv1.shape
 refine O (r_lenSl (v := v1) Try.underlying23 rfl hva2) rfl <| O (r_move (v := v2) rfl) rfl ?_
 obtain ⟨a3, ca3, hva3⟩ := hRv2.shape
 refine O (r_lenSl (v := v2) Try.underlying23 rfl hva3) rfl <| O (r_neq rfl rfl) rfl <| OW_nil ?_
 rcases condS hM with ⟨hc1, hM⟩ | ⟨hc1, hM⟩
 ·refine WP_true rfl hc1 <| WP_seq <| WP_region <| O (r_assign (v := Value.bool false) rfl) rfl <| OW_nil <| WP_ret ?_
  obtain rfl := Option.some.inj hM
  refine FL_nil hds ?_
  exact ⟨_, res1 Try.results16 (rv_tmp (v := Value.bool false) rfl), g0, ⟨[Value.bool false], rfl, rfl⟩, hs.ext⟩
 ·refine WP_false rfl hc1 <| WP_skip ?_
  obtain ⟨o3, hx1, hKhx1⟩ := stepS hM
  refine WP_cut (fun E w => ∃ u9 : Unit, o3 = .next u9 ∧ E.ds = [] ∧ Go.Lx.Sep g0 w0 g0 w []) ?_ ?_
  ·have hM := hx1
   have hag0 := Hle.refl g0
   refine WP_seq <| WP_region <| O (r_assign (v := Value.int .i64 0) rfl) rfl <| OW_nil <| WP_block <| WP_loop (fun (i5 : Int) E w => E 0 = v1 ∧ E 1 = v2 ∧ E 5 = Value.int .i64 i5 ∧ E.ds = [] ∧ Go.Lx.Sep g0 w0 g0 w []) hM ⟨rfl, rfl, rfl, hds, hs⟩ ?_
   clear hs hM
   rintro i5 o2 E w hM ⟨hE0, hE1, hE5, hds, hs⟩
   obtain ⟨E, rfl⟩ := open3 (E := E) hE0 hE1 hE5
   refine WP_seq <| WP_seq <| WP_region <| O (r_move (v := Value.int .i64 i5) rfl) rfl <| O (r_move (v := v1) rfl) rfl ?_
   obtain ⟨a9, ca9, hva9⟩ := hRv1.shape
   refine O (r_lenSl (v := v1) Try.underlying23 rfl hva9) rfl <| O (r_lss rfl rfl) rfl <| OW_nil ?_
   rcases condS hM with ⟨hc12, hM⟩ | ⟨hc12, hM⟩
   ·refine WP_true rfl hc12 <| WP_skip <| WP_seq <| WP_block <| WP_seq <| WP_draw mo (by decide +kernel) ?_
    have hs := hs.drew
    refine S (r_move (v := v1) rfl) rfl <| S (r_move (v := Value.int .i64 i5) rfl) rfl ?_
    obtain ⟨e11, he11, hM⟩ := bindS hM
    obtain ⟨b12, ob12, cb12, hvb12, cs11, hcs11, hcb12⟩ := hRv1.at he11
    have hcs11 : cs11 = _ := hcs11; subst hcs11
    refine S (r_idxSl Try.underlying23 ti3 (v := v1) rfl hvb12 rfl (idxL_some he11).1 (idxL_some he11).2.1) rfl <| S (r_loadEl (cs := [Value.int .i64 e11]) ti3 rfl rfl (.inr rfl) (hcb12 _ hs.imm) (v := Value.int .i64 e11) rfl) rfl <| S (r_move (v := v2) rfl) rfl <| S (r_move (v := Value.int .i64 i5) rfl) rfl ?_
    obtain ⟨e12, he12, hM⟩ := bindS hM
    obtain ⟨b13, ob13, cb13, hvb13, cs12, hcs12, hcb13⟩ := hRv2.at he12
    have hcs12 : cs12 = _ := hcs12; subst hcs12
    refine S (r_idxSl Try.underlying23 ti3 (v := v2) rfl hvb13 rfl (idxL_some he12).1 (idxL_some he12).2.1) rfl <| S (r_loadEl (cs := [Value.int .i64 e12]) ti3 rfl rfl (.inr rfl) (hcb13 _ hs.imm) (v := Value.int .i64 e12) rfl) rfl <| S (r_neq rfl rfl) rfl <| SW_nil ?_
    rcases condS hM with ⟨hc13, hM⟩ | ⟨hc13, hM⟩
    ·refine WP_true rfl hc13 <| WP_seq <| WP_region <| O (r_assign (v := Value.bool false) rfl) rfl <| OW_nil <| WP_ret ?_
     obtain rfl := Option.some.inj hM
     refine fun hr => ?_
     have hM := congrArg some hr
     obtain rfl := Option.some.inj hM
     have hM := hKhx1
     obtain rfl := Option.some.inj hM
     refine FL_nil hds ?_
     exact ⟨_, res1 Try.results16 (rv_tmp (v := Value.bool false) rfl), g0, ⟨[Value.bool false], rfl, rfl⟩, hs.ext⟩
    ·refine WP_false rfl hc13 <| WP_skip <| WP_region <| O (r_move (v := Value.int .i64 i5) rfl) rfl ?_
     obtain ⟨t6, ht6, hM⟩ := bindS hM
     refine O (r_addM rfl rfl ht6) rfl <| O (r_assign (v := Value.int .i64 t6) rfl) rfl <| OW_nil ?_
     obtain rfl := Option.some.inj hM
     exact ⟨rfl, rfl, rfl, hds, hs⟩
   ·refine WP_false rfl hc12 <| WP_exit ?_
    obtain rfl := Option.some.inj hM
    refine fun hr => ?_
    have hM := congrArg some hr
    obtain rfl := Option.some.inj hM
    exact ⟨(), rfl, hds, hs⟩
  ·clear hs
   rintro E w ⟨_, rfl, hds, hs⟩
   have hM := hKhx1
   dsimp only [onStep] at hM
   refine WP_seq <| WP_region <| O (r_assign (v := Value.bool true) rfl) rfl <| OW_nil <| WP_ret ?_
   obtain rfl := Option.some.inj hM
   refine FL_nil hds ?_
   exact ⟨_, res1 Try.results16 (rv_tmp (v := Value.bool true) rfl), g0, ⟨[Value.bool true], rfl, rfl⟩, hs.ext⟩


end Go.Proofs.Ytajmekjcnbmaaaa
