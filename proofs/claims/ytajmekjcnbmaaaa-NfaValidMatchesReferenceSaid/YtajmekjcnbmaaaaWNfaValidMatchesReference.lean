/- The walk of the law. Printed by a program of my own. -/
import Derived.Test.YtajmekjcnbmaaaaTyp
import Derived.Test.YtajmekjcnbmaaaaWalk3
import Derived.Test.YtajmekjcnbmaaaaWalk4
import Derived.Test.YtajmekjcnbmaaaaWalk5
set_option linter.unusedVariables false
set_option linter.unusedSimpArgs false
namespace Go.Proofs.Ytajmekjcnbmaaaa
open Go.Lx Go.RowKit
set_option maxRecDepth 100000 in
theorem law09_NfaValidMatchesReference_ok {nv1 : T_NFA} {r : Bool} (hM : M.law09_NfaValidMatchesReference nv1 = some r) {g0 : Hp} {w0 : World} (hi : Imm g0 w0) {cs1 : List Value} (hcs1 : tT_NFA.rel g0 cs1 nv1) :
    CallsV Try.prog 3 #[Value.agg cs1.toArray] w0 (fun v w' => ∃ g', (VRd tBool false g' v r) ∧ Ext g0 w0 g' w') := by
 unfold M.law09_NfaValidMatchesReference at hM
 obtain ⟨cs2, cs3, cs4, cs5, rfl, hcs2, hcs3, hcs4, hcs5⟩ := hcs1
 have hcs2 : cs2 = _ := hcs2; subst hcs2
 have hcs3 : cs3 = _ := hcs3; subst hcs3
 obtain ⟨v1, rfl, hRv1⟩ := hcs4
 obtain ⟨v2, rfl, hRv2⟩ := hcs5
 have hs := Sep.start hi
 refine calls_of_WP (args := [Value.agg (List.toArray (α := Value) [Value.int .i64 nv1.States, Value.int .i64 nv1.Start, v1, v2])]) Try.func3 rfl Try.ntmps3 rfl ?_
 have hds : (argEnv [Value.agg (List.toArray (α := Value) [Value.int .i64 nv1.States, Value.int .i64 nv1.Start, v1, v2])]).ds = [] := rfl
 refine WP_seq <| WP_region <| OW_box (v := Value.agg (List.toArray (α := Value) [Value.int .i64 nv1.States, Value.int .i64 nv1.Start, v1, v2])) rfl hs (zs := [Value.int .i64 nv1.States, Value.int .i64 nv1.Start, v1, v2]) rfl rfl ?_
 intro b1 wv1 hs
 refine O (r_assign (v := Value.bool false) rfl) rfl <| OW_nil <| WP_seq <| WP_seq <| WP_region ?_
 obtain ⟨rv1, hrv1, hM⟩ := bindS hM
 refine C [] cf11 rfl (law09_awake_ok hrv1 hs.imm) rfl ?_
 rintro v3 wv2 ⟨gg1, hvv3, hegg1⟩
 have hlegg1 := hegg1.le hs.imm
 replace hs := hs.call hegg1
 replace hRv1 := hRv1.mono hlegg1
 replace hRv2 := hRv2.mono hlegg1
 obtain ⟨cs6, rfl, hcs6⟩ := hvv3
 have hcs6 : cs6 = _ := hcs6; subst hcs6
 refine O (r_not rfl) rfl <| OW_nil ?_
 rcases condS hM with ⟨hc1, hM⟩ | ⟨hc1, hM⟩
 ·refine WP_true rfl hc1 <| WP_seq <| WP_region <| O (r_assign (v := Value.bool false) rfl) rfl <| OW_nil <| WP_ret ?_
  obtain rfl := Option.some.inj hM
  refine FL_nil hds ?_
  exact ⟨_, res1 Try.results3 (rv_tmp (v := Value.bool false) rfl), gg1, ⟨[Value.bool false], rfl, rfl⟩, hs.ext⟩
 ·refine WP_false rfl hc1 <| WP_skip ?_
  obtain ⟨xv1, hx1, hKhx1⟩ := bindS hM
  refine WP_cut (fun E w => ∃ (gg4 : Hp), E 2 = Value.bool xv1 ∧ E.ds = [] ∧ Hle gg1 gg4 ∧ Go.Lx.Sep g0 w0 gg4 w []) ?_ ?_
  ·have hM := hx1
   have hagg1 := Hle.refl gg1
   refine WP_any (.q 0 (.q 1 (.q 2 (.q 3 (.q 4 (.q 5 (.q 7 (.s 6 (.s 8 (.q 9 (.q 10 (.q 11 (.leaf))))))))))))) (SS g0 w0 gg1 [Go.Lx.box b1 25 ([Value.int .i64 nv1.States, Value.int .i64 nv1.Start, v1, v2])]) mo (by decide +kernel) ?_
   have hs := hs.drew
   have hS : SS g0 w0 gg1 [Go.Lx.box b1 25 ([Value.int .i64 nv1.States, Value.int .i64 nv1.Start, v1, v2])] _ := ⟨gg1, Hle.refl _, hs⟩
   refine A rfl hS (fun w9 ⟨g9, hle9, hs⟩ => r_fieldAddr Try.underlying25 ti22 rfl rfl (by decide) rfl rfl) rfl <| A rfl hS (fun w9 ⟨g9, hle9, hs⟩ => r_load (v := v1) ti22 rfl (hs.cell (i := 0) (o := 2) rfl rfl)) rfl ?_
   obtain ⟨a2, ca2, hva2⟩ := hRv1.shape
   refine A rfl hS (fun w9 ⟨g9, hle9, hs⟩ => r_lenSl (v := v1) Try.underlying22 rfl hva2) rfl <| A rfl hS (fun w9 ⟨g9, hle9, hs⟩ => r_gtr rfl rfl) rfl <| A rfl hS (fun w9 ⟨g9, hle9, hs⟩ => r_move (v := Value.bool (decide (2000 < (nv1.Arcs.length : Int)))) rfl) rfl ?_
   rcases condS hM with ⟨hg2, hM⟩ | ⟨hg2, hM⟩
   ·refine AK rfl rfl rfl rfl (by rw [hg2]; rfl) hS rfl <| AK rfl rfl rfl rfl (by rw [hg2]; rfl) hS rfl <| A1 rfl <| OK rfl rfl rfl (by rw [hg2]; rfl) rfl <| OW_nil ⟨fun _ => hS, ?_⟩
    refine A1 rfl <| OK rfl rfl rfl (by rw [hg2]; rfl) rfl <| OW_nil ⟨fun _ => hS, ?_⟩
    refine AK rfl rfl rfl rfl (by rw [hg2]; rfl) hS rfl <| A rfl hS (fun w9 ⟨g9, hle9, hs⟩ => r_pickT (v := Value.bool true) rfl hg2 rfl) rfl <| A rfl hS (fun w9 ⟨g9, hle9, hs⟩ => r_assign (v := Value.bool true) rfl) rfl <| AN ?_
    obtain rfl := Option.some.inj hM
    exact ⟨gg1, rfl, hds, (Hle.refl _), (hs.sub (.cons _ .slnil))⟩
   ·refine AG rfl rfl rfl rfl (by rw [hg2]; rfl) hS (fun w9 ⟨g9, hle9, hs⟩ => r_loadN (cs := [Value.int .i64 nv1.States, Value.int .i64 nv1.Start, v1, v2]) ti25 rfl rfl (hs.cells (i := 0) rfl)) rfl <| AG rfl rfl rfl rfl (by rw [hg2]; rfl) hS (fun w9 ⟨g9, hle9, hs⟩ => r_loadN (cs := [Value.int .i64 nv1.States, Value.int .i64 nv1.Start, v1, v2]) ti25 rfl rfl (hs.cells (i := 0) rfl)) rfl <| A1 rfl ?_
    obtain ⟨rv4, hrv4, hM⟩ := bindS hM
    refine CG rfl rfl rfl (by rw [hg2]; rfl) [Value.agg (List.toArray (α := Value) [Value.int .i64 nv1.States, Value.int .i64 nv1.Start, v1, v2])] cf12 rfl (nfa_Valid_ok hrv4 hs.imm (⟨[Value.int .i64 nv1.States], [Value.int .i64 nv1.Start], [v1], [v2], rfl, rfl, rfl, ⟨_, rfl, hRv1⟩, ⟨_, rfl, hRv2⟩⟩)) rfl ?_
    rintro v6 wv5 ⟨gg5, hvv6, hegg5⟩
    have hlegg5 := hegg5.le hs.imm
    replace hs := hs.call hegg5
    replace hRv1 := hRv1.mono hlegg5
    replace hRv2 := hRv2.mono hlegg5
    replace hagg1 := hagg1.trans hlegg5
    obtain ⟨cs9, rfl, hcs9⟩ := hvv6
    have hcs9 : cs9 = _ := hcs9; subst hcs9
    refine OW_nil ?_
    replace hS := hS.to hagg1 hs
    refine ⟨fun _ => hS, ?_⟩
    refine A1 rfl ?_
    obtain ⟨rv5, hrv5, hM⟩ := bindS hM
    refine CG rfl rfl rfl (by rw [hg2]; rfl) [Value.agg (List.toArray (α := Value) [Value.int .i64 nv1.States, Value.int .i64 nv1.Start, v1, v2])] cf13 rfl (ref09_Valid_ok hrv5 hs.imm (⟨[Value.int .i64 nv1.States], [Value.int .i64 nv1.Start], [v1], [v2], rfl, rfl, rfl, ⟨_, rfl, hRv1⟩, ⟨_, rfl, hRv2⟩⟩)) rfl ?_
    rintro v7 wv6 ⟨gg6, hvv7, hegg6⟩
    have hlegg6 := hegg6.le hs.imm
    replace hs := hs.call hegg6
    replace hagg1 := hagg1.trans hlegg6
    obtain ⟨cs10, rfl, hcs10⟩ := hvv7
    have hcs10 : cs10 = _ := hcs10; subst hcs10
    refine OW_nil ?_
    replace hS := hS.to hagg1 hs
    refine ⟨fun _ => hS, ?_⟩
    refine AG rfl rfl rfl rfl (by rw [hg2]; rfl) hS (fun w9 ⟨g9, hle9, hs⟩ => r_eqlB Try.underlying4 rfl rfl) rfl <| A rfl hS (fun w9 ⟨g9, hle9, hs⟩ => r_pickF (v := Value.bool (rv4 == rv5)) rfl hg2 rfl) rfl <| A rfl hS (fun w9 ⟨g9, hle9, hs⟩ => r_assign (v := Value.bool (rv4 == rv5)) rfl) rfl <| AN ?_
    obtain rfl := Option.some.inj hM
    exact ⟨gg6, rfl, hds, hagg1, (hs.sub (.cons _ .slnil))⟩
  ·clear hs
   rintro E w ⟨gg4, hE2, hds, hlegg4, hs⟩
   have hM := hKhx1
   obtain ⟨E, rfl⟩ := open1 (E := E) hE2
   refine WP_ret ?_
   obtain rfl := Option.some.inj hM
   refine FL_nil hds ?_
   exact ⟨_, res1 Try.results3 (rv_tmp (v := Value.bool xv1) rfl), gg4, ⟨[Value.bool xv1], rfl, rfl⟩, hs.ext⟩

end Go.Proofs.Ytajmekjcnbmaaaa
