/- The walk of the law. Printed by a program of my own. -/
import Derived.Test.YtajmekjcnbmaaaaTyp
import Derived.Test.YtajmekjcnbmaaaaWalk4
import Derived.Test.YtajmekjcnbmaaaaWalk6
import Derived.Test.YtajmekjcnbmaaaaWalk12
set_option linter.unusedVariables false
set_option linter.unusedSimpArgs false
namespace Go.Proofs.Ytajmekjcnbmaaaa
open Go.Lx Go.RowKit
set_option maxRecDepth 100000 in
theorem law09_NfaRunMatchesReference_ok {nv1 : T_NFA} {s1 : Str} {r : Bool} (hM : M.law09_NfaRunMatchesReference nv1 s1 = some r) {g0 : Hp} {w0 : World} (hi : Imm g0 w0) {cs1 : List Value} (hcs1 : tT_NFA.rel g0 cs1 nv1) :
    CallsV Try.prog 7 #[Value.agg cs1.toArray, encS s1] w0 (fun v w' => ∃ g', (VRd tBool false g' v r) ∧ Ext g0 w0 g' w') := by
 unfold M.law09_NfaRunMatchesReference at hM
 obtain ⟨cs2, cs3, cs4, cs5, rfl, hcs2, hcs3, hcs4, hcs5⟩ := hcs1
 have hcs2 : cs2 = _ := hcs2; subst hcs2
 have hcs3 : cs3 = _ := hcs3; subst hcs3
 obtain ⟨v1, rfl, hRv1⟩ := hcs4
 obtain ⟨v2, rfl, hRv2⟩ := hcs5
 have hs := Sep.start hi
 refine calls_of_WP (args := [Value.agg (List.toArray (α := Value) [Value.int .i64 nv1.States, Value.int .i64 nv1.Start, v1, v2]), encS s1]) Try.func7 rfl Try.ntmps7 rfl ?_
 have hds : (argEnv [Value.agg (List.toArray (α := Value) [Value.int .i64 nv1.States, Value.int .i64 nv1.Start, v1, v2]), encS s1]).ds = [] := rfl
 refine WP_seq <| WP_region <| OW_box (v := Value.agg (List.toArray (α := Value) [Value.int .i64 nv1.States, Value.int .i64 nv1.Start, v1, v2])) rfl hs (zs := [Value.int .i64 nv1.States, Value.int .i64 nv1.Start, v1, v2]) rfl rfl ?_
 intro b1 wv1 hs
 refine O (r_assign (v := Value.bool false) rfl) rfl <| OW_nil <| WP_seq <| WP_seq <| WP_region ?_
 obtain ⟨rv1, hrv1, hM⟩ := bindS hM
 refine C [] cf11 rfl (law09_awake_ok hrv1 hs.imm) rfl ?_
 rintro v3 wv2 ⟨gg1, hvv3, hegg1⟩
 have hlegg1 := hegg1.le hs.imm
 replace hs := hs.call hegg1
 replace hRv1 := hRv1.mono hlegg1
 replace hRv2 := hRv2.mono hlegg1
 obtain ⟨cs6, rfl, hcs6⟩ := hvv3
 have hcs6 : cs6 = _ := hcs6; subst hcs6
 refine O (r_not rfl) rfl <| OW_nil ?_
 rcases condS hM with ⟨hc1, hM⟩ | ⟨hc1, hM⟩
 ·refine WP_true rfl hc1 <| WP_seq <| WP_region <| O (r_assign (v := Value.bool false) rfl) rfl <| OW_nil <| WP_ret ?_
  obtain rfl := Option.some.inj hM
  refine FL_nil hds ?_
  exact ⟨_, res1 Try.results7 (rv_tmp (v := Value.bool false) rfl), gg1, ⟨[Value.bool false], rfl, rfl⟩, hs.ext⟩
 ·refine WP_false rfl hc1 <| WP_skip <| WP_seq ?_
  obtain ⟨xv1, hx1, hKhx1⟩ := bindS hM
  refine WP_cut (fun E w => ∃ (gg3 : Hp), E 1 = encS s1 ∧ E 2 = Value.pointer (some ⟨b1, 0, none⟩) ∧ E 14 = Value.bool xv1 ∧ E.ds = [] ∧ Hle gg1 gg3 ∧ Go.Lx.Sep g0 w0 gg3 w [Go.Lx.box b1 25 ([Value.int .i64 nv1.States, Value.int .i64 nv1.Start, v1, v2])]) ?_ ?_
  ·have hM := hx1
   have hagg1 := Hle.refl gg1
   refine WP_region <| O (r_loadN (cs := [Value.int .i64 nv1.States, Value.int .i64 nv1.Start, v1, v2]) ti25 rfl rfl (hs.cells (i := 0) rfl)) rfl ?_
   obtain ⟨rv3, hrv3, hM⟩ := bindS hM
   refine C [Value.agg (List.toArray (α := Value) [Value.int .i64 nv1.States, Value.int .i64 nv1.Start, v1, v2])] cf14 rfl (law09_light_ok hrv3 hs.imm (⟨[Value.int .i64 nv1.States], [Value.int .i64 nv1.Start], [v1], [v2], rfl, rfl, rfl, ⟨_, rfl, hRv1⟩, ⟨_, rfl, hRv2⟩⟩)) rfl ?_
   rintro v5 wv4 ⟨gg4, hvv5, hegg4⟩
   have hlegg4 := hegg4.le hs.imm
   replace hs := hs.call hegg4
   replace hagg1 := hagg1.trans hlegg4
   obtain ⟨cs8, rfl, hcs8⟩ := hvv5
   have hcs8 : cs8 = _ := hcs8; subst hcs8
   refine O (r_not rfl) rfl <| O (r_move (v := Value.bool (!rv3)) rfl) rfl ?_
   rcases condS hM with ⟨hg2, hM⟩ | ⟨hg2, hM⟩
   ·refine OK rfl rfl rfl (by rw [hg2]; rfl) rfl <| OK rfl rfl rfl (by rw [hg2]; rfl) rfl <| OK rfl rfl rfl (by rw [hg2]; rfl) rfl <| O (r_pickT (v := Value.bool true) rfl hg2 rfl) rfl <| OW_nil ?_
    obtain rfl := Option.some.inj hM
    exact ⟨gg4, rfl, rfl, rfl, hds, hagg1, hs⟩
   ·refine OG rfl rfl rfl (by rw [hg2]; rfl) (r_move (v := encS s1) rfl) rfl <| OG rfl rfl rfl (by rw [hg2]; rfl) (r_lenStr Try.underlying9 rfl) rfl <| OG rfl rfl rfl (by rw [hg2]; rfl) (r_gtr rfl rfl) rfl <| O (r_pickF (v := Value.bool (decide (30 < (s1.length : Int)))) rfl hg2 rfl) rfl <| OW_nil ?_
    obtain rfl := Option.some.inj hM
    exact ⟨gg4, rfl, rfl, rfl, hds, hagg1, hs⟩
  ·clear hs
   rintro E w ⟨gg3, hE1, hE2, hE14, hds, hlegg3, hs⟩
   have hM := hKhx1
   obtain ⟨E, rfl⟩ := open3 (E := E) hE1 hE2 hE14
   replace hRv1 := hRv1.mono hlegg3
   replace hRv2 := hRv2.mono hlegg3
   rcases condS hM with ⟨hc2, hM⟩ | ⟨hc2, hM⟩
   ·refine WP_true rfl hc2 <| WP_seq <| WP_region <| O (r_assign (v := Value.bool true) rfl) rfl <| OW_nil <| WP_ret ?_
    obtain rfl := Option.some.inj hM
    refine FL_nil hds ?_
    exact ⟨_, res1 Try.results7 (rv_tmp (v := Value.bool true) rfl), gg3, ⟨[Value.bool true], rfl, rfl⟩, hs.ext⟩
   ·refine WP_false rfl hc2 <| WP_skip <| WP_seq <| WP_any (.q 0 (.q 1 (.q 3 (.q 4 (.s 2 (.s 5 (.q 6 (.q 7 (.leaf))))))))) (SS g0 w0 gg3 [Go.Lx.box b1 25 ([Value.int .i64 nv1.States, Value.int .i64 nv1.Start, v1, v2])]) mo (by decide +kernel) ?_
    have hs := hs.drew
    have hagg3 := Hle.refl gg3
    have hS : SS g0 w0 gg3 [Go.Lx.box b1 25 ([Value.int .i64 nv1.States, Value.int .i64 nv1.Start, v1, v2])] _ := ⟨gg3, Hle.refl _, hs⟩
    refine A rfl hS (fun w9 ⟨g9, hle9, hs⟩ => r_loadN (cs := [Value.int .i64 nv1.States, Value.int .i64 nv1.Start, v1, v2]) ti25 rfl rfl (hs.cells (i := 0) rfl)) rfl <| A rfl hS (fun w9 ⟨g9, hle9, hs⟩ => r_move (v := encS s1) rfl) rfl <| A rfl hS (fun w9 ⟨g9, hle9, hs⟩ => r_loadN (cs := [Value.int .i64 nv1.States, Value.int .i64 nv1.Start, v1, v2]) ti25 rfl rfl (hs.cells (i := 0) rfl)) rfl <| A rfl hS (fun w9 ⟨g9, hle9, hs⟩ => r_move (v := encS s1) rfl) rfl <| A1 rfl ?_
    obtain ⟨rv4, hrv4, hM⟩ := bindS hM
    refine C [Value.agg (List.toArray (α := Value) [Value.int .i64 nv1.States, Value.int .i64 nv1.Start, v1, v2]), encS s1] cf20 rfl (nfa_Run_ok hrv4 hs.imm (⟨[Value.int .i64 nv1.States], [Value.int .i64 nv1.Start], [v1], [v2], rfl, rfl, rfl, ⟨_, rfl, hRv1⟩, ⟨_, rfl, hRv2⟩⟩)) rfl ?_
    rintro v6 wv5 ⟨gg5, hvv6, hegg5⟩
    have hlegg5 := hegg5.le hs.imm
    replace hs := hs.call hegg5
    replace hRv1 := hRv1.mono hlegg5
    replace hRv2 := hRv2.mono hlegg5
    replace hagg3 := hagg3.trans hlegg5
    obtain ⟨cs9, rfl, hcs9⟩ := hvv6
    have hcs9 : cs9 = _ := hcs9; subst hcs9
    refine OW_nil ?_
    replace hS := hS.to hagg3 hs
    refine ⟨fun _ => hS, ?_⟩
    refine A1 rfl ?_
    obtain ⟨rv5, hrv5, hM⟩ := bindS hM
    refine C [Value.agg (List.toArray (α := Value) [Value.int .i64 nv1.States, Value.int .i64 nv1.Start, v1, v2]), encS s1] cf21 rfl (ref09_Run_ok hrv5 hs.imm (⟨[Value.int .i64 nv1.States], [Value.int .i64 nv1.Start], [v1], [v2], rfl, rfl, rfl, ⟨_, rfl, hRv1⟩, ⟨_, rfl, hRv2⟩⟩)) rfl ?_
    rintro v7 wv6 ⟨gg6, hvv7, hegg6⟩
    have hlegg6 := hegg6.le hs.imm
    replace hs := hs.call hegg6
    replace hagg3 := hagg3.trans hlegg6
    obtain ⟨cs10, rfl, hcs10⟩ := hvv7
    have hcs10 : cs10 = _ := hcs10; subst hcs10
    refine OW_nil ?_
    replace hS := hS.to hagg3 hs
    refine ⟨fun _ => hS, ?_⟩
    refine A rfl hS (fun w9 ⟨g9, hle9, hs⟩ => r_eql rfl rfl) rfl <| A rfl hS (fun w9 ⟨g9, hle9, hs⟩ => r_assign (v := Value.bool (rv4 == rv5)) rfl) rfl <| AN <| WP_ret ?_
    obtain rfl := Option.some.inj hM
    refine FL_nil hds ?_
    exact ⟨_, res1 Try.results7 (rv_tmp (v := Value.bool (rv4 == rv5)) rfl), gg6, ⟨[Value.bool (rv4 == rv5)], rfl, rfl⟩, hs.ext⟩

end Go.Proofs.Ytajmekjcnbmaaaa
