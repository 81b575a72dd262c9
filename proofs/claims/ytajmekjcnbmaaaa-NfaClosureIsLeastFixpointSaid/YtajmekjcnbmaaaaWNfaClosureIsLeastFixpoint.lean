/- The walk of the law. Printed by a program of my own. -/
import Derived.Test.YtajmekjcnbmaaaaTyp
import Derived.Test.YtajmekjcnbmaaaaWalk3
import Derived.Test.YtajmekjcnbmaaaaWalk4
import Derived.Test.YtajmekjcnbmaaaaWalk6
import Derived.Test.YtajmekjcnbmaaaaWalk7
import Derived.Test.YtajmekjcnbmaaaaWalk8
set_option linter.unusedVariables false
set_option linter.unusedSimpArgs false
namespace Go.Proofs.Ytajmekjcnbmaaaa
open Go.Lx Go.RowKit
set_option maxRecDepth 100000 in
theorem law09_NfaClosureIsLeastFixpoint_ok {nv1 : T_NFA} {states1 : (List Int)} {r : Bool} (hM : M.law09_NfaClosureIsLeastFixpoint nv1 states1 = some r) {g0 : Hp} {w0 : World} (hi : Imm g0 w0) {cs1 : List Value} (hcs1 : tT_NFA.rel g0 cs1 nv1) {v1 : Value} (hRv1 : RdS (tInt .i64) g0 v1 states1) :
    CallsV Try.prog 4 #[Value.agg cs1.toArray, v1] w0 (fun v w' => ∃ g', (VRd tBool false g' v r) ∧ Ext g0 w0 g' w') := by
 unfold M.law09_NfaClosureIsLeastFixpoint at hM
 obtain ⟨cs2, cs3, cs4, cs5, rfl, hcs2, hcs3, hcs4, hcs5⟩ := hcs1
 have hcs2 : cs2 = _ := hcs2; subst hcs2
 have hcs3 : cs3 = _ := hcs3; subst hcs3
 obtain ⟨v2, rfl, hRv2⟩ := hcs4
 obtain ⟨v3, rfl, hRv3⟩ := hcs5
 have hs := Sep.start hi
 refine calls_of_WP (args := [Value.agg (List.toArray (α := Value) [Value.int .i64 nv1.States, Value.int .i64 nv1.Start, v2, v3]), v1]) Try.func4 rfl Try.ntmps4 rfl ?_
 have hds : (argEnv [Value.agg (List.toArray (α := Value) [Value.int .i64 nv1.States, Value.int .i64 nv1.Start, v2, v3]), v1]).ds = [] := rfl
 refine WP_seq <| WP_region <| OW_box (v := Value.agg (List.toArray (α := Value) [Value.int .i64 nv1.States, Value.int .i64 nv1.Start, v2, v3])) rfl hs (zs := [Value.int .i64 nv1.States, Value.int .i64 nv1.Start, v2, v3]) rfl rfl ?_
 intro b1 wv1 hs
 refine O (r_assign (v := Value.bool false) rfl) rfl <| OW_nil <| WP_seq <| WP_seq <| WP_region ?_
 obtain ⟨rv1, hrv1, hM⟩ := bindS hM
 refine C [] cf11 rfl (law09_awake_ok hrv1 hs.imm) rfl ?_
 rintro v4 wv2 ⟨gg1, hvv4, hegg1⟩
 have hlegg1 := hegg1.le hs.imm
 replace hs := hs.call hegg1
 replace hRv1 := hRv1.mono hlegg1
 replace hRv2 := hRv2.mono hlegg1
 replace hRv3 := hRv3.mono hlegg1
 obtain ⟨cs6, rfl, hcs6⟩ := hvv4
 have hcs6 : cs6 = _ := hcs6; subst hcs6
 refine O (r_not rfl) rfl <| OW_nil ?_
 rcases condS hM with ⟨hc1, hM⟩ | ⟨hc1, hM⟩
 ·refine WP_true rfl hc1 <| WP_seq <| WP_region <| O (r_assign (v := Value.bool false) rfl) rfl <| OW_nil <| WP_ret ?_
  obtain rfl := Option.some.inj hM
  refine FL_nil hds ?_
  exact ⟨_, res1 Try.results4 (rv_tmp (v := Value.bool false) rfl), gg1, ⟨[Value.bool false], rfl, rfl⟩, hs.ext⟩
 ·refine WP_false rfl hc1 <| WP_skip <| WP_seq ?_
  obtain ⟨xv1, hx1, hKhx1⟩ := bindS hM
  refine WP_cut (fun E w => ∃ (gg3 : Hp), E 1 = v1 ∧ E 2 = Value.pointer (some ⟨b1, 0, none⟩) ∧ E 15 = Value.bool xv1 ∧ E.ds = [] ∧ Hle gg1 gg3 ∧ Go.Lx.Sep g0 w0 gg3 w [Go.Lx.box b1 25 ([Value.int .i64 nv1.States, Value.int .i64 nv1.Start, v2, v3])]) ?_ ?_
  ·have hM := hx1
   have hagg1 := Hle.refl gg1
   refine WP_region <| O (r_loadN (cs := [Value.int .i64 nv1.States, Value.int .i64 nv1.Start, v2, v3]) ti25 rfl rfl (hs.cells (i := 0) rfl)) rfl ?_
   obtain ⟨rv3, hrv3, hM⟩ := bindS hM
   refine C [Value.agg (List.toArray (α := Value) [Value.int .i64 nv1.States, Value.int .i64 nv1.Start, v2, v3])] cf14 rfl (law09_light_ok hrv3 hs.imm (⟨[Value.int .i64 nv1.States], [Value.int .i64 nv1.Start], [v2], [v3], rfl, rfl, rfl, ⟨_, rfl, hRv2⟩, ⟨_, rfl, hRv3⟩⟩)) rfl ?_
   rintro v6 wv4 ⟨gg4, hvv6, hegg4⟩
   have hlegg4 := hegg4.le hs.imm
   replace hs := hs.call hegg4
   replace hRv1 := hRv1.mono hlegg4
   replace hagg1 := hagg1.trans hlegg4
   obtain ⟨cs8, rfl, hcs8⟩ := hvv6
   have hcs8 : cs8 = _ := hcs8; subst hcs8
   refine O (r_not rfl) rfl <| O (r_move (v := Value.bool (!rv3)) rfl) rfl ?_
   rcases condS hM with ⟨hg2, hM⟩ | ⟨hg2, hM⟩
   ·refine OK rfl rfl rfl (by rw [hg2]; rfl) rfl <| OK rfl rfl rfl (by rw [hg2]; rfl) rfl <| OK rfl rfl rfl (by rw [hg2]; rfl) rfl <| O (r_pickT (v := Value.bool true) rfl hg2 rfl) rfl <| OW_nil ?_
    obtain rfl := Option.some.inj hM
    exact ⟨gg4, rfl, rfl, rfl, hds, hagg1, hs⟩
   ·refine OG rfl rfl rfl (by rw [hg2]; rfl) (r_move (v := v1) rfl) rfl ?_
    obtain ⟨a2, ca2, hva2⟩ := hRv1.shape
    refine OG rfl rfl rfl (by rw [hg2]; rfl) (r_lenSl (v := v1) Try.underlying23 rfl hva2) rfl <| OG rfl rfl rfl (by rw [hg2]; rfl) (r_gtr rfl rfl) rfl <| O (r_pickF (v := Value.bool (decide (60 < (states1.length : Int)))) rfl hg2 rfl) rfl <| OW_nil ?_
    obtain rfl := Option.some.inj hM
    exact ⟨gg4, rfl, rfl, rfl, hds, hagg1, hs⟩
  ·clear hs
   rintro E w ⟨gg3, hE1, hE2, hE15, hds, hlegg3, hs⟩
   have hM := hKhx1
   obtain ⟨E, rfl⟩ := open3 (E := E) hE1 hE2 hE15
   replace hRv1 := hRv1.mono hlegg3
   replace hRv2 := hRv2.mono hlegg3
   replace hRv3 := hRv3.mono hlegg3
   rcases condS hM with ⟨hc2, hM⟩ | ⟨hc2, hM⟩
   ·refine WP_true rfl hc2 <| WP_seq <| WP_region <| O (r_assign (v := Value.bool true) rfl) rfl <| OW_nil <| WP_ret ?_
    obtain rfl := Option.some.inj hM
    refine FL_nil hds ?_
    exact ⟨_, res1 Try.results4 (rv_tmp (v := Value.bool true) rfl), gg3, ⟨[Value.bool true], rfl, rfl⟩, hs.ext⟩
   ·refine WP_false rfl hc2 <| WP_skip <| WP_seq <| WP_region <| O (r_loadN (cs := [Value.int .i64 nv1.States, Value.int .i64 nv1.Start, v2, v3]) ti25 rfl rfl (hs.cells (i := 0) rfl)) rfl <| O (r_move (v := v1) rfl) rfl ?_
    obtain ⟨l1, hl1, hM⟩ := bindS hM
    refine C [Value.agg (List.toArray (α := Value) [Value.int .i64 nv1.States, Value.int .i64 nv1.Start, v2, v3]), v1] cf15 rfl (nfa_Closure_ok hl1 hs.imm (⟨[Value.int .i64 nv1.States], [Value.int .i64 nv1.Start], [v2], [v3], rfl, rfl, rfl, ⟨_, rfl, hRv2⟩, ⟨_, rfl, hRv3⟩⟩) hRv1) rfl ?_
    rintro v7 wv5 ⟨gg5, xs1, hvv7, hegg5⟩
    have hlegg5 := hegg5.ext.le hs.imm
    replace hs := hs.callOwn hegg5
    simp only [List.cons_append, List.nil_append] at hs
    replace hRv1 := hRv1.mono hlegg5
    replace hRv2 := hRv2.mono hlegg5
    replace hRv3 := hRv3.mono hlegg5
    refine O (r_assign (v := v7) rfl) rfl <| OW_nil ?_
    obtain ⟨rv8, hx2, hKhx2⟩ := bindS hM
    refine WP_cut (fun E w => ∃ (gg18 : Hp), E 4 = Value.bool rv8 ∧ E.ds = [] ∧ Hle gg5 gg18 ∧ Go.Lx.Sep g0 w0 gg18 w []) ?_ ?_
    ·have hM := hx2
     have hagg5 := Hle.refl gg5
     refine WP_region <| O (r_move (v := v7) rfl) rfl <| O (r_loadN (cs := [Value.int .i64 nv1.States, Value.int .i64 nv1.Start, v2, v3]) ti25 rfl rfl (hs.cells (i := 1) rfl)) rfl <| O (r_move (v := v1) rfl) rfl ?_
     obtain ⟨rv9, hrv9, hM⟩ := bindS hM
     refine C [Value.agg (List.toArray (α := Value) [Value.int .i64 nv1.States, Value.int .i64 nv1.Start, v2, v3]), v1] cf17 rfl (ref09_Closure_ok hrv9 hs.imm (⟨[Value.int .i64 nv1.States], [Value.int .i64 nv1.Start], [v2], [v3], rfl, rfl, rfl, ⟨_, rfl, hRv2⟩, ⟨_, rfl, hRv3⟩⟩) hRv1) rfl ?_
     rintro v12 wv10 ⟨gg19, xs4, hvv12, hegg19⟩
     have hlegg19 := hegg19.ext.le hs.imm
     replace hs := hs.callOwn hegg19
     simp only [List.cons_append, List.nil_append] at hs
     replace hRv2 := hRv2.mono hlegg19
     replace hRv3 := hRv3.mono hlegg19
     replace hvv7 := hvv7.mono hlegg19
     replace hagg5 := hagg5.trans hlegg19
     have hsL4 := hs
     have hRv2L4 := hRv2
     have hRv3L4 := hRv3
     have hvv7L4 := hvv7
     have hagg5L4 := hagg5
     obtain ⟨gg20, hlegg20, hRgg20, hs⟩ := hs.relRow (i := 1) rfl hvv7
     replace hRv2 := hRv2.mono hlegg20
     replace hRv3 := hRv3.mono hlegg20
     replace hvv12 := hvv12.mono hlegg20
     replace hagg5 := hagg5.trans hlegg20
     obtain ⟨gg21, hlegg21, hRgg21, hs⟩ := hs.relRow (i := 0) rfl hvv12
     replace hRv2 := hRv2.mono hlegg21
     replace hRv3 := hRv3.mono hlegg21
     replace hRgg20 := hRgg20.mono hlegg21
     replace hagg5 := hagg5.trans hlegg21
     obtain ⟨rv10, hrv10, hM⟩ := bindS hM
     refine C [v7, v12] cf16 rfl (ref09_Same_ok hrv10 hs.imm hRgg20 hRgg21) rfl ?_
     rintro v13 wv11 ⟨gg22, hvv13, hegg22⟩
     obtain ⟨gg23, hlegg23, hs⟩ := hsL4.lent hegg22
     replace hRv2 := hRv2L4.mono hlegg23
     replace hRv3 := hRv3L4.mono hlegg23
     replace hvv7 := hvv7L4.mono hlegg23
     replace hagg5 := hagg5L4.trans hlegg23
     obtain ⟨cs11, rfl, hcs11⟩ := hvv13
     have hcs11 : cs11 = _ := hcs11; subst hcs11
     refine O (r_move (v := Value.bool rv10) rfl) rfl ?_
     rcases condS hM with ⟨hg4, hM⟩ | ⟨hg4, hM⟩
     ·refine OG rfl rfl rfl (by rw [hg4]; rfl) (r_loadN (cs := [Value.int .i64 nv1.States, Value.int .i64 nv1.Start, v2, v3]) ti25 rfl rfl (hs.cells (i := 2) rfl)) rfl <| OG rfl rfl rfl (by rw [hg4]; rfl) (r_move (v := v7) rfl) rfl ?_
      have hsL5 := hs
      have hvv7L5 := hvv7
      have hagg5L5 := hagg5
      obtain ⟨gg24, hlegg24, hRgg24, hs⟩ := hs.relRow (i := 1) rfl hvv7
      replace hRv2 := hRv2.mono hlegg24
      replace hRv3 := hRv3.mono hlegg24
      replace hagg5 := hagg5.trans hlegg24
      obtain ⟨rv11, hrv11, hM⟩ := bindS hM
      refine CG rfl rfl rfl (by rw [hg4]; rfl) [Value.agg (List.toArray (α := Value) [Value.int .i64 nv1.States, Value.int .i64 nv1.Start, v2, v3]), v7] cf15 rfl (nfa_Closure_ok hrv11 hs.imm (⟨[Value.int .i64 nv1.States], [Value.int .i64 nv1.Start], [v2], [v3], rfl, rfl, rfl, ⟨_, rfl, hRv2⟩, ⟨_, rfl, hRv3⟩⟩) hRgg24) rfl ?_
      rintro v14 wv12 ⟨gg25, xs5, hvv14, hegg25⟩
      obtain ⟨gg26, hlegg26, hs⟩ := hsL5.lentOwn hegg25
      simp only [List.cons_append, List.nil_append] at hs
      have hvv14 : RowRel (tInt .i64) gg26 xs5 rv11 := RowRel.flat (fun _ _ _ _ h => h) hvv14
      replace hvv7 := hvv7L5.mono hlegg26
      replace hagg5 := hagg5L5.trans hlegg26
      refine OG rfl rfl rfl (by rw [hg4]; rfl) (r_move (v := v7) rfl) rfl ?_
      have hsL6 := hs
      have hagg5L6 := hagg5
      obtain ⟨gg27, hlegg27, hRgg27, hs⟩ := hs.relRow (i := 0) rfl hvv14
      replace hvv7 := hvv7.mono hlegg27
      replace hagg5 := hagg5.trans hlegg27
      obtain ⟨gg28, hlegg28, hRgg28, hs⟩ := hs.relRow (i := 1) rfl hvv7
      replace hRgg27 := hRgg27.mono hlegg28
      replace hagg5 := hagg5.trans hlegg28
      obtain ⟨rv12, hrv12, hM⟩ := bindS hM
      refine CG rfl rfl rfl (by rw [hg4]; rfl) [v14, v7] cf16 rfl (ref09_Same_ok hrv12 hs.imm hRgg27 hRgg28) rfl ?_
      rintro v15 wv13 ⟨gg29, hvv15, hegg29⟩
      obtain ⟨gg30, hlegg30, hs⟩ := hsL6.lent hegg29
      replace hagg5 := hagg5L6.trans hlegg30
      obtain ⟨cs12, rfl, hcs12⟩ := hvv15
      have hcs12 : cs12 = _ := hcs12; subst hcs12
      refine O (r_pickT (v := Value.bool rv12) rfl hg4 rfl) rfl <| O (r_assign (v := Value.bool rv12) rfl) rfl <| OW_nil ?_
      obtain rfl := Option.some.inj hM
      exact ⟨gg30, rfl, hds, hagg5, (hs.sub (.cons _ (.cons _ (.cons _ (.cons _ .slnil)))))⟩
     ·refine OK rfl rfl rfl (by rw [hg4]; rfl) rfl <| OK rfl rfl rfl (by rw [hg4]; rfl) rfl <| OK rfl rfl rfl (by rw [hg4]; rfl) rfl <| OK rfl rfl rfl (by rw [hg4]; rfl) rfl <| OK rfl rfl rfl (by rw [hg4]; rfl) rfl <| O (r_pickF (v := Value.bool false) rfl hg4 rfl) rfl <| O (r_assign (v := Value.bool false) rfl) rfl <| OW_nil ?_
      obtain rfl := Option.some.inj hM
      exact ⟨gg23, rfl, hds, hagg5, (hs.sub (.cons _ (.cons _ (.cons _ .slnil))))⟩
    ·clear hs
     rintro E w ⟨gg18, hE4, hds, hlegg18, hs⟩
     have hM := hKhx2
     obtain ⟨E, rfl⟩ := open1 (E := E) hE4
     refine WP_ret ?_
     obtain rfl := Option.some.inj hM
     refine FL_nil hds ?_
     exact ⟨_, res1 Try.results4 (rv_tmp (v := Value.bool rv8) rfl), gg18, ⟨[Value.bool rv8], rfl, rfl⟩, hs.ext⟩

end Go.Proofs.Ytajmekjcnbmaaaa
