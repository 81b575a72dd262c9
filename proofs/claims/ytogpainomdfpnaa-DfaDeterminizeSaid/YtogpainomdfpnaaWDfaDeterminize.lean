/- The walk of the law. Printed by a program of my own. -/
import Derived.Test.YtogpainomdfpnaaTyp
import Derived.Test.YtogpainomdfpnaaWalk1
import Derived.Test.YtogpainomdfpnaaWalk3
import Derived.Test.YtogpainomdfpnaaWalk4
import Derived.Test.YtogpainomdfpnaaWalk6
set_option linter.unusedVariables false
set_option linter.unusedSimpArgs false
namespace Go.Proofs.Ytogpainomdfpnaa
open Go.Lx Go.RowKit
set_option maxRecDepth 100000 in
theorem law10_DfaDeterminize_ok {nv1 : T_NFA} {s1 : Str} {r : Bool} (hM : M.law10_DfaDeterminize nv1 s1 = some r) {g0 : Hp} {w0 : World} (hi : Imm g0 w0) {cs1 : List Value} (hcs1 : tT_NFA.rel g0 cs1 nv1) :
    CallsV Try.prog 8 #[Value.agg cs1.toArray, encS s1] w0 (fun v w' => ∃ g', (VRd tBool false g' v r) ∧ Ext g0 w0 g' w') := by
 unfold M.law10_DfaDeterminize at hM
 obtain ⟨cs2, cs3, cs4, cs5, rfl, hcs2, hcs3, hcs4, hcs5⟩ := hcs1
 have hcs2 : cs2 = _ := hcs2; subst hcs2
 have hcs3 : cs3 = _ := hcs3; subst hcs3
 obtain ⟨v1, rfl, hRv1⟩ := hcs4
 obtain ⟨v2, rfl, hRv2⟩ := hcs5
 have hs := Sep.start hi
 refine calls_of_WP (args := [Value.agg (List.toArray (α := Value) [Value.int .i64 nv1.States, Value.int .i64 nv1.Start, v1, v2]), encS s1]) Try.func8 rfl Try.ntmps8 rfl ?_
 have hds : (argEnv [Value.agg (List.toArray (α := Value) [Value.int .i64 nv1.States, Value.int .i64 nv1.Start, v1, v2]), encS s1]).ds = [] := rfl
 refine WP_seq <| WP_region <| OW_box (v := Value.agg (List.toArray (α := Value) [Value.int .i64 nv1.States, Value.int .i64 nv1.Start, v1, v2])) rfl hs (zs := [Value.int .i64 nv1.States, Value.int .i64 nv1.Start, v1, v2]) rfl rfl ?_
 intro b1 wv1 hs
 refine O (r_assign (v := Value.bool false) rfl) rfl <| OW_nil <| WP_seq ?_
 obtain ⟨xv1, hx1, hKhx1⟩ := bindS hM
 refine WP_cut (fun E w => ∃ (gg2 : Hp), E 1 = encS s1 ∧ E 2 = Value.pointer (some ⟨b1, 0, none⟩) ∧ E 16 = Value.bool xv1 ∧ E.ds = [] ∧ Hle g0 gg2 ∧ Go.Lx.Sep g0 w0 gg2 w [Go.Lx.box b1 41 ([Value.int .i64 nv1.States, Value.int .i64 nv1.Start, v1, v2])]) ?_ ?_
 ·have hM := hx1
  have hag0 := Hle.refl g0
  refine WP_region <| O (r_loadN (cs := [Value.int .i64 nv1.States, Value.int .i64 nv1.Start, v1, v2]) ti41 rfl rfl (hs.cells (i := 0) rfl)) rfl ?_
  obtain ⟨rv2, hrv2, hM⟩ := bindS hM
  refine C [Value.agg (List.toArray (α := Value) [Value.int .i64 nv1.States, Value.int .i64 nv1.Start, v1, v2])] cf20 rfl (law10_few_ok hrv2 hs.imm (⟨[Value.int .i64 nv1.States], [Value.int .i64 nv1.Start], [v1], [v2], rfl, rfl, rfl, ⟨_, rfl, hRv1⟩, ⟨_, rfl, hRv2⟩⟩)) rfl ?_
  rintro v4 wv3 ⟨gg3, hvv4, hegg3⟩
  have hlegg3 := hegg3.le hs.imm
  replace hs := hs.call hegg3
  replace hag0 := hag0.trans hlegg3
  obtain ⟨cs7, rfl, hcs7⟩ := hvv4
  have hcs7 : cs7 = _ := hcs7; subst hcs7
  refine O (r_not rfl) rfl <| O (r_move (v := Value.bool (!rv2)) rfl) rfl ?_
  rcases condS hM with ⟨hg2, hM⟩ | ⟨hg2, hM⟩
  ·refine OK rfl rfl rfl (by rw [hg2]; rfl) rfl <| OK rfl rfl rfl (by rw [hg2]; rfl) rfl <| OK rfl rfl rfl (by rw [hg2]; rfl) rfl <| O (r_pickT (v := Value.bool true) rfl hg2 rfl) rfl <| OW_nil ?_
   obtain rfl := Option.some.inj hM
   exact ⟨gg3, rfl, rfl, rfl, hds, hag0, hs⟩
  ·refine OG rfl rfl rfl (by rw [hg2]; rfl) (r_move (v := encS s1) rfl) rfl <| OG rfl rfl rfl (by rw [hg2]; rfl) (r_lenStr Try.underlying9 rfl) rfl <| OG rfl rfl rfl (by rw [hg2]; rfl) (r_gtr rfl rfl) rfl <| O (r_pickF (v := Value.bool (decide (30 < (s1.length : Int)))) rfl hg2 rfl) rfl <| OW_nil ?_
   obtain rfl := Option.some.inj hM
   exact ⟨gg3, rfl, rfl, rfl, hds, hag0, hs⟩
 ·clear hs
  rintro E w ⟨gg2, hE1, hE2, hE16, hds, hlegg2, hs⟩
  have hM := hKhx1
  obtain ⟨E, rfl⟩ := open3 (E := E) hE1 hE2 hE16
  replace hRv1 := hRv1.mono hlegg2
  replace hRv2 := hRv2.mono hlegg2
  rcases condS hM with ⟨hc1, hM⟩ | ⟨hc1, hM⟩
  ·refine WP_true rfl hc1 <| WP_seq <| WP_region ?_
   obtain ⟨rv3, hrv3, hM⟩ := bindS hM
   refine C [] cf9 rfl (law10_awake_ok hrv3 hs.imm) rfl ?_
   rintro v5 wv4 ⟨gg4, hvv5, hegg4⟩
   have hlegg4 := hegg4.le hs.imm
   replace hs := hs.call hegg4
   obtain ⟨cs8, rfl, hcs8⟩ := hvv5
   have hcs8 : cs8 = _ := hcs8; subst hcs8
   refine O (r_assign (v := Value.bool rv3) rfl) rfl <| OW_nil <| WP_ret ?_
   obtain rfl := Option.some.inj hM
   refine FL_nil hds ?_
   exact ⟨_, res1 Try.results8 (rv_tmp (v := Value.bool rv3) rfl), gg4, ⟨[Value.bool rv3], rfl, rfl⟩, hs.ext⟩
  ·refine WP_false rfl hc1 <| WP_skip <| WP_seq <| WP_region <| O (r_loadN (cs := [Value.int .i64 nv1.States, Value.int .i64 nv1.Start, v1, v2]) ti41 rfl rfl (hs.cells (i := 0) rfl)) rfl ?_
   obtain ⟨rv4, hrv4, hM⟩ := bindS hM
   refine C [Value.agg (List.toArray (α := Value) [Value.int .i64 nv1.States, Value.int .i64 nv1.Start, v1, v2])] cf21 rfl (dfa_Determinize_ok hrv4 hs.imm (⟨[Value.int .i64 nv1.States], [Value.int .i64 nv1.Start], [v1], [v2], rfl, rfl, rfl, ⟨_, rfl, hRv1⟩, ⟨_, rfl, hRv2⟩⟩)) rfl ?_
   rintro v6 wv5 ⟨gg5, hvv6, hegg5⟩
   have hlegg5 := hegg5.le hs.imm
   replace hs := hs.call hegg5
   replace hRv1 := hRv1.mono hlegg5
   replace hRv2 := hRv2.mono hlegg5
   obtain ⟨v7, v8, rfl, hvv7, hvv8⟩ := hvv6
   obtain ⟨cs9, rfl, hcs9⟩ := hvv8
   have hcs9 : cs9 = _ := hcs9; subst hcs9
   obtain ⟨cs10, rfl, hcs10⟩ := hvv7
   obtain ⟨cs11, cs12, cs13, rfl, hcs11, hcs12, hcs13⟩ := hcs10
   obtain ⟨v9, rfl, hRv9⟩ := hcs11
   obtain ⟨v10, rfl, hRv10⟩ := hcs12
   obtain ⟨v11, rfl, hRv11⟩ := hcs13
   refine O (r_move (v := Value.tuple #[Value.agg (List.toArray (α := Value) [v9, v10, v11]), Value.int .i64 rv4.2]) rfl) rfl <| O (r_extract (vs := [Value.agg (List.toArray (α := Value) [v9, v10, v11]), Value.int .i64 rv4.2]) (v := Value.agg (List.toArray (α := Value) [v9, v10, v11])) rfl rfl) rfl <| O (r_extract (vs := [Value.agg (List.toArray (α := Value) [v9, v10, v11]), Value.int .i64 rv4.2]) (v := Value.int .i64 rv4.2) rfl rfl) rfl <| OW_alloc ti25 hs (zs := [Value.slice none 0 0, Value.slice none 0 0, Value.slice none 0 0]) rfl rfl ?_
   intro b2 wv6 hs
   refine OW_storeAll ti25 hs (i := 0) rfl rfl (v := Value.agg (List.toArray (α := Value) [v9, v10, v11])) rfl (vs := [v9, v10, v11]) rfl (one_cons (by obtain ⟨_, _, h9⟩ := hRv9.shape; rw [h9]; rfl) (one_cons (by obtain ⟨_, _, h9⟩ := hRv10.shape; rw [h9]; rfl) (one_cons (by obtain ⟨_, _, h9⟩ := hRv11.shape; rw [h9]; rfl) one_nil))) rfl rfl ?_
   intro wv7 hs
   refine O (r_assign (v := Value.int .i64 rv4.2) rfl) rfl <| OW_nil <| WP_seq <| WP_region <| O (r_loadN (cs := [Value.int .i64 nv1.States, Value.int .i64 nv1.Start, v1, v2]) ti41 rfl rfl (hs.cells (i := 1) rfl)) rfl ?_
   obtain ⟨rv5, hrv5, hM⟩ := bindS hM
   refine C [Value.agg (List.toArray (α := Value) [Value.int .i64 nv1.States, Value.int .i64 nv1.Start, v1, v2])] cf22 rfl (ref10_Determinize_ok hrv5 hs.imm (⟨[Value.int .i64 nv1.States], [Value.int .i64 nv1.Start], [v1], [v2], rfl, rfl, rfl, ⟨_, rfl, hRv1⟩, ⟨_, rfl, hRv2⟩⟩)) rfl ?_
   rintro v12 wv8 ⟨gg6, hvv12, hegg6⟩
   have hlegg6 := hegg6.le hs.imm
   replace hs := hs.call hegg6
   replace hRv1 := hRv1.mono hlegg6
   replace hRv2 := hRv2.mono hlegg6
   replace hRv9 := hRv9.mono hlegg6
   replace hRv10 := hRv10.mono hlegg6
   replace hRv11 := hRv11.mono hlegg6
   obtain ⟨v13, v14, rfl, hvv13, hvv14⟩ := hvv12
   obtain ⟨cs14, rfl, hcs14⟩ := hvv14
   have hcs14 : cs14 = _ := hcs14; subst hcs14
   obtain ⟨cs15, rfl, hcs15⟩ := hvv13
   obtain ⟨cs16, cs17, cs18, rfl, hcs16, hcs17, hcs18⟩ := hcs15
   obtain ⟨v15, rfl, hRv15⟩ := hcs16
   obtain ⟨v16, rfl, hRv16⟩ := hcs17
   obtain ⟨v17, rfl, hRv17⟩ := hcs18
   refine O (r_move (v := Value.tuple #[Value.agg (List.toArray (α := Value) [v15, v16, v17]), Value.int .i64 rv5.2]) rfl) rfl <| O (r_extract (vs := [Value.agg (List.toArray (α := Value) [v15, v16, v17]), Value.int .i64 rv5.2]) (v := Value.agg (List.toArray (α := Value) [v15, v16, v17])) rfl rfl) rfl <| O (r_extract (vs := [Value.agg (List.toArray (α := Value) [v15, v16, v17]), Value.int .i64 rv5.2]) (v := Value.int .i64 rv5.2) rfl rfl) rfl <| OW_alloc ti25 hs (zs := [Value.slice none 0 0, Value.slice none 0 0, Value.slice none 0 0]) rfl rfl ?_
   intro b3 wv9 hs
   refine OW_storeAll ti25 hs (i := 0) rfl rfl (v := Value.agg (List.toArray (α := Value) [v15, v16, v17])) rfl (vs := [v15, v16, v17]) rfl (one_cons (by obtain ⟨_, _, h9⟩ := hRv15.shape; rw [h9]; rfl) (one_cons (by obtain ⟨_, _, h9⟩ := hRv16.shape; rw [h9]; rfl) (one_cons (by obtain ⟨_, _, h9⟩ := hRv17.shape; rw [h9]; rfl) one_nil))) rfl rfl ?_
   intro wv10 hs
   refine O (r_assign (v := Value.int .i64 rv5.2) rfl) rfl <| OW_nil <| WP_seq <| WP_seq <| WP_region <| O (r_move (v := Value.int .i64 rv4.2) rfl) rfl <| O (r_move (v := Value.int .i64 rv5.2) rfl) rfl <| O (r_neq rfl rfl) rfl <| OW_nil ?_
   rcases condS hM with ⟨hc2, hM⟩ | ⟨hc2, hM⟩
   ·refine WP_true rfl hc2 <| WP_seq <| WP_region <| O (r_assign (v := Value.bool false) rfl) rfl <| OW_nil <| WP_ret ?_
    obtain rfl := Option.some.inj hM
    refine FL_nil hds ?_
    exact ⟨_, res1 Try.results8 (rv_tmp (v := Value.bool false) rfl), gg6, ⟨[Value.bool false], rfl, rfl⟩, hs.ext⟩
   ·refine WP_false rfl hc2 <| WP_skip <| WP_seq <| WP_seq <| WP_region <| O (r_move (v := Value.int .i64 rv4.2) rfl) rfl <| O (r_neq rfl rfl) rfl <| OW_nil ?_
    rcases condS hM with ⟨hc3, hM⟩ | ⟨hc3, hM⟩
    ·refine WP_true rfl hc3 ?_
     obtain ⟨xv2, hx2, hKhx2⟩ := bindS hM
     refine WP_cut (fun E w => ∃ (gg8 : Hp), E 4 = Value.bool xv2 ∧ E.ds = [] ∧ Hle gg6 gg8 ∧ Go.Lx.Sep g0 w0 gg8 w []) ?_ ?_
     ·have hM := hx2
      have hagg6 := Hle.refl gg6
      refine WP_region ?_
      obtain ⟨rv7, hrv7, hM⟩ := bindS hM
      refine C [] cf9 rfl (law10_awake_ok hrv7 hs.imm) rfl ?_
      rintro v19 wv12 ⟨gg9, hvv19, hegg9⟩
      have hlegg9 := hegg9.le hs.imm
      replace hs := hs.call hegg9
      replace hRv10 := hRv10.mono hlegg9
      replace hagg6 := hagg6.trans hlegg9
      obtain ⟨cs20, rfl, hcs20⟩ := hvv19
      have hcs20 : cs20 = _ := hcs20; subst hcs20
      refine O (r_move (v := Value.bool rv7) rfl) rfl ?_
      rcases condS hM with ⟨hg4, hM⟩ | ⟨hg4, hM⟩
      ·refine OG rfl rfl rfl (by rw [hg4]; rfl) (r_fieldAddr Try.underlying25 ti23 rfl rfl (by decide) rfl rfl) rfl <| OG rfl rfl rfl (by rw [hg4]; rfl) (r_load (v := v10) ti23 rfl (hs.cell (i := 1) (o := 1) rfl rfl)) rfl ?_
       obtain ⟨a2, ca2, hva2⟩ := hRv10.shape
       refine OG rfl rfl rfl (by rw [hg4]; rfl) (r_lenSl (v := v10) Try.underlying23 rfl hva2) rfl <| OG rfl rfl rfl (by rw [hg4]; rfl) (r_eql rfl rfl) rfl <| O (r_pickT (v := Value.bool ((rv4.1.Next.length : Int) == 0)) rfl hg4 rfl) rfl <| O (r_assign (v := Value.bool ((rv4.1.Next.length : Int) == 0)) rfl) rfl <| OW_nil ?_
       obtain rfl := Option.some.inj hM
       exact ⟨gg9, rfl, hds, hagg6, (hs.sub (.cons _ (.cons _ (.cons _ .slnil))))⟩
      ·refine OK rfl rfl rfl (by rw [hg4]; rfl) rfl <| OK rfl rfl rfl (by rw [hg4]; rfl) rfl <| OK rfl rfl rfl (by rw [hg4]; rfl) rfl <| OK rfl rfl rfl (by rw [hg4]; rfl) rfl <| O (r_pickF (v := Value.bool false) rfl hg4 rfl) rfl <| O (r_assign (v := Value.bool false) rfl) rfl <| OW_nil ?_
       obtain rfl := Option.some.inj hM
       exact ⟨gg9, rfl, hds, hagg6, (hs.sub (.cons _ (.cons _ (.cons _ .slnil))))⟩
     ·clear hs
      rintro E w ⟨gg8, hE4, hds, hlegg8, hs⟩
      have hM := hKhx2
      obtain ⟨E, rfl⟩ := open1 (E := E) hE4
      refine WP_ret ?_
      obtain rfl := Option.some.inj hM
      refine FL_nil hds ?_
      exact ⟨_, res1 Try.results8 (rv_tmp (v := Value.bool xv2) rfl), gg8, ⟨[Value.bool xv2], rfl, rfl⟩, hs.ext⟩
    ·refine WP_false rfl hc3 <| WP_skip ?_
     obtain ⟨xv3, hx3, hKhx3⟩ := bindS hM
     refine WP_cut (fun E w => ∃ (gg14 : Hp), E 4 = Value.bool xv3 ∧ E.ds = [] ∧ Hle gg6 gg14 ∧ Go.Lx.Sep g0 w0 gg14 w []) ?_ ?_
     ·have hM := hx3
      have hagg6 := Hle.refl gg6
      refine WP_any (.s 0 (.q 1 (.q 2 (.s 3 (.q 4 (.q 5 (.q 6 (.q 7 (.q 9 (.q 10 (.s 8 (.s 11 (.q 12 (.q 13 (.q 14 (.leaf)))))))))))))))) (SS g0 w0 gg6 [Go.Lx.box b3 25 ([v15, v16, v17]), Go.Lx.box b2 25 ([v9, v10, v11]), Go.Lx.box b1 41 ([Value.int .i64 nv1.States, Value.int .i64 nv1.Start, v1, v2])]) mo (by decide +kernel) ?_
      have hs := hs.drew
      have hS : SS g0 w0 gg6 [Go.Lx.box b3 25 ([v15, v16, v17]), Go.Lx.box b2 25 ([v9, v10, v11]), Go.Lx.box b1 41 ([Value.int .i64 nv1.States, Value.int .i64 nv1.Start, v1, v2])] _ := ⟨gg6, Hle.refl _, hs⟩
      refine A1 rfl ?_
      obtain ⟨rv12, hrv12, hM⟩ := bindS hM
      refine C [] cf9 rfl (law10_awake_ok hrv12 hs.imm) rfl ?_
      rintro v24 wv17 ⟨gg15, hvv24, hegg15⟩
      have hlegg15 := hegg15.le hs.imm
      replace hs := hs.call hegg15
      replace hRv1 := hRv1.mono hlegg15
      replace hRv2 := hRv2.mono hlegg15
      replace hRv9 := hRv9.mono hlegg15
      replace hRv10 := hRv10.mono hlegg15
      replace hRv11 := hRv11.mono hlegg15
      replace hagg6 := hagg6.trans hlegg15
      obtain ⟨cs25, rfl, hcs25⟩ := hvv24
      have hcs25 : cs25 = _ := hcs25; subst hcs25
      refine OW_nil ?_
      replace hS := hS.to hagg6 hs
      refine ⟨fun _ => hS, ?_⟩
      refine A rfl hS (fun w9 ⟨g9, hle9, hs⟩ => r_move (v := Value.bool rv12) rfl) rfl ?_
      rcases condS hM with ⟨hg7, hM⟩ | ⟨hg7, hM⟩
      ·refine AG rfl rfl rfl rfl (by rw [hg7]; rfl) hS (fun w9 ⟨g9, hle9, hs⟩ => r_loadN (cs := [v9, v10, v11]) ti25 rfl rfl (hs.cells (i := 1) rfl)) rfl <| A1 rfl ?_
       obtain ⟨rv13, hrv13, hM⟩ := bindS hM
       refine CG rfl rfl rfl (by rw [hg7]; rfl) [Value.agg (List.toArray (α := Value) [v9, v10, v11])] cf10 rfl (ref10_Valid_ok hrv13 hs.imm (⟨[v9], [v10], [v11], rfl, ⟨_, rfl, hRv9⟩, ⟨_, rfl, hRv10⟩, ⟨_, rfl, hRv11⟩⟩)) rfl ?_
       rintro v25 wv18 ⟨gg16, hvv25, hegg16⟩
       have hlegg16 := hegg16.le hs.imm
       replace hs := hs.call hegg16
       replace hRv1 := hRv1.mono hlegg16
       replace hRv2 := hRv2.mono hlegg16
       replace hRv9 := hRv9.mono hlegg16
       replace hRv10 := hRv10.mono hlegg16
       replace hRv11 := hRv11.mono hlegg16
       replace hagg6 := hagg6.trans hlegg16
       obtain ⟨cs26, rfl, hcs26⟩ := hvv25
       have hcs26 : cs26 = _ := hcs26; subst hcs26
       refine OW_nil ?_
       replace hS := hS.to hagg6 hs
       refine ⟨fun _ => hS, ?_⟩
       refine A rfl hS (fun w9 ⟨g9, hle9, hs⟩ => r_pickT (v := Value.bool rv13) rfl hg7 rfl) rfl <| A rfl hS (fun w9 ⟨g9, hle9, hs⟩ => r_move (v := Value.bool rv13) rfl) rfl ?_
       rcases condS hM with ⟨hg8, hM⟩ | ⟨hg8, hM⟩
       ·refine AG rfl rfl rfl rfl (by rw [hg8]; rfl) hS (fun w9 ⟨g9, hle9, hs⟩ => r_loadN (cs := [v9, v10, v11]) ti25 rfl rfl (hs.cells (i := 1) rfl)) rfl <| AG rfl rfl rfl rfl (by rw [hg8]; rfl) hS (fun w9 ⟨g9, hle9, hs⟩ => r_move (v := encS s1) rfl) rfl <| AG rfl rfl rfl rfl (by rw [hg8]; rfl) hS (fun w9 ⟨g9, hle9, hs⟩ => r_loadN (cs := [Value.int .i64 nv1.States, Value.int .i64 nv1.Start, v1, v2]) ti41 rfl rfl (hs.cells (i := 2) rfl)) rfl <| AG rfl rfl rfl rfl (by rw [hg8]; rfl) hS (fun w9 ⟨g9, hle9, hs⟩ => r_move (v := encS s1) rfl) rfl <| A1 rfl ?_
        obtain ⟨rv14, hrv14, hM⟩ := bindS hM
        refine CG rfl rfl rfl (by rw [hg8]; rfl) [Value.agg (List.toArray (α := Value) [v9, v10, v11]), encS s1] cf12 rfl (dfa_Run_ok hrv14 hs.imm (⟨[v9], [v10], [v11], rfl, ⟨_, rfl, hRv9⟩, ⟨_, rfl, hRv10⟩, ⟨_, rfl, hRv11⟩⟩)) rfl ?_
        rintro v26 wv19 ⟨gg17, hvv26, hegg17⟩
        have hlegg17 := hegg17.le hs.imm
        replace hs := hs.call hegg17
        replace hRv1 := hRv1.mono hlegg17
        replace hRv2 := hRv2.mono hlegg17
        replace hagg6 := hagg6.trans hlegg17
        obtain ⟨cs27, rfl, hcs27⟩ := hvv26
        have hcs27 : cs27 = _ := hcs27; subst hcs27
        refine OW_nil ?_
        replace hS := hS.to hagg6 hs
        refine ⟨fun _ => hS, ?_⟩
        refine A1 rfl ?_
        obtain ⟨rv15, hrv15, hM⟩ := bindS hM
        refine CG rfl rfl rfl (by rw [hg8]; rfl) [Value.agg (List.toArray (α := Value) [Value.int .i64 nv1.States, Value.int .i64 nv1.Start, v1, v2]), encS s1] cf23 rfl (ref09_Run_ok hrv15 hs.imm (⟨[Value.int .i64 nv1.States], [Value.int .i64 nv1.Start], [v1], [v2], rfl, rfl, rfl, ⟨_, rfl, hRv1⟩, ⟨_, rfl, hRv2⟩⟩)) rfl ?_
        rintro v27 wv20 ⟨gg18, hvv27, hegg18⟩
        have hlegg18 := hegg18.le hs.imm
        replace hs := hs.call hegg18
        replace hagg6 := hagg6.trans hlegg18
        obtain ⟨cs28, rfl, hcs28⟩ := hvv27
        have hcs28 : cs28 = _ := hcs28; subst hcs28
        refine OW_nil ?_
        replace hS := hS.to hagg6 hs
        refine ⟨fun _ => hS, ?_⟩
        refine AG rfl rfl rfl rfl (by rw [hg8]; rfl) hS (fun w9 ⟨g9, hle9, hs⟩ => r_eql rfl rfl) rfl <| A rfl hS (fun w9 ⟨g9, hle9, hs⟩ => r_pickT (v := Value.bool (rv14 == rv15)) rfl hg8 rfl) rfl <| A rfl hS (fun w9 ⟨g9, hle9, hs⟩ => r_assign (v := Value.bool (rv14 == rv15)) rfl) rfl <| AN ?_
        obtain rfl := Option.some.inj hM
        exact ⟨gg18, rfl, hds, hagg6, (hs.sub (.cons _ (.cons _ (.cons _ .slnil))))⟩
       ·refine AK rfl rfl rfl rfl (by rw [hg8]; rfl) hS rfl <| AK rfl rfl rfl rfl (by rw [hg8]; rfl) hS rfl <| AK rfl rfl rfl rfl (by rw [hg8]; rfl) hS rfl <| AK rfl rfl rfl rfl (by rw [hg8]; rfl) hS rfl <| A1 rfl <| OK rfl rfl rfl (by rw [hg8]; rfl) rfl <| OW_nil ⟨fun _ => hS, ?_⟩
        refine A1 rfl <| OK rfl rfl rfl (by rw [hg8]; rfl) rfl <| OW_nil ⟨fun _ => hS, ?_⟩
        refine AK rfl rfl rfl rfl (by rw [hg8]; rfl) hS rfl <| A rfl hS (fun w9 ⟨g9, hle9, hs⟩ => r_pickF (v := Value.bool false) rfl hg8 rfl) rfl <| A rfl hS (fun w9 ⟨g9, hle9, hs⟩ => r_assign (v := Value.bool false) rfl) rfl <| AN ?_
        obtain rfl := Option.some.inj hM
        exact ⟨gg16, rfl, hds, hagg6, (hs.sub (.cons _ (.cons _ (.cons _ .slnil))))⟩
      ·refine AK rfl rfl rfl rfl (by rw [hg7]; rfl) hS rfl <| A1 rfl <| OK rfl rfl rfl (by rw [hg7]; rfl) rfl <| OW_nil ⟨fun _ => hS, ?_⟩
       refine A rfl hS (fun w9 ⟨g9, hle9, hs⟩ => r_pickF (v := Value.bool false) rfl hg7 rfl) rfl <| A rfl hS (fun w9 ⟨g9, hle9, hs⟩ => r_move (v := Value.bool false) rfl) rfl <| AK rfl rfl rfl rfl rfl hS rfl <| AK rfl rfl rfl rfl rfl hS rfl <| AK rfl rfl rfl rfl rfl hS rfl <| AK rfl rfl rfl rfl rfl hS rfl <| A1 rfl <| OK rfl rfl rfl rfl rfl <| OW_nil ⟨fun _ => hS, ?_⟩
       refine A1 rfl <| OK rfl rfl rfl rfl rfl <| OW_nil ⟨fun _ => hS, ?_⟩
       refine AK rfl rfl rfl rfl rfl hS rfl <| A rfl hS (fun w9 ⟨g9, hle9, hs⟩ => r_pickF (v := Value.bool false) rfl rfl rfl) rfl <| A rfl hS (fun w9 ⟨g9, hle9, hs⟩ => r_assign (v := Value.bool false) rfl) rfl <| AN ?_
       obtain rfl := Option.some.inj hM
       exact ⟨gg15, rfl, hds, hagg6, (hs.sub (.cons _ (.cons _ (.cons _ .slnil))))⟩
     ·clear hs
      rintro E w ⟨gg14, hE4, hds, hlegg14, hs⟩
      have hM := hKhx3
      obtain ⟨E, rfl⟩ := open1 (E := E) hE4
      refine WP_ret ?_
      obtain rfl := Option.some.inj hM
      refine FL_nil hds ?_
      exact ⟨_, res1 Try.results8 (rv_tmp (v := Value.bool xv3) rfl), gg14, ⟨[Value.bool xv3], rfl, rfl⟩, hs.ext⟩

end Go.Proofs.Ytogpainomdfpnaa
