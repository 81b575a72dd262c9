/- The walks: what each function does is what its model says. Printed by a program of my own. -/
import Derived.Test.YtogpainomdfpnaaTyp
set_option linter.unusedVariables false
set_option linter.unusedSimpArgs false
namespace Go.Proofs.Ytogpainomdfpnaa
open Go.Lx Go.RowKit
set_option maxRecDepth 100000 in
theorem law10_few_ok {nv1 : T_NFA} {r : Bool} (hM : M.law10_few nv1 = some r) {g0 : Hp} {w0 : World} (hi : Imm g0 w0) {cs1 : List Value} (hcs1 : tT_NFA.rel g0 cs1 nv1) :
    CallsV Try.prog 20 #[Value.agg cs1.toArray] w0 (fun v w' => ∃ g', (VRd tBool false g' v r) ∧ Ext g0 w0 g' w') := by
 unfold M.law10_few at hM
 obtain ⟨cs2, cs3, cs4, cs5, rfl, hcs2, hcs3, hcs4, hcs5⟩ := hcs1
 have hcs2 : cs2 = _ := hcs2; subst hcs2
 have hcs3 : cs3 = _ := hcs3; subst hcs3
 obtain ⟨v1, rfl, hRv1⟩ := hcs4
 obtain ⟨v2, rfl, hRv2⟩ := hcs5
 have hs := Sep.start hi
 refine calls_of_WP (args := [Value.agg (List.toArray (α := Value) [Value.int .i64 nv1.States, Value.int .i64 nv1.Start, v1, v2])]) Try.func20 rfl Try.ntmps20 rfl ?_
 have hds : (argEnv [Value.agg (List.toArray (α := Value) [Value.int .i64 nv1.States, Value.int .i64 nv1.Start, v1, v2])]).ds = [] := rfl
 refine WP_seq <| WP_region <| OW_box (v := Value.agg (List.toArray (α := Value) [Value.int .i64 nv1.States, Value.int .i64 nv1.Start, v1, v2])) rfl hs (zs := [Value.int .i64 nv1.States, Value.int .i64 nv1.Start, v1, v2]) rfl rfl ?_
 intro b1 wv1 hs
 refine O (r_assign (v := Value.bool false) rfl) rfl <| OW_nil ?_
 obtain ⟨xv1, hx1, hKhx1⟩ := bindS hM
 refine WP_cut (fun E w => E 2 = Value.bool xv1 ∧ E.ds = [] ∧ Go.Lx.Sep g0 w0 g0 w []) ?_ ?_
 ·have hM := hx1
  have hag0 := Hle.refl g0
  refine WP_region <| O (r_fieldAddr Try.underlying41 ti3 rfl rfl (by decide) rfl rfl) rfl <| O (r_load (v := Value.int .i64 nv1.States) ti3 rfl (hs.cell (i := 0) (o := 0) rfl rfl)) rfl <| O (r_leq rfl rfl) rfl <| O (r_move (v := Value.bool (decide (nv1.States ≤ 9))) rfl) rfl ?_
  rcases condS hM with ⟨hg3, hM⟩ | ⟨hg3, hM⟩
  ·refine OG rfl rfl rfl (by rw [hg3]; rfl) (r_fieldAddr Try.underlying41 ti39 rfl rfl (by decide) rfl rfl) rfl <| OG rfl rfl rfl (by rw [hg3]; rfl) (r_load (v := v1) ti39 rfl (hs.cell (i := 0) (o := 2) rfl rfl)) rfl ?_
   obtain ⟨a3, ca3, hva3⟩ := hRv1.shape
   refine OG rfl rfl rfl (by rw [hg3]; rfl) (r_lenSl (v := v1) Try.underlying39 rfl hva3) rfl <| OG rfl rfl rfl (by rw [hg3]; rfl) (r_leq rfl rfl) rfl <| O (r_pickT (v := Value.bool (decide ((nv1.Arcs.length : Int) ≤ 16))) rfl hg3 rfl) rfl <| O (r_move (v := Value.bool (decide ((nv1.Arcs.length : Int) ≤ 16))) rfl) rfl ?_
   rcases condS hM with ⟨hg4, hM⟩ | ⟨hg4, hM⟩
   ·refine OG rfl rfl rfl (by rw [hg4]; rfl) (r_fieldAddr Try.underlying41 ti22 rfl rfl (by decide) rfl rfl) rfl <| OG rfl rfl rfl (by rw [hg4]; rfl) (r_load (v := v2) ti22 rfl (hs.cell (i := 0) (o := 3) rfl rfl)) rfl ?_
    obtain ⟨a4, ca4, hva4⟩ := hRv2.shape
    refine OG rfl rfl rfl (by rw [hg4]; rfl) (r_lenSl (v := v2) Try.underlying22 rfl hva4) rfl <| OG rfl rfl rfl (by rw [hg4]; rfl) (r_leq rfl rfl) rfl <| O (r_pickT (v := Value.bool (decide ((nv1.Accept.length : Int) ≤ 20))) rfl hg4 rfl) rfl <| O (r_assign (v := Value.bool (decide ((nv1.Accept.length : Int) ≤ 20))) rfl) rfl <| OW_nil ?_
    obtain rfl := Option.some.inj hM
    exact ⟨rfl, hds, (hs.sub (.cons _ .slnil))⟩
   ·refine OK rfl rfl rfl (by rw [hg4]; rfl) rfl <| OK rfl rfl rfl (by rw [hg4]; rfl) rfl <| OK rfl rfl rfl (by rw [hg4]; rfl) rfl <| OK rfl rfl rfl (by rw [hg4]; rfl) rfl <| O (r_pickF (v := Value.bool false) rfl hg4 rfl) rfl <| O (r_assign (v := Value.bool false) rfl) rfl <| OW_nil ?_
    obtain rfl := Option.some.inj hM
    exact ⟨rfl, hds, (hs.sub (.cons _ .slnil))⟩
  ·refine OK rfl rfl rfl (by rw [hg3]; rfl) rfl <| OK rfl rfl rfl (by rw [hg3]; rfl) rfl <| OK rfl rfl rfl (by rw [hg3]; rfl) rfl <| OK rfl rfl rfl (by rw [hg3]; rfl) rfl <| O (r_pickF (v := Value.bool false) rfl hg3 rfl) rfl <| O (r_move (v := Value.bool false) rfl) rfl <| OK rfl rfl rfl rfl rfl <| OK rfl rfl rfl rfl rfl <| OK rfl rfl rfl rfl rfl <| OK rfl rfl rfl rfl rfl <| O (r_pickF (v := Value.bool false) rfl rfl rfl) rfl <| O (r_assign (v := Value.bool false) rfl) rfl <| OW_nil ?_
   obtain rfl := Option.some.inj hM
   exact ⟨rfl, hds, (hs.sub (.cons _ .slnil))⟩
 ·clear hs
  rintro E w ⟨hE2, hds, hs⟩
  have hM := hKhx1
  obtain ⟨E, rfl⟩ := open1 (E := E) hE2
  refine WP_ret ?_
  obtain rfl := Option.some.inj hM
  refine FL_nil hds ?_
  exact ⟨_, res1 Try.results20 (rv_tmp (v := Value.bool xv1) rfl), g0, ⟨[Value.bool xv1], rfl, rfl⟩, hs.ext⟩

set_option maxRecDepth 100000 in
theorem law10_class_ok {b1 : Int} {r : (List Int)} (hM : M.law10_class b1 = some r) {g0 : Hp} {w0 : World} (hi : Imm g0 w0) :
    CallsV Try.prog 25 #[Value.int .u8 b1] w0 (fun v w' => ∃ g' y0, (RowRel (tInt .i64) g' y0 r) ∧ Sep g0 w0 g' w' [.row v 3 (tInt .i64).sz r.length y0]) := by
 unfold M.law10_class at hM
 have hs := Sep.start hi
 refine calls_of_WP (args := [Value.int .u8 b1]) Try.func25 rfl Try.ntmps25 rfl ?_
 have hds : (argEnv [Value.int .u8 b1]).ds = [] := rfl
 refine WP_seq <| WP_region <| O (r_assign (v := Value.slice none 0 0) rfl) rfl <| OW_nil <| WP_seq <| WP_region ?_
 obtain ⟨c1, hc1, hM⟩ := bindS hM
 refine OW_make (τ := (tInt .i64)) (zc := [Value.int .i64 0]) (zx := 0) Try.underlying22 ti3 rfl rfl (by decide) hs rfl rfl hc1 rfl ?_
 intro v1 wv1 xs1 hrelxs1 hs
 refine O (r_assign (v := v1) rfl) rfl <| OW_nil <| WP_seq <| WP_region <| O (r_move (v := v1) rfl) rfl <| O (r_move (v := Value.int .u8 b1) rfl) rfl ?_
 obtain ⟨c2, hc2, hM⟩ := bindS hM
 obtain ⟨b2, cb2, hvb2, wv2, xs2, hstb2, hrelb2, hsb2⟩ := hs.rowPut (i := 0) rfl hrelxs1 hc2 (cs := [Value.int .i64 1]) rfl
 refine O (r_idxSl Try.underlying22 ti3 (v := v1) rfl hvb2 rfl (setL_some hc2).1 (setL_some hc2).2.1) rfl <| O0 (r_store ti3 rfl (v := Value.int .i64 1) rfl rfl hstb2) ?_
 have hs := hsb2
 refine OW_nil <| WP_seq <| WP_region <| O (r_move (v := v1) rfl) rfl <| O (r_assign (v := v1) rfl) rfl <| OW_nil <| WP_ret ?_
 obtain rfl := Option.some.inj hM
 refine FL_nil hds ?_
 exact ⟨_, res1 Try.results25 (rv_tmp (v := v1) rfl), g0, xs2, hrelb2, hs⟩

set_option maxRecDepth 100000 in
theorem law10_plus_ok {r : T_DFA × T_DFA} (hM : M.law10_plus = some r) {g0 : Hp} {w0 : World} (hi : Imm g0 w0) :
    CallsV Try.prog 24 #[] w0 (fun v w' => ∃ g', (∃ v1 v2, v = .tuple #[v1, v2] ∧ VRd tT_DFA true g' v1 r.1 ∧ VRd tT_DFA true g' v2 r.2) ∧ Ext g0 w0 g' w') := by
 unfold M.law10_plus at hM
 have hs := Sep.start hi
 refine calls_of_WP (args := []) Try.func24 rfl Try.ntmps24 rfl ?_
 have hds : (argEnv []).ds = [] := rfl
 refine WP_seq <| WP_region <| OW_alloc ti25 hs (zs := [Value.slice none 0 0, Value.slice none 0 0, Value.slice none 0 0]) rfl rfl ?_
 intro b1 wv1 hs
 refine OW_alloc ti25 hs (zs := [Value.slice none 0 0, Value.slice none 0 0, Value.slice none 0 0]) rfl rfl ?_
 intro b2 wv2 hs
 refine OW_nil <| WP_seq <| WP_region ?_
 obtain ⟨rv1, hrv1, hM⟩ := bindS hM
 refine C [Value.int .u8 97] cf25 rfl (law10_class_ok hrv1 hs.imm) rfl ?_
 rintro v1 wv3 ⟨gg1, xs1, hvv1, hegg1⟩
 have hlegg1 := hegg1.ext.le hs.imm
 replace hs := hs.callOwn hegg1
 simp only [List.cons_append, List.nil_append] at hs
 refine OW_lit (τ := (tInt .i64)) [Value.int .i64 (-1), Value.int .i64 1] [(-1), 1] Try.underlying22 ti3 (by decide) hs rfl rfl rfl ⟨rfl, rfl, trivial⟩ rfl ?_
 intro v2 wv4 xs2 hrelxs2 hs
 refine OW_lit (τ := (tInt .i64)) [Value.int .i64 (-1), Value.int .i64 1] [(-1), 1] Try.underlying22 ti3 (by decide) hs rfl rfl rfl ⟨rfl, rfl, trivial⟩ rfl ?_
 intro v3 wv5 xs3 hrelxs3 hs
 obtain ⟨gg2, hlegg2, hRgg2, hs⟩ := hs.relRow (i := 1) rfl hrelxs2
 replace hvv1 := hvv1.mono hlegg2
 replace hrelxs3 := hrelxs3.mono hlegg2
 obtain ⟨gg3, hlegg3, hRgg3, hs⟩ := hs.relRow (i := 0) rfl hrelxs3
 replace hvv1 := hvv1.mono hlegg3
 replace hRgg2 := hRgg2.mono hlegg3
 refine OW_lit (τ := (tSl (tInt .i64))) [v2, v3] [[(-1), 1], [(-1), 1]] Try.underlying23 ti22 (by decide) hs rfl rfl rfl ⟨⟨v2, cells_one (by obtain ⟨_, _, h9⟩ := hRgg2.shape; rw [h9]; rfl), hRgg2⟩, ⟨v3, cells_one (by obtain ⟨_, _, h9⟩ := hRgg3.shape; rw [h9]; rfl), hRgg3⟩, trivial⟩ rfl ?_
 intro v4 wv6 xs4 hrelxs4 hs
 refine OW_lit (τ := (tInt .i64)) [Value.int .i64 (-1), Value.int .i64 0] [(-1), 0] Try.underlying22 ti3 (by decide) hs rfl rfl rfl ⟨rfl, rfl, trivial⟩ rfl ?_
 intro v5 wv7 xs5 hrelxs5 hs
 have ho1 := one_of_shape (hs.rowShape (i := 2) rfl)
 have ho2 := one_of_shape (hs.rowShape (i := 1) rfl)
 have ho3 := one_of_shape (hs.rowShape (i := 0) rfl)
 refine O (r_build (vs := [(0, v1), (1, v4), (2, v5)]) (cs := [v1, v4, v5]) rfl (built_fill [(0, 1), (1, 1), (2, 1)] [Value.slice none 0 0, Value.slice none 0 0, Value.slice none 0 0] (fun _ => by kernel_rfl) (fill_step ([]) ([Value.slice none 0 0]) ([Value.slice none 0 0, Value.slice none 0 0]) ([v1]) rfl rfl (cells_one ho1) rfl rfl rfl <| fill_step ([v1]) ([Value.slice none 0 0]) ([Value.slice none 0 0]) ([v4]) rfl rfl (cells_one ho2) rfl rfl rfl <| fill_step ([v1, v4]) ([Value.slice none 0 0]) ([]) ([v5]) rfl rfl (cells_one ho3) rfl rfl rfl <| fill_done))) rfl ?_
 obtain ⟨rv2, hrv2, hM⟩ := bindS hM
 refine C [Value.int .u8 97] cf25 rfl (law10_class_ok hrv2 hs.imm) rfl ?_
 rintro v6 wv8 ⟨gg4, xs6, hvv6, hegg4⟩
 have hlegg4 := hegg4.ext.le hs.imm
 replace hs := hs.callOwn hegg4
 simp only [List.cons_append, List.nil_append] at hs
 replace hvv1 := hvv1.mono hlegg4
 replace hrelxs4 := hrelxs4.mono hlegg4
 replace hrelxs5 := hrelxs5.mono hlegg4
 refine OW_lit (τ := (tInt .i64)) [Value.int .i64 (-1), Value.int .i64 1] [(-1), 1] Try.underlying22 ti3 (by decide) hs rfl rfl rfl ⟨rfl, rfl, trivial⟩ rfl ?_
 intro v7 wv9 xs7 hrelxs7 hs
 refine OW_lit (τ := (tInt .i64)) [Value.int .i64 (-1), Value.int .i64 2] [(-1), 2] Try.underlying22 ti3 (by decide) hs rfl rfl rfl ⟨rfl, rfl, trivial⟩ rfl ?_
 intro v8 wv10 xs8 hrelxs8 hs
 refine OW_lit (τ := (tInt .i64)) [Value.int .i64 (-1), Value.int .i64 1] [(-1), 1] Try.underlying22 ti3 (by decide) hs rfl rfl rfl ⟨rfl, rfl, trivial⟩ rfl ?_
 intro v9 wv11 xs9 hrelxs9 hs
 obtain ⟨gg5, hlegg5, hRgg5, hs⟩ := hs.relRow (i := 2) rfl hrelxs7
 replace hvv1 := hvv1.mono hlegg5
 replace hrelxs4 := hrelxs4.mono hlegg5
 replace hrelxs5 := hrelxs5.mono hlegg5
 replace hvv6 := hvv6.mono hlegg5
 replace hrelxs8 := hrelxs8.mono hlegg5
 replace hrelxs9 := hrelxs9.mono hlegg5
 obtain ⟨gg6, hlegg6, hRgg6, hs⟩ := hs.relRow (i := 1) rfl hrelxs8
 replace hvv1 := hvv1.mono hlegg6
 replace hrelxs4 := hrelxs4.mono hlegg6
 replace hrelxs5 := hrelxs5.mono hlegg6
 replace hvv6 := hvv6.mono hlegg6
 replace hrelxs9 := hrelxs9.mono hlegg6
 replace hRgg5 := hRgg5.mono hlegg6
 obtain ⟨gg7, hlegg7, hRgg7, hs⟩ := hs.relRow (i := 0) rfl hrelxs9
 replace hvv1 := hvv1.mono hlegg7
 replace hrelxs4 := hrelxs4.mono hlegg7
 replace hrelxs5 := hrelxs5.mono hlegg7
 replace hvv6 := hvv6.mono hlegg7
 replace hRgg5 := hRgg5.mono hlegg7
 replace hRgg6 := hRgg6.mono hlegg7
 refine OW_lit (τ := (tSl (tInt .i64))) [v7, v8, v9] [[(-1), 1], [(-1), 2], [(-1), 1]] Try.underlying23 ti22 (by decide) hs rfl rfl rfl ⟨⟨v7, cells_one (by obtain ⟨_, _, h9⟩ := hRgg5.shape; rw [h9]; rfl), hRgg5⟩, ⟨v8, cells_one (by obtain ⟨_, _, h9⟩ := hRgg6.shape; rw [h9]; rfl), hRgg6⟩, ⟨v9, cells_one (by obtain ⟨_, _, h9⟩ := hRgg7.shape; rw [h9]; rfl), hRgg7⟩, trivial⟩ rfl ?_
 intro v10 wv12 xs10 hrelxs10 hs
 refine OW_lit (τ := (tInt .i64)) [Value.int .i64 (-1), Value.int .i64 0, Value.int .i64 0] [(-1), 0, 0] Try.underlying22 ti3 (by decide) hs rfl rfl rfl ⟨rfl, rfl, rfl, trivial⟩ rfl ?_
 intro v11 wv13 xs11 hrelxs11 hs
 have ho4 := one_of_shape (hs.rowShape (i := 2) rfl)
 have ho5 := one_of_shape (hs.rowShape (i := 1) rfl)
 have ho6 := one_of_shape (hs.rowShape (i := 0) rfl)
 refine O (r_build (vs := [(0, v6), (1, v10), (2, v11)]) (cs := [v6, v10, v11]) rfl (built_fill [(0, 1), (1, 1), (2, 1)] [Value.slice none 0 0, Value.slice none 0 0, Value.slice none 0 0] (fun _ => by kernel_rfl) (fill_step ([]) ([Value.slice none 0 0]) ([Value.slice none 0 0, Value.slice none 0 0]) ([v6]) rfl rfl (cells_one ho4) rfl rfl rfl <| fill_step ([v6]) ([Value.slice none 0 0]) ([Value.slice none 0 0]) ([v10]) rfl rfl (cells_one ho5) rfl rfl rfl <| fill_step ([v6, v10]) ([Value.slice none 0 0]) ([]) ([v11]) rfl rfl (cells_one ho6) rfl rfl rfl <| fill_done))) rfl <| OW_storeAll ti25 hs (i := 7) rfl rfl (v := Value.agg (List.toArray (α := Value) [v1, v4, v5])) rfl (vs := [v1, v4, v5]) rfl (one_cons (by obtain ⟨_, _, h9⟩ := hs.rowShape (i := 5) rfl; rw [h9]; rfl) (one_cons (by obtain ⟨_, _, h9⟩ := hs.rowShape (i := 4) rfl; rw [h9]; rfl) (one_cons (by obtain ⟨_, _, h9⟩ := hs.rowShape (i := 3) rfl; rw [h9]; rfl) one_nil))) rfl rfl ?_
 intro wv14 hs
 refine OW_storeAll ti25 hs (i := 6) rfl rfl (v := Value.agg (List.toArray (α := Value) [v6, v10, v11])) rfl (vs := [v6, v10, v11]) rfl (one_cons (by obtain ⟨_, _, h9⟩ := hs.rowShape (i := 2) rfl; rw [h9]; rfl) (one_cons (by obtain ⟨_, _, h9⟩ := hs.rowShape (i := 1) rfl; rw [h9]; rfl) (one_cons (by obtain ⟨_, _, h9⟩ := hs.rowShape (i := 0) rfl; rw [h9]; rfl) one_nil))) rfl rfl ?_
 intro wv15 hs
 refine OW_nil <| WP_ret ?_
 obtain rfl := Option.some.inj hM
 obtain ⟨gg8, hlegg8, hRgg8, hs⟩ := hs.relRow (i := 5) rfl hvv1
 replace hrelxs4 := hrelxs4.mono hlegg8
 replace hrelxs5 := hrelxs5.mono hlegg8
 replace hvv6 := hvv6.mono hlegg8
 replace hrelxs10 := hrelxs10.mono hlegg8
 replace hrelxs11 := hrelxs11.mono hlegg8
 obtain ⟨gg9, hlegg9, hRgg9, hs⟩ := hs.relRow (i := 4) rfl hrelxs4
 replace hrelxs5 := hrelxs5.mono hlegg9
 replace hvv6 := hvv6.mono hlegg9
 replace hrelxs10 := hrelxs10.mono hlegg9
 replace hrelxs11 := hrelxs11.mono hlegg9
 replace hRgg8 := hRgg8.mono hlegg9
 obtain ⟨gg10, hlegg10, hRgg10, hs⟩ := hs.relRow (i := 3) rfl hrelxs5
 replace hvv6 := hvv6.mono hlegg10
 replace hrelxs10 := hrelxs10.mono hlegg10
 replace hrelxs11 := hrelxs11.mono hlegg10
 replace hRgg8 := hRgg8.mono hlegg10
 replace hRgg9 := hRgg9.mono hlegg10
 obtain ⟨gg11, hlegg11, hRgg11, hs⟩ := hs.relRow (i := 2) rfl hvv6
 replace hrelxs10 := hrelxs10.mono hlegg11
 replace hrelxs11 := hrelxs11.mono hlegg11
 replace hRgg8 := hRgg8.mono hlegg11
 replace hRgg9 := hRgg9.mono hlegg11
 replace hRgg10 := hRgg10.mono hlegg11
 obtain ⟨gg12, hlegg12, hRgg12, hs⟩ := hs.relRow (i := 1) rfl hrelxs10
 replace hrelxs11 := hrelxs11.mono hlegg12
 replace hRgg8 := hRgg8.mono hlegg12
 replace hRgg9 := hRgg9.mono hlegg12
 replace hRgg10 := hRgg10.mono hlegg12
 replace hRgg11 := hRgg11.mono hlegg12
 obtain ⟨gg13, hlegg13, hRgg13, hs⟩ := hs.relRow (i := 0) rfl hrelxs11
 replace hRgg8 := hRgg8.mono hlegg13
 replace hRgg9 := hRgg9.mono hlegg13
 replace hRgg10 := hRgg10.mono hlegg13
 replace hRgg11 := hRgg11.mono hlegg13
 replace hRgg12 := hRgg12.mono hlegg13
 refine FL_nil hds ?_
 exact ⟨_, res2 Try.results24 (rv_cells (vs := [v1, v4, v5]) ti25 rfl rfl (hs.cells (i := 1) rfl)) (rv_cells (vs := [v6, v10, v11]) ti25 rfl rfl (hs.cells (i := 0) rfl)), gg13, ⟨_, _, rfl, ⟨[v1, v4, v5], rfl, ⟨[v1], [v4], [v5], rfl, ⟨_, rfl, hRgg8⟩, ⟨_, rfl, hRgg9⟩, ⟨_, rfl, hRgg10⟩⟩⟩, ⟨[v6, v10, v11], rfl, ⟨[v6], [v10], [v11], rfl, ⟨_, rfl, hRgg11⟩, ⟨_, rfl, hRgg12⟩, ⟨_, rfl, hRgg13⟩⟩⟩⟩, hs.ext⟩

set_option maxRecDepth 100000 in
theorem dfa_result_ok {d1 : T_DFA} {s1 : Int} {r : Int} (hM : M.dfa_result d1 s1 = some r) {g0 : Hp} {w0 : World} (hi : Imm g0 w0) {cs1 : List Value} (hcs1 : tT_DFA.rel g0 cs1 d1) :
    CallsV Try.prog 30 #[Value.agg cs1.toArray, Value.int .i64 s1] w0 (fun v w' => ∃ g', (VRd (tInt .i64) false g' v r) ∧ Ext g0 w0 g' w') := by
 unfold M.dfa_result at hM
 obtain ⟨cs2, cs3, cs4, rfl, hcs2, hcs3, hcs4⟩ := hcs1
 obtain ⟨v1, rfl, hRv1⟩ := hcs2
 obtain ⟨v2, rfl, hRv2⟩ := hcs3
 obtain ⟨v3, rfl, hRv3⟩ := hcs4
 have hs := Sep.start hi
 refine calls_of_WP (args := [Value.agg (List.toArray (α := Value) [v1, v2, v3]), Value.int .i64 s1]) Try.func30 rfl Try.ntmps30 rfl ?_
 have hds : (argEnv [Value.agg (List.toArray (α := Value) [v1, v2, v3]), Value.int .i64 s1]).ds = [] := rfl
 refine WP_seq <| WP_region <| OW_box (v := Value.agg (List.toArray (α := Value) [v1, v2, v3])) rfl hs (zs := [v1, v2, v3]) rfl rfl ?_
 intro b1 wv1 hs
 refine O (r_assign (v := Value.int .i64 0) rfl) rfl <| OW_nil <| WP_seq <| WP_seq <| WP_region <| O (r_move (v := Value.int .i64 s1) rfl) rfl <| O (r_lss rfl rfl) rfl <| OW_nil ?_
 rcases condS hM with ⟨hc1, hM⟩ | ⟨hc1, hM⟩
 ·refine WP_true rfl hc1 <| WP_seq <| WP_region <| O (r_assign (v := Value.int .i64 (-1)) rfl) rfl <| OW_nil <| WP_ret ?_
  obtain rfl := Option.some.inj hM
  refine FL_nil hds ?_
  exact ⟨_, res1 Try.results30 (rv_tmp (v := Value.int .i64 (-1)) rfl), g0, ⟨[Value.int .i64 (-1)], rfl, rfl⟩, hs.ext⟩
 ·refine WP_false rfl hc1 <| WP_skip <| WP_seq <| WP_region <| O (r_fieldAddr Try.underlying25 ti22 rfl rfl (by decide) rfl rfl) rfl <| O (r_load (v := v3) ti22 rfl (hs.cell (i := 0) (o := 2) rfl rfl)) rfl <| O (r_move (v := Value.int .i64 s1) rfl) rfl ?_
  obtain ⟨e1, he1, hM⟩ := bindS hM
  obtain ⟨b2, ob2, cb2, hvb2, cs5, hcs5, hcb2⟩ := hRv3.at he1
  have hcs5 : cs5 = _ := hcs5; subst hcs5
  refine O (r_idxSl Try.underlying22 ti3 (v := v3) rfl hvb2 rfl (idxL_some he1).1 (idxL_some he1).2.1) rfl <| O (r_loadEl (cs := [Value.int .i64 e1]) ti3 rfl rfl (.inr rfl) (hcb2 _ hs.imm) (v := Value.int .i64 e1) rfl) rfl <| O (r_assign (v := Value.int .i64 e1) rfl) rfl <| OW_nil <| WP_ret ?_
  obtain rfl := Option.some.inj hM
  refine FL_nil hds ?_
  exact ⟨_, res1 Try.results30 (rv_tmp (v := Value.int .i64 e1) rfl), g0, ⟨[Value.int .i64 e1], rfl, rfl⟩, hs.ext⟩

set_option maxRecDepth 100000 in
theorem dfa_step_ok {d1 : T_DFA} {s1 : Int} {b1 : Int} {r : Int} (hM : M.dfa_step d1 s1 b1 = some r) {g0 : Hp} {w0 : World} (hi : Imm g0 w0) {cs1 : List Value} (hcs1 : tT_DFA.rel g0 cs1 d1) :
    CallsV Try.prog 29 #[Value.agg cs1.toArray, Value.int .i64 s1, Value.int .u8 b1] w0 (fun v w' => ∃ g', (VRd (tInt .i64) false g' v r) ∧ Ext g0 w0 g' w') := by
 unfold M.dfa_step at hM
 obtain ⟨cs2, cs3, cs4, rfl, hcs2, hcs3, hcs4⟩ := hcs1
 obtain ⟨v1, rfl, hRv1⟩ := hcs2
 obtain ⟨v2, rfl, hRv2⟩ := hcs3
 obtain ⟨v3, rfl, hRv3⟩ := hcs4
 have hs := Sep.start hi
 refine calls_of_WP (args := [Value.agg (List.toArray (α := Value) [v1, v2, v3]), Value.int .i64 s1, Value.int .u8 b1]) Try.func29 rfl Try.ntmps29 rfl ?_
 have hds : (argEnv [Value.agg (List.toArray (α := Value) [v1, v2, v3]), Value.int .i64 s1, Value.int .u8 b1]).ds = [] := rfl
 refine WP_seq <| WP_region <| OW_box (v := Value.agg (List.toArray (α := Value) [v1, v2, v3])) rfl hs (zs := [v1, v2, v3]) rfl rfl ?_
 intro b2 wv1 hs
 refine O (r_assign (v := Value.int .i64 0) rfl) rfl <| OW_nil <| WP_seq <| WP_seq <| WP_region <| O (r_move (v := Value.int .i64 s1) rfl) rfl <| O (r_lss rfl rfl) rfl <| OW_nil ?_
 rcases condS hM with ⟨hc1, hM⟩ | ⟨hc1, hM⟩
 ·refine WP_true rfl hc1 <| WP_seq <| WP_region <| O (r_assign (v := Value.int .i64 (-1)) rfl) rfl <| OW_nil <| WP_ret ?_
  obtain rfl := Option.some.inj hM
  refine FL_nil hds ?_
  exact ⟨_, res1 Try.results29 (rv_tmp (v := Value.int .i64 (-1)) rfl), g0, ⟨[Value.int .i64 (-1)], rfl, rfl⟩, hs.ext⟩
 ·refine WP_false rfl hc1 <| WP_skip <| WP_seq <| WP_draw mo (by decide +kernel) ?_
  have hs := hs.drew
  refine S (r_fieldAddr Try.underlying25 ti23 rfl rfl (by decide) rfl rfl) rfl <| S (r_load (v := v2) ti23 rfl (hs.cell (i := 0) (o := 1) rfl rfl)) rfl <| S (r_move (v := Value.int .i64 s1) rfl) rfl ?_
  obtain ⟨e1, he1, hM⟩ := bindS hM
  obtain ⟨b3, ob3, cb3, hvb3, cs5, hcs5, hcb3⟩ := hRv2.at he1
  obtain ⟨v4, rfl, hRv4⟩ := hcs5
  refine S (r_idxSl Try.underlying23 ti22 (v := v2) rfl hvb3 rfl (idxL_some he1).1 (idxL_some he1).2.1) rfl <| S (r_loadEl (cs := [v4]) ti22 rfl rfl (.inr rfl) (hcb3 _ hs.imm) (v := v4) rfl) rfl <| S (r_fieldAddr Try.underlying25 ti22 rfl rfl (by decide) rfl rfl) rfl <| S (r_load (v := v1) ti22 rfl (hs.cell (i := 0) (o := 0) rfl rfl)) rfl <| S (r_move (v := Value.int .u8 b1) rfl) rfl ?_
  obtain ⟨e2, he2, hM⟩ := bindS hM
  obtain ⟨b4, ob4, cb4, hvb4, cs6, hcs6, hcb4⟩ := hRv1.at he2
  have hcs6 : cs6 = _ := hcs6; subst hcs6
  refine S (r_idxSl Try.underlying22 ti3 (v := v1) rfl hvb4 rfl (idxL_some he2).1 (idxL_some he2).2.1) rfl <| S (r_loadEl (cs := [Value.int .i64 e2]) ti3 rfl rfl (.inr rfl) (hcb4 _ hs.imm) (v := Value.int .i64 e2) rfl) rfl ?_
  obtain ⟨e3, he3, hM⟩ := bindS hM
  obtain ⟨b5, ob5, cb5, hvb5, cs7, hcs7, hcb5⟩ := hRv4.at he3
  have hcs7 : cs7 = _ := hcs7; subst hcs7
  refine S (r_idxSl Try.underlying22 ti3 (v := v4) rfl hvb5 rfl (idxL_some he3).1 (idxL_some he3).2.1) rfl <| S (r_loadEl (cs := [Value.int .i64 e3]) ti3 rfl rfl (.inr rfl) (hcb5 _ hs.imm) (v := Value.int .i64 e3) rfl) rfl <| S (r_assign (v := Value.int .i64 e3) rfl) rfl <| SW_nil <| WP_ret ?_
  obtain rfl := Option.some.inj hM
  refine FL_nil hds ?_
  exact ⟨_, res1 Try.results29 (rv_tmp (v := Value.int .i64 e3) rfl), g0, ⟨[Value.int .i64 e3], rfl, rfl⟩, hs.ext⟩

set_option maxRecDepth 100000 in
theorem dfa_Difference_ok {p1 : T_DFA} {p2 : T_DFA} {r : Str × Bool} (hM : M.dfa_Difference p1 p2 = some r) {g0 : Hp} {w0 : World} (hi : Imm g0 w0) {cs1 : List Value} (hcs1 : tT_DFA.rel g0 cs1 p1) {cs2 : List Value} (hcs2 : tT_DFA.rel g0 cs2 p2) :
    CallsV Try.prog 17 #[Value.agg cs1.toArray, Value.agg cs2.toArray] w0 (fun v w' => ∃ g', (∃ v1 v2, v = .tuple #[v1, v2] ∧ VRd tStr false g' v1 r.1 ∧ VRd tBool false g' v2 r.2) ∧ Ext g0 w0 g' w') := by
 unfold M.dfa_Difference at hM
 obtain ⟨cs3, cs4, cs5, rfl, hcs3, hcs4, hcs5⟩ := hcs1
 obtain ⟨v1, rfl, hRv1⟩ := hcs3
 obtain ⟨v2, rfl, hRv2⟩ := hcs4
 obtain ⟨v3, rfl, hRv3⟩ := hcs5
 obtain ⟨cs6, cs7, cs8, rfl, hcs6, hcs7, hcs8⟩ := hcs2
 obtain ⟨v4, rfl, hRv4⟩ := hcs6
 obtain ⟨v5, rfl, hRv5⟩ := hcs7
 obtain ⟨v6, rfl, hRv6⟩ := hcs8
 have hs := Sep.start hi
 refine calls_of_WP (args := [Value.agg (List.toArray (α := Value) [v1, v2, v3]), Value.agg (List.toArray (α := Value) [v4, v5, v6])]) Try.func17 rfl Try.ntmps17 rfl ?_
 have hds : (argEnv [Value.agg (List.toArray (α := Value) [v1, v2, v3]), Value.agg (List.toArray (α := Value) [v4, v5, v6])]).ds = [] := rfl
 refine WP_seq <| WP_region <| OW_box (v := Value.agg (List.toArray (α := Value) [v1, v2, v3])) rfl hs (zs := [v1, v2, v3]) rfl rfl ?_
 intro b1 wv1 hs
 refine OW_box (v := Value.agg (List.toArray (α := Value) [v4, v5, v6])) rfl hs (zs := [v4, v5, v6]) rfl rfl ?_
 intro b2 wv2 hs
 refine O (r_assign (v := encS []) rfl) rfl <| O (r_assign (v := Value.bool false) rfl) rfl <| OW_nil <| WP_seq <| WP_region <| O (r_build (vs := []) (cs := ([Value.int .i64 0, Value.int .i64 0]) ++ ([encS []])) rfl (by kernel_rfl)) rfl <| OW_lit (τ := tT_dfa_entry) [Value.agg (List.toArray (α := Value) (([Value.int .i64 0, Value.int .i64 0]) ++ ([encS []])))] [(T_dfa_entry.mk (T_dfa_pair.mk 0 0) [])] Try.underlying67 ti66 (by decide) hs rfl rfl rfl ⟨⟨[Value.int .i64 0, Value.int .i64 0], [encS []], rfl, ⟨[Value.int .i64 0], [Value.int .i64 0], rfl, rfl, rfl⟩, rfl⟩, trivial⟩ rfl ?_
 intro v7 wv3 xs1 hrelxs1 hs
 refine O (r_assign (v := v7) rfl) rfl <| OW_nil <| WP_seq <| WP_region <| OW_makeMap hs rfl ?_
 intro b3 wv4 hs
 have hmb3 : MRel (fun (p : T_dfa_pair) => Value.agg #[.int .i64 p.a, .int .i64 p.b]) (fun (_ : Unit) => Value.agg #[]) #[] [] := mrel_nil
 refine O (r_build (vs := []) (cs := [Value.int .i64 0, Value.int .i64 0]) rfl (by kernel_rfl)) rfl <| O (r_build (vs := []) (cs := []) rfl (by kernel_rfl)) rfl <| OW_mapIns (kk := (T_dfa_pair.mk 0 0)) (vv := ()) Try.underlying69 (keyLaw_pair (K := T_dfa_pair) (ek := (fun (p : T_dfa_pair) => Value.agg #[.int .i64 p.a, .int .i64 p.b])) (·.a) (·.b) Try.underlying64 Try.underlying3 Try.underlying3 ti3 ti3 rfl rfl (by decide) (by decide) (by kernel_rfl) (fun _ => rfl) (by intro x y; rw [Bool.eq_iff_iff]; cases x; cases y; simp)) hs (i := 0) rfl hmb3 rfl rfl rfl ?_
 intro es1 ck1 wv5 hmes1 hs
 refine O (r_move (v := Value.map (some b3)) rfl) rfl <| O (r_assign (v := Value.map (some b3)) rfl) rfl <| OW_nil ?_
 obtain ⟨o21, hx58, hKhx58⟩ := stepS hM
 refine WP_cut (fun E w => ∃ u9 : Unit, o21 = .next u9 ∧ ∃ (gg595 : Hp), E.ds = [] ∧ Hle g0 gg595 ∧ Go.Lx.Sep g0 w0 gg595 w []) ?_ ?_
 ·have hM := hx58
  have hag0 := Hle.refl g0
  refine WP_seq <| WP_region <| O (r_assign (v := Value.int .i64 0) rfl) rfl <| OW_nil <| WP_block <| WP_loop (fun (st9 : (List T_dfa_entry) × (List (T_dfa_pair × Unit)) × Int) E w => match st9 with | (xv61, m57, xv62) => ∃ (gg794 : Hp) (es106 : Array MapEntry) (ck106 : Nat) (v896 : Value) (xs202 : List Value), E 2 = Value.pointer (some ⟨b1, 0, none⟩) ∧ E 3 = Value.pointer (some ⟨b2, 0, none⟩) ∧ E 6 = v896 ∧ E 7 = Value.map (some b3) ∧ E 8 = Value.int .i64 xv62 ∧ E.ds = [] ∧ Hle g0 gg794 ∧ MRel (fun (p : T_dfa_pair) => Value.agg #[.int .i64 p.a, .int .i64 p.b]) (fun (_ : Unit) => Value.agg #[]) es106 m57 ∧ RowRel tT_dfa_entry gg794 xs202 xv61 ∧ Go.Lx.Sep g0 w0 gg794 w [.obj b3 (.map es106 ck106), .row v896 66 tT_dfa_entry.sz xv61.length xs202, Go.Lx.box b2 25 ([v4, v5, v6]), Go.Lx.box b1 25 ([v1, v2, v3])]) hM ⟨g0, es1, ck1, v7, xs1, rfl, rfl, rfl, rfl, rfl, hds, (Hle.refl _), hmes1, hrelxs1, hs⟩ ?_
  clear hs hM
  rintro ⟨xv61, m57, xv62⟩ o17 E w hM ⟨gg794, es106, ck106, v896, xs202, hE2, hE3, hE6, hE7, hE8, hds, hlegg794, hmes106, hrelxs202, hs⟩
  obtain ⟨E, rfl⟩ := open5 (E := E) hE2 hE3 hE6 hE7 hE8
  replace hRv1 := hRv1.mono hlegg794
  replace hRv2 := hRv2.mono hlegg794
  replace hRv3 := hRv3.mono hlegg794
  replace hRv4 := hRv4.mono hlegg794
  replace hRv5 := hRv5.mono hlegg794
  replace hRv6 := hRv6.mono hlegg794
  have hagg794 := Hle.refl gg794
  refine WP_seq <| WP_seq <| WP_region <| O (r_move (v := Value.int .i64 xv62) rfl) rfl <| O (r_move (v := v896) rfl) rfl ?_
  obtain ⟨a6, ca6, hva6⟩ := hs.rowShape (i := 1) rfl
  refine O (r_lenSl (v := v896) Try.underlying67 rfl hva6) rfl <| O (r_lss rfl rfl) rfl <| OW_nil ?_
  rcases condS hM with ⟨hc106, hM⟩ | ⟨hc106, hM⟩
  ·refine WP_true rfl hc106 <| WP_skip ?_
   obtain ⟨o20, hx106, hKhx106⟩ := stepS hM
   refine WP_cut (fun E w => ∃ (xv84 : (List T_dfa_entry)) (m78 : (List (T_dfa_pair × Unit))), o20 = .next (xv84, m78) ∧ ∃ (gg1091 : Hp) (es145 : Array MapEntry) (ck145 : Nat) (v1229 : Value) (xs277 : List Value), E 2 = Value.pointer (some ⟨b1, 0, none⟩) ∧ E 3 = Value.pointer (some ⟨b2, 0, none⟩) ∧ E 6 = v1229 ∧ E 7 = Value.map (some b3) ∧ E 8 = Value.int .i64 xv62 ∧ E.ds = [] ∧ Hle gg794 gg1091 ∧ MRel (fun (p : T_dfa_pair) => Value.agg #[.int .i64 p.a, .int .i64 p.b]) (fun (_ : Unit) => Value.agg #[]) es145 m78 ∧ RowRel tT_dfa_entry gg1091 xs277 xv84 ∧ Go.Lx.Sep g0 w0 gg1091 w [.obj b3 (.map es145 ck145), .row v1229 66 tT_dfa_entry.sz xv84.length xs277, Go.Lx.box b2 25 ([v4, v5, v6]), Go.Lx.box b1 25 ([v1, v2, v3])]) ?_ ?_
   ·have hM := hx106
    refine WP_block <| WP_seq <| WP_region <| O (r_move (v := v896) rfl) rfl <| O (r_move (v := Value.int .i64 xv62) rfl) rfl ?_
    obtain ⟨e12, he12, hM⟩ := bindS hM
    obtain ⟨b686, cb686, hvb686, cs1010, hcs1010, hcb686⟩ := hs.rowEl (i := 1) rfl hrelxs202 he12
    obtain ⟨cs1011, cs1012, rfl, hcs1011, hcs1012⟩ := hcs1010
    obtain ⟨cs1013, cs1014, rfl, hcs1013, hcs1014⟩ := hcs1011
    have hcs1013 : cs1013 = _ := hcs1013; subst hcs1013
    have hcs1014 : cs1014 = _ := hcs1014; subst hcs1014
    have hcs1012 : cs1012 = _ := hcs1012; subst hcs1012
    refine O (r_idxSl Try.underlying67 ti66 (v := v896) rfl hvb686 rfl (idxL_some he12).1 (idxL_some he12).2.1) rfl <| O (r_loadEl (cs := ([Value.int .i64 e12.atv.a, Value.int .i64 e12.atv.b]) ++ ([encS e12.text])) ti66 rfl rfl (.inl rfl) (hcb686 _ (hs.at (i := 1) rfl)) (v := Value.agg (List.toArray (α := Value) (([Value.int .i64 e12.atv.a, Value.int .i64 e12.atv.b]) ++ ([encS e12.text])))) rfl) rfl <| OW_alloc ti66 hs (zs := ([Value.int .i64 0, Value.int .i64 0]) ++ ([encS []])) rfl rfl ?_
    intro b687 wv2426 hs
    refine OW_storeAll ti66 hs (i := 0) rfl rfl (v := Value.agg (List.toArray (α := Value) (([Value.int .i64 e12.atv.a, Value.int .i64 e12.atv.b]) ++ ([encS e12.text])))) rfl (vs := ([Value.int .i64 e12.atv.a, Value.int .i64 e12.atv.b]) ++ ([encS e12.text])) rfl (one_append (one_cons rfl (one_cons rfl one_nil)) (one_cons rfl one_nil)) rfl rfl ?_
    intro wv2427 hs
    refine OW_nil <| WP_seq <| WP_seq <| WP_any (.q 0 (.q 1 (.q 2 (.q 3 (.q 5 (.q 6 (.q 7 (.q 8 (.s 4 (.s 9 (.q 10 (.leaf)))))))))))) (SS g0 w0 gg794 [Go.Lx.box b687 66 (([Value.int .i64 e12.atv.a, Value.int .i64 e12.atv.b]) ++ ([encS e12.text])), .obj b3 (.map es106 ck106), .row v896 66 tT_dfa_entry.sz xv61.length xs202, Go.Lx.box b2 25 ([v4, v5, v6]), Go.Lx.box b1 25 ([v1, v2, v3])]) mo (by decide +kernel) ?_
    have hs := hs.drew
    have hS : SS g0 w0 gg794 [Go.Lx.box b687 66 (([Value.int .i64 e12.atv.a, Value.int .i64 e12.atv.b]) ++ ([encS e12.text])), .obj b3 (.map es106 ck106), .row v896 66 tT_dfa_entry.sz xv61.length xs202, Go.Lx.box b2 25 ([v4, v5, v6]), Go.Lx.box b1 25 ([v1, v2, v3])] _ := ⟨gg794, Hle.refl _, hs⟩
    refine A rfl hS (fun w9 ⟨g9, hle9, hs⟩ => r_loadN (cs := [v1, v2, v3]) ti25 rfl rfl (hs.cells (i := 4) rfl)) rfl <| A rfl hS (fun w9 ⟨g9, hle9, hs⟩ => r_fieldAddr Try.underlying66 ti64 rfl rfl (by decide) rfl rfl) rfl <| A rfl hS (fun w9 ⟨g9, hle9, hs⟩ => r_fieldAddr Try.underlying64 ti3 rfl rfl (by decide) rfl rfl) rfl <| A rfl hS (fun w9 ⟨g9, hle9, hs⟩ => r_load (v := Value.int .i64 e12.atv.a) ti3 rfl (hs.cell (i := 0) (o := 0) rfl rfl)) rfl <| A rfl hS (fun w9 ⟨g9, hle9, hs⟩ => r_loadN (cs := [v4, v5, v6]) ti25 rfl rfl (hs.cells (i := 3) rfl)) rfl <| A rfl hS (fun w9 ⟨g9, hle9, hs⟩ => r_fieldAddr Try.underlying66 ti64 rfl rfl (by decide) rfl rfl) rfl <| A rfl hS (fun w9 ⟨g9, hle9, hs⟩ => r_fieldAddr Try.underlying64 ti3 rfl rfl (by decide) rfl rfl) rfl ?_
    refine A rfl hS (fun w9 ⟨g9, hle9, hs⟩ => r_load (v := Value.int .i64 e12.atv.b) ti3 rfl (hs.cell (i := 0) (o := 1) rfl rfl)) rfl <| A1 rfl ?_
    obtain ⟨rv419, hrv419, hM⟩ := bindS hM
    refine C [Value.agg (List.toArray (α := Value) [v1, v2, v3]), Value.int .i64 e12.atv.a] cf30 rfl (dfa_result_ok hrv419 hs.imm (⟨[v1], [v2], [v3], rfl, ⟨_, rfl, hRv1⟩, ⟨_, rfl, hRv2⟩, ⟨_, rfl, hRv3⟩⟩)) rfl ?_
    rintro v1230 wv2428 ⟨gg1092, hvv1230, hegg1092⟩
    have hlegg1092 := hegg1092.le hs.imm
    replace hs := hs.call hegg1092
    replace hRv1 := hRv1.mono hlegg1092
    replace hRv2 := hRv2.mono hlegg1092
    replace hRv3 := hRv3.mono hlegg1092
    replace hRv4 := hRv4.mono hlegg1092
    replace hRv5 := hRv5.mono hlegg1092
    replace hRv6 := hRv6.mono hlegg1092
    replace hrelxs202 := hrelxs202.mono hlegg1092
    replace hagg794 := hagg794.trans hlegg1092
    obtain ⟨cs1015, rfl, hcs1015⟩ := hvv1230
    have hcs1015 : cs1015 = _ := hcs1015; subst hcs1015
    refine OW_nil ?_
    replace hS := hS.to hagg794 hs
    refine ⟨fun _ => hS, ?_⟩
    refine A1 rfl ?_
    obtain ⟨rv420, hrv420, hM⟩ := bindS hM
    refine C [Value.agg (List.toArray (α := Value) [v4, v5, v6]), Value.int .i64 e12.atv.b] cf30 rfl (dfa_result_ok hrv420 hs.imm (⟨[v4], [v5], [v6], rfl, ⟨_, rfl, hRv4⟩, ⟨_, rfl, hRv5⟩, ⟨_, rfl, hRv6⟩⟩)) rfl ?_
    rintro v1231 wv2429 ⟨gg1093, hvv1231, hegg1093⟩
    have hlegg1093 := hegg1093.le hs.imm
    replace hs := hs.call hegg1093
    replace hRv1 := hRv1.mono hlegg1093
    replace hRv2 := hRv2.mono hlegg1093
    replace hRv3 := hRv3.mono hlegg1093
    replace hRv4 := hRv4.mono hlegg1093
    replace hRv5 := hRv5.mono hlegg1093
    replace hRv6 := hRv6.mono hlegg1093
    replace hrelxs202 := hrelxs202.mono hlegg1093
    replace hagg794 := hagg794.trans hlegg1093
    obtain ⟨cs1016, rfl, hcs1016⟩ := hvv1231
    have hcs1016 : cs1016 = _ := hcs1016; subst hcs1016
    refine OW_nil ?_
    replace hS := hS.to hagg794 hs
    refine ⟨fun _ => hS, ?_⟩
    refine A rfl hS (fun w9 ⟨g9, hle9, hs⟩ => r_neq rfl rfl) rfl <| AN ?_
    rcases condS hM with ⟨hc117, hM⟩ | ⟨hc117, hM⟩
    ·refine WP_true rfl hc117 <| WP_seq <| WP_region <| O (r_fieldAddr Try.underlying66 ti9 rfl rfl (by decide) rfl rfl) rfl <| O (r_load (v := encS e12.text) ti9 rfl (hs.cell (i := 0) (o := 2) rfl rfl)) rfl <| O (r_assign (v := encS e12.text) rfl) rfl <| O (r_assign (v := Value.bool true) rfl) rfl <| OW_nil <| WP_ret ?_
     obtain rfl := Option.some.inj hM
     have hM := hKhx106
     obtain rfl := Option.some.inj hM
     refine fun hr => ?_
     have hM := congrArg some hr
     obtain rfl := Option.some.inj hM
     have hM := hKhx58
     obtain rfl := Option.some.inj hM
     refine FL_nil hds ?_
     exact ⟨_, res2 Try.results17 (rv_tmp (v := encS e12.text) rfl) (rv_tmp (v := Value.bool true) rfl), gg1093, ⟨_, _, rfl, ⟨[encS e12.text], rfl, rfl⟩, ⟨[Value.bool true], rfl, rfl⟩⟩, hs.ext⟩
    ·refine WP_false rfl hc117 <| WP_skip <| WP_seq <| WP_region <| O (r_move (v := Value.int .i64 0) rfl) rfl <| OW_nil <| WP_block ?_
     have hagg1093 := Hle.refl gg1093
     refine WP_loop (fun (st9 : (List T_dfa_entry) × (List (T_dfa_pair × Unit)) × Int) E w => match st9 with | (xv87, m81, xv88) => ∃ (gg1126 : Hp) (es150 : Array MapEntry) (ck150 : Nat) (v1268 : Value) (xs286 : List Value), E 2 = Value.pointer (some ⟨b1, 0, none⟩) ∧ E 3 = Value.pointer (some ⟨b2, 0, none⟩) ∧ E 6 = v1268 ∧ E 7 = Value.map (some b3) ∧ E 8 = Value.int .i64 xv62 ∧ E 9 = Value.pointer (some ⟨b687, 0, none⟩) ∧ E 43 = Value.int .i64 xv88 ∧ E.ds = [] ∧ Hle gg1093 gg1126 ∧ MRel (fun (p : T_dfa_pair) => Value.agg #[.int .i64 p.a, .int .i64 p.b]) (fun (_ : Unit) => Value.agg #[]) es150 m81 ∧ RowRel tT_dfa_entry gg1126 xs286 xv87 ∧ Go.Lx.Sep g0 w0 gg1126 w [Go.Lx.box b687 66 (([Value.int .i64 e12.atv.a, Value.int .i64 e12.atv.b]) ++ ([encS e12.text])), .obj b3 (.map es150 ck150), .row v1268 66 tT_dfa_entry.sz xv87.length xs286, Go.Lx.box b2 25 ([v4, v5, v6]), Go.Lx.box b1 25 ([v1, v2, v3])]) hM ⟨gg1093, es106, ck106, v896, xs202, rfl, rfl, rfl, rfl, rfl, rfl, rfl, hds, (Hle.refl _), hmes106, hrelxs202, hs⟩ ?_
     clear hs hM
     rintro ⟨xv87, m81, xv88⟩ o19 E w hM ⟨gg1126, es150, ck150, v1268, xs286, hE2, hE3, hE6, hE7, hE8, hE9, hE43, hds, hlegg1126, hmes150, hrelxs286, hs⟩
     obtain ⟨E, rfl⟩ := open7 (E := E) hE2 hE3 hE6 hE7 hE8 hE9 hE43
     replace hRv1 := hRv1.mono hlegg1126
     replace hRv2 := hRv2.mono hlegg1126
     replace hRv3 := hRv3.mono hlegg1126
     replace hRv4 := hRv4.mono hlegg1126
     replace hRv5 := hRv5.mono hlegg1126
     replace hRv6 := hRv6.mono hlegg1126
     replace hagg794 := hagg794.trans hlegg1126
     have hagg1126 := Hle.refl gg1126
     refine WP_seq <| WP_region <| O (r_lss rfl rfl) rfl <| OW_nil <| WP_seq ?_
     rcases condS hM with ⟨hc124, hM⟩ | ⟨hc124, hM⟩
     ·refine WP_true rfl hc124 <| WP_skip ?_
      obtain ⟨⟨y107, m84⟩, hx114, hKhx114⟩ := bindS hM
      refine WP_cut (fun E w => ∃ (gg1174 : Hp) (es156 : Array MapEntry) (ck156 : Nat) (v1322 : Value) (xs298 : List Value), E 2 = Value.pointer (some ⟨b1, 0, none⟩) ∧ E 3 = Value.pointer (some ⟨b2, 0, none⟩) ∧ E 6 = v1322 ∧ E 7 = Value.map (some b3) ∧ E 8 = Value.int .i64 xv62 ∧ E 9 = Value.pointer (some ⟨b687, 0, none⟩) ∧ E 43 = Value.int .i64 xv88 ∧ E.ds = [] ∧ Hle gg1126 gg1174 ∧ MRel (fun (p : T_dfa_pair) => Value.agg #[.int .i64 p.a, .int .i64 p.b]) (fun (_ : Unit) => Value.agg #[]) es156 m84 ∧ RowRel tT_dfa_entry gg1174 xs298 y107 ∧ Go.Lx.Sep g0 w0 gg1174 w [Go.Lx.box b687 66 (([Value.int .i64 e12.atv.a, Value.int .i64 e12.atv.b]) ++ ([encS e12.text])), .obj b3 (.map es156 ck156), .row v1322 66 tT_dfa_entry.sz y107.length xs298, Go.Lx.box b2 25 ([v4, v5, v6]), Go.Lx.box b1 25 ([v1, v2, v3])]) ?_ ?_
      ·have hM := hx114
       refine WP_block <| WP_seq <| WP_region <| O (r_move (v := Value.int .i64 xv88) rfl) rfl <| O (r_assign (v := Value.int .i64 xv88) rfl) rfl <| OW_nil ?_
       obtain ⟨⟨rv453, rv454⟩, hx115, hKhx115⟩ := bindS hM
       refine WP_cut (fun E w => ∃ (gg1182 : Hp) (b742 : Nat), E 2 = Value.pointer (some ⟨b1, 0, none⟩) ∧ E 3 = Value.pointer (some ⟨b2, 0, none⟩) ∧ E 6 = v1268 ∧ E 7 = Value.map (some b3) ∧ E 8 = Value.int .i64 xv62 ∧ E 9 = Value.pointer (some ⟨b687, 0, none⟩) ∧ E 10 = Value.int .i64 xv88 ∧ E 11 = Value.pointer (some ⟨b742, 0, none⟩) ∧ E 43 = Value.int .i64 xv88 ∧ E.ds = [] ∧ Hle gg1126 gg1182 ∧ Go.Lx.Sep g0 w0 gg1182 w [Go.Lx.box b742 64 ([Value.int .i64 rv453, Value.int .i64 rv454]), Go.Lx.box b687 66 (([Value.int .i64 e12.atv.a, Value.int .i64 e12.atv.b]) ++ ([encS e12.text])), .obj b3 (.map es150 ck150), .row v1268 66 tT_dfa_entry.sz xv87.length xs286, Go.Lx.box b2 25 ([v4, v5, v6]), Go.Lx.box b1 25 ([v1, v2, v3])]) ?_ ?_
       ·have hM := hx115
        obtain ⟨rv455, hrv455, hM⟩ := bindS hM
        obtain ⟨rv456, hrv456, hM⟩ := bindS hM
        refine WP_any (.q 0 (.q 1 (.q 2 (.q 3 (.q 4 (.q 5 (.q 7 (.q 8 (.q 9 (.q 10 (.q 11 (.q 12 (.c 6 (.c 13 (.q 14 (.s 15 (.s 16 (.leaf)))) (.c 15 (.s 13 (.q 14 (.s 16 (.leaf)))) (.n))) (.c 15 (.s 6 (.s 13 (.q 14 (.s 16 (.leaf))))) (.n))))))))))))))) (SS g0 w0 gg1126 [Go.Lx.box b687 66 (([Value.int .i64 e12.atv.a, Value.int .i64 e12.atv.b]) ++ ([encS e12.text])), .obj b3 (.map es150 ck150), .row v1268 66 tT_dfa_entry.sz xv87.length xs286, Go.Lx.box b2 25 ([v4, v5, v6]), Go.Lx.box b1 25 ([v1, v2, v3])]) mo (by decide +kernel) ?_
        have hs := hs.drew
        have hS : SS g0 w0 gg1126 [Go.Lx.box b687 66 (([Value.int .i64 e12.atv.a, Value.int .i64 e12.atv.b]) ++ ([encS e12.text])), .obj b3 (.map es150 ck150), .row v1268 66 tT_dfa_entry.sz xv87.length xs286, Go.Lx.box b2 25 ([v4, v5, v6]), Go.Lx.box b1 25 ([v1, v2, v3])] _ := ⟨gg1126, Hle.refl _, hs⟩
        refine A rfl hS (fun w9 ⟨g9, hle9, hs⟩ => r_loadN (cs := [v1, v2, v3]) ti25 rfl rfl (hs.cells (i := 4) rfl)) rfl <| A rfl hS (fun w9 ⟨g9, hle9, hs⟩ => r_fieldAddr Try.underlying66 ti64 rfl rfl (by decide) rfl rfl) rfl <| A rfl hS (fun w9 ⟨g9, hle9, hs⟩ => r_fieldAddr Try.underlying64 ti3 rfl rfl (by decide) rfl rfl) rfl <| A rfl hS (fun w9 ⟨g9, hle9, hs⟩ => r_load (v := Value.int .i64 e12.atv.a) ti3 rfl (hs.cell (i := 0) (o := 0) rfl rfl)) rfl <| A rfl hS (fun w9 ⟨g9, hle9, hs⟩ => r_move (v := Value.int .i64 xv88) rfl) rfl <| A rfl hS (fun w9 ⟨g9, hle9, hs⟩ => r_conv Try.underlying3 Try.underlying5 rfl) rfl <| A rfl hS (fun w9 ⟨g9, hle9, hs⟩ => r_loadN (cs := [v4, v5, v6]) ti25 rfl rfl (hs.cells (i := 3) rfl)) rfl ?_
        refine A rfl hS (fun w9 ⟨g9, hle9, hs⟩ => r_fieldAddr Try.underlying66 ti64 rfl rfl (by decide) rfl rfl) rfl <| A rfl hS (fun w9 ⟨g9, hle9, hs⟩ => r_fieldAddr Try.underlying64 ti3 rfl rfl (by decide) rfl rfl) rfl <| A rfl hS (fun w9 ⟨g9, hle9, hs⟩ => r_load (v := Value.int .i64 e12.atv.b) ti3 rfl (hs.cell (i := 0) (o := 1) rfl rfl)) rfl <| A rfl hS (fun w9 ⟨g9, hle9, hs⟩ => r_move (v := Value.int .i64 xv88) rfl) rfl <| A rfl hS (fun w9 ⟨g9, hle9, hs⟩ => r_conv Try.underlying3 Try.underlying5 rfl) rfl <| A2 rfl ?_ ?_
        ·refine C [Value.agg (List.toArray (α := Value) [v1, v2, v3]), Value.int .i64 e12.atv.a, Value.int .u8 (IntKind.u8.wrap xv88)] cf29 rfl (dfa_step_ok hrv455 hs.imm (⟨[v1], [v2], [v3], rfl, ⟨_, rfl, hRv1⟩, ⟨_, rfl, hRv2⟩, ⟨_, rfl, hRv3⟩⟩)) rfl ?_
         rintro v1332 wv2629 ⟨gg1185, hvv1332, hegg1185⟩
         have hlegg1185 := hegg1185.le hs.imm
         replace hs := hs.call hegg1185
         replace hRv4 := hRv4.mono hlegg1185
         replace hRv5 := hRv5.mono hlegg1185
         replace hRv6 := hRv6.mono hlegg1185
         replace hagg1126 := hagg1126.trans hlegg1185
         obtain ⟨cs1096, rfl, hcs1096⟩ := hvv1332
         have hcs1096 : cs1096 = _ := hcs1096; subst hcs1096
         refine OW_nil ?_
         replace hS := hS.to hagg1126 hs
         refine ⟨fun _ => hS, ?_⟩
         refine A2 rfl ?_ ?_
         ·refine C [Value.agg (List.toArray (α := Value) [v4, v5, v6]), Value.int .i64 e12.atv.b, Value.int .u8 (IntKind.u8.wrap xv88)] cf29 rfl (dfa_step_ok hrv456 hs.imm (⟨[v4], [v5], [v6], rfl, ⟨_, rfl, hRv4⟩, ⟨_, rfl, hRv5⟩, ⟨_, rfl, hRv6⟩⟩)) rfl ?_
          rintro v1333 wv2630 ⟨gg1186, hvv1333, hegg1186⟩
          have hlegg1186 := hegg1186.le hs.imm
          replace hs := hs.call hegg1186
          replace hagg1126 := hagg1126.trans hlegg1186
          obtain ⟨cs1097, rfl, hcs1097⟩ := hvv1333
          have hcs1097 : cs1097 = _ := hcs1097; subst hcs1097
          refine OW_nil ?_
          replace hS := hS.to hagg1126 hs
          refine ⟨fun _ => hS, ?_⟩
          refine A rfl hS (fun w9 ⟨g9, hle9, hs⟩ => r_build (vs := [(0, Value.int .i64 rv455), (1, Value.int .i64 rv456)]) (cs := [Value.int .i64 rv455, Value.int .i64 rv456]) rfl (by kernel_rfl)) rfl <| A1 rfl <| OW_alloc ti64 hs (zs := [Value.int .i64 0, Value.int .i64 0]) rfl rfl ?_
          intro b744 wv2631 hs
          refine OW_nil ?_
          replace hS := hS.to hagg1126 (hs.sub (.cons _ (.cons_cons _ (.cons_cons _ (.cons_cons _ (.cons_cons _ (.cons_cons _ .slnil)))))))
          refine ⟨fun _ => hS, ?_⟩
          refine A1 rfl <| OW_storeAll ti64 hs (i := 0) rfl rfl (v := Value.agg (List.toArray (α := Value) [Value.int .i64 rv455, Value.int .i64 rv456])) rfl (vs := [Value.int .i64 rv455, Value.int .i64 rv456]) rfl (one_cons rfl (one_cons rfl one_nil)) rfl rfl ?_
          intro wv2632 hs
          refine OW_nil ?_
          refine ⟨fun h => absurd h (by decide +kernel), ?_⟩
          refine AN ?_
          simp only [Option.some.injEq, Prod.mk.injEq] at hM
          obtain ⟨rfl, rfl⟩ := hM
          exact ⟨gg1186, b744, rfl, rfl, rfl, rfl, rfl, rfl, rfl, rfl, rfl, hds, hagg1126, hs⟩
         refine A2 rfl ?_ ?_
         ·refine OW_alloc ti64 hs (zs := [Value.int .i64 0, Value.int .i64 0]) rfl rfl ?_
          intro b745 wv2633 hs
          refine OW_nil ?_
          replace hS := hS.to hagg1126 (hs.sub (.cons _ (.cons_cons _ (.cons_cons _ (.cons_cons _ (.cons_cons _ (.cons_cons _ .slnil)))))))
          refine ⟨fun _ => hS, ?_⟩
          refine A1 rfl <| C [Value.agg (List.toArray (α := Value) [v4, v5, v6]), Value.int .i64 e12.atv.b, Value.int .u8 (IntKind.u8.wrap xv88)] cf29 rfl (dfa_step_ok hrv456 hs.imm (⟨[v4], [v5], [v6], rfl, ⟨_, rfl, hRv4⟩, ⟨_, rfl, hRv5⟩, ⟨_, rfl, hRv6⟩⟩)) rfl ?_
          rintro v1334 wv2634 ⟨gg1187, hvv1334, hegg1187⟩
          have hlegg1187 := hegg1187.le hs.imm
          replace hs := hs.call hegg1187
          replace hagg1126 := hagg1126.trans hlegg1187
          obtain ⟨cs1098, rfl, hcs1098⟩ := hvv1334
          have hcs1098 : cs1098 = _ := hcs1098; subst hcs1098
          refine OW_nil ?_
          replace hS := hS.to hagg1126 (hs.sub (.cons _ (.cons_cons _ (.cons_cons _ (.cons_cons _ (.cons_cons _ (.cons_cons _ .slnil)))))))
          refine ⟨fun _ => hS, ?_⟩
          refine A rfl hS (fun w9 ⟨g9, hle9, hs⟩ => r_build (vs := [(0, Value.int .i64 rv455), (1, Value.int .i64 rv456)]) (cs := [Value.int .i64 rv455, Value.int .i64 rv456]) rfl (by kernel_rfl)) rfl <| A1 rfl <| OW_storeAll ti64 hs (i := 0) rfl rfl (v := Value.agg (List.toArray (α := Value) [Value.int .i64 rv455, Value.int .i64 rv456])) rfl (vs := [Value.int .i64 rv455, Value.int .i64 rv456]) rfl (one_cons rfl (one_cons rfl one_nil)) rfl rfl ?_
          intro wv2635 hs
          refine OW_nil ?_
          refine ⟨fun h => absurd h (by decide +kernel), ?_⟩
          refine AN ?_
          simp only [Option.some.injEq, Prod.mk.injEq] at hM
          obtain ⟨rfl, rfl⟩ := hM
          exact ⟨gg1187, b745, rfl, rfl, rfl, rfl, rfl, rfl, rfl, rfl, rfl, hds, hagg1126, hs⟩
         trivial
        refine A2 rfl ?_ ?_
        ·refine OW_alloc ti64 hs (zs := [Value.int .i64 0, Value.int .i64 0]) rfl rfl ?_
         intro b746 wv2636 hs
         refine OW_nil ?_
         replace hS := hS.to (Hle.refl _) (hs.sub (.cons _ (.cons_cons _ (.cons_cons _ (.cons_cons _ (.cons_cons _ (.cons_cons _ .slnil)))))))
         refine ⟨fun _ => hS, ?_⟩
         refine A1 rfl <| C [Value.agg (List.toArray (α := Value) [v1, v2, v3]), Value.int .i64 e12.atv.a, Value.int .u8 (IntKind.u8.wrap xv88)] cf29 rfl (dfa_step_ok hrv455 hs.imm (⟨[v1], [v2], [v3], rfl, ⟨_, rfl, hRv1⟩, ⟨_, rfl, hRv2⟩, ⟨_, rfl, hRv3⟩⟩)) rfl ?_
         rintro v1335 wv2637 ⟨gg1188, hvv1335, hegg1188⟩
         have hlegg1188 := hegg1188.le hs.imm
         replace hs := hs.call hegg1188
         replace hRv4 := hRv4.mono hlegg1188
         replace hRv5 := hRv5.mono hlegg1188
         replace hRv6 := hRv6.mono hlegg1188
         replace hagg1126 := hagg1126.trans hlegg1188
         obtain ⟨cs1099, rfl, hcs1099⟩ := hvv1335
         have hcs1099 : cs1099 = _ := hcs1099; subst hcs1099
         refine OW_nil ?_
         replace hS := hS.to hagg1126 (hs.sub (.cons _ (.cons_cons _ (.cons_cons _ (.cons_cons _ (.cons_cons _ (.cons_cons _ .slnil)))))))
         refine ⟨fun _ => hS, ?_⟩
         refine A1 rfl <| C [Value.agg (List.toArray (α := Value) [v4, v5, v6]), Value.int .i64 e12.atv.b, Value.int .u8 (IntKind.u8.wrap xv88)] cf29 rfl (dfa_step_ok hrv456 hs.imm (⟨[v4], [v5], [v6], rfl, ⟨_, rfl, hRv4⟩, ⟨_, rfl, hRv5⟩, ⟨_, rfl, hRv6⟩⟩)) rfl ?_
         rintro v1336 wv2638 ⟨gg1189, hvv1336, hegg1189⟩
         have hlegg1189 := hegg1189.le hs.imm
         replace hs := hs.call hegg1189
         replace hagg1126 := hagg1126.trans hlegg1189
         obtain ⟨cs1100, rfl, hcs1100⟩ := hvv1336
         have hcs1100 : cs1100 = _ := hcs1100; subst hcs1100
         refine OW_nil ?_
         replace hS := hS.to hagg1126 (hs.sub (.cons _ (.cons_cons _ (.cons_cons _ (.cons_cons _ (.cons_cons _ (.cons_cons _ .slnil)))))))
         refine ⟨fun _ => hS, ?_⟩
         refine A rfl hS (fun w9 ⟨g9, hle9, hs⟩ => r_build (vs := [(0, Value.int .i64 rv455), (1, Value.int .i64 rv456)]) (cs := [Value.int .i64 rv455, Value.int .i64 rv456]) rfl (by kernel_rfl)) rfl <| A1 rfl <| OW_storeAll ti64 hs (i := 0) rfl rfl (v := Value.agg (List.toArray (α := Value) [Value.int .i64 rv455, Value.int .i64 rv456])) rfl (vs := [Value.int .i64 rv455, Value.int .i64 rv456]) rfl (one_cons rfl (one_cons rfl one_nil)) rfl rfl ?_
         intro wv2639 hs
         refine OW_nil ?_
         refine ⟨fun h => absurd h (by decide +kernel), ?_⟩
         refine AN ?_
         simp only [Option.some.injEq, Prod.mk.injEq] at hM
         obtain ⟨rfl, rfl⟩ := hM
         exact ⟨gg1189, b746, rfl, rfl, rfl, rfl, rfl, rfl, rfl, rfl, rfl, hds, hagg1126, hs⟩
        trivial
       ·clear hs
        rintro E w ⟨gg1182, b742, hE2, hE3, hE6, hE7, hE8, hE9, hE10, hE11, hE43, hds, hlegg1182, hs⟩
        have hM := hKhx115
        obtain ⟨E, rfl⟩ := open8 (E := E) hE2 hE3 hE6 hE7 hE8 hE9 hE10 hE11
        obtain ⟨E, rfl⟩ := open1 (E := E) hE43
        replace hrelxs286 := hrelxs286.mono hlegg1182
        replace hagg1126 := hagg1126.trans hlegg1182
        refine WP_seq <| WP_region <| O (r_move (v := Value.map (some b3)) rfl) rfl <| O (r_loadN (cs := [Value.int .i64 rv453, Value.int .i64 rv454]) ti64 rfl rfl (hs.cells (i := 0) rfl)) rfl <| O (r_lookup (z := ()) (kk := (T_dfa_pair.mk rv453 rv454)) Try.underlying69 ti68 (keyLaw_pair (K := T_dfa_pair) (ek := (fun (p : T_dfa_pair) => Value.agg #[.int .i64 p.a, .int .i64 p.b])) (·.a) (·.b) Try.underlying64 Try.underlying3 Try.underlying3 ti3 ti3 rfl rfl (by decide) (by decide) (by kernel_rfl) (fun _ => rfl) (by intro x y; rw [Bool.eq_iff_iff]; cases x; cases y; simp)) hs (i := 2) rfl hmes150 rfl rfl) rfl <| O (r_move (v := Value.tuple #[Value.agg (List.toArray (α := Value) []), Value.bool ((mget m81 (T_dfa_pair.mk rv453 rv454)).isSome)]) rfl) rfl ?_
        refine O (r_extract (vs := [Value.agg (List.toArray (α := Value) []), Value.bool ((mget m81 (T_dfa_pair.mk rv453 rv454)).isSome)]) (v := Value.agg (List.toArray (α := Value) [])) rfl rfl) rfl <| O (r_extract (vs := [Value.agg (List.toArray (α := Value) []), Value.bool ((mget m81 (T_dfa_pair.mk rv453 rv454)).isSome)]) (v := Value.bool ((mget m81 (T_dfa_pair.mk rv453 rv454)).isSome)) rfl rfl) rfl <| OW_alloc ti68 hs (zs := []) rfl rfl ?_
        intro b747 wv2640 hs
        refine OW_storeAll ti68 hs (i := 0) rfl rfl (v := Value.agg (List.toArray (α := Value) [])) rfl (vs := []) rfl one_nil rfl rfl ?_
        intro wv2641 hs
        refine O (r_assign (v := Value.bool ((mget m81 (T_dfa_pair.mk rv453 rv454)).isSome)) rfl) rfl <| OW_nil <| WP_seq <| WP_region <| O (r_move (v := Value.bool ((mget m81 (T_dfa_pair.mk rv453 rv454)).isSome)) rfl) rfl <| O (r_not rfl) rfl <| OW_nil ?_
        rcases condS hM with ⟨hc126, hM⟩ | ⟨hc126, hM⟩
        ·refine WP_true rfl hc126 <| WP_seq <| WP_region <| O (r_move (v := Value.map (some b3)) rfl) rfl <| O (r_loadN (cs := [Value.int .i64 rv453, Value.int .i64 rv454]) ti64 rfl rfl (hs.cells (i := 1) rfl)) rfl <| O (r_build (vs := []) (cs := []) rfl (by kernel_rfl)) rfl <| OW_mapSet (kk := (T_dfa_pair.mk rv453 rv454)) (vv := ()) Try.underlying69 (keyLaw_pair (K := T_dfa_pair) (ek := (fun (p : T_dfa_pair) => Value.agg #[.int .i64 p.a, .int .i64 p.b])) (·.a) (·.b) Try.underlying64 Try.underlying3 Try.underlying3 ti3 ti3 rfl rfl (by decide) (by decide) (by kernel_rfl) (fun _ => rfl) (by intro x y; rw [Bool.eq_iff_iff]; cases x; cases y; simp)) hs (i := 3) rfl hmes150 rfl rfl rfl ?_
         intro es157 ck157 wv2642 hmes157 hs
         refine OW_nil <| WP_region <| O (r_move (v := v1268) rfl) rfl <| O (r_loadN (cs := [Value.int .i64 rv453, Value.int .i64 rv454]) ti64 rfl rfl (hs.cells (i := 1) rfl)) rfl <| O (r_fieldAddr Try.underlying66 ti9 rfl rfl (by decide) rfl rfl) rfl <| O (r_load (v := encS e12.text) ti9 rfl (hs.cell (i := 2) (o := 2) rfl rfl)) rfl <| O (r_move (v := Value.int .i64 xv88) rfl) rfl <| O (r_conv Try.underlying3 Try.underlying5 rfl) rfl <| OW_lit (τ := (tInt .u8)) [Value.int .u8 (IntKind.u8.wrap xv88)] [(IntKind.u8.wrap xv88)] Try.underlying59 ti5 (by decide) hs rfl rfl rfl ⟨rfl, trivial⟩ rfl ?_
         intro v1337 wv2643 xs299 hrelxs299 hs
         refine O (r_toStr (l := [(IntKind.u8.wrap xv88)]) Try.underlying59 Try.underlying5 Try.underlying9 (v := v1337) rfl (hs.rowSrc (i := 0) rfl) hrelxs299) rfl ?_
         obtain ⟨s72, hs72, hM⟩ := bindS hM
         refine O (r_catS rfl rfl hs72) rfl <| O (r_build (vs := [(0, Value.agg (List.toArray (α := Value) [Value.int .i64 rv453, Value.int .i64 rv454])), (1, encS s72)]) (cs := ([Value.int .i64 rv453, Value.int .i64 rv454]) ++ ([encS s72])) rfl (by kernel_rfl)) rfl <| OW_lit (τ := tT_dfa_entry) [Value.agg (List.toArray (α := Value) (([Value.int .i64 rv453, Value.int .i64 rv454]) ++ ([encS s72])))] [(T_dfa_entry.mk (T_dfa_pair.mk rv453 rv454) s72)] Try.underlying67 ti66 (by decide) hs rfl rfl rfl ⟨⟨[Value.int .i64 rv453, Value.int .i64 rv454], [encS s72], rfl, ⟨[Value.int .i64 rv453], [Value.int .i64 rv454], rfl, rfl, rfl⟩, rfl⟩, trivial⟩ rfl ?_
         intro v1338 wv2644 xs300 hrelxs300 hs
         obtain ⟨y108, hy108, hM⟩ := bindS hM
         refine OW_append Try.underlying67 ti66 rfl (by decide) (by decide) hs (i := 6) rfl hrelxs286 (v := v1268) rfl (u := v1338) rfl (hs.rowSrc (i := 0) rfl) hrelxs300 hy108 rfl ?_
         intro v1339 wv2645 xs301 hrelxs301 hs
         refine O (r_assign (v := v1339) rfl) rfl <| OW_nil ?_
         simp only [Option.some.injEq, Prod.mk.injEq] at hM
         obtain ⟨rfl, rfl⟩ := hM
         exact ⟨gg1182, es157, ck157, v1339, xs301, rfl, rfl, rfl, rfl, rfl, rfl, rfl, hds, hagg1126, hmes157, hrelxs301, (hs.sub (.cons _ (.cons _ (.cons _ (.cons _ (.cons_cons _ (.cons_cons _ (.cons_cons _ (.cons_cons _ (.cons_cons _ .slnil))))))))))⟩
        ·refine WP_false rfl hc126 <| WP_skip ?_
         simp only [Option.some.injEq, Prod.mk.injEq] at hM
         obtain ⟨rfl, rfl⟩ := hM
         exact ⟨gg1182, es150, ck150, v1268, xs286, rfl, rfl, rfl, rfl, rfl, rfl, rfl, hds, hagg1126, hmes150, hrelxs286, (hs.sub (.cons _ (.cons _ (.cons_cons _ (.cons_cons _ (.cons_cons _ (.cons_cons _ (.cons_cons _ .slnil))))))))⟩
      ·clear hs
       rintro E w ⟨gg1174, es156, ck156, v1322, xs298, hE2, hE3, hE6, hE7, hE8, hE9, hE43, hds, hlegg1174, hmes156, hrelxs298, hs⟩
       have hM := hKhx114
       obtain ⟨E, rfl⟩ := open7 (E := E) hE2 hE3 hE6 hE7 hE8 hE9 hE43
       replace hlegg1126 := hlegg1126.trans hlegg1174
       refine WP_region ?_
       obtain ⟨t41, ht41, hM⟩ := bindS hM
       refine O (r_addM rfl rfl ht41) rfl <| O (r_move (v := Value.int .i64 t41) rfl) rfl <| OW_nil ?_
       obtain rfl := Option.some.inj hM
       exact ⟨gg1174, es156, ck156, v1322, xs298, rfl, rfl, rfl, rfl, rfl, rfl, rfl, hds, hlegg1126, hmes156, hrelxs298, hs⟩
     ·refine WP_false rfl hc124 <| WP_exit ?_
      obtain rfl := Option.some.inj hM
      refine fun hr => ?_
      have hM := congrArg some hr
      obtain rfl := Option.some.inj hM
      exact ⟨xv87, m81, rfl, gg1126, es150, ck150, v1268, xs286, rfl, rfl, rfl, rfl, rfl, hds, hagg794, hmes150, hrelxs286, (hs.sub (.cons _ (.cons_cons _ (.cons_cons _ (.cons_cons _ (.cons_cons _ .slnil))))))⟩
   ·clear hs
    rintro E w ⟨xv84, m78, rfl, gg1091, es145, ck145, v1229, xs277, hE2, hE3, hE6, hE7, hE8, hds, hlegg1091, hmes145, hrelxs277, hs⟩
    have hM := hKhx106
    dsimp only [onStep] at hM
    obtain ⟨E, rfl⟩ := open5 (E := E) hE2 hE3 hE6 hE7 hE8
    replace hlegg794 := hlegg794.trans hlegg1091
    refine WP_region <| O (r_move (v := Value.int .i64 xv62) rfl) rfl ?_
    obtain ⟨t42, ht42, hM⟩ := bindS hM
    refine O (r_addM rfl rfl ht42) rfl <| O (r_assign (v := Value.int .i64 t42) rfl) rfl <| OW_nil ?_
    obtain rfl := Option.some.inj hM
    exact ⟨gg1091, es145, ck145, v1229, xs277, rfl, rfl, rfl, rfl, rfl, hds, hlegg794, hmes145, hrelxs277, hs⟩
  ·refine WP_false rfl hc106 <| WP_exit ?_
   obtain rfl := Option.some.inj hM
   refine fun hr => ?_
   have hM := congrArg some hr
   obtain rfl := Option.some.inj hM
   exact ⟨(), rfl, gg794, hds, hlegg794, (hs.sub (.cons _ (.cons _ (.cons _ (.cons _ .slnil)))))⟩
 ·clear hs
  rintro E w ⟨_, rfl, gg595, hds, hlegg595, hs⟩
  have hM := hKhx58
  dsimp only [onStep] at hM
  refine WP_seq <| WP_region <| O (r_assign (v := encS []) rfl) rfl <| O (r_assign (v := Value.bool false) rfl) rfl <| OW_nil <| WP_ret ?_
  obtain rfl := Option.some.inj hM
  refine FL_nil hds ?_
  exact ⟨_, res2 Try.results17 (rv_tmp (v := encS []) rfl) (rv_tmp (v := Value.bool false) rfl), gg595, ⟨_, _, rfl, ⟨[encS []], rfl, rfl⟩, ⟨[Value.bool false], rfl, rfl⟩⟩, hs.ext⟩

set_option maxRecDepth 100000 in
theorem dfa_between_1_ok {nv1 : Int} {c1 : Int} {c2 : Int} {r : Bool} (hM : M.dfa_between_1 nv1 c1 c2 = some r) {g0 : Hp} {w0 : World} (hi : Imm g0 w0) {b1 : Nat} {cs1 : List Value} (hBb1 : IBox 3 b1 cs1 g0) (hcs1 : (tInt .i64).rel g0 cs1 c1) {b2 : Nat} {cs2 : List Value} (hBb2 : IBox 3 b2 cs2 g0) (hcs2 : (tInt .i64).rel g0 cs2 c2) :
    CallsV Try.prog 53 #[Value.int .i64 nv1, Value.pointer (some ⟨b1, 0, none⟩), Value.pointer (some ⟨b2, 0, none⟩)] w0 (fun v w' => ∃ g', (VRd tBool false g' v r) ∧ Ext g0 w0 g' w') := by
 unfold M.dfa_between_1 at hM
 have hcs1 : cs1 = _ := hcs1; subst hcs1
 have hcs2 : cs2 = _ := hcs2; subst hcs2
 have hs := Sep.start hi
 refine calls_of_WP (args := [Value.int .i64 nv1, Value.pointer (some ⟨b1, 0, none⟩), Value.pointer (some ⟨b2, 0, none⟩)]) Try.func53 rfl Try.ntmps53 rfl ?_
 have hds : (argEnv [Value.int .i64 nv1, Value.pointer (some ⟨b1, 0, none⟩), Value.pointer (some ⟨b2, 0, none⟩)]).ds = [] := rfl
 refine WP_seq <| WP_region <| O (r_assign (v := Value.bool false) rfl) rfl <| OW_nil ?_
 obtain ⟨xv1, hx1, hKhx1⟩ := bindS hM
 refine WP_cut (fun E w => E 4 = Value.bool xv1 ∧ E.ds = [] ∧ Go.Lx.Sep g0 w0 g0 w []) ?_ ?_
 ·have hM := hx1
  have hag0 := Hle.refl g0
  refine WP_region <| O (r_move (v := Value.int .i64 nv1) rfl) rfl <| O (r_loadEl (o := 0) (cs := [Value.int .i64 c1]) ti3 rfl rfl (.inr rfl) (hBb1.cells hs.imm) (v := Value.int .i64 c1) rfl) rfl <| O (r_lss rfl rfl) rfl <| O (r_move (v := Value.bool (decide (nv1 < c1))) rfl) rfl ?_
  rcases condS hM with ⟨hg2, hM⟩ | ⟨hg2, hM⟩
  ·refine OK rfl rfl rfl (by rw [hg2]; rfl) rfl <| OK rfl rfl rfl (by rw [hg2]; rfl) rfl <| OK rfl rfl rfl (by rw [hg2]; rfl) rfl <| O (r_pickT (v := Value.bool true) rfl hg2 rfl) rfl <| O (r_assign (v := Value.bool true) rfl) rfl <| OW_nil ?_
   obtain rfl := Option.some.inj hM
   exact ⟨rfl, hds, hs⟩
  ·refine OG rfl rfl rfl (by rw [hg2]; rfl) (r_move (v := Value.int .i64 nv1) rfl) rfl <| OG rfl rfl rfl (by rw [hg2]; rfl) (r_loadEl (o := 0) (cs := [Value.int .i64 c2]) ti3 rfl rfl (.inr rfl) (hBb2.cells hs.imm) (v := Value.int .i64 c2) rfl) rfl <| OG rfl rfl rfl (by rw [hg2]; rfl) (r_gtr rfl rfl) rfl <| O (r_pickF (v := Value.bool (decide (c2 < nv1))) rfl hg2 rfl) rfl <| O (r_assign (v := Value.bool (decide (c2 < nv1))) rfl) rfl <| OW_nil ?_
   obtain rfl := Option.some.inj hM
   exact ⟨rfl, hds, hs⟩
 ·clear hs
  rintro E w ⟨hE4, hds, hs⟩
  have hM := hKhx1
  obtain ⟨E, rfl⟩ := open1 (E := E) hE4
  refine WP_ret ?_
  obtain rfl := Option.some.inj hM
  refine FL_nil hds ?_
  exact ⟨_, res1 Try.results53 (rv_tmp (v := Value.bool xv1) rfl), g0, ⟨[Value.bool xv1], rfl, rfl⟩, hs.ext⟩

set_option maxRecDepth 100000 in
theorem slices_IndexFunc_int_int_ok {s1 : (List Int)} {f1 : (Int → Option Bool)} {r : Int} (hM : M.slices_IndexFunc_int_int s1 f1 = some r) {g0 : Hp} {w0 : World} (hi : Imm g0 w0) {v1 : Value} (hRv1 : RdS (tInt .i64) g0 v1 s1) {v2 : Value} (hRv2 : FnRd1 Try.prog (VRd (tInt .i64) false) (VRd tBool false) v2 f1 g0) :
    CallsV Try.prog 54 #[v1, v2] w0 (fun v w' => ∃ g', (VRd (tInt .i64) false g' v r) ∧ Ext g0 w0 g' w') := by
 unfold M.slices_IndexFunc_int_int at hM
 have hs := Sep.start hi
 refine calls_of_WP (args := [v1, v2]) Try.func54 rfl Try.ntmps54 rfl ?_
 have hds : (argEnv [v1, v2]).ds = [] := rfl
 refine WP_seq <| WP_region <| O (r_assign (v := Value.int .i64 0) rfl) rfl <| OW_nil ?_
 obtain ⟨o3, hx1, hKhx1⟩ := stepS hM
 refine WP_cut (fun E w => ∃ u9 : Unit, o3 = .next u9 ∧ ∃ (gg7 : Hp), E.ds = [] ∧ Hle g0 gg7 ∧ Go.Lx.Sep g0 w0 gg7 w []) ?_ ?_
 ·have hM := hx1
  have hag0 := Hle.refl g0
  refine WP_seq <| WP_region <| O (r_move (v := v1) rfl) rfl ?_
  obtain ⟨a2, ca2, hva2⟩ := hRv1.shape
  refine O (r_lenSl (v := v1) Try.underlying22 rfl hva2) rfl <| O (r_move (v := Value.int .i64 0) rfl) rfl <| OW_nil <| WP_block <| WP_loop (fun (xv5 : Int) E w => ∃ (gg10 : Hp), E 0 = v1 ∧ E 1 = v2 ∧ E 7 = Value.int .i64 (s1.length : Int) ∧ E 8 = Value.int .i64 xv5 ∧ E.ds = [] ∧ Hle g0 gg10 ∧ Go.Lx.Sep g0 w0 gg10 w []) hM ⟨g0, rfl, rfl, rfl, rfl, hds, (Hle.refl _), hs⟩ ?_
  clear hs hM
  rintro xv5 o2 E w hM ⟨gg10, hE0, hE1, hE7, hE8, hds, hlegg10, hs⟩
  obtain ⟨E, rfl⟩ := open4 (E := E) hE0 hE1 hE7 hE8
  replace hRv1 := hRv1.mono hlegg10
  replace hRv2 := hRv2.mono hlegg10
  have hagg10 := Hle.refl gg10
  refine WP_seq <| WP_region <| O (r_lss rfl rfl) rfl <| OW_nil <| WP_seq ?_
  rcases condS hM with ⟨hc11, hM⟩ | ⟨hc11, hM⟩
  ·refine WP_true rfl hc11 <| WP_skip <| WP_seq <| WP_block <| WP_seq <| WP_region <| O (r_move (v := Value.int .i64 xv5) rfl) rfl <| O (r_assign (v := Value.int .i64 xv5) rfl) rfl <| OW_nil <| WP_seq <| WP_region <| O (r_move (v := v2) rfl) rfl <| O (r_move (v := v1) rfl) rfl <| O (r_move (v := Value.int .i64 xv5) rfl) rfl ?_
   obtain ⟨e6, he6, hM⟩ := bindS hM
   obtain ⟨b6, ob6, cb6, hvb6, cs11, hcs11, hcb6⟩ := hRv1.at he6
   have hcs11 : cs11 = _ := hcs11; subst hcs11
   refine O (r_idxSl Try.underlying22 ti3 (v := v1) rfl hvb6 rfl (idxL_some he6).1 (idxL_some he6).2.1) rfl <| O (r_loadEl (cs := [Value.int .i64 e6]) ti3 rfl rfl (.inr rfl) (hcb6 _ hs.imm) (v := Value.int .i64 e6) rfl) rfl ?_
   obtain ⟨rv6, hrv6, hM⟩ := bindS hM
   obtain ⟨f7, cf7, ef7, cff7, okf7⟩ := id hRv2
   refine CV [Value.int .i64 e6] cf7 cff7 ef7 rfl (okf7 _ _ _ _ _ (Hle.refl _) hs.imm (show VRd (tInt .i64) false gg10 _ _ from ⟨[Value.int .i64 e6], rfl, rfl⟩) hrv6) rfl ?_
   rintro v8 wv6 ⟨gg13, hvv8, hegg13⟩
   have hlegg13 := hegg13.le hs.imm
   replace hs := hs.call hegg13
   replace hlegg10 := hlegg10.trans hlegg13
   obtain ⟨cs12, rfl, hcs12⟩ := hvv8
   have hcs12 : cs12 = _ := hcs12; subst hcs12
   refine OW_nil ?_
   rcases condS hM with ⟨hc12, hM⟩ | ⟨hc12, hM⟩
   ·refine WP_true rfl hc12 <| WP_seq <| WP_region <| O (r_move (v := Value.int .i64 xv5) rfl) rfl <| O (r_assign (v := Value.int .i64 xv5) rfl) rfl <| OW_nil <| WP_ret ?_
    obtain rfl := Option.some.inj hM
    refine fun hr => ?_
    have hM := congrArg some hr
    obtain rfl := Option.some.inj hM
    have hM := hKhx1
    obtain rfl := Option.some.inj hM
    refine FL_nil hds ?_
    exact ⟨_, res1 Try.results54 (rv_tmp (v := Value.int .i64 xv5) rfl), gg13, ⟨[Value.int .i64 xv5], rfl, rfl⟩, hs.ext⟩
   ·refine WP_false rfl hc12 <| WP_skip <| WP_region ?_
    obtain ⟨t6, ht6, hM⟩ := bindS hM
    refine O (r_addM rfl rfl ht6) rfl <| O (r_move (v := Value.int .i64 t6) rfl) rfl <| OW_nil ?_
    obtain rfl := Option.some.inj hM
    exact ⟨gg13, rfl, rfl, rfl, rfl, hds, hlegg10, hs⟩
  ·refine WP_false rfl hc11 <| WP_exit ?_
   obtain rfl := Option.some.inj hM
   refine fun hr => ?_
   have hM := congrArg some hr
   obtain rfl := Option.some.inj hM
   exact ⟨(), rfl, gg10, hds, hlegg10, hs⟩
 ·clear hs
  rintro E w ⟨_, rfl, gg7, hds, hlegg7, hs⟩
  have hM := hKhx1
  dsimp only [onStep] at hM
  refine WP_seq <| WP_region <| O (r_assign (v := Value.int .i64 (-1)) rfl) rfl <| OW_nil <| WP_ret ?_
  obtain rfl := Option.some.inj hM
  refine FL_nil hds ?_
  exact ⟨_, res1 Try.results54 (rv_tmp (v := Value.int .i64 (-1)) rfl), gg7, ⟨[Value.int .i64 (-1)], rfl, rfl⟩, hs.ext⟩

set_option maxRecDepth 100000 in
theorem slices_ContainsFunc_int_int_ok {s1 : (List Int)} {f1 : (Int → Option Bool)} {r : Bool} (hM : M.slices_ContainsFunc_int_int s1 f1 = some r) {g0 : Hp} {w0 : World} (hi : Imm g0 w0) {v1 : Value} (hRv1 : RdS (tInt .i64) g0 v1 s1) {v2 : Value} (hRv2 : FnRd1 Try.prog (VRd (tInt .i64) false) (VRd tBool false) v2 f1 g0) :
    CallsV Try.prog 27 #[v1, v2] w0 (fun v w' => ∃ g', (VRd tBool false g' v r) ∧ Ext g0 w0 g' w') := by
 unfold M.slices_ContainsFunc_int_int at hM
 have hs := Sep.start hi
 refine calls_of_WP (args := [v1, v2]) Try.func27 rfl Try.ntmps27 rfl ?_
 have hds : (argEnv [v1, v2]).ds = [] := rfl
 refine WP_seq <| WP_region <| O (r_assign (v := Value.bool false) rfl) rfl <| OW_nil <| WP_seq <| WP_region <| O (r_move (v := v1) rfl) rfl <| O (r_move (v := v2) rfl) rfl ?_
 obtain ⟨rv1, hrv1, hM⟩ := bindS hM
 refine C [v1, v2] cf54 rfl (slices_IndexFunc_int_int_ok hrv1 hs.imm hRv1 hRv2) rfl ?_
 rintro v3 wv1 ⟨gg1, hvv3, hegg1⟩
 have hlegg1 := hegg1.le hs.imm
 replace hs := hs.call hegg1
 obtain ⟨cs1, rfl, hcs1⟩ := hvv3
 have hcs1 : cs1 = _ := hcs1; subst hcs1
 refine O (r_geq rfl rfl) rfl <| O (r_assign (v := Value.bool (decide (0 ≤ rv1))) rfl) rfl <| OW_nil <| WP_ret ?_
 obtain rfl := Option.some.inj hM
 refine FL_nil hds ?_
 exact ⟨_, res1 Try.results27 (rv_tmp (v := Value.bool (decide (0 ≤ rv1))) rfl), gg1, ⟨[Value.bool (decide (0 ≤ rv1))], rfl, rfl⟩, hs.ext⟩

set_option maxRecDepth 100000 in
theorem dfa_between_ok {l1 : (List Int)} {lo1 : Int} {hiv1 : Int} {r : Bool} (hM : M.dfa_between l1 lo1 hiv1 = some r) {g0 : Hp} {w0 : World} (hi : Imm g0 w0) {v1 : Value} (hRv1 : RdS (tInt .i64) g0 v1 l1) :
    CallsV Try.prog 26 #[v1, Value.int .i64 lo1, Value.int .i64 hiv1] w0 (fun v w' => ∃ g', (VRd tBool false g' v r) ∧ Ext g0 w0 g' w') := by
 unfold M.dfa_between at hM
 have hs := Sep.start hi
 refine calls_of_WP (args := [v1, Value.int .i64 lo1, Value.int .i64 hiv1]) Try.func26 rfl Try.ntmps26 rfl ?_
 have hds : (argEnv [v1, Value.int .i64 lo1, Value.int .i64 hiv1]).ds = [] := rfl
 refine WP_seq <| WP_region <| OW_box (v := Value.int .i64 lo1) rfl hs (zs := [Value.int .i64 lo1]) rfl rfl ?_
 intro b1 wv1 hs
 refine OW_box (v := Value.int .i64 hiv1) rfl hs (zs := [Value.int .i64 hiv1]) rfl rfl ?_
 intro b2 wv2 hs
 refine O (r_assign (v := Value.bool false) rfl) rfl <| OW_nil <| WP_seq <| WP_region <| O (r_move (v := v1) rfl) rfl <| O (r_makeFunc (vs := [Value.pointer (some ⟨b1, 0, none⟩), Value.pointer (some ⟨b2, 0, none⟩)]) rfl) rfl ?_
 have hsL1 := hs
 obtain ⟨gg1, hlegg1, hBgg1, hs⟩ := hs.relBox (i := 1) rfl
 replace hRv1 := hRv1.mono hlegg1
 obtain ⟨gg2, hlegg2, hBgg2, hs⟩ := hs.relBox (i := 0) rfl
 replace hRv1 := hRv1.mono hlegg2
 replace hBgg1 := hBgg1.mono hlegg2
 obtain ⟨rv1, hrv1, hM⟩ := bindS hM
 refine C [v1, Value.func (.func 53) #[] (List.toArray [Value.pointer (some ⟨b1, 0, none⟩), Value.pointer (some ⟨b2, 0, none⟩)])] cf27 rfl (slices_ContainsFunc_int_int_ok hrv1 hs.imm hRv1 (show FnRd1 Try.prog (VRd (tInt .i64) false) (VRd tBool false) (Value.func (.func 53) #[] (List.toArray [Value.pointer (some ⟨b1, 0, none⟩), Value.pointer (some ⟨b2, 0, none⟩)])) (fun x901 => M.dfa_between_1 x901 lo1 hiv1) gg2 from ⟨53, [Value.pointer (some ⟨b1, 0, none⟩), Value.pointer (some ⟨b2, 0, none⟩)], rfl, cf53, fun g9 w9 a90 x90 r9 hle9 hi9 ha90 hM9 => by obtain ⟨c90, rfl, ha90⟩ := ha90; have ha90 : c90 = _ := ha90; subst ha90; exact dfa_between_1_ok hM9 hi9 (hBgg1.mono hle9) ((tInt .i64).mono hle9 rfl) (hBgg2.mono hle9) ((tInt .i64).mono hle9 rfl)⟩)) rfl ?_
 rintro v2 wv3 ⟨gg3, hvv2, hegg3⟩
 obtain ⟨gg4, hlegg4, hs⟩ := hsL1.lent hegg3
 obtain ⟨cs1, rfl, hcs1⟩ := hvv2
 have hcs1 : cs1 = _ := hcs1; subst hcs1
 refine O (r_not rfl) rfl <| O (r_assign (v := Value.bool (!rv1)) rfl) rfl <| OW_nil <| WP_ret ?_
 obtain rfl := Option.some.inj hM
 refine FL_nil hds ?_
 exact ⟨_, res1 Try.results26 (rv_tmp (v := Value.bool (!rv1)) rfl), gg4, ⟨[Value.bool (!rv1)], rfl, rfl⟩, hs.ext⟩

set_option maxRecDepth 100000 in
theorem dfa_Valid_1_ok {a1 : Int} {r : Bool} (hM : M.dfa_Valid_1 a1 = some r) {g0 : Hp} {w0 : World} (hi : Imm g0 w0) :
    CallsV Try.prog 28 #[Value.int .i64 a1] w0 (fun v w' => ∃ g', (VRd tBool false g' v r) ∧ Ext g0 w0 g' w') := by
 unfold M.dfa_Valid_1 at hM
 have hs := Sep.start hi
 refine calls_of_WP (args := [Value.int .i64 a1]) Try.func28 rfl Try.ntmps28 rfl ?_
 have hds : (argEnv [Value.int .i64 a1]).ds = [] := rfl
 refine WP_seq <| WP_region <| O (r_assign (v := Value.bool false) rfl) rfl <| OW_nil <| WP_seq <| WP_region <| O (r_move (v := Value.int .i64 a1) rfl) rfl <| O (r_lss rfl rfl) rfl <| O (r_assign (v := Value.bool (decide (a1 < (-1)))) rfl) rfl <| OW_nil <| WP_ret ?_
 obtain rfl := Option.some.inj hM
 refine FL_nil hds ?_
 exact ⟨_, res1 Try.results28 (rv_tmp (v := Value.bool (decide (a1 < (-1)))) rfl), g0, ⟨[Value.bool (decide (a1 < (-1)))], rfl, rfl⟩, hs.ext⟩

set_option maxRecDepth 100000 in
theorem dfa_Valid_ok {p1 : T_DFA} {r : Bool} (hM : M.dfa_Valid p1 = some r) {g0 : Hp} {w0 : World} (hi : Imm g0 w0) {cs1 : List Value} (hcs1 : tT_DFA.rel g0 cs1 p1) :
    CallsV Try.prog 11 #[Value.agg cs1.toArray] w0 (fun v w' => ∃ g', (VRd tBool false g' v r) ∧ Ext g0 w0 g' w') := by
 unfold M.dfa_Valid at hM
 obtain ⟨cs2, cs3, cs4, rfl, hcs2, hcs3, hcs4⟩ := hcs1
 obtain ⟨v1, rfl, hRv1⟩ := hcs2
 obtain ⟨v2, rfl, hRv2⟩ := hcs3
 obtain ⟨v3, rfl, hRv3⟩ := hcs4
 have hs := Sep.start hi
 refine calls_of_WP (args := [Value.agg (List.toArray (α := Value) [v1, v2, v3])]) Try.func11 rfl Try.ntmps11 rfl ?_
 have hds : (argEnv [Value.agg (List.toArray (α := Value) [v1, v2, v3])]).ds = [] := rfl
 refine WP_seq <| WP_region <| OW_box (v := Value.agg (List.toArray (α := Value) [v1, v2, v3])) rfl hs (zs := [v1, v2, v3]) rfl rfl ?_
 intro b1 wv1 hs
 refine O (r_assign (v := Value.bool false) rfl) rfl <| OW_nil <| WP_seq <| WP_region <| O (r_fieldAddr Try.underlying25 ti23 rfl rfl (by decide) rfl rfl) rfl <| O (r_load (v := v2) ti23 rfl (hs.cell (i := 0) (o := 1) rfl rfl)) rfl ?_
 obtain ⟨a1, ca1, hva1⟩ := hRv2.shape
 refine O (r_lenSl (v := v2) Try.underlying23 rfl hva1) rfl <| O (r_assign (v := Value.int .i64 (p1.Next.length : Int)) rfl) rfl <| OW_nil <| WP_seq ?_
 obtain ⟨xv1, hx1, hKhx1⟩ := bindS hM
 refine WP_cut (fun E w => E 1 = Value.pointer (some ⟨b1, 0, none⟩) ∧ E 3 = Value.int .i64 (p1.Next.length : Int) ∧ E 28 = Value.bool xv1 ∧ E.ds = [] ∧ Go.Lx.Sep g0 w0 g0 w [Go.Lx.box b1 25 ([v1, v2, v3])]) ?_ ?_
 ·have hM := hx1
  have hag0 := Hle.refl g0
  refine WP_region <| O (r_fieldAddr Try.underlying25 ti22 rfl rfl (by decide) rfl rfl) rfl <| O (r_load (v := v1) ti22 rfl (hs.cell (i := 0) (o := 0) rfl rfl)) rfl ?_
  obtain ⟨a4, ca4, hva4⟩ := hRv1.shape
  refine O (r_lenSl (v := v1) Try.underlying22 rfl hva4) rfl <| O (r_neq rfl rfl) rfl <| O (r_move (v := Value.bool ((p1.Class.length : Int) != 256)) rfl) rfl ?_
  rcases condS hM with ⟨hg4, hM⟩ | ⟨hg4, hM⟩
  ·refine OK rfl rfl rfl (by rw [hg4]; rfl) rfl <| OK rfl rfl rfl (by rw [hg4]; rfl) rfl <| O (r_pickT (v := Value.bool true) rfl hg4 rfl) rfl <| O (r_move (v := Value.bool true) rfl) rfl <| OK rfl rfl rfl rfl rfl <| OK rfl rfl rfl rfl rfl <| O (r_pickT (v := Value.bool true) rfl rfl rfl) rfl <| O (r_move (v := Value.bool true) rfl) rfl <| OK rfl rfl rfl rfl rfl <| OK rfl rfl rfl rfl rfl <| OK rfl rfl rfl rfl rfl <| OK rfl rfl rfl rfl rfl <| OK rfl rfl rfl rfl rfl <| O (r_pickT (v := Value.bool true) rfl rfl rfl) rfl <| OW_nil ?_
   obtain rfl := Option.some.inj hM
   exact ⟨rfl, rfl, rfl, hds, hs⟩
  ·refine OG rfl rfl rfl (by rw [hg4]; rfl) (r_move (v := Value.int .i64 (p1.Next.length : Int)) rfl) rfl <| OG rfl rfl rfl (by rw [hg4]; rfl) (r_lss rfl rfl) rfl <| O (r_pickF (v := Value.bool (decide ((p1.Next.length : Int) < 1))) rfl hg4 rfl) rfl <| O (r_move (v := Value.bool (decide ((p1.Next.length : Int) < 1))) rfl) rfl ?_
   rcases condS hM with ⟨hg5, hM⟩ | ⟨hg5, hM⟩
   ·refine OK rfl rfl rfl (by rw [hg5]; rfl) rfl <| OK rfl rfl rfl (by rw [hg5]; rfl) rfl <| O (r_pickT (v := Value.bool true) rfl hg5 rfl) rfl <| O (r_move (v := Value.bool true) rfl) rfl <| OK rfl rfl rfl rfl rfl <| OK rfl rfl rfl rfl rfl <| OK rfl rfl rfl rfl rfl <| OK rfl rfl rfl rfl rfl <| OK rfl rfl rfl rfl rfl <| O (r_pickT (v := Value.bool true) rfl rfl rfl) rfl <| OW_nil ?_
    obtain rfl := Option.some.inj hM
    exact ⟨rfl, rfl, rfl, hds, hs⟩
   ·refine OG rfl rfl rfl (by rw [hg5]; rfl) (r_move (v := Value.int .i64 (p1.Next.length : Int)) rfl) rfl <| OG rfl rfl rfl (by rw [hg5]; rfl) (r_gtr rfl rfl) rfl <| O (r_pickF (v := Value.bool (decide (500 < (p1.Next.length : Int)))) rfl hg5 rfl) rfl <| O (r_move (v := Value.bool (decide (500 < (p1.Next.length : Int)))) rfl) rfl ?_
    rcases condS hM with ⟨hg6, hM⟩ | ⟨hg6, hM⟩
    ·refine OK rfl rfl rfl (by rw [hg6]; rfl) rfl <| OK rfl rfl rfl (by rw [hg6]; rfl) rfl <| OK rfl rfl rfl (by rw [hg6]; rfl) rfl <| OK rfl rfl rfl (by rw [hg6]; rfl) rfl <| OK rfl rfl rfl (by rw [hg6]; rfl) rfl <| O (r_pickT (v := Value.bool true) rfl hg6 rfl) rfl <| OW_nil ?_
     obtain rfl := Option.some.inj hM
     exact ⟨rfl, rfl, rfl, hds, hs⟩
    ·refine OG rfl rfl rfl (by rw [hg6]; rfl) (r_fieldAddr Try.underlying25 ti22 rfl rfl (by decide) rfl rfl) rfl <| OG rfl rfl rfl (by rw [hg6]; rfl) (r_load (v := v3) ti22 rfl (hs.cell (i := 0) (o := 2) rfl rfl)) rfl ?_
     obtain ⟨a5, ca5, hva5⟩ := hRv3.shape
     refine OG rfl rfl rfl (by rw [hg6]; rfl) (r_lenSl (v := v3) Try.underlying22 rfl hva5) rfl <| OG rfl rfl rfl (by rw [hg6]; rfl) (r_move (v := Value.int .i64 (p1.Next.length : Int)) rfl) rfl <| OG rfl rfl rfl (by rw [hg6]; rfl) (r_neq rfl rfl) rfl <| O (r_pickF (v := Value.bool ((p1.Accept.length : Int) != (p1.Next.length : Int))) rfl hg6 rfl) rfl <| OW_nil ?_
     obtain rfl := Option.some.inj hM
     exact ⟨rfl, rfl, rfl, hds, hs⟩
 ·clear hs
  rintro E w ⟨hE1, hE3, hE28, hds, hs⟩
  have hM := hKhx1
  obtain ⟨E, rfl⟩ := open3 (E := E) hE1 hE3 hE28
  rcases condS hM with ⟨hc1, hM⟩ | ⟨hc1, hM⟩
  ·refine WP_true rfl hc1 <| WP_seq <| WP_region <| O (r_assign (v := Value.bool false) rfl) rfl <| OW_nil <| WP_ret ?_
   obtain rfl := Option.some.inj hM
   refine FL_nil hds ?_
   exact ⟨_, res1 Try.results11 (rv_tmp (v := Value.bool false) rfl), g0, ⟨[Value.bool false], rfl, rfl⟩, hs.ext⟩
  ·refine WP_false rfl hc1 <| WP_skip <| WP_seq <| WP_region <| O (r_fieldAddr Try.underlying25 ti23 rfl rfl (by decide) rfl rfl) rfl <| O (r_load (v := v2) ti23 rfl (hs.cell (i := 0) (o := 1) rfl rfl)) rfl ?_
   obtain ⟨e1, he1, hM⟩ := bindS hM
   obtain ⟨b2, ob2, cb2, hvb2, cs5, hcs5, hcb2⟩ := hRv2.at he1
   obtain ⟨v4, rfl, hRv4⟩ := hcs5
   refine O (r_idxSl Try.underlying23 ti22 (v := v2) rfl hvb2 rfl (idxL_some he1).1 (idxL_some he1).2.1) rfl <| O (r_loadEl (cs := [v4]) ti22 rfl rfl (.inr rfl) (hcb2 _ hs.imm) (v := v4) rfl) rfl ?_
   obtain ⟨a6, ca6, hva6⟩ := hRv4.shape
   refine O (r_lenSl (v := v4) Try.underlying22 rfl hva6) rfl <| O (r_assign (v := Value.int .i64 (e1.length : Int)) rfl) rfl <| OW_nil <| WP_seq ?_
   obtain ⟨xv2, hx2, hKhx2⟩ := bindS hM
   refine WP_cut (fun E w => ∃ (gg2 : Hp), E 1 = Value.pointer (some ⟨b1, 0, none⟩) ∧ E 3 = Value.int .i64 (p1.Next.length : Int) ∧ E 4 = Value.int .i64 (e1.length : Int) ∧ E 43 = Value.bool xv2 ∧ E.ds = [] ∧ Hle g0 gg2 ∧ Go.Lx.Sep g0 w0 gg2 w [Go.Lx.box b1 25 ([v1, v2, v3])]) ?_ ?_
   ·have hM := hx2
    have hag0 := Hle.refl g0
    refine WP_region <| O (r_move (v := Value.int .i64 (e1.length : Int)) rfl) rfl <| O (r_lss rfl rfl) rfl <| O (r_move (v := Value.bool (decide ((e1.length : Int) < 1))) rfl) rfl ?_
    rcases condS hM with ⟨hg8, hM⟩ | ⟨hg8, hM⟩
    ·refine OK rfl rfl rfl (by rw [hg8]; rfl) rfl <| OK rfl rfl rfl (by rw [hg8]; rfl) rfl <| OK rfl rfl rfl (by rw [hg8]; rfl) rfl <| OK rfl rfl rfl (by rw [hg8]; rfl) rfl <| OK rfl rfl rfl (by rw [hg8]; rfl) rfl <| OK rfl rfl rfl (by rw [hg8]; rfl) rfl <| O (r_pickT (v := Value.bool true) rfl hg8 rfl) rfl <| OW_nil ?_
     obtain rfl := Option.some.inj hM
     exact ⟨g0, rfl, rfl, rfl, rfl, hds, (Hle.refl _), hs⟩
    ·refine OG rfl rfl rfl (by rw [hg8]; rfl) (r_fieldAddr Try.underlying25 ti22 rfl rfl (by decide) rfl rfl) rfl <| OG rfl rfl rfl (by rw [hg8]; rfl) (r_load (v := v1) ti22 rfl (hs.cell (i := 0) (o := 0) rfl rfl)) rfl <| OG rfl rfl rfl (by rw [hg8]; rfl) (r_move (v := Value.int .i64 (e1.length : Int)) rfl) rfl ?_
     obtain ⟨t2, ht2, hM⟩ := bindS hM
     refine OG rfl rfl rfl (by rw [hg8]; rfl) (r_subM rfl rfl ht2) rfl ?_
     obtain ⟨rv2, hrv2, hM⟩ := bindS hM
     refine CG rfl rfl rfl (by rw [hg8]; rfl) [v1, Value.int .i64 0, Value.int .i64 t2] cf26 rfl (dfa_between_ok hrv2 hs.imm hRv1) rfl ?_
     rintro v6 wv3 ⟨gg3, hvv6, hegg3⟩
     have hlegg3 := hegg3.le hs.imm
     replace hs := hs.call hegg3
     replace hag0 := hag0.trans hlegg3
     obtain ⟨cs7, rfl, hcs7⟩ := hvv6
     have hcs7 : cs7 = _ := hcs7; subst hcs7
     refine OG rfl rfl rfl (by rw [hg8]; rfl) (r_not rfl) rfl <| O (r_pickF (v := Value.bool (!rv2)) rfl hg8 rfl) rfl <| OW_nil ?_
     obtain rfl := Option.some.inj hM
     exact ⟨gg3, rfl, rfl, rfl, rfl, hds, hag0, hs⟩
   ·clear hs
    rintro E w ⟨gg2, hE1, hE3, hE4, hE43, hds, hlegg2, hs⟩
    have hM := hKhx2
    obtain ⟨E, rfl⟩ := open4 (E := E) hE1 hE3 hE4 hE43
    replace hRv2 := hRv2.mono hlegg2
    replace hRv3 := hRv3.mono hlegg2
    rcases condS hM with ⟨hc2, hM⟩ | ⟨hc2, hM⟩
    ·refine WP_true rfl hc2 <| WP_seq <| WP_region <| O (r_assign (v := Value.bool false) rfl) rfl <| OW_nil <| WP_ret ?_
     obtain rfl := Option.some.inj hM
     refine FL_nil hds ?_
     exact ⟨_, res1 Try.results11 (rv_tmp (v := Value.bool false) rfl), gg2, ⟨[Value.bool false], rfl, rfl⟩, hs.ext⟩
    ·refine WP_false rfl hc2 <| WP_skip ?_
     obtain ⟨o3, hx6, hKhx6⟩ := stepS hM
     refine WP_cut (fun E w => ∃ u9 : Unit, o3 = .next u9 ∧ ∃ (gg16 : Hp), E 1 = Value.pointer (some ⟨b1, 0, none⟩) ∧ E.ds = [] ∧ Hle gg2 gg16 ∧ Go.Lx.Sep g0 w0 gg16 w [Go.Lx.box b1 25 ([v1, v2, v3])]) ?_ ?_
     ·have hM := hx6
      have hagg2 := Hle.refl gg2
      refine WP_seq <| WP_region <| O (r_fieldAddr Try.underlying25 ti23 rfl rfl (by decide) rfl rfl) rfl <| O (r_load (v := v2) ti23 rfl (hs.cell (i := 0) (o := 1) rfl rfl)) rfl ?_
      obtain ⟨a14, ca14, hva14⟩ := hRv2.shape
      refine O (r_lenSl (v := v2) Try.underlying23 rfl hva14) rfl <| O (r_move (v := Value.int .i64 0) rfl) rfl <| OW_nil <| WP_block <| WP_loop (fun (xv11 : Int) E w => ∃ (gg21 : Hp), E 1 = Value.pointer (some ⟨b1, 0, none⟩) ∧ E 3 = Value.int .i64 (p1.Next.length : Int) ∧ E 4 = Value.int .i64 (e1.length : Int) ∧ E 45 = v2 ∧ E 46 = Value.int .i64 (p1.Next.length : Int) ∧ E 47 = Value.int .i64 xv11 ∧ E.ds = [] ∧ Hle gg2 gg21 ∧ Go.Lx.Sep g0 w0 gg21 w [Go.Lx.box b1 25 ([v1, v2, v3])]) hM ⟨gg2, rfl, rfl, rfl, rfl, rfl, rfl, hds, (Hle.refl _), hs⟩ ?_
      clear hs hM
      rintro xv11 o2 E w hM ⟨gg21, hE1, hE3, hE4, hE45, hE46, hE47, hds, hlegg21, hs⟩
      obtain ⟨E, rfl⟩ := open6 (E := E) hE1 hE3 hE4 hE45 hE46 hE47
      replace hRv2 := hRv2.mono hlegg21
      have hagg21 := Hle.refl gg21
      refine WP_seq <| WP_region <| O (r_lss rfl rfl) rfl <| OW_nil <| WP_seq ?_
      rcases condS hM with ⟨hc13, hM⟩ | ⟨hc13, hM⟩
      ·refine WP_true rfl hc13 <| WP_skip <| WP_seq <| WP_block <| WP_seq <| WP_region ?_
       obtain ⟨e5, he5, hM⟩ := bindS hM
       obtain ⟨b8, ob8, cb8, hvb8, cs23, hcs23, hcb8⟩ := hRv2.at he5
       obtain ⟨v22, rfl, hRv22⟩ := hcs23
       refine O (r_idxSl Try.underlying23 ti22 (v := v2) rfl hvb8 rfl (idxL_some he5).1 (idxL_some he5).2.1) rfl <| O (r_loadEl (cs := [v22]) ti22 rfl rfl (.inr rfl) (hcb8 _ hs.imm) (v := v22) rfl) rfl <| O (r_assign (v := v22) rfl) rfl <| OW_nil ?_
       obtain ⟨xv14, hx9, hKhx9⟩ := bindS hM
       refine WP_cut (fun E w => ∃ (gg27 : Hp), E 1 = Value.pointer (some ⟨b1, 0, none⟩) ∧ E 3 = Value.int .i64 (p1.Next.length : Int) ∧ E 4 = Value.int .i64 (e1.length : Int) ∧ E 45 = v2 ∧ E 46 = Value.int .i64 (p1.Next.length : Int) ∧ E 47 = Value.int .i64 xv11 ∧ E 61 = Value.bool xv14 ∧ E.ds = [] ∧ Hle gg21 gg27 ∧ Go.Lx.Sep g0 w0 gg27 w [Go.Lx.box b1 25 ([v1, v2, v3])]) ?_ ?_
       ·have hM := hx9
        refine WP_region <| O (r_move (v := v22) rfl) rfl ?_
        obtain ⟨a20, ca20, hva20⟩ := hRv22.shape
        refine O (r_lenSl (v := v22) Try.underlying22 rfl hva20) rfl <| O (r_move (v := Value.int .i64 (e1.length : Int)) rfl) rfl <| O (r_neq rfl rfl) rfl <| O (r_move (v := Value.bool ((e5.length : Int) != (e1.length : Int))) rfl) rfl ?_
        rcases condS hM with ⟨hg20, hM⟩ | ⟨hg20, hM⟩
        ·refine OK rfl rfl rfl (by rw [hg20]; rfl) rfl <| OK rfl rfl rfl (by rw [hg20]; rfl) rfl <| OK rfl rfl rfl (by rw [hg20]; rfl) rfl <| OK rfl rfl rfl (by rw [hg20]; rfl) rfl <| OK rfl rfl rfl (by rw [hg20]; rfl) rfl <| O (r_pickT (v := Value.bool true) rfl hg20 rfl) rfl <| OW_nil ?_
         obtain rfl := Option.some.inj hM
         exact ⟨gg21, rfl, rfl, rfl, rfl, rfl, rfl, rfl, hds, (Hle.refl _), hs⟩
        ·refine OG rfl rfl rfl (by rw [hg20]; rfl) (r_move (v := v22) rfl) rfl <| OG rfl rfl rfl (by rw [hg20]; rfl) (r_move (v := Value.int .i64 (p1.Next.length : Int)) rfl) rfl ?_
         obtain ⟨t19, ht19, hM⟩ := bindS hM
         refine OG rfl rfl rfl (by rw [hg20]; rfl) (r_subM rfl rfl ht19) rfl ?_
         obtain ⟨rv14, hrv14, hM⟩ := bindS hM
         refine CG rfl rfl rfl (by rw [hg20]; rfl) [v22, Value.int .i64 (-1), Value.int .i64 t19] cf26 rfl (dfa_between_ok hrv14 hs.imm hRv22) rfl ?_
         rintro v24 wv15 ⟨gg28, hvv24, hegg28⟩
         have hlegg28 := hegg28.le hs.imm
         replace hs := hs.call hegg28
         replace hagg21 := hagg21.trans hlegg28
         obtain ⟨cs25, rfl, hcs25⟩ := hvv24
         have hcs25 : cs25 = _ := hcs25; subst hcs25
         refine OG rfl rfl rfl (by rw [hg20]; rfl) (r_not rfl) rfl <| O (r_pickF (v := Value.bool (!rv14)) rfl hg20 rfl) rfl <| OW_nil ?_
         obtain rfl := Option.some.inj hM
         exact ⟨gg28, rfl, rfl, rfl, rfl, rfl, rfl, rfl, hds, hagg21, hs⟩
       ·clear hs
        rintro E w ⟨gg27, hE1, hE3, hE4, hE45, hE46, hE47, hE61, hds, hlegg27, hs⟩
        have hM := hKhx9
        obtain ⟨E, rfl⟩ := open7 (E := E) hE1 hE3 hE4 hE45 hE46 hE47 hE61
        replace hlegg21 := hlegg21.trans hlegg27
        rcases condS hM with ⟨hc14, hM⟩ | ⟨hc14, hM⟩
        ·refine WP_true rfl hc14 <| WP_seq <| WP_region <| O (r_assign (v := Value.bool false) rfl) rfl <| OW_nil <| WP_ret ?_
         obtain rfl := Option.some.inj hM
         refine fun hr => ?_
         have hM := congrArg some hr
         obtain rfl := Option.some.inj hM
         have hM := hKhx6
         obtain rfl := Option.some.inj hM
         refine FL_nil hds ?_
         exact ⟨_, res1 Try.results11 (rv_tmp (v := Value.bool false) rfl), gg27, ⟨[Value.bool false], rfl, rfl⟩, hs.ext⟩
        ·refine WP_false rfl hc14 <| WP_skip <| WP_region ?_
         obtain ⟨t20, ht20, hM⟩ := bindS hM
         refine O (r_addM rfl rfl ht20) rfl <| O (r_move (v := Value.int .i64 t20) rfl) rfl <| OW_nil ?_
         obtain rfl := Option.some.inj hM
         exact ⟨gg27, rfl, rfl, rfl, rfl, rfl, rfl, hds, hlegg21, hs⟩
      ·refine WP_false rfl hc13 <| WP_exit ?_
       obtain rfl := Option.some.inj hM
       refine fun hr => ?_
       have hM := congrArg some hr
       obtain rfl := Option.some.inj hM
       exact ⟨(), rfl, gg21, rfl, hds, hlegg21, hs⟩
     ·clear hs
      rintro E w ⟨_, rfl, gg16, hE1, hds, hlegg16, hs⟩
      have hM := hKhx6
      dsimp only [onStep] at hM
      obtain ⟨E, rfl⟩ := open1 (E := E) hE1
      replace hRv3 := hRv3.mono hlegg16
      refine WP_seq <| WP_region <| O (r_fieldAddr Try.underlying25 ti22 rfl rfl (by decide) rfl rfl) rfl <| O (r_load (v := v3) ti22 rfl (hs.cell (i := 0) (o := 2) rfl rfl)) rfl ?_
      obtain ⟨rv15, hrv15, hM⟩ := bindS hM
      refine C [v3, Value.func (.func 28) #[] #[]] cf27 rfl (slices_ContainsFunc_int_int_ok hrv15 hs.imm hRv3 (show FnRd1 Try.prog (VRd (tInt .i64) false) (VRd tBool false) (Value.func (.func 28) #[] #[]) M.dfa_Valid_1 gg16 from ⟨28, [], rfl, cf28, fun g9 w9 a90 x90 r9 hle9 hi9 ha90 hM9 => by obtain ⟨c90, rfl, ha90⟩ := ha90; have ha90 : c90 = _ := ha90; subst ha90; exact dfa_Valid_1_ok hM9 hi9 ⟩)) rfl ?_
      rintro v25 wv16 ⟨gg29, hvv25, hegg29⟩
      have hlegg29 := hegg29.le hs.imm
      replace hs := hs.call hegg29
      obtain ⟨cs26, rfl, hcs26⟩ := hvv25
      have hcs26 : cs26 = _ := hcs26; subst hcs26
      refine O (r_not rfl) rfl <| O (r_assign (v := Value.bool (!rv15)) rfl) rfl <| OW_nil <| WP_ret ?_
      obtain rfl := Option.some.inj hM
      refine FL_nil hds ?_
      exact ⟨_, res1 Try.results11 (rv_tmp (v := Value.bool (!rv15)) rfl), gg29, ⟨[Value.bool (!rv15)], rfl, rfl⟩, hs.ext⟩

set_option maxRecDepth 100000 in
theorem dfa_Run_ok {d1 : T_DFA} {s1 : Str} {r : Int} (hM : M.dfa_Run d1 s1 = some r) {g0 : Hp} {w0 : World} (hi : Imm g0 w0) {cs1 : List Value} (hcs1 : tT_DFA.rel g0 cs1 d1) :
    CallsV Try.prog 12 #[Value.agg cs1.toArray, encS s1] w0 (fun v w' => ∃ g', (VRd (tInt .i64) false g' v r) ∧ Ext g0 w0 g' w') := by
 unfold M.dfa_Run at hM
 obtain ⟨cs2, cs3, cs4, rfl, hcs2, hcs3, hcs4⟩ := hcs1
 obtain ⟨v1, rfl, hRv1⟩ := hcs2
 obtain ⟨v2, rfl, hRv2⟩ := hcs3
 obtain ⟨v3, rfl, hRv3⟩ := hcs4
 have hs := Sep.start hi
 refine calls_of_WP (args := [Value.agg (List.toArray (α := Value) [v1, v2, v3]), encS s1]) Try.func12 rfl Try.ntmps12 rfl ?_
 have hds : (argEnv [Value.agg (List.toArray (α := Value) [v1, v2, v3]), encS s1]).ds = [] := rfl
 refine WP_seq <| WP_region <| OW_box (v := Value.agg (List.toArray (α := Value) [v1, v2, v3])) rfl hs (zs := [v1, v2, v3]) rfl rfl ?_
 intro b1 wv1 hs
 refine O (r_assign (v := Value.int .i64 0) rfl) rfl <| OW_nil <| WP_seq <| WP_region <| O (r_assign (v := Value.int .i64 0) rfl) rfl <| OW_nil ?_
 obtain ⟨state7, hx1, hKhx1⟩ := bindS hM
 refine WP_cut (fun E w => ∃ (gg7 : Hp), E 2 = Value.pointer (some ⟨b1, 0, none⟩) ∧ E 5 = Value.int .i64 state7 ∧ E.ds = [] ∧ Hle g0 gg7 ∧ Go.Lx.Sep g0 w0 gg7 w [Go.Lx.box b1 25 ([v1, v2, v3])]) ?_ ?_
 ·have hM := hx1
  have hag0 := Hle.refl g0
  refine WP_seq <| WP_region <| O (r_move (v := encS s1) rfl) rfl <| O (r_lenStr Try.underlying9 rfl) rfl <| O (r_move (v := Value.int .i64 0) rfl) rfl <| OW_nil <| WP_block <| WP_loop (fun (st9 : Int × Int) E w => match st9 with | (state10, xv5) => ∃ (gg10 : Hp), E 1 = encS s1 ∧ E 2 = Value.pointer (some ⟨b1, 0, none⟩) ∧ E 5 = Value.int .i64 state10 ∧ E 8 = Value.int .i64 (s1.length : Int) ∧ E 9 = Value.int .i64 xv5 ∧ E.ds = [] ∧ Hle g0 gg10 ∧ Go.Lx.Sep g0 w0 gg10 w [Go.Lx.box b1 25 ([v1, v2, v3])]) hM ⟨g0, rfl, rfl, rfl, rfl, rfl, hds, (Hle.refl _), hs⟩ ?_
  clear hs hM
  rintro ⟨state10, xv5⟩ o2 E w hM ⟨gg10, hE1, hE2, hE5, hE8, hE9, hds, hlegg10, hs⟩
  obtain ⟨E, rfl⟩ := open5 (E := E) hE1 hE2 hE5 hE8 hE9
  replace hRv1 := hRv1.mono hlegg10
  replace hRv2 := hRv2.mono hlegg10
  replace hRv3 := hRv3.mono hlegg10
  have hagg10 := Hle.refl gg10
  refine WP_seq <| WP_region <| O (r_lss rfl rfl) rfl <| OW_nil <| WP_seq ?_
  rcases condS hM with ⟨hc6, hM⟩ | ⟨hc6, hM⟩
  ·refine WP_true rfl hc6 <| WP_skip <| WP_seq <| WP_block <| WP_seq <| WP_region <| O (r_move (v := Value.int .i64 xv5) rfl) rfl <| O (r_assign (v := Value.int .i64 xv5) rfl) rfl <| OW_nil <| WP_drawTail 5 mo (by decide +kernel) ?_
   have hs := hs.drew
   refine S (r_loadN (cs := [v1, v2, v3]) ti25 rfl rfl (hs.cells (i := 0) rfl)) rfl <| S (r_move (v := Value.int .i64 state10) rfl) rfl <| S (r_move (v := encS s1) rfl) rfl <| S (r_move (v := Value.int .i64 xv5) rfl) rfl ?_
   obtain ⟨c6, hc6, hM⟩ := bindS hM
   refine S (r_idxStr Try.underlying9 rfl rfl hc6) rfl <| SW_nil ?_
   obtain ⟨state13, hstate13, hM⟩ := bindS hM
   refine C [Value.agg (List.toArray (α := Value) [v1, v2, v3]), Value.int .i64 state10, Value.int .u8 c6] cf29 rfl (dfa_step_ok hstate13 hs.imm (⟨[v1], [v2], [v3], rfl, ⟨_, rfl, hRv1⟩, ⟨_, rfl, hRv2⟩, ⟨_, rfl, hRv3⟩⟩)) rfl ?_
   rintro v9 wv7 ⟨gg13, hvv9, hegg13⟩
   have hlegg13 := hegg13.le hs.imm
   replace hs := hs.call hegg13
   replace hlegg10 := hlegg10.trans hlegg13
   obtain ⟨cs10, rfl, hcs10⟩ := hvv9
   have hcs10 : cs10 = _ := hcs10; subst hcs10
   refine O (r_assign (v := Value.int .i64 state13) rfl) rfl <| OW_nil <| WP_region ?_
   obtain ⟨t6, ht6, hM⟩ := bindS hM
   refine O (r_addM rfl rfl ht6) rfl <| O (r_move (v := Value.int .i64 t6) rfl) rfl <| OW_nil ?_
   obtain rfl := Option.some.inj hM
   exact ⟨gg13, rfl, rfl, rfl, rfl, rfl, hds, hlegg10, hs⟩
  ·refine WP_false rfl hc6 <| WP_exit ?_
   obtain rfl := Option.some.inj hM
   refine fun hr => ?_
   have hM := congrArg some hr
   obtain rfl := Option.some.inj hM
   exact ⟨gg10, rfl, rfl, hds, hlegg10, hs⟩
 ·clear hs
  rintro E w ⟨gg7, hE2, hE5, hds, hlegg7, hs⟩
  have hM := hKhx1
  obtain ⟨E, rfl⟩ := open2 (E := E) hE2 hE5
  replace hRv1 := hRv1.mono hlegg7
  replace hRv2 := hRv2.mono hlegg7
  replace hRv3 := hRv3.mono hlegg7
  refine WP_seq <| WP_region <| O (r_loadN (cs := [v1, v2, v3]) ti25 rfl rfl (hs.cells (i := 0) rfl)) rfl <| O (r_move (v := Value.int .i64 state7) rfl) rfl ?_
  obtain ⟨rv1, hrv1, hM⟩ := bindS hM
  refine C [Value.agg (List.toArray (α := Value) [v1, v2, v3]), Value.int .i64 state7] cf30 rfl (dfa_result_ok hrv1 hs.imm (⟨[v1], [v2], [v3], rfl, ⟨_, rfl, hRv1⟩, ⟨_, rfl, hRv2⟩, ⟨_, rfl, hRv3⟩⟩)) rfl ?_
  rintro v10 wv8 ⟨gg14, hvv10, hegg14⟩
  have hlegg14 := hegg14.le hs.imm
  replace hs := hs.call hegg14
  obtain ⟨cs11, rfl, hcs11⟩ := hvv10
  have hcs11 : cs11 = _ := hcs11; subst hcs11
  refine O (r_assign (v := Value.int .i64 rv1) rfl) rfl <| OW_nil <| WP_ret ?_
  obtain rfl := Option.some.inj hM
  refine FL_nil hds ?_
  exact ⟨_, res1 Try.results12 (rv_tmp (v := Value.int .i64 rv1) rfl), gg14, ⟨[Value.int .i64 rv1], rfl, rfl⟩, hs.ext⟩

set_option maxRecDepth 100000 in
theorem dfa_used_ok {p1 : T_DFA} {r : T_DFA} (hM : M.dfa_used p1 = some r) {g0 : Hp} {w0 : World} (hi : Imm g0 w0) {cs1 : List Value} (hcs1 : tT_DFA.rel g0 cs1 p1) :
    CallsV Try.prog 34 #[Value.agg cs1.toArray] w0 (fun v w' => ∃ g', (VRd tT_DFA true g' v r) ∧ Ext g0 w0 g' w') := by
 unfold M.dfa_used at hM
 obtain ⟨cs2, cs3, cs4, rfl, hcs2, hcs3, hcs4⟩ := hcs1
 obtain ⟨v1, rfl, hRv1⟩ := hcs2
 obtain ⟨v2, rfl, hRv2⟩ := hcs3
 obtain ⟨v3, rfl, hRv3⟩ := hcs4
 have hs := Sep.start hi
 refine calls_of_WP (args := [Value.agg (List.toArray (α := Value) [v1, v2, v3])]) Try.func34 rfl Try.ntmps34 rfl ?_
 have hds : (argEnv [Value.agg (List.toArray (α := Value) [v1, v2, v3])]).ds = [] := rfl
 refine WP_seq <| WP_region <| OW_box (v := Value.agg (List.toArray (α := Value) [v1, v2, v3])) rfl hs (zs := [v1, v2, v3]) rfl rfl ?_
 intro b1 wv1 hs
 refine OW_alloc ti25 hs (zs := [Value.slice none 0 0, Value.slice none 0 0, Value.slice none 0 0]) rfl rfl ?_
 intro b2 wv2 hs
 refine OW_nil <| WP_seq <| WP_region <| OW_makeMap hs rfl ?_
 intro b3 wv3 hs
 have hmb3 : MRel (Value.int .i64) (Value.int .i64) #[] [] := mrel_nil
 refine O (r_assign (v := Value.map (some b3)) rfl) rfl <| OW_nil <| WP_seq <| WP_region <| O (r_assign (v := Value.slice none 0 0) rfl) rfl <| OW_nil ?_
 obtain ⟨l2, hx1, hKhx1⟩ := bindS hM
 refine WP_cut (fun E w => ∃ (b7 : Nat) (v7 : Value) (xs4 : List Value), E 1 = Value.pointer (some ⟨b1, 0, none⟩) ∧ E 2 = Value.pointer (some ⟨b2, 0, none⟩) ∧ E 3 = Value.map (some b3) ∧ E 4 = Value.slice none 0 0 ∧ E 5 = Value.pointer (some ⟨b7, 0, none⟩) ∧ E.ds = [] ∧ RowRel (tInt .i64) g0 xs4 l2 ∧ Go.Lx.Sep g0 w0 g0 w [Go.Lx.box b7 25 ([v7, Value.slice none 0 0, v3]), .row v7 3 (tInt .i64).sz l2.length xs4, .obj b3 (.map #[] 0), Go.Lx.box b2 25 ([Value.slice none 0 0, Value.slice none 0 0, Value.slice none 0 0]), Go.Lx.box b1 25 ([v1, v2, v3])]) ?_ ?_
 ·have hM := hx1
  have hag0 := Hle.refl g0
  obtain ⟨l3, hl3, hM⟩ := bindS hM
  refine WP_any (.q 0 (.q 1 (.q 2 (.q 4 (.q 5 (.c 3 (.q 6 (.s 7 (.s 8 (.leaf)))) (.c 7 (.s 3 (.q 6 (.s 8 (.leaf)))) (.n)))))))) (SS g0 w0 g0 [.obj b3 (.map #[] 0), Go.Lx.box b2 25 ([Value.slice none 0 0, Value.slice none 0 0, Value.slice none 0 0]), Go.Lx.box b1 25 ([v1, v2, v3])]) mo (by decide +kernel) ?_
  have hs := hs.drew
  have hS : SS g0 w0 g0 [.obj b3 (.map #[] 0), Go.Lx.box b2 25 ([Value.slice none 0 0, Value.slice none 0 0, Value.slice none 0 0]), Go.Lx.box b1 25 ([v1, v2, v3])] _ := ⟨g0, Hle.refl _, hs⟩
  refine A rfl hS (fun w9 ⟨g9, hle9, hs⟩ => r_fieldAddr Try.underlying25 ti22 rfl rfl (by decide) rfl rfl) rfl <| A rfl hS (fun w9 ⟨g9, hle9, hs⟩ => r_load (v := v1) ti22 rfl (hs.cell (i := 2) (o := 0) rfl rfl)) rfl ?_
  obtain ⟨a4, ca4, hva4⟩ := hRv1.shape
  refine A rfl hS (fun w9 ⟨g9, hle9, hs⟩ => r_lenSl (v := v1) Try.underlying22 rfl hva4) rfl <| A rfl hS (fun w9 ⟨g9, hle9, hs⟩ => r_fieldAddr Try.underlying25 ti22 rfl rfl (by decide) rfl rfl) rfl <| A rfl hS (fun w9 ⟨g9, hle9, hs⟩ => r_load (v := v3) ti22 rfl (hs.cell (i := 2) (o := 2) rfl rfl)) rfl <| A2 rfl ?_ ?_
  ·refine OW_make (τ := (tInt .i64)) (zc := [Value.int .i64 0]) (zx := 0) Try.underlying22 ti3 rfl rfl (by decide) hs rfl rfl hl3 rfl ?_
   intro v9 wv16 xs6 hrelxs6 hs
   refine OW_nil ?_
   replace hS := hS.to (Hle.refl _) (hs.sub (.cons _ (.cons_cons _ (.cons_cons _ (.cons_cons _ .slnil)))))
   refine ⟨fun _ => hS, ?_⟩
   have ho5 := one_of_shape (hs.rowShape (i := 0) rfl)
   refine A rfl hS (fun w9 ⟨g9, hle9, hs⟩ => r_build (vs := [(0, v9), (2, v3)]) (cs := [v9, Value.slice none 0 0, v3]) rfl (built_fill [(0, 1), (1, 1), (2, 1)] [Value.slice none 0 0, Value.slice none 0 0, Value.slice none 0 0] (fun _ => by kernel_rfl) (fill_step ([]) ([Value.slice none 0 0]) ([Value.slice none 0 0, Value.slice none 0 0]) ([v9]) rfl rfl (cells_one ho5) rfl rfl rfl <| fill_step ([v9, Value.slice none 0 0]) ([Value.slice none 0 0]) ([]) ([v3]) rfl rfl (cells_one (by obtain ⟨_, _, h9⟩ := hRv3.shape; rw [h9]; rfl)) rfl rfl rfl <| fill_done))) rfl <| A1 rfl <| OW_alloc ti25 hs (zs := [Value.slice none 0 0, Value.slice none 0 0, Value.slice none 0 0]) rfl rfl ?_
   intro b9 wv17 hs
   refine OW_nil ?_
   replace hS := hS.to (Hle.refl _) (hs.sub (.cons _ (.cons _ (.cons_cons _ (.cons_cons _ (.cons_cons _ .slnil))))))
   refine ⟨fun _ => hS, ?_⟩
   refine A1 rfl <| OW_storeAll ti25 hs (i := 0) rfl rfl (v := Value.agg (List.toArray (α := Value) [v9, Value.slice none 0 0, v3])) rfl (vs := [v9, Value.slice none 0 0, v3]) rfl (one_cons (by obtain ⟨_, _, h9⟩ := hs.rowShape (i := 1) rfl; rw [h9]; rfl) (one_cons rfl (one_cons (by obtain ⟨_, _, h9⟩ := hRv3.shape; rw [h9]; rfl) one_nil))) rfl rfl ?_
   intro wv18 hs
   refine OW_nil ?_
   refine ⟨fun h => absurd h (by decide +kernel), ?_⟩
   refine AN ?_
   obtain rfl := Option.some.inj hM
   exact ⟨b9, v9, xs6, rfl, rfl, rfl, rfl, rfl, hds, hrelxs6, hs⟩
  refine A2 rfl ?_ ?_
  ·refine OW_alloc ti25 hs (zs := [Value.slice none 0 0, Value.slice none 0 0, Value.slice none 0 0]) rfl rfl ?_
   intro b10 wv19 hs
   refine OW_nil ?_
   replace hS := hS.to (Hle.refl _) (hs.sub (.cons _ (.cons_cons _ (.cons_cons _ (.cons_cons _ .slnil)))))
   refine ⟨fun _ => hS, ?_⟩
   refine A1 rfl <| OW_make (τ := (tInt .i64)) (zc := [Value.int .i64 0]) (zx := 0) Try.underlying22 ti3 rfl rfl (by decide) hs rfl rfl hl3 rfl ?_
   intro v10 wv20 xs7 hrelxs7 hs
   refine OW_nil ?_
   replace hS := hS.to (Hle.refl _) (hs.sub (.cons _ (.cons _ (.cons_cons _ (.cons_cons _ (.cons_cons _ .slnil))))))
   refine ⟨fun _ => hS, ?_⟩
   have ho6 := one_of_shape (hs.rowShape (i := 0) rfl)
   refine A rfl hS (fun w9 ⟨g9, hle9, hs⟩ => r_build (vs := [(0, v10), (2, v3)]) (cs := [v10, Value.slice none 0 0, v3]) rfl (built_fill [(0, 1), (1, 1), (2, 1)] [Value.slice none 0 0, Value.slice none 0 0, Value.slice none 0 0] (fun _ => by kernel_rfl) (fill_step ([]) ([Value.slice none 0 0]) ([Value.slice none 0 0, Value.slice none 0 0]) ([v10]) rfl rfl (cells_one ho6) rfl rfl rfl <| fill_step ([v10, Value.slice none 0 0]) ([Value.slice none 0 0]) ([]) ([v3]) rfl rfl (cells_one (by obtain ⟨_, _, h9⟩ := hRv3.shape; rw [h9]; rfl)) rfl rfl rfl <| fill_done))) rfl <| A1 rfl <| OW_storeAll ti25 hs (i := 1) rfl rfl (v := Value.agg (List.toArray (α := Value) [v10, Value.slice none 0 0, v3])) rfl (vs := [v10, Value.slice none 0 0, v3]) rfl (one_cons (by obtain ⟨_, _, h9⟩ := hs.rowShape (i := 0) rfl; rw [h9]; rfl) (one_cons rfl (one_cons (by obtain ⟨_, _, h9⟩ := hRv3.shape; rw [h9]; rfl) one_nil))) rfl rfl ?_
   intro wv21 hs
   refine OW_nil ?_
   refine ⟨fun h => absurd h (by decide +kernel), ?_⟩
   refine AN ?_
   obtain rfl := Option.some.inj hM
   exact ⟨b10, v10, xs7, rfl, rfl, rfl, rfl, rfl, hds, hrelxs7, (hs.sel [1, 0, 2, 3, 4] (by decide) rfl)⟩
  trivial
 ·clear hs
  rintro E w ⟨b7, v7, xs4, hE1, hE2, hE3, hE4, hE5, hds, hrelxs4, hs⟩
  have hM := hKhx1
  obtain ⟨E, rfl⟩ := open5 (E := E) hE1 hE2 hE3 hE4 hE5
  obtain ⟨⟨xv10, l7⟩, hx5, hKhx5⟩ := bindS hM
  refine WP_cut (fun E w => ∃ (v32 : Value) (xs34 : List Value) (v33 : Value) (xs35 : List Value), E 1 = Value.pointer (some ⟨b1, 0, none⟩) ∧ E 2 = Value.pointer (some ⟨b2, 0, none⟩) ∧ E 4 = v32 ∧ E 5 = Value.pointer (some ⟨b7, 0, none⟩) ∧ E.ds = [] ∧ RowRel (tInt .i64) g0 xs34 xv10 ∧ RowRel (tInt .i64) g0 xs35 l7 ∧ Go.Lx.Sep g0 w0 g0 w [.row v32 3 (tInt .i64).sz xv10.length xs34, Go.Lx.box b7 25 ([v33, Value.slice none 0 0, v3]), .row v33 3 (tInt .i64).sz l7.length xs35, Go.Lx.box b2 25 ([Value.slice none 0 0, Value.slice none 0 0, Value.slice none 0 0]), Go.Lx.box b1 25 ([v1, v2, v3])]) ?_ ?_
  ·have hM := hx5
   have hag0 := Hle.refl g0
   refine WP_seq <| WP_region <| O (r_fieldAddr Try.underlying25 ti22 rfl rfl (by decide) rfl rfl) rfl <| O (r_load (v := v1) ti22 rfl (hs.cell (i := 4) (o := 0) rfl rfl)) rfl ?_
   obtain ⟨a10, ca10, hva10⟩ := hRv1.shape
   refine O (r_lenSl (v := v1) Try.underlying22 rfl hva10) rfl <| O (r_move (v := Value.int .i64 0) rfl) rfl <| OW_nil <| WP_block ?_
   have hs := hs.nilRow 3 (tInt .i64).sz
   refine WP_loop (fun (st9 : (List (Int × Int)) × (List Int) × (List Int) × Int) E w => match st9 with | (m9, xv14, l9, xv15) => ∃ (v41 : Value) (xs46 : List Value) (v42 : Value) (xs47 : List Value) (es17 : Array MapEntry) (ck17 : Nat), E 1 = Value.pointer (some ⟨b1, 0, none⟩) ∧ E 2 = Value.pointer (some ⟨b2, 0, none⟩) ∧ E 3 = Value.map (some b3) ∧ E 4 = v41 ∧ E 5 = Value.pointer (some ⟨b7, 0, none⟩) ∧ E 24 = v1 ∧ E 25 = Value.int .i64 (p1.Class.length : Int) ∧ E 26 = Value.int .i64 xv15 ∧ E.ds = [] ∧ RowRel (tInt .i64) g0 xs46 xv14 ∧ RowRel (tInt .i64) g0 xs47 l9 ∧ MRel (Value.int .i64) (Value.int .i64) es17 m9 ∧ Go.Lx.Sep g0 w0 g0 w [.row v41 3 (tInt .i64).sz xv14.length xs46, Go.Lx.box b7 25 ([v42, Value.slice none 0 0, v3]), .row v42 3 (tInt .i64).sz l9.length xs47, .obj b3 (.map es17 ck17), Go.Lx.box b2 25 ([Value.slice none 0 0, Value.slice none 0 0, Value.slice none 0 0]), Go.Lx.box b1 25 ([v1, v2, v3])]) hM ⟨(Value.slice none 0 0), [], v7, xs4, #[], 0, rfl, rfl, rfl, rfl, rfl, rfl, rfl, rfl, hds, RowRel.nil, hrelxs4, hmb3, hs⟩ ?_
   clear hs hM
   rintro ⟨m9, xv14, l9, xv15⟩ o2 E w hM ⟨v41, xs46, v42, xs47, es17, ck17, hE1, hE2, hE3, hE4, hE5, hE24, hE25, hE26, hds, hrelxs46, hrelxs47, hmes17, hs⟩
   obtain ⟨E, rfl⟩ := open8 (E := E) hE1 hE2 hE3 hE4 hE5 hE24 hE25 hE26
   refine WP_seq <| WP_region <| O (r_lss rfl rfl) rfl <| OW_nil <| WP_seq ?_
   rcases condS hM with ⟨hc16, hM⟩ | ⟨hc16, hM⟩
   ·refine WP_true rfl hc16 <| WP_skip <| WP_seq <| WP_block <| WP_seq <| WP_region <| O (r_move (v := Value.int .i64 xv15) rfl) rfl ?_
    obtain ⟨e6, he6, hM⟩ := bindS hM
    obtain ⟨b21, ob21, cb21, hvb21, cs10, hcs10, hcb21⟩ := hRv1.at he6
    have hcs10 : cs10 = _ := hcs10; subst hcs10
    refine O (r_idxSl Try.underlying22 ti3 (v := v1) rfl hvb21 rfl (idxL_some he6).1 (idxL_some he6).2.1) rfl <| O (r_loadEl (cs := [Value.int .i64 e6]) ti3 rfl rfl (.inr rfl) (hcb21 _ hs.imm) (v := Value.int .i64 e6) rfl) rfl <| O (r_assign (v := Value.int .i64 xv15) rfl) rfl <| O (r_assign (v := Value.int .i64 e6) rfl) rfl <| OW_nil <| WP_seq <| WP_region <| O (r_move (v := Value.map (some b3)) rfl) rfl <| O (r_move (v := Value.int .i64 e6) rfl) rfl <| O (r_lookup (z := 0) (kk := e6) Try.underlying61 ti3 (keyLaw_int Try.underlying3) hs (i := 3) rfl hmes17 rfl rfl) rfl <| O (r_move (v := Value.tuple #[Value.int .i64 ((mget m9 e6).getD 0), Value.bool ((mget m9 e6).isSome)]) rfl) rfl <| O (r_extract (vs := [Value.int .i64 ((mget m9 e6).getD 0), Value.bool ((mget m9 e6).isSome)]) (v := Value.int .i64 ((mget m9 e6).getD 0)) rfl rfl) rfl ?_
    refine O (r_extract (vs := [Value.int .i64 ((mget m9 e6).getD 0), Value.bool ((mget m9 e6).isSome)]) (v := Value.bool ((mget m9 e6).isSome)) rfl rfl) rfl <| O (r_assign (v := Value.int .i64 ((mget m9 e6).getD 0)) rfl) rfl <| O (r_assign (v := Value.bool ((mget m9 e6).isSome)) rfl) rfl <| OW_nil ?_
    obtain ⟨⟨m12, y22, xv19⟩, hx8, hKhx8⟩ := bindS hM
    refine WP_cut (fun E w => ∃ (v52 : Value) (xs58 : List Value) (es23 : Array MapEntry) (ck23 : Nat), E 1 = Value.pointer (some ⟨b1, 0, none⟩) ∧ E 2 = Value.pointer (some ⟨b2, 0, none⟩) ∧ E 3 = Value.map (some b3) ∧ E 4 = v52 ∧ E 5 = Value.pointer (some ⟨b7, 0, none⟩) ∧ E 6 = Value.int .i64 xv15 ∧ E 8 = Value.int .i64 xv19 ∧ E 24 = v1 ∧ E 25 = Value.int .i64 (p1.Class.length : Int) ∧ E 26 = Value.int .i64 xv15 ∧ E.ds = [] ∧ RowRel (tInt .i64) g0 xs58 y22 ∧ MRel (Value.int .i64) (Value.int .i64) es23 m12 ∧ Go.Lx.Sep g0 w0 g0 w [.row v52 3 (tInt .i64).sz y22.length xs58, Go.Lx.box b7 25 ([v42, Value.slice none 0 0, v3]), .row v42 3 (tInt .i64).sz l9.length xs47, .obj b3 (.map es23 ck23), Go.Lx.box b2 25 ([Value.slice none 0 0, Value.slice none 0 0, Value.slice none 0 0]), Go.Lx.box b1 25 ([v1, v2, v3])]) ?_ ?_
    ·have hM := hx8
     refine WP_seq <| WP_region <| O (r_move (v := Value.bool ((mget m9 e6).isSome)) rfl) rfl <| O (r_not rfl) rfl <| OW_nil ?_
     rcases condS hM with ⟨hc18, hM⟩ | ⟨hc18, hM⟩
     ·refine WP_true rfl hc18 <| WP_seq <| WP_region <| O (r_move (v := v41) rfl) rfl ?_
      obtain ⟨a14, ca14, hva14⟩ := hs.rowShape (i := 0) rfl
      refine O (r_lenSl (v := v41) Try.underlying22 rfl hva14) rfl <| O (r_assign (v := Value.int .i64 (xv14.length : Int)) rfl) rfl <| OW_nil <| WP_seq <| WP_region <| O (r_move (v := Value.map (some b3)) rfl) rfl <| O (r_move (v := Value.int .i64 e6) rfl) rfl <| O (r_move (v := Value.int .i64 (xv14.length : Int)) rfl) rfl <| OW_mapSet (kk := e6) (vv := (xv14.length : Int)) Try.underlying61 (keyLaw_int Try.underlying3) hs (i := 3) rfl hmes17 rfl rfl rfl ?_
      intro es24 ck24 wv60 hmes24 hs
      refine OW_nil <| WP_region <| O (r_move (v := v41) rfl) rfl <| O (r_move (v := Value.int .i64 e6) rfl) rfl <| OW_lit (τ := (tInt .i64)) [Value.int .i64 e6] [e6] Try.underlying22 ti3 (by decide) hs rfl rfl rfl ⟨rfl, trivial⟩ rfl ?_
      intro v53 wv61 xs59 hrelxs59 hs
      obtain ⟨y23, hy23, hM⟩ := bindS hM
      refine OW_append Try.underlying22 ti3 rfl (by decide) (by decide) hs (i := 1) rfl hrelxs46 (v := v41) rfl (u := v53) rfl (hs.rowSrc (i := 0) rfl) hrelxs59 hy23 rfl ?_
      intro v54 wv62 xs60 hrelxs60 hs
      refine O (r_assign (v := v54) rfl) rfl <| OW_nil ?_
      simp only [Option.some.injEq, Prod.mk.injEq] at hM
      obtain ⟨rfl, rfl, rfl⟩ := hM
      exact ⟨v54, xs60, es24, ck24, rfl, rfl, rfl, rfl, rfl, rfl, rfl, rfl, rfl, rfl, hds, hrelxs60, hmes24, (hs.sub (.cons _ (.cons_cons _ (.cons_cons _ (.cons_cons _ (.cons_cons _ (.cons_cons _ (.cons_cons _ .slnil))))))))⟩
     ·refine WP_false rfl hc18 <| WP_skip ?_
      simp only [Option.some.injEq, Prod.mk.injEq] at hM
      obtain ⟨rfl, rfl, rfl⟩ := hM
      exact ⟨v41, xs46, es17, ck17, rfl, rfl, rfl, rfl, rfl, rfl, rfl, rfl, rfl, rfl, hds, hrelxs46, hmes17, hs⟩
    ·clear hs
     rintro E w ⟨v52, xs58, es23, ck23, hE1, hE2, hE3, hE4, hE5, hE6, hE8, hE24, hE25, hE26, hds, hrelxs58, hmes23, hs⟩
     have hM := hKhx8
     obtain ⟨E, rfl⟩ := open8 (E := E) hE1 hE2 hE3 hE4 hE5 hE6 hE8 hE24
     obtain ⟨E, rfl⟩ := open2 (E := E) hE25 hE26
     refine WP_region <| O (r_fieldAddr Try.underlying25 ti22 rfl rfl (by decide) rfl rfl) rfl <| O (r_load (v := v42) ti22 rfl (hs.cell (i := 1) (o := 0) rfl rfl)) rfl <| O (r_move (v := Value.int .i64 xv15) rfl) rfl <| O (r_move (v := Value.int .i64 xv19) rfl) rfl ?_
     obtain ⟨y24, hy24, hM⟩ := bindS hM
     obtain ⟨b22, cb22, hvb22, wv63, xs61, hstb22, hrelb22, hsb22⟩ := hs.rowPut (i := 2) rfl hrelxs47 hy24 (cs := [Value.int .i64 xv19]) rfl
     refine O (r_idxSl Try.underlying22 ti3 (v := v42) rfl hvb22 rfl (setL_some hy24).1 (setL_some hy24).2.1) rfl <| O0 (r_store ti3 rfl (v := Value.int .i64 xv19) rfl rfl hstb22) ?_
     have hs := hsb22
     refine OW_nil <| WP_region ?_
     obtain ⟨t6, ht6, hM⟩ := bindS hM
     refine O (r_addM rfl rfl ht6) rfl <| O (r_move (v := Value.int .i64 t6) rfl) rfl <| OW_nil ?_
     obtain rfl := Option.some.inj hM
     exact ⟨v52, xs58, v42, xs61, es23, ck23, rfl, rfl, rfl, rfl, rfl, rfl, rfl, rfl, hds, hrelxs58, hrelb22, hmes23, hs⟩
   ·refine WP_false rfl hc16 <| WP_exit ?_
    obtain rfl := Option.some.inj hM
    refine fun hr => ?_
    have hM := congrArg some hr
    simp only [Option.some.injEq, Prod.mk.injEq] at hM
    obtain ⟨rfl, rfl⟩ := hM
    exact ⟨v41, xs46, v42, xs47, rfl, rfl, rfl, rfl, hds, hrelxs46, hrelxs47, (hs.sub (.cons_cons _ (.cons_cons _ (.cons_cons _ (.cons _ (.cons_cons _ (.cons_cons _ .slnil)))))))⟩
  ·clear hs
   rintro E w ⟨v32, xs34, v33, xs35, hE1, hE2, hE4, hE5, hds, hrelxs34, hrelxs35, hs⟩
   have hM := hKhx5
   obtain ⟨E, rfl⟩ := open4 (E := E) hE1 hE2 hE4 hE5
   obtain ⟨xv104, hx18, hKhx18⟩ := bindS hM
   refine WP_cut (fun E w => ∃ (gg13 : Hp) (v222 : Value) (xs237 : List Value) (v221 : Value) (xs236 : List Value), E 2 = Value.pointer (some ⟨b2, 0, none⟩) ∧ E 5 = Value.pointer (some ⟨b7, 0, none⟩) ∧ E.ds = [] ∧ Hle g0 gg13 ∧ RowRel (tSl (tInt .i64)) gg13 xs237 xv104 ∧ RowRel (tInt .i64) gg13 xs236 l7 ∧ Go.Lx.Sep g0 w0 gg13 w [.row v222 22 (tSl (tInt .i64)).sz xv104.length xs237, Go.Lx.box b7 25 ([v221, v222, v3]), .row v221 3 (tInt .i64).sz l7.length xs236, Go.Lx.box b2 25 ([Value.slice none 0 0, Value.slice none 0 0, Value.slice none 0 0])]) ?_ ?_
   ·have hM := hx18
    have hag0 := Hle.refl g0
    refine WP_seq <| WP_region <| O (r_fieldAddr Try.underlying25 ti23 rfl rfl (by decide) rfl rfl) rfl <| O (r_load (v := v2) ti23 rfl (hs.cell (i := 4) (o := 1) rfl rfl)) rfl ?_
    obtain ⟨a28, ca28, hva28⟩ := hRv2.shape
    refine O (r_lenSl (v := v2) Try.underlying23 rfl hva28) rfl <| O (r_move (v := Value.int .i64 0) rfl) rfl <| OW_nil <| WP_block ?_
    have hs := hs.nilRow 22 (tSl (tInt .i64)).sz
    refine WP_loop (fun (st9 : (List (List Int)) × Int) E w => match st9 with | (xv133, xv134) => ∃ (gg18 : Hp) (v279 : Value) (xs298 : List Value) (v277 : Value) (xs296 : List Value) (v278 : Value) (xs297 : List Value), E 2 = Value.pointer (some ⟨b2, 0, none⟩) ∧ E 4 = v277 ∧ E 5 = Value.pointer (some ⟨b7, 0, none⟩) ∧ E 55 = v2 ∧ E 56 = Value.int .i64 (p1.Next.length : Int) ∧ E 57 = Value.int .i64 xv134 ∧ E.ds = [] ∧ Hle g0 gg18 ∧ RowRel (tSl (tInt .i64)) gg18 xs298 xv133 ∧ RowRel (tInt .i64) gg18 xs296 xv10 ∧ RowRel (tInt .i64) gg18 xs297 l7 ∧ Go.Lx.Sep g0 w0 gg18 w [.row v279 22 (tSl (tInt .i64)).sz xv133.length xs298, .row v277 3 (tInt .i64).sz xv10.length xs296, Go.Lx.box b7 25 ([v278, v279, v3]), .row v278 3 (tInt .i64).sz l7.length xs297, Go.Lx.box b2 25 ([Value.slice none 0 0, Value.slice none 0 0, Value.slice none 0 0])]) hM ⟨g0, (Value.slice none 0 0), [], v32, xs34, v33, xs35, rfl, rfl, rfl, rfl, rfl, rfl, hds, (Hle.refl _), RowRel.nil, hrelxs34, hrelxs35, (hs.sub (.cons_cons _ (.cons_cons _ (.cons_cons _ (.cons_cons _ (.cons_cons _ (.cons _ .slnil)))))))⟩ ?_
    clear hs hM
    rintro ⟨xv133, xv134⟩ o24 E w hM ⟨gg18, v279, xs298, v277, xs296, v278, xs297, hE2, hE4, hE5, hE55, hE56, hE57, hds, hlegg18, hrelxs298, hrelxs296, hrelxs297, hs⟩
    obtain ⟨E, rfl⟩ := open6 (E := E) hE2 hE4 hE5 hE55 hE56 hE57
    replace hRv2 := hRv2.mono hlegg18
    have hagg18 := Hle.refl gg18
    refine WP_seq <| WP_region <| O (r_lss rfl rfl) rfl <| OW_nil <| WP_seq ?_
    rcases condS hM with ⟨hc84, hM⟩ | ⟨hc84, hM⟩
    ·refine WP_true rfl hc84 <| WP_skip ?_
     obtain ⟨y107, hx26, hKhx26⟩ := bindS hM
     refine WP_cut (fun E w => ∃ (gg24 : Hp) (v363 : Value) (xs385 : List Value) (v361 : Value) (xs383 : List Value) (v362 : Value) (xs384 : List Value), E 2 = Value.pointer (some ⟨b2, 0, none⟩) ∧ E 4 = v361 ∧ E 5 = Value.pointer (some ⟨b7, 0, none⟩) ∧ E 55 = v2 ∧ E 56 = Value.int .i64 (p1.Next.length : Int) ∧ E 57 = Value.int .i64 xv134 ∧ E.ds = [] ∧ Hle gg18 gg24 ∧ RowRel (tSl (tInt .i64)) gg24 xs385 y107 ∧ RowRel (tInt .i64) gg24 xs383 xv10 ∧ RowRel (tInt .i64) gg24 xs384 l7 ∧ Go.Lx.Sep g0 w0 gg24 w [.row v363 22 (tSl (tInt .i64)).sz y107.length xs385, .row v361 3 (tInt .i64).sz xv10.length xs383, Go.Lx.box b7 25 ([v362, v363, v3]), .row v362 3 (tInt .i64).sz l7.length xs384, Go.Lx.box b2 25 ([Value.slice none 0 0, Value.slice none 0 0, Value.slice none 0 0])]) ?_ ?_
     ·have hM := hx26
      refine WP_block <| WP_seq <| WP_region ?_
      obtain ⟨e150, he150, hM⟩ := bindS hM
      obtain ⟨b166, ob166, cb166, hvb166, cs154, hcs154, hcb166⟩ := hRv2.at he150
      obtain ⟨v364, rfl, hRv364⟩ := hcs154
      refine O (r_idxSl Try.underlying23 ti22 (v := v2) rfl hvb166 rfl (idxL_some he150).1 (idxL_some he150).2.1) rfl <| O (r_loadEl (cs := [v364]) ti22 rfl rfl (.inr rfl) (hcb166 _ hs.imm) (v := v364) rfl) rfl <| O (r_assign (v := v364) rfl) rfl <| OW_nil <| WP_seq <| WP_region <| O (r_assign (v := Value.slice none 0 0) rfl) rfl <| OW_nil ?_
      obtain ⟨xv182, hx27, hKhx27⟩ := bindS hM
      refine WP_cut (fun E w => ∃ (v377 : Value) (xs399 : List Value) (v376 : Value) (xs398 : List Value) (v374 : Value) (xs396 : List Value) (v375 : Value) (xs397 : List Value), E 2 = Value.pointer (some ⟨b2, 0, none⟩) ∧ E 4 = v374 ∧ E 5 = Value.pointer (some ⟨b7, 0, none⟩) ∧ E 12 = v377 ∧ E 55 = v2 ∧ E 56 = Value.int .i64 (p1.Next.length : Int) ∧ E 57 = Value.int .i64 xv134 ∧ E.ds = [] ∧ RowRel (tInt .i64) gg18 xs399 xv182 ∧ RowRel (tSl (tInt .i64)) gg18 xs398 xv133 ∧ RowRel (tInt .i64) gg18 xs396 xv10 ∧ RowRel (tInt .i64) gg18 xs397 l7 ∧ Go.Lx.Sep g0 w0 gg18 w [.row v377 3 (tInt .i64).sz xv182.length xs399, .row v376 22 (tSl (tInt .i64)).sz xv133.length xs398, .row v374 3 (tInt .i64).sz xv10.length xs396, Go.Lx.box b7 25 ([v375, v376, v3]), .row v375 3 (tInt .i64).sz l7.length xs397, Go.Lx.box b2 25 ([Value.slice none 0 0, Value.slice none 0 0, Value.slice none 0 0])]) ?_ ?_
      ·have hM := hx27
       refine WP_seq <| WP_region <| O (r_move (v := v277) rfl) rfl ?_
       obtain ⟨a40, ca40, hva40⟩ := hs.rowShape (i := 1) rfl
       refine O (r_lenSl (v := v277) Try.underlying22 rfl hva40) rfl <| O (r_move (v := Value.int .i64 0) rfl) rfl <| OW_nil <| WP_block ?_
       have hs := hs.nilRow 3 (tInt .i64).sz
       refine WP_loop (fun (st9 : (List Int) × Int) E w => match st9 with | (xv185, xv186) => ∃ (v381 : Value) (xs404 : List Value), E 2 = Value.pointer (some ⟨b2, 0, none⟩) ∧ E 4 = v277 ∧ E 5 = Value.pointer (some ⟨b7, 0, none⟩) ∧ E 11 = v364 ∧ E 12 = v381 ∧ E 55 = v2 ∧ E 56 = Value.int .i64 (p1.Next.length : Int) ∧ E 57 = Value.int .i64 xv134 ∧ E 61 = v277 ∧ E 62 = Value.int .i64 (xv10.length : Int) ∧ E 63 = Value.int .i64 xv186 ∧ E.ds = [] ∧ RowRel (tInt .i64) gg18 xs404 xv185 ∧ Go.Lx.Sep g0 w0 gg18 w [.row v381 3 (tInt .i64).sz xv185.length xs404, .row v279 22 (tSl (tInt .i64)).sz xv133.length xs298, .row v277 3 (tInt .i64).sz xv10.length xs296, Go.Lx.box b7 25 ([v278, v279, v3]), .row v278 3 (tInt .i64).sz l7.length xs297, Go.Lx.box b2 25 ([Value.slice none 0 0, Value.slice none 0 0, Value.slice none 0 0])]) hM ⟨(Value.slice none 0 0), [], rfl, rfl, rfl, rfl, rfl, rfl, rfl, rfl, rfl, rfl, rfl, hds, RowRel.nil, hs⟩ ?_
       clear hs hM
       rintro ⟨xv185, xv186⟩ o28 E w hM ⟨v381, xs404, hE2, hE4, hE5, hE11, hE12, hE55, hE56, hE57, hE61, hE62, hE63, hds, hrelxs404, hs⟩
       obtain ⟨E, rfl⟩ := open8 (E := E) hE2 hE4 hE5 hE11 hE12 hE55 hE56 hE57
       obtain ⟨E, rfl⟩ := open3 (E := E) hE61 hE62 hE63
       refine WP_seq <| WP_region <| O (r_lss rfl rfl) rfl <| OW_nil <| WP_seq ?_
       rcases condS hM with ⟨hc96, hM⟩ | ⟨hc96, hM⟩
       ·refine WP_true rfl hc96 <| WP_skip <| WP_seq <| WP_block <| WP_seq <| WP_region ?_
        obtain ⟨e161, he161, hM⟩ := bindS hM
        obtain ⟨b177, cb177, hvb177, cs165, hcs165, hcb177⟩ := hs.rowEl (i := 2) rfl hrelxs296 he161
        have hcs165 : cs165 = _ := hcs165; subst hcs165
        refine O (r_idxSl Try.underlying22 ti3 (v := v277) rfl hvb177 rfl (idxL_some he161).1 (idxL_some he161).2.1) rfl <| O (r_loadEl (cs := [Value.int .i64 e161]) ti3 rfl rfl (.inr rfl) (hcb177 _ (hs.at (i := 2) rfl)) (v := Value.int .i64 e161) rfl) rfl <| O (r_assign (v := Value.int .i64 e161) rfl) rfl <| OW_nil <| WP_region <| O (r_move (v := v381) rfl) rfl <| O (r_move (v := v364) rfl) rfl <| O (r_move (v := Value.int .i64 e161) rfl) rfl ?_
        obtain ⟨e162, he162, hM⟩ := bindS hM
        obtain ⟨b178, ob178, cb178, hvb178, cs166, hcs166, hcb178⟩ := hRv364.at he162
        have hcs166 : cs166 = _ := hcs166; subst hcs166
        refine O (r_idxSl Try.underlying22 ti3 (v := v364) rfl hvb178 rfl (idxL_some he162).1 (idxL_some he162).2.1) rfl <| O (r_loadEl (cs := [Value.int .i64 e162]) ti3 rfl rfl (.inr rfl) (hcb178 _ hs.imm) (v := Value.int .i64 e162) rfl) rfl <| OW_lit (τ := (tInt .i64)) [Value.int .i64 e162] [e162] Try.underlying22 ti3 (by decide) hs rfl rfl rfl ⟨rfl, trivial⟩ rfl ?_
        intro v385 wv239 xs408 hrelxs408 hs
        obtain ⟨y113, hy113, hM⟩ := bindS hM
        refine OW_append Try.underlying22 ti3 rfl (by decide) (by decide) hs (i := 1) rfl hrelxs404 (v := v381) rfl (u := v385) rfl (hs.rowSrc (i := 0) rfl) hrelxs408 hy113 rfl ?_
        intro v386 wv240 xs409 hrelxs409 hs
        refine O (r_assign (v := v386) rfl) rfl <| OW_nil <| WP_region ?_
        obtain ⟨t83, ht83, hM⟩ := bindS hM
        refine O (r_addM rfl rfl ht83) rfl <| O (r_move (v := Value.int .i64 t83) rfl) rfl <| OW_nil ?_
        obtain rfl := Option.some.inj hM
        exact ⟨v386, xs409, rfl, rfl, rfl, rfl, rfl, rfl, rfl, rfl, rfl, rfl, rfl, hds, hrelxs409, (hs.sub (.cons _ (.cons_cons _ (.cons_cons _ (.cons_cons _ (.cons_cons _ (.cons_cons _ (.cons_cons _ .slnil))))))))⟩
       ·refine WP_false rfl hc96 <| WP_exit ?_
        obtain rfl := Option.some.inj hM
        refine fun hr => ?_
        have hM := congrArg some hr
        obtain rfl := Option.some.inj hM
        exact ⟨v381, xs404, v279, xs298, v277, xs296, v278, xs297, rfl, rfl, rfl, rfl, rfl, rfl, rfl, hds, hrelxs404, hrelxs298, hrelxs296, hrelxs297, hs⟩
      ·clear hs
       rintro E w ⟨v377, xs399, v376, xs398, v374, xs396, v375, xs397, hE2, hE4, hE5, hE12, hE55, hE56, hE57, hds, hrelxs399, hrelxs398, hrelxs396, hrelxs397, hs⟩
       have hM := hKhx27
       obtain ⟨E, rfl⟩ := open7 (E := E) hE2 hE4 hE5 hE12 hE55 hE56 hE57
       refine WP_region <| O (r_fieldAddr Try.underlying25 ti23 rfl rfl (by decide) rfl rfl) rfl <| O (r_load (v := v376) ti23 rfl (hs.cell (i := 3) (o := 1) rfl rfl)) rfl <| O (r_move (v := v377) rfl) rfl ?_
       obtain ⟨gg25, hlegg25, hRgg25, hs⟩ := hs.relRow (i := 0) rfl hrelxs399
       replace hrelxs398 := hrelxs398.mono hlegg25
       replace hrelxs396 := hrelxs396.mono hlegg25
       replace hrelxs397 := hrelxs397.mono hlegg25
       replace hagg18 := hagg18.trans hlegg25
       refine OW_lit (τ := (tSl (tInt .i64))) [v377] [xv182] Try.underlying23 ti22 (by decide) hs rfl rfl rfl ⟨⟨v377, cells_one (by obtain ⟨_, _, h9⟩ := hRgg25.shape; rw [h9]; rfl), hRgg25⟩, trivial⟩ rfl ?_
       intro v387 wv241 xs410 hrelxs410 hs
       obtain ⟨y114, hy114, hM⟩ := bindS hM
       refine OW_append Try.underlying23 ti22 rfl (by decide) (by decide) hs (i := 1) rfl hrelxs398 (v := v376) rfl (u := v387) rfl (hs.rowSrc (i := 0) rfl) hrelxs410 hy114 rfl ?_
       intro v388 wv242 xs411 hrelxs411 hs
       refine O (r_fieldAddr Try.underlying25 ti23 rfl rfl (by decide) rfl rfl) rfl <| OW_store1 ti23 hs (i := 3) rfl rfl (v := v388) rfl (by obtain ⟨_, _, h9⟩ := hs.rowShape (i := 1) rfl; rw [h9]; rfl) (o := 1) (by simp) ?_
       intro wv243 hs
       refine OW_nil ?_
       obtain rfl := Option.some.inj hM
       exact ⟨gg25, v388, xs411, v374, xs396, v375, xs397, rfl, rfl, rfl, rfl, rfl, rfl, hds, hagg18, hrelxs411, hrelxs396, hrelxs397, (hs.sub (.cons _ (.cons_cons _ (.cons_cons _ (.cons_cons _ (.cons_cons _ (.cons_cons _ .slnil)))))))⟩
     ·clear hs
      rintro E w ⟨gg24, v363, xs385, v361, xs383, v362, xs384, hE2, hE4, hE5, hE55, hE56, hE57, hds, hlegg24, hrelxs385, hrelxs383, hrelxs384, hs⟩
      have hM := hKhx26
      obtain ⟨E, rfl⟩ := open6 (E := E) hE2 hE4 hE5 hE55 hE56 hE57
      replace hlegg18 := hlegg18.trans hlegg24
      refine WP_region ?_
      obtain ⟨t84, ht84, hM⟩ := bindS hM
      refine O (r_addM rfl rfl ht84) rfl <| O (r_move (v := Value.int .i64 t84) rfl) rfl <| OW_nil ?_
      obtain rfl := Option.some.inj hM
      exact ⟨gg24, v363, xs385, v361, xs383, v362, xs384, rfl, rfl, rfl, rfl, rfl, rfl, hds, hlegg18, hrelxs385, hrelxs383, hrelxs384, hs⟩
    ·refine WP_false rfl hc84 <| WP_exit ?_
     obtain rfl := Option.some.inj hM
     refine fun hr => ?_
     have hM := congrArg some hr
     obtain rfl := Option.some.inj hM
     exact ⟨gg18, v279, xs298, v278, xs297, rfl, rfl, hds, hlegg18, hrelxs298, hrelxs297, (hs.sub (.cons_cons _ (.cons _ (.cons_cons _ (.cons_cons _ (.cons_cons _ .slnil))))))⟩
   ·clear hs
    rintro E w ⟨gg13, v222, xs237, v221, xs236, hE2, hE5, hds, hlegg13, hrelxs237, hrelxs236, hs⟩
    have hM := hKhx18
    obtain ⟨E, rfl⟩ := open2 (E := E) hE2 hE5
    replace hRv3 := hRv3.mono hlegg13
    refine WP_seq <| WP_region <| O (r_loadN (cs := [v221, v222, v3]) ti25 rfl rfl (hs.cells (i := 1) rfl)) rfl <| OW_storeAll ti25 hs (i := 3) rfl rfl (v := Value.agg (List.toArray (α := Value) [v221, v222, v3])) rfl (vs := [v221, v222, v3]) rfl (one_cons (by obtain ⟨_, _, h9⟩ := hs.rowShape (i := 2) rfl; rw [h9]; rfl) (one_cons (by obtain ⟨_, _, h9⟩ := hs.rowShape (i := 0) rfl; rw [h9]; rfl) (one_cons (by obtain ⟨_, _, h9⟩ := hRv3.shape; rw [h9]; rfl) one_nil))) rfl rfl ?_
    intro wv244 hs
    refine OW_nil <| WP_ret ?_
    obtain rfl := Option.some.inj hM
    obtain ⟨gg26, hlegg26, hRgg26, hs⟩ := hs.relRow (i := 2) rfl hrelxs236
    replace hRv3 := hRv3.mono hlegg26
    replace hrelxs237 := hrelxs237.mono hlegg26
    obtain ⟨gg27, hlegg27, hRgg27, hs⟩ := hs.relRow (i := 0) rfl hrelxs237
    replace hRv3 := hRv3.mono hlegg27
    replace hRgg26 := hRgg26.mono hlegg27
    refine FL_nil hds ?_
    exact ⟨_, res1 Try.results34 (rv_cells (vs := [v221, v222, v3]) ti25 rfl rfl (hs.cells (i := 1) rfl)), gg27, ⟨[v221, v222, v3], rfl, ⟨[v221], [v222], [v3], rfl, ⟨_, rfl, hRgg26⟩, ⟨_, rfl, hRgg27⟩, ⟨_, rfl, hRv3⟩⟩⟩, hs.ext⟩

set_option maxRecDepth 100000 in
theorem dfa_live_1_ok {t1 : Int} {c1 : (List Bool)} {r : Bool} (hM : M.dfa_live_1 t1 c1 = some r) {g0 : Hp} {w0 : World} (hi : Imm g0 w0) {b1 : Nat} {cs1 : List Value} (hBb1 : IBox 88 b1 cs1 g0) (hcs1 : (tSl tBool).rel g0 cs1 c1) :
    CallsV Try.prog 66 #[Value.int .i64 t1, Value.pointer (some ⟨b1, 0, none⟩)] w0 (fun v w' => ∃ g', (VRd tBool false g' v r) ∧ Ext g0 w0 g' w') := by
 unfold M.dfa_live_1 at hM
 obtain ⟨v1, rfl, hRv1⟩ := hcs1
 have hs := Sep.start hi
 refine calls_of_WP (args := [Value.int .i64 t1, Value.pointer (some ⟨b1, 0, none⟩)]) Try.func66 rfl Try.ntmps66 rfl ?_
 have hds : (argEnv [Value.int .i64 t1, Value.pointer (some ⟨b1, 0, none⟩)]).ds = [] := rfl
 refine WP_seq <| WP_region <| O (r_assign (v := Value.bool false) rfl) rfl <| OW_nil ?_
 obtain ⟨e2, hx1, hKhx1⟩ := bindS hM
 refine WP_cut (fun E w => E 3 = Value.bool e2 ∧ E.ds = [] ∧ Go.Lx.Sep g0 w0 g0 w []) ?_ ?_
 ·have hM := hx1
  have hag0 := Hle.refl g0
  refine WP_region <| O (r_move (v := Value.int .i64 t1) rfl) rfl <| O (r_geq rfl rfl) rfl <| O (r_move (v := Value.bool (decide (0 ≤ t1))) rfl) rfl ?_
  rcases condS hM with ⟨hg2, hM⟩ | ⟨hg2, hM⟩
  ·refine OG rfl rfl rfl (by rw [hg2]; rfl) (r_loadEl (o := 0) (cs := [v1]) ti88 rfl rfl (.inr rfl) (hBb1.cells hs.imm) (v := v1) rfl) rfl <| OG rfl rfl rfl (by rw [hg2]; rfl) (r_move (v := Value.int .i64 t1) rfl) rfl ?_
   obtain ⟨e3, he3, hM⟩ := bindS hM
   obtain ⟨b3, ob3, cb3, hvb3, cs3, hcs3, hcb3⟩ := hRv1.at he3
   have hcs3 : cs3 = _ := hcs3; subst hcs3
   refine OG rfl rfl rfl (by rw [hg2]; rfl) (r_idxSl Try.underlying88 ti4 (v := v1) rfl hvb3 rfl (idxL_some he3).1 (idxL_some he3).2.1) rfl <| OG rfl rfl rfl (by rw [hg2]; rfl) (r_loadEl (cs := [Value.bool e3]) ti4 rfl rfl (.inr rfl) (hcb3 _ hs.imm) (v := Value.bool e3) rfl) rfl <| O (r_pickT (v := Value.bool e3) rfl hg2 rfl) rfl <| O (r_assign (v := Value.bool e3) rfl) rfl <| OW_nil ?_
   obtain rfl := Option.some.inj hM
   exact ⟨rfl, hds, hs⟩
  ·refine OK rfl rfl rfl (by rw [hg2]; rfl) rfl <| OK rfl rfl rfl (by rw [hg2]; rfl) rfl <| OK rfl rfl rfl (by rw [hg2]; rfl) rfl <| OK rfl rfl rfl (by rw [hg2]; rfl) rfl <| O (r_pickF (v := Value.bool false) rfl hg2 rfl) rfl <| O (r_assign (v := Value.bool false) rfl) rfl <| OW_nil ?_
   obtain rfl := Option.some.inj hM
   exact ⟨rfl, hds, hs⟩
 ·clear hs
  rintro E w ⟨hE3, hds, hs⟩
  have hM := hKhx1
  obtain ⟨E, rfl⟩ := open1 (E := E) hE3
  refine WP_ret ?_
  obtain rfl := Option.some.inj hM
  refine FL_nil hds ?_
  exact ⟨_, res1 Try.results66 (rv_tmp (v := Value.bool e2) rfl), g0, ⟨[Value.bool e2], rfl, rfl⟩, hs.ext⟩

set_option maxRecDepth 100000 in
theorem dfa_live_ok {d1 : T_DFA} {r : (List Bool)} (hM : M.dfa_live d1 = some r) {g0 : Hp} {w0 : World} (hi : Imm g0 w0) {cs1 : List Value} (hcs1 : tT_DFA.rel g0 cs1 d1) :
    CallsV Try.prog 55 #[Value.agg cs1.toArray] w0 (fun v w' => ∃ g' y0, (RowRel tBool g' y0 r) ∧ Sep g0 w0 g' w' [.row v 4 tBool.sz r.length y0]) := by
 unfold M.dfa_live at hM
 obtain ⟨cs2, cs3, cs4, rfl, hcs2, hcs3, hcs4⟩ := hcs1
 obtain ⟨v1, rfl, hRv1⟩ := hcs2
 obtain ⟨v2, rfl, hRv2⟩ := hcs3
 obtain ⟨v3, rfl, hRv3⟩ := hcs4
 have hs := Sep.start hi
 refine calls_of_WP (args := [Value.agg (List.toArray (α := Value) [v1, v2, v3])]) Try.func55 rfl Try.ntmps55 rfl ?_
 have hds : (argEnv [Value.agg (List.toArray (α := Value) [v1, v2, v3])]).ds = [] := rfl
 refine WP_seq <| WP_region <| OW_box (v := Value.agg (List.toArray (α := Value) [v1, v2, v3])) rfl hs (zs := [v1, v2, v3]) rfl rfl ?_
 intro b1 wv1 hs
 refine O (r_assign (v := Value.slice none 0 0) rfl) rfl <| OW_nil <| WP_seq <| WP_region <| O (r_fieldAddr Try.underlying25 ti23 rfl rfl (by decide) rfl rfl) rfl <| O (r_load (v := v2) ti23 rfl (hs.cell (i := 0) (o := 1) rfl rfl)) rfl ?_
 obtain ⟨a1, ca1, hva1⟩ := hRv2.shape
 refine O (r_lenSl (v := v2) Try.underlying23 rfl hva1) rfl ?_
 obtain ⟨l1, hl1, hM⟩ := bindS hM
 refine OW_make (τ := tBool) (zc := [Value.bool false]) (zx := false) Try.underlying88 ti4 rfl rfl (by decide) hs rfl rfl hl1 rfl ?_
 intro v4 wv2 xs1 hrelxs1 hs
 refine OW_alloc ti88 hs (zs := [Value.slice none 0 0]) rfl rfl ?_
 intro b2 wv3 hs
 refine OW_store1 ti88 hs (i := 0) rfl rfl (v := v4) rfl (by obtain ⟨_, _, h9⟩ := hs.rowShape (i := 1) rfl; rw [h9]; rfl) (o := 0) (Nat.zero_lt_succ _) ?_
 intro wv4 hs
 refine OW_nil ?_
 obtain ⟨l5, hx1, hKhx1⟩ := bindS hM
 refine WP_cut (fun E w => ∃ (v8 : Value) (xs8 : List Value), E 1 = Value.pointer (some ⟨b1, 0, none⟩) ∧ E 3 = Value.pointer (some ⟨b2, 0, none⟩) ∧ E.ds = [] ∧ RowRel tBool g0 xs8 l5 ∧ Go.Lx.Sep g0 w0 g0 w [Go.Lx.box b2 88 ([v8]), .row v8 4 tBool.sz l5.length xs8, Go.Lx.box b1 25 ([v1, v2, v3])]) ?_ ?_
 ·have hM := hx1
  have hag0 := Hle.refl g0
  refine WP_seq <| WP_region <| O (r_fieldAddr Try.underlying25 ti22 rfl rfl (by decide) rfl rfl) rfl <| O (r_load (v := v3) ti22 rfl (hs.cell (i := 2) (o := 2) rfl rfl)) rfl ?_
  obtain ⟨a3, ca3, hva3⟩ := hRv3.shape
  refine O (r_lenSl (v := v3) Try.underlying22 rfl hva3) rfl <| O (r_move (v := Value.int .i64 0) rfl) rfl <| OW_nil <| WP_block <| WP_loop (fun (st9 : (List Bool) × Int) E w => match st9 with | (l7, xv5) => ∃ (v10 : Value) (xs11 : List Value), E 1 = Value.pointer (some ⟨b1, 0, none⟩) ∧ E 3 = Value.pointer (some ⟨b2, 0, none⟩) ∧ E 14 = v3 ∧ E 15 = Value.int .i64 (d1.Accept.length : Int) ∧ E 16 = Value.int .i64 xv5 ∧ E.ds = [] ∧ RowRel tBool g0 xs11 l7 ∧ Go.Lx.Sep g0 w0 g0 w [Go.Lx.box b2 88 ([v10]), .row v10 4 tBool.sz l7.length xs11, Go.Lx.box b1 25 ([v1, v2, v3])]) hM ⟨v4, xs1, rfl, rfl, rfl, rfl, rfl, hds, hrelxs1, hs⟩ ?_
  clear hs hM
  rintro ⟨l7, xv5⟩ o2 E w hM ⟨v10, xs11, hE1, hE3, hE14, hE15, hE16, hds, hrelxs11, hs⟩
  obtain ⟨E, rfl⟩ := open5 (E := E) hE1 hE3 hE14 hE15 hE16
  refine WP_seq <| WP_region <| O (r_lss rfl rfl) rfl <| OW_nil <| WP_seq ?_
  rcases condS hM with ⟨hc6, hM⟩ | ⟨hc6, hM⟩
  ·refine WP_true rfl hc6 <| WP_skip <| WP_seq <| WP_block <| WP_seq <| WP_region <| O (r_move (v := Value.int .i64 xv5) rfl) rfl ?_
   obtain ⟨e6, he6, hM⟩ := bindS hM
   obtain ⟨b13, ob13, cb13, hvb13, cs10, hcs10, hcb13⟩ := hRv3.at he6
   have hcs10 : cs10 = _ := hcs10; subst hcs10
   refine O (r_idxSl Try.underlying22 ti3 (v := v3) rfl hvb13 rfl (idxL_some he6).1 (idxL_some he6).2.1) rfl <| O (r_loadEl (cs := [Value.int .i64 e6]) ti3 rfl rfl (.inr rfl) (hcb13 _ hs.imm) (v := Value.int .i64 e6) rfl) rfl <| O (r_assign (v := Value.int .i64 xv5) rfl) rfl <| O (r_assign (v := Value.int .i64 e6) rfl) rfl <| OW_nil <| WP_region <| O (r_load (v := v10) ti88 rfl (hs.cell (i := 0) (o := 0) rfl rfl)) rfl <| O (r_move (v := Value.int .i64 xv5) rfl) rfl <| O (r_move (v := Value.int .i64 e6) rfl) rfl <| O (r_geq rfl rfl) rfl ?_
   obtain ⟨y6, hy6, hM⟩ := bindS hM
   obtain ⟨b14, cb14, hvb14, wv10, xs14, hstb14, hrelb14, hsb14⟩ := hs.rowPut (i := 1) rfl hrelxs11 hy6 (cs := [Value.bool (decide (0 ≤ e6))]) rfl
   refine O (r_idxSl Try.underlying88 ti4 (v := v10) rfl hvb14 rfl (setL_some hy6).1 (setL_some hy6).2.1) rfl <| O0 (r_store ti4 rfl (v := Value.bool (decide (0 ≤ e6))) rfl rfl hstb14) ?_
   have hs := hsb14
   refine OW_nil <| WP_region ?_
   obtain ⟨t6, ht6, hM⟩ := bindS hM
   refine O (r_addM rfl rfl ht6) rfl <| O (r_move (v := Value.int .i64 t6) rfl) rfl <| OW_nil ?_
   obtain rfl := Option.some.inj hM
   exact ⟨v10, xs14, rfl, rfl, rfl, rfl, rfl, hds, hrelb14, hs⟩
  ·refine WP_false rfl hc6 <| WP_exit ?_
   obtain rfl := Option.some.inj hM
   refine fun hr => ?_
   have hM := congrArg some hr
   obtain rfl := Option.some.inj hM
   exact ⟨v10, xs11, rfl, rfl, hds, hrelxs11, hs⟩
 ·clear hs
  rintro E w ⟨v8, xs8, hE1, hE3, hds, hrelxs8, hs⟩
  have hM := hKhx1
  obtain ⟨E, rfl⟩ := open2 (E := E) hE1 hE3
  obtain ⟨l21, hx29, hKhx29⟩ := bindS hM
  refine WP_cut (fun E w => ∃ (gg184 : Hp) (v87 : Value) (xs54 : List Value), E 3 = Value.pointer (some ⟨b2, 0, none⟩) ∧ E.ds = [] ∧ Hle g0 gg184 ∧ RowRel tBool gg184 xs54 l21 ∧ Go.Lx.Sep g0 w0 gg184 w [Go.Lx.box b2 88 ([v87]), .row v87 4 tBool.sz l21.length xs54]) ?_ ?_
  ·have hM := hx29
   have hag0 := Hle.refl g0
   refine WP_seq <| WP_region <| O (r_assign (v := Value.bool true) rfl) rfl <| OW_nil <| WP_block <| WP_loop (fun (st9 : (List Bool) × Bool) E w => match st9 with | (l26, more29) => ∃ (gg246 : Hp) (v113 : Value) (xs68 : List Value), E 1 = Value.pointer (some ⟨b1, 0, none⟩) ∧ E 3 = Value.pointer (some ⟨b2, 0, none⟩) ∧ E 6 = Value.bool more29 ∧ E.ds = [] ∧ Hle g0 gg246 ∧ RowRel tBool gg246 xs68 l26 ∧ Go.Lx.Sep g0 w0 gg246 w [Go.Lx.box b2 88 ([v113]), .row v113 4 tBool.sz l26.length xs68, Go.Lx.box b1 25 ([v1, v2, v3])]) hM ⟨g0, v8, xs8, rfl, rfl, rfl, hds, (Hle.refl _), hrelxs8, hs⟩ ?_
   clear hs hM
   rintro ⟨l26, more29⟩ o9 E w hM ⟨gg246, v113, xs68, hE1, hE3, hE6, hds, hlegg246, hrelxs68, hs⟩
   obtain ⟨E, rfl⟩ := open3 (E := E) hE1 hE3 hE6
   replace hRv2 := hRv2.mono hlegg246
   have hagg246 := Hle.refl gg246
   refine WP_seq <| WP_seq <| WP_region <| O (r_move (v := Value.bool more29) rfl) rfl <| OW_nil ?_
   rcases condS hM with ⟨hc55, hM⟩ | ⟨hc55, hM⟩
   ·refine WP_true rfl hc55 <| WP_skip <| WP_block <| WP_seq <| WP_region <| O (r_assign (v := Value.bool false) rfl) rfl <| OW_nil <| WP_seq <| WP_region <| O (r_fieldAddr Try.underlying25 ti23 rfl rfl (by decide) rfl rfl) rfl <| O (r_load (v := v2) ti23 rfl (hs.cell (i := 2) (o := 1) rfl rfl)) rfl ?_
    obtain ⟨a9, ca9, hva9⟩ := hRv2.shape
    refine O (r_lenSl (v := v2) Try.underlying23 rfl hva9) rfl <| O (r_move (v := Value.int .i64 0) rfl) rfl <| OW_nil <| WP_block <| WP_loop (fun (st9 : (List Bool) × Bool × Int) E w => match st9 with | (l32, more39, xv23) => ∃ (gg328 : Hp) (v147 : Value) (xs86 : List Value), E 1 = Value.pointer (some ⟨b1, 0, none⟩) ∧ E 3 = Value.pointer (some ⟨b2, 0, none⟩) ∧ E 6 = Value.bool more39 ∧ E 29 = v2 ∧ E 30 = Value.int .i64 (d1.Next.length : Int) ∧ E 31 = Value.int .i64 xv23 ∧ E.ds = [] ∧ Hle gg246 gg328 ∧ RowRel tBool gg328 xs86 l32 ∧ Go.Lx.Sep g0 w0 gg328 w [Go.Lx.box b2 88 ([v147]), .row v147 4 tBool.sz l32.length xs86, Go.Lx.box b1 25 ([v1, v2, v3])]) hM ⟨gg246, v113, xs68, rfl, rfl, rfl, rfl, rfl, rfl, hds, (Hle.refl _), hrelxs68, hs⟩ ?_
    clear hs hM
    rintro ⟨l32, more39, xv23⟩ o10 E w hM ⟨gg328, v147, xs86, hE1, hE3, hE6, hE29, hE30, hE31, hds, hlegg328, hrelxs86, hs⟩
    obtain ⟨E, rfl⟩ := open6 (E := E) hE1 hE3 hE6 hE29 hE30 hE31
    replace hRv2 := hRv2.mono hlegg328
    replace hlegg246 := hlegg246.trans hlegg328
    have hagg328 := Hle.refl gg328
    refine WP_seq <| WP_region <| O (r_lss rfl rfl) rfl <| OW_nil <| WP_seq ?_
    rcases condS hM with ⟨hc62, hM⟩ | ⟨hc62, hM⟩
    ·refine WP_true rfl hc62 <| WP_skip ?_
     obtain ⟨⟨y59, more42⟩, hx55, hKhx55⟩ := bindS hM
     refine WP_cut (fun E w => ∃ (gg358 : Hp) (v159 : Value) (xs92 : List Value), E 1 = Value.pointer (some ⟨b1, 0, none⟩) ∧ E 3 = Value.pointer (some ⟨b2, 0, none⟩) ∧ E 6 = Value.bool more42 ∧ E 29 = v2 ∧ E 30 = Value.int .i64 (d1.Next.length : Int) ∧ E 31 = Value.int .i64 xv23 ∧ E.ds = [] ∧ Hle gg328 gg358 ∧ RowRel tBool gg358 xs92 y59 ∧ Go.Lx.Sep g0 w0 gg358 w [Go.Lx.box b2 88 ([v159]), .row v159 4 tBool.sz y59.length xs92, Go.Lx.box b1 25 ([v1, v2, v3])]) ?_ ?_
     ·have hM := hx55
      refine WP_block <| WP_seq <| WP_region <| O (r_move (v := Value.int .i64 xv23) rfl) rfl ?_
      obtain ⟨e112, he112, hM⟩ := bindS hM
      obtain ⟨b155, ob155, cb155, hvb155, cs186, hcs186, hcb155⟩ := hRv2.at he112
      obtain ⟨v160, rfl, hRv160⟩ := hcs186
      refine O (r_idxSl Try.underlying23 ti22 (v := v2) rfl hvb155 rfl (idxL_some he112).1 (idxL_some he112).2.1) rfl <| O (r_loadEl (cs := [v160]) ti22 rfl rfl (.inr rfl) (hcb155 _ hs.imm) (v := v160) rfl) rfl <| O (r_assign (v := Value.int .i64 xv23) rfl) rfl <| O (r_assign (v := v160) rfl) rfl <| OW_nil ?_
      obtain ⟨rv107, hx56, hKhx56⟩ := bindS hM
      refine WP_cut (fun E w => ∃ (gg363 : Hp), E 1 = Value.pointer (some ⟨b1, 0, none⟩) ∧ E 3 = Value.pointer (some ⟨b2, 0, none⟩) ∧ E 6 = Value.bool more39 ∧ E 7 = Value.int .i64 xv23 ∧ E 29 = v2 ∧ E 30 = Value.int .i64 (d1.Next.length : Int) ∧ E 31 = Value.int .i64 xv23 ∧ E 45 = Value.bool rv107 ∧ E.ds = [] ∧ Hle gg328 gg363 ∧ Go.Lx.Sep g0 w0 gg363 w [Go.Lx.box b2 88 ([v147]), .row v147 4 tBool.sz l32.length xs86, Go.Lx.box b1 25 ([v1, v2, v3])]) ?_ ?_
      ·have hM := hx56
       refine WP_region <| O (r_load (v := v147) ti88 rfl (hs.cell (i := 0) (o := 0) rfl rfl)) rfl <| O (r_move (v := Value.int .i64 xv23) rfl) rfl ?_
       obtain ⟨e114, he114, hM⟩ := bindS hM
       obtain ⟨b157, cb157, hvb157, cs189, hcs189, hcb157⟩ := hs.rowEl (i := 1) rfl hrelxs86 he114
       have hcs189 : cs189 = _ := hcs189; subst hcs189
       refine O (r_idxSl Try.underlying88 ti4 (v := v147) rfl hvb157 rfl (idxL_some he114).1 (idxL_some he114).2.1) rfl <| O (r_loadEl (cs := [Value.bool e114]) ti4 rfl rfl (.inr rfl) (hcb157 _ (hs.at (i := 1) rfl)) (v := Value.bool e114) rfl) rfl <| O (r_not rfl) rfl <| O (r_move (v := Value.bool (!e114)) rfl) rfl ?_
       rcases condS hM with ⟨hg72, hM⟩ | ⟨hg72, hM⟩
       ·refine OG rfl rfl rfl (by rw [hg72]; rfl) (r_move (v := v160) rfl) rfl <| OG rfl rfl rfl (by rw [hg72]; rfl) (r_makeFunc (vs := [Value.pointer (some ⟨b2, 0, none⟩)]) rfl) rfl ?_
        have hsL72 := hs
        have hagg328L72 := hagg328
        obtain ⟨gg364, hlegg364, hRgg364, hs⟩ := hs.relRow (i := 1) rfl hrelxs86
        replace hRv160 := hRv160.mono hlegg364
        replace hagg328 := hagg328.trans hlegg364
        obtain ⟨gg365, hlegg365, hBgg365, hs⟩ := hs.relBox (i := 0) rfl
        replace hRv160 := hRv160.mono hlegg365
        replace hRgg364 := hRgg364.mono hlegg365
        replace hagg328 := hagg328.trans hlegg365
        obtain ⟨rv108, hrv108, hM⟩ := bindS hM
        refine CG rfl rfl rfl (by rw [hg72]; rfl) [v160, Value.func (.func 66) #[] (List.toArray [Value.pointer (some ⟨b2, 0, none⟩)])] cf27 rfl (slices_ContainsFunc_int_int_ok hrv108 hs.imm hRv160 (show FnRd1 Try.prog (VRd (tInt .i64) false) (VRd tBool false) (Value.func (.func 66) #[] (List.toArray [Value.pointer (some ⟨b2, 0, none⟩)])) (fun x901 => M.dfa_live_1 x901 l32) gg365 from ⟨66, [Value.pointer (some ⟨b2, 0, none⟩)], rfl, cf66, fun g9 w9 a90 x90 r9 hle9 hi9 ha90 hM9 => by obtain ⟨c90, rfl, ha90⟩ := ha90; have ha90 : c90 = _ := ha90; subst ha90; exact dfa_live_1_ok hM9 hi9 (hBgg365.mono hle9) ((tSl tBool).mono hle9 (⟨_, rfl, hRgg364⟩))⟩)) rfl ?_
        rintro v162 wv117 ⟨gg366, hvv162, hegg366⟩
        obtain ⟨gg367, hlegg367, hs⟩ := hsL72.lent hegg366
        replace hagg328 := hagg328L72.trans hlegg367
        obtain ⟨cs190, rfl, hcs190⟩ := hvv162
        have hcs190 : cs190 = _ := hcs190; subst hcs190
        refine O (r_pickT (v := Value.bool rv108) rfl hg72 rfl) rfl <| OW_nil ?_
        obtain rfl := Option.some.inj hM
        exact ⟨gg367, rfl, rfl, rfl, rfl, rfl, rfl, rfl, rfl, hds, hagg328, hs⟩
       ·refine OK rfl rfl rfl (by rw [hg72]; rfl) rfl <| OK rfl rfl rfl (by rw [hg72]; rfl) rfl <| OK rfl rfl rfl (by rw [hg72]; rfl) rfl <| O (r_pickF (v := Value.bool false) rfl hg72 rfl) rfl <| OW_nil ?_
        obtain rfl := Option.some.inj hM
        exact ⟨gg328, rfl, rfl, rfl, rfl, rfl, rfl, rfl, rfl, hds, (Hle.refl _), hs⟩
      ·clear hs
       rintro E w ⟨gg363, hE1, hE3, hE6, hE7, hE29, hE30, hE31, hE45, hds, hlegg363, hs⟩
       have hM := hKhx56
       obtain ⟨E, rfl⟩ := open8 (E := E) hE1 hE3 hE6 hE7 hE29 hE30 hE31 hE45
       replace hrelxs86 := hrelxs86.mono hlegg363
       replace hagg328 := hagg328.trans hlegg363
       rcases condS hM with ⟨hc64, hM⟩ | ⟨hc64, hM⟩
       ·refine WP_true rfl hc64 <| WP_region <| O (r_load (v := v147) ti88 rfl (hs.cell (i := 0) (o := 0) rfl rfl)) rfl <| O (r_move (v := Value.int .i64 xv23) rfl) rfl ?_
        obtain ⟨y60, hy60, hM⟩ := bindS hM
        obtain ⟨b158, cb158, hvb158, wv118, xs93, hstb158, hrelb158, hsb158⟩ := hs.rowPut (i := 1) rfl hrelxs86 hy60 (cs := [Value.bool true]) rfl
        refine O (r_idxSl Try.underlying88 ti4 (v := v147) rfl hvb158 rfl (setL_some hy60).1 (setL_some hy60).2.1) rfl <| O0 (r_store ti4 rfl (v := Value.bool true) rfl rfl hstb158) ?_
        have hs := hsb158
        refine O (r_assign (v := Value.bool true) rfl) rfl <| OW_nil ?_
        simp only [Option.some.injEq, Prod.mk.injEq] at hM
        obtain ⟨rfl, rfl⟩ := hM
        exact ⟨gg363, v147, xs93, rfl, rfl, rfl, rfl, rfl, rfl, hds, hagg328, hrelb158, hs⟩
       ·refine WP_false rfl hc64 <| WP_skip ?_
        simp only [Option.some.injEq, Prod.mk.injEq] at hM
        obtain ⟨rfl, rfl⟩ := hM
        exact ⟨gg363, v147, xs86, rfl, rfl, rfl, rfl, rfl, rfl, hds, hagg328, hrelxs86, hs⟩
     ·clear hs
      rintro E w ⟨gg358, v159, xs92, hE1, hE3, hE6, hE29, hE30, hE31, hds, hlegg358, hrelxs92, hs⟩
      have hM := hKhx55
      obtain ⟨E, rfl⟩ := open6 (E := E) hE1 hE3 hE6 hE29 hE30 hE31
      replace hlegg328 := hlegg328.trans hlegg358
      refine WP_region ?_
      obtain ⟨t24, ht24, hM⟩ := bindS hM
      refine O (r_addM rfl rfl ht24) rfl <| O (r_move (v := Value.int .i64 t24) rfl) rfl <| OW_nil ?_
      obtain rfl := Option.some.inj hM
      exact ⟨gg358, v159, xs92, rfl, rfl, rfl, rfl, rfl, rfl, hds, hlegg328, hrelxs92, hs⟩
    ·refine WP_false rfl hc62 <| WP_exit ?_
     obtain rfl := Option.some.inj hM
     refine fun hr => ?_
     have hM := congrArg some hr
     obtain rfl := Option.some.inj hM
     exact ⟨gg328, v147, xs86, rfl, rfl, rfl, hds, hlegg246, hrelxs86, hs⟩
   ·refine WP_false rfl hc55 <| WP_exit ?_
    obtain rfl := Option.some.inj hM
    refine fun hr => ?_
    have hM := congrArg some hr
    obtain rfl := Option.some.inj hM
    exact ⟨gg246, v113, xs68, rfl, hds, hlegg246, hrelxs68, (hs.sub (.cons_cons _ (.cons_cons _ (.cons _ .slnil))))⟩
  ·clear hs
   rintro E w ⟨gg184, v87, xs54, hE3, hds, hlegg184, hrelxs54, hs⟩
   have hM := hKhx29
   obtain ⟨E, rfl⟩ := open1 (E := E) hE3
   refine WP_seq <| WP_region <| O (r_load (v := v87) ti88 rfl (hs.cell (i := 0) (o := 0) rfl rfl)) rfl <| O (r_assign (v := v87) rfl) rfl <| OW_nil <| WP_ret ?_
   obtain rfl := Option.some.inj hM
   refine FL_nil hds ?_
   exact ⟨_, res1 Try.results55 (rv_tmp (v := v87) rfl), gg184, xs54, hrelxs54, (hs.sub (.cons _ (.cons_cons _ .slnil)))⟩

set_option maxRecDepth 100000 in
theorem slices_Clone_int_int_ok {s1 : (List Int)} {r : (List Int)} (hM : M.slices_Clone_int_int s1 = some r) {g0 : Hp} {w0 : World} (hi : Imm g0 w0) {v1 : Value} (hRv1 : RdS (tInt .i64) g0 v1 s1) :
    CallsV Try.prog 56 #[v1] w0 (fun v w' => ∃ g' y0, (RowRel (tInt .i64) g' y0 r) ∧ Sep g0 w0 g' w' [.row v 3 (tInt .i64).sz r.length y0]) := by
 unfold M.slices_Clone_int_int at hM
 have hs := Sep.start hi
 refine calls_of_WP (args := [v1]) Try.func56 rfl Try.ntmps56 rfl ?_
 have hds : (argEnv [v1]).ds = [] := rfl
 refine WP_seq <| WP_region <| O (r_assign (v := Value.slice none 0 0) rfl) rfl <| OW_nil <| WP_seq <| WP_seq <| WP_region <| O (r_move (v := v1) rfl) rfl ?_
 obtain ⟨a1, ca1, hva1⟩ := hRv1.shape
 refine O (r_eqlNil (v := v1) Try.underlying22 rfl hva1 rfl) rfl <| OW_nil ?_
 rcases truth_cases a1.isNone with hn1 | hn1
 ·obtain rfl := Option.isNone_iff_eq_none.1 hn1
  have hl9 : s1 = [] := RdS.none_nil hRv1 hva1
  have hM : (some []) = some r := by rw [hl9] at hM; simpa [appM] using hM
  refine WP_true rfl rfl <| WP_seq <| WP_region <| O (r_assign (v := Value.slice none 0 0) rfl) rfl <| OW_nil <| WP_ret ?_
  obtain rfl := Option.some.inj hM
  have hs := hs.nilRow 3 (tInt .i64).sz
  have hn0 : RowRel (tInt .i64) g0 [] [] := RowRel.nil
  refine FL_nil hds ?_
  exact ⟨_, res1 Try.results56 (rv_tmp (v := (Value.slice none 0 0)) rfl), g0, [], hn0, hs⟩
 ·refine WP_false rfl hn1 <| WP_skip <| WP_seq <| WP_region <| OW_lit (τ := (tInt .i64)) [] [] Try.underlying22 ti3 (by decide) hs rfl rfl rfl trivial rfl ?_
  intro v2 wv1 xs1 hrelxs1 hs
  refine O (r_move (v := v1) rfl) rfl ?_
  obtain ⟨xs2, hrxs2, hlxs2⟩ := (id hRv1)
  obtain ⟨y1, hy1, hM⟩ := bindS hM
  refine OW_append Try.underlying22 ti3 rfl (by decide) (by decide) hs (i := 0) rfl hrelxs1 (v := v2) rfl (u := v1) rfl (hlxs2.src hs.imm) hrxs2 hy1 rfl ?_
  intro v3 wv2 xs3 hrelxs3 hs
  refine O (r_assign (v := v3) rfl) rfl <| OW_nil <| WP_ret ?_
  obtain rfl := Option.some.inj hM
  refine FL_nil hds ?_
  exact ⟨_, res1 Try.results56 (rv_tmp (v := v3) rfl), g0, xs3, hrelxs3, hs⟩


end Go.Proofs.Ytogpainomdfpnaa
