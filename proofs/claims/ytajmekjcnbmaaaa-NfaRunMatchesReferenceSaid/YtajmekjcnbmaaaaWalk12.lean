/- The walks: what each function does is what its model says. Printed by a program of my own. -/
import Derived.Test.YtajmekjcnbmaaaaTyp
import Derived.Test.YtajmekjcnbmaaaaWalk7
import Derived.Test.YtajmekjcnbmaaaaWalk9
import Derived.Test.YtajmekjcnbmaaaaWalk10
set_option linter.unusedVariables false
set_option linter.unusedSimpArgs false
namespace Go.Proofs.Ytajmekjcnbmaaaa
open Go.Lx Go.RowKit
set_option maxRecDepth 100000 in
theorem ref09_Run_ok {nv1 : T_NFA} {s1 : Str} {r : Int} (hM : M.ref09_Run nv1 s1 = some r) {g0 : Hp} {w0 : World} (hi : Imm g0 w0) {cs1 : List Value} (hcs1 : tT_NFA.rel g0 cs1 nv1) :
    CallsV Try.prog 21 #[Value.agg cs1.toArray, encS s1] w0 (fun v w' => ∃ g', (VRd (tInt .i64) false g' v r) ∧ Ext g0 w0 g' w') := by
 unfold M.ref09_Run at hM
 obtain ⟨cs2, cs3, cs4, cs5, rfl, hcs2, hcs3, hcs4, hcs5⟩ := hcs1
 have hcs2 : cs2 = _ := hcs2; subst hcs2
 have hcs3 : cs3 = _ := hcs3; subst hcs3
 obtain ⟨v1, rfl, hRv1⟩ := hcs4
 obtain ⟨v2, rfl, hRv2⟩ := hcs5
 have hs := Sep.start hi
 refine calls_of_WP (args := [Value.agg (List.toArray (α := Value) [Value.int .i64 nv1.States, Value.int .i64 nv1.Start, v1, v2]), encS s1]) Try.func21 rfl Try.ntmps21 rfl ?_
 have hds : (argEnv [Value.agg (List.toArray (α := Value) [Value.int .i64 nv1.States, Value.int .i64 nv1.Start, v1, v2]), encS s1]).ds = [] := rfl
 refine WP_seq <| WP_region <| OW_box (v := Value.agg (List.toArray (α := Value) [Value.int .i64 nv1.States, Value.int .i64 nv1.Start, v1, v2])) rfl hs (zs := [Value.int .i64 nv1.States, Value.int .i64 nv1.Start, v1, v2]) rfl rfl ?_
 intro b1 wv1 hs
 refine O (r_assign (v := Value.int .i64 0) rfl) rfl <| OW_nil <| WP_seq <| WP_region <| O (r_loadN (cs := [Value.int .i64 nv1.States, Value.int .i64 nv1.Start, v1, v2]) ti25 rfl rfl (hs.cells (i := 0) rfl)) rfl <| O (r_fieldAddr Try.underlying25 ti3 rfl rfl (by decide) rfl rfl) rfl <| O (r_load (v := Value.int .i64 nv1.Start) ti3 rfl (hs.cell (i := 0) (o := 1) rfl rfl)) rfl <| OW_lit (τ := (tInt .i64)) [Value.int .i64 nv1.Start] [nv1.Start] Try.underlying23 ti3 (by decide) hs rfl rfl rfl ⟨rfl, trivial⟩ rfl ?_
 intro v3 wv2 xs1 hrelxs1 hs
 have hsL1 := hs
 have hRv1L1 := hRv1
 have hRv2L1 := hRv2
 obtain ⟨gg1, hlegg1, hRgg1, hs⟩ := hs.relRow (i := 0) rfl hrelxs1
 replace hRv1 := hRv1.mono hlegg1
 replace hRv2 := hRv2.mono hlegg1
 obtain ⟨l1, hl1, hM⟩ := bindS hM
 refine C [Value.agg (List.toArray (α := Value) [Value.int .i64 nv1.States, Value.int .i64 nv1.Start, v1, v2]), v3] cf17 rfl (ref09_Closure_ok hl1 hs.imm (⟨[Value.int .i64 nv1.States], [Value.int .i64 nv1.Start], [v1], [v2], rfl, rfl, rfl, ⟨_, rfl, hRv1⟩, ⟨_, rfl, hRv2⟩⟩) hRgg1) rfl ?_
 rintro v4 wv3 ⟨gg2, xs2, hvv4, hegg2⟩
 obtain ⟨gg3, hlegg3, hs⟩ := hsL1.lentOwn hegg2
 simp only [List.cons_append, List.nil_append] at hs
 have hvv4 : RowRel (tInt .i64) gg3 xs2 l1 := RowRel.flat (fun _ _ _ _ h => h) hvv4
 replace hRv1 := hRv1L1.mono hlegg3
 replace hRv2 := hRv2L1.mono hlegg3
 refine O (r_assign (v := v4) rfl) rfl <| OW_nil ?_
 obtain ⟨l8, hx1, hKhx1⟩ := bindS hM
 refine WP_cut (fun E w => ∃ (gg16 : Hp) (v11 : Value) (xs9 : List Value), E 2 = Value.pointer (some ⟨b1, 0, none⟩) ∧ E 5 = v11 ∧ E.ds = [] ∧ Hle gg3 gg16 ∧ RowRel (tInt .i64) gg16 xs9 l8 ∧ Go.Lx.Sep g0 w0 gg16 w [.row v11 3 (tInt .i64).sz l8.length xs9, Go.Lx.box b1 25 ([Value.int .i64 nv1.States, Value.int .i64 nv1.Start, v1, v2])]) ?_ ?_
 ·have hM := hx1
  have hagg3 := Hle.refl gg3
  refine WP_seq <| WP_region <| O (r_assign (v := Value.int .i64 0) rfl) rfl <| OW_nil <| WP_block <| WP_loop (fun (st9 : (List Int) × Int) E w => match st9 with | (l11, i5) => ∃ (gg21 : Hp) (v14 : Value) (xs12 : List Value), E 1 = encS s1 ∧ E 2 = Value.pointer (some ⟨b1, 0, none⟩) ∧ E 5 = v14 ∧ E 6 = Value.int .i64 i5 ∧ E.ds = [] ∧ Hle gg3 gg21 ∧ RowRel (tInt .i64) gg21 xs12 l11 ∧ Go.Lx.Sep g0 w0 gg21 w [.row v14 3 (tInt .i64).sz l11.length xs12, Go.Lx.box b1 25 ([Value.int .i64 nv1.States, Value.int .i64 nv1.Start, v1, v2])]) hM ⟨gg3, v4, xs2, rfl, rfl, rfl, rfl, hds, (Hle.refl _), hvv4, (hs.sub (.cons_cons _ (.cons _ (.cons_cons _ .slnil))))⟩ ?_
  clear hs hM
  rintro ⟨l11, i5⟩ o2 E w hM ⟨gg21, v14, xs12, hE1, hE2, hE5, hE6, hds, hlegg21, hrelxs12, hs⟩
  obtain ⟨E, rfl⟩ := open4 (E := E) hE1 hE2 hE5 hE6
  replace hRv1 := hRv1.mono hlegg21
  replace hRv2 := hRv2.mono hlegg21
  have hagg21 := Hle.refl gg21
  refine WP_seq <| WP_seq <| WP_region <| O (r_move (v := Value.int .i64 i5) rfl) rfl <| O (r_move (v := encS s1) rfl) rfl <| O (r_lenStr Try.underlying9 rfl) rfl <| O (r_lss rfl rfl) rfl <| OW_nil ?_
  rcases condS hM with ⟨hc6, hM⟩ | ⟨hc6, hM⟩
  ·refine WP_true rfl hc6 <| WP_skip <| WP_seq <| WP_block <| WP_drawTail 5 mo (by decide +kernel) ?_
   have hs := hs.drew
   refine S (r_loadN (cs := [Value.int .i64 nv1.States, Value.int .i64 nv1.Start, v1, v2]) ti25 rfl rfl (hs.cells (i := 1) rfl)) rfl <| S (r_move (v := v14) rfl) rfl <| S (r_move (v := encS s1) rfl) rfl <| S (r_move (v := Value.int .i64 i5) rfl) rfl ?_
   obtain ⟨c6, hc6, hM⟩ := bindS hM
   refine S (r_idxStr Try.underlying9 rfl rfl hc6) rfl <| SW_nil ?_
   have hsL7 := hs
   have hlegg21L7 := hlegg21
   obtain ⟨gg26, hlegg26, hRgg26, hs⟩ := hs.relRow (i := 0) rfl hrelxs12
   replace hRv1 := hRv1.mono hlegg26
   replace hRv2 := hRv2.mono hlegg26
   replace hlegg21 := hlegg21.trans hlegg26
   obtain ⟨l14, hl14, hM⟩ := bindS hM
   refine C [Value.agg (List.toArray (α := Value) [Value.int .i64 nv1.States, Value.int .i64 nv1.Start, v1, v2]), v14, Value.int .u8 c6] cf19 rfl (ref09_Step_ok hl14 hs.imm (⟨[Value.int .i64 nv1.States], [Value.int .i64 nv1.Start], [v1], [v2], rfl, rfl, rfl, ⟨_, rfl, hRv1⟩, ⟨_, rfl, hRv2⟩⟩) hRgg26) rfl ?_
   rintro v17 wv9 ⟨gg27, xs15, hvv17, hegg27⟩
   obtain ⟨gg28, hlegg28, hs⟩ := hsL7.lentOwn hegg27
   simp only [List.cons_append, List.nil_append] at hs
   have hvv17 : RowRel (tInt .i64) gg28 xs15 l14 := RowRel.flat (fun _ _ _ _ h => h) hvv17
   replace hlegg21 := hlegg21L7.trans hlegg28
   refine O (r_assign (v := v17) rfl) rfl <| OW_nil <| WP_region <| O (r_move (v := Value.int .i64 i5) rfl) rfl ?_
   obtain ⟨t6, ht6, hM⟩ := bindS hM
   refine O (r_addM rfl rfl ht6) rfl <| O (r_assign (v := Value.int .i64 t6) rfl) rfl <| OW_nil ?_
   obtain rfl := Option.some.inj hM
   exact ⟨gg28, v17, xs15, rfl, rfl, rfl, rfl, hds, hlegg21, hvv17, (hs.sub (.cons_cons _ (.cons _ (.cons_cons _ .slnil))))⟩
  ·refine WP_false rfl hc6 <| WP_exit ?_
   obtain rfl := Option.some.inj hM
   refine fun hr => ?_
   have hM := congrArg some hr
   obtain rfl := Option.some.inj hM
   exact ⟨gg21, v14, xs12, rfl, rfl, hds, hlegg21, hrelxs12, hs⟩
 ·clear hs
  rintro E w ⟨gg16, v11, xs9, hE2, hE5, hds, hlegg16, hrelxs9, hs⟩
  have hM := hKhx1
  obtain ⟨E, rfl⟩ := open2 (E := E) hE2 hE5
  replace hRv1 := hRv1.mono hlegg16
  replace hRv2 := hRv2.mono hlegg16
  refine WP_seq <| WP_region <| O (r_loadN (cs := [Value.int .i64 nv1.States, Value.int .i64 nv1.Start, v1, v2]) ti25 rfl rfl (hs.cells (i := 1) rfl)) rfl <| O (r_move (v := v11) rfl) rfl ?_
  have hsL8 := hs
  obtain ⟨gg29, hlegg29, hRgg29, hs⟩ := hs.relRow (i := 0) rfl hrelxs9
  replace hRv1 := hRv1.mono hlegg29
  replace hRv2 := hRv2.mono hlegg29
  obtain ⟨rv1, hrv1, hM⟩ := bindS hM
  refine C [Value.agg (List.toArray (α := Value) [Value.int .i64 nv1.States, Value.int .i64 nv1.Start, v1, v2]), v11] cf22 rfl (ref09_Accepted_ok hrv1 hs.imm (⟨[Value.int .i64 nv1.States], [Value.int .i64 nv1.Start], [v1], [v2], rfl, rfl, rfl, ⟨_, rfl, hRv1⟩, ⟨_, rfl, hRv2⟩⟩) hRgg29) rfl ?_
  rintro v18 wv10 ⟨gg30, hvv18, hegg30⟩
  obtain ⟨gg31, hlegg31, hs⟩ := hsL8.lent hegg30
  obtain ⟨cs6, rfl, hcs6⟩ := hvv18
  have hcs6 : cs6 = _ := hcs6; subst hcs6
  refine O (r_assign (v := Value.int .i64 rv1) rfl) rfl <| OW_nil <| WP_ret ?_
  obtain rfl := Option.some.inj hM
  refine FL_nil hds ?_
  exact ⟨_, res1 Try.results21 (rv_tmp (v := Value.int .i64 rv1) rfl), gg31, ⟨[Value.int .i64 rv1], rfl, rfl⟩, hs.ext⟩


end Go.Proofs.Ytajmekjcnbmaaaa
