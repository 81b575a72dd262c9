/- The walks: what each function does is what its model says. Printed by a program of my own. -/
import Derived.Test.YtogpainomdfpnaaTyp
import Derived.Test.YtogpainomdfpnaaWalk5
set_option linter.unusedVariables false
set_option linter.unusedSimpArgs false
namespace Go.Proofs.Ytogpainomdfpnaa
open Go.Lx Go.RowKit
set_option maxRecDepth 100000 in
theorem ref10_Determinize_ok {p1 : T_NFA} {r : T_DFA × Int} (hM : M.ref10_Determinize p1 = some r) {g0 : Hp} {w0 : World} (hi : Imm g0 w0) {cs1 : List Value} (hcs1 : tT_NFA.rel g0 cs1 p1) :
    CallsV Try.prog 22 #[Value.agg cs1.toArray] w0 (fun v w' => ∃ g', (∃ v1 v2, v = .tuple #[v1, v2] ∧ VRd tT_DFA true g' v1 r.1 ∧ VRd (tInt .i64) false g' v2 r.2) ∧ Ext g0 w0 g' w') := by
 unfold M.ref10_Determinize at hM
 obtain ⟨cs2, cs3, cs4, cs5, rfl, hcs2, hcs3, hcs4, hcs5⟩ := hcs1
 have hcs2 : cs2 = _ := hcs2; subst hcs2
 have hcs3 : cs3 = _ := hcs3; subst hcs3
 obtain ⟨v1, rfl, hRv1⟩ := hcs4
 obtain ⟨v2, rfl, hRv2⟩ := hcs5
 have hs := Sep.start hi
 refine calls_of_WP (args := [Value.agg (List.toArray (α := Value) [Value.int .i64 p1.States, Value.int .i64 p1.Start, v1, v2])]) Try.func22 rfl Try.ntmps22 rfl ?_
 have hds : (argEnv [Value.agg (List.toArray (α := Value) [Value.int .i64 p1.States, Value.int .i64 p1.Start, v1, v2])]).ds = [] := rfl
 refine WP_seq <| WP_region <| OW_box (v := Value.agg (List.toArray (α := Value) [Value.int .i64 p1.States, Value.int .i64 p1.Start, v1, v2])) rfl hs (zs := [Value.int .i64 p1.States, Value.int .i64 p1.Start, v1, v2]) rfl rfl ?_
 intro b1 wv1 hs
 refine OW_alloc ti25 hs (zs := [Value.slice none 0 0, Value.slice none 0 0, Value.slice none 0 0]) rfl rfl ?_
 intro b2 wv2 hs
 refine O (r_assign (v := Value.int .i64 0) rfl) rfl <| OW_nil <| WP_seq <| WP_seq <| WP_region <| O (r_loadN (cs := [Value.int .i64 p1.States, Value.int .i64 p1.Start, v1, v2]) ti41 rfl rfl (hs.cells (i := 1) rfl)) rfl ?_
 obtain ⟨rv1, hrv1, hM⟩ := bindS hM
 refine C [Value.agg (List.toArray (α := Value) [Value.int .i64 p1.States, Value.int .i64 p1.Start, v1, v2])] cf45 rfl (ref09_Valid_ok hrv1 hs.imm (⟨[Value.int .i64 p1.States], [Value.int .i64 p1.Start], [v1], [v2], rfl, rfl, rfl, ⟨_, rfl, hRv1⟩, ⟨_, rfl, hRv2⟩⟩)) rfl ?_
 rintro v3 wv3 ⟨gg1, hvv3, hegg1⟩
 have hlegg1 := hegg1.le hs.imm
 replace hs := hs.call hegg1
 replace hRv1 := hRv1.mono hlegg1
 replace hRv2 := hRv2.mono hlegg1
 obtain ⟨cs6, rfl, hcs6⟩ := hvv3
 have hcs6 : cs6 = _ := hcs6; subst hcs6
 refine O (r_not rfl) rfl <| OW_nil ?_
 rcases condS hM with ⟨hc1, hM⟩ | ⟨hc1, hM⟩
 ·refine WP_true rfl hc1 <| WP_seq <| WP_region <| O (r_build (vs := []) (cs := [Value.slice none 0 0, Value.slice none 0 0, Value.slice none 0 0]) rfl (built_fill [(0, 1), (1, 1), (2, 1)] [Value.slice none 0 0, Value.slice none 0 0, Value.slice none 0 0] (fun _ => by kernel_rfl) (fill_done))) rfl <| OW_storeAll ti25 hs (i := 0) rfl rfl (v := Value.agg (List.toArray (α := Value) [Value.slice none 0 0, Value.slice none 0 0, Value.slice none 0 0])) rfl (vs := [Value.slice none 0 0, Value.slice none 0 0, Value.slice none 0 0]) rfl (one_cons rfl (one_cons rfl (one_cons rfl one_nil))) rfl rfl ?_
  intro wv4 hs
  refine O (r_assign (v := Value.int .i64 1) rfl) rfl <| OW_nil <| WP_ret ?_
  obtain rfl := Option.some.inj hM
  refine FL_nil hds ?_
  exact ⟨_, res2 Try.results22 (rv_cells (vs := [Value.slice none 0 0, Value.slice none 0 0, Value.slice none 0 0]) ti25 rfl rfl (hs.cells (i := 0) rfl)) (rv_tmp (v := Value.int .i64 1) rfl), gg1, ⟨_, _, rfl, ⟨[Value.slice none 0 0, Value.slice none 0 0, Value.slice none 0 0], rfl, ⟨[Value.slice none 0 0], [Value.slice none 0 0], [Value.slice none 0 0], rfl, ⟨_, rfl, RdS.nil⟩, ⟨_, rfl, RdS.nil⟩, ⟨_, rfl, RdS.nil⟩⟩⟩, ⟨[Value.int .i64 1], rfl, rfl⟩⟩, hs.ext⟩
 ·refine WP_false rfl hc1 <| WP_skip <| WP_seq <| WP_region <| O (r_assign (v := Value.slice none 0 0) rfl) rfl <| OW_nil ?_
  obtain ⟨xv7, hx4, hKhx4⟩ := bindS hM
  refine WP_cut (fun E w => ∃ (v22 : Value) (xs21 : List Value), E 1 = Value.pointer (some ⟨b1, 0, none⟩) ∧ E 2 = Value.pointer (some ⟨b2, 0, none⟩) ∧ E 4 = v22 ∧ E.ds = [] ∧ RowRel (tVec 4 .u64) gg1 xs21 xv7 ∧ Go.Lx.Sep g0 w0 gg1 w [.row v22 77 (tVec 4 .u64).sz xv7.length xs21, Go.Lx.box b2 25 ([Value.slice none 0 0, Value.slice none 0 0, Value.slice none 0 0]), Go.Lx.box b1 41 ([Value.int .i64 p1.States, Value.int .i64 p1.Start, v1, v2])]) ?_ ?_
  ·have hM := hx4
   have hagg1 := Hle.refl gg1
   refine WP_seq <| WP_region <| O (r_assign (v := Value.int .i64 0) rfl) rfl <| OW_nil <| WP_block ?_
   have hs := hs.nilRow 77 (tVec 4 .u64).sz
   refine WP_loop (fun (st9 : (List (Vec 4)) × Int) E w => match st9 with | (xv10, xv11) => ∃ (v29 : Value) (xs30 : List Value), E 1 = Value.pointer (some ⟨b1, 0, none⟩) ∧ E 2 = Value.pointer (some ⟨b2, 0, none⟩) ∧ E 4 = v29 ∧ E 5 = Value.int .i64 xv11 ∧ E.ds = [] ∧ RowRel (tVec 4 .u64) gg1 xs30 xv10 ∧ Go.Lx.Sep g0 w0 gg1 w [.row v29 77 (tVec 4 .u64).sz xv10.length xs30, Go.Lx.box b2 25 ([Value.slice none 0 0, Value.slice none 0 0, Value.slice none 0 0]), Go.Lx.box b1 41 ([Value.int .i64 p1.States, Value.int .i64 p1.Start, v1, v2])]) hM ⟨(Value.slice none 0 0), [], rfl, rfl, rfl, rfl, hds, RowRel.nil, hs⟩ ?_
   clear hs hM
   rintro ⟨xv10, xv11⟩ o2 E w hM ⟨v29, xs30, hE1, hE2, hE4, hE5, hds, hrelxs30, hs⟩
   obtain ⟨E, rfl⟩ := open4 (E := E) hE1 hE2 hE4 hE5
   refine WP_seq <| WP_seq <| WP_region <| O (r_move (v := Value.int .i64 xv11) rfl) rfl <| O (r_fieldAddr Try.underlying41 ti39 rfl rfl (by decide) rfl rfl) rfl <| O (r_load (v := v1) ti39 rfl (hs.cell (i := 2) (o := 2) rfl rfl)) rfl ?_
   obtain ⟨a6, ca6, hva6⟩ := hRv1.shape
   refine O (r_lenSl (v := v1) Try.underlying39 rfl hva6) rfl <| O (r_lss rfl rfl) rfl <| OW_nil ?_
   rcases condS hM with ⟨hc17, hM⟩ | ⟨hc17, hM⟩
   ·refine WP_true rfl hc17 <| WP_skip ?_
    obtain ⟨y17, hx7, hKhx7⟩ := bindS hM
    refine WP_cut (fun E w => ∃ (v38 : Value) (xs39 : List Value), E 1 = Value.pointer (some ⟨b1, 0, none⟩) ∧ E 2 = Value.pointer (some ⟨b2, 0, none⟩) ∧ E 4 = v38 ∧ E 5 = Value.int .i64 xv11 ∧ E.ds = [] ∧ RowRel (tVec 4 .u64) gg1 xs39 y17 ∧ Go.Lx.Sep g0 w0 gg1 w [.row v38 77 (tVec 4 .u64).sz y17.length xs39, Go.Lx.box b2 25 ([Value.slice none 0 0, Value.slice none 0 0, Value.slice none 0 0]), Go.Lx.box b1 41 ([Value.int .i64 p1.States, Value.int .i64 p1.Start, v1, v2])]) ?_ ?_
    ·have hM := hx7
     refine WP_block <| WP_seq <| WP_region <| O (r_fieldAddr Try.underlying41 ti39 rfl rfl (by decide) rfl rfl) rfl <| O (r_load (v := v1) ti39 rfl (hs.cell (i := 2) (o := 2) rfl rfl)) rfl <| O (r_move (v := Value.int .i64 xv11) rfl) rfl ?_
     obtain ⟨e12, he12, hM⟩ := bindS hM
     obtain ⟨b25, ob25, cb25, hvb25, cs117, hcs117, hcb25⟩ := hRv1.at he12
     obtain ⟨cs118, cs119, cs120, cs121, rfl, hcs118, hcs119, hcs120, hcs121⟩ := hcs117
     have hcs118 : cs118 = _ := hcs118; subst hcs118
     have hcs119 : cs119 = _ := hcs119; subst hcs119
     have hcs120 : cs120 = _ := hcs120; subst hcs120
     have hcs121 : cs121 = _ := hcs121; subst hcs121
     refine O (r_idxSl Try.underlying39 ti79 (v := v1) rfl hvb25 rfl (idxL_some he12).1 (idxL_some he12).2.1) rfl <| O (r_fieldAddr Try.underlying79 ti4 rfl rfl (by decide) rfl rfl) rfl <| O (r_loadEl (cs := [Value.bool e12.Epsilon]) ti4 rfl rfl (.inr rfl) (elemField (cs := ([Value.int .i64 e12.From]) ++ (([Value.int .i64 e12.To]) ++ (([Value.bool e12.Epsilon]) ++ (e12.Set.1.map (Value.int .u64))))) (hcb25 _ hs.imm) ([Value.int .i64 e12.From, Value.int .i64 e12.To]) ([Value.bool e12.Epsilon]) (e12.Set.1.map (Value.int .u64)) (by simp) rfl) (v := Value.bool e12.Epsilon) rfl) rfl <| O (r_not rfl) rfl <| OW_nil ?_
     rcases condS hM with ⟨hc19, hM⟩ | ⟨hc19, hM⟩
     ·refine WP_true rfl hc19 <| WP_region <| O (r_move (v := v29) rfl) rfl <| O (r_fieldAddr Try.underlying41 ti39 rfl rfl (by decide) rfl rfl) rfl <| O (r_load (v := v1) ti39 rfl (hs.cell (i := 2) (o := 2) rfl rfl)) rfl <| O (r_move (v := Value.int .i64 xv11) rfl) rfl ?_
      obtain ⟨b26, ob26, cb26, hvb26, cs122, hcs122, hcb26⟩ := hRv1.at he12
      obtain ⟨cs123, cs124, cs125, cs126, rfl, hcs123, hcs124, hcs125, hcs126⟩ := hcs122
      have hcs123 : cs123 = _ := hcs123; subst hcs123
      have hcs124 : cs124 = _ := hcs124; subst hcs124
      have hcs125 : cs125 = _ := hcs125; subst hcs125
      have hcs126 : cs126 = _ := hcs126; subst hcs126
      refine O (r_idxSl Try.underlying39 ti79 (v := v1) rfl hvb26 rfl (idxL_some he12).1 (idxL_some he12).2.1) rfl <| O (r_fieldAddr Try.underlying79 ti77 rfl rfl (by decide) rfl rfl) rfl <| O (r_loadEl (cs := e12.Set.1.map (Value.int .u64)) ti77 rfl (by simp [e12.Set.2]) (.inl rfl) (elemField (cs := ([Value.int .i64 e12.From]) ++ (([Value.int .i64 e12.To]) ++ (([Value.bool e12.Epsilon]) ++ (e12.Set.1.map (Value.int .u64))))) (hcb26 _ hs.imm) ([Value.int .i64 e12.From, Value.int .i64 e12.To, Value.bool e12.Epsilon]) (e12.Set.1.map (Value.int .u64)) ([]) (by simp) rfl) (v := encV .u64 e12.Set) rfl) rfl <| OW_lit (τ := (tVec 4 .u64)) [encV .u64 e12.Set] [e12.Set] Try.underlying74 ti77 (by decide) hs rfl rfl rfl ⟨rfl, trivial⟩ rfl ?_
      intro v39 wv27 xs40 hrelxs40 hs
      obtain ⟨y18, hy18, hM⟩ := bindS hM
      refine OW_append Try.underlying74 ti77 rfl (by decide) (by decide) hs (i := 1) rfl hrelxs30 (v := v29) rfl (u := v39) rfl (hs.rowSrc (i := 0) rfl) hrelxs40 hy18 rfl ?_
      intro v40 wv28 xs41 hrelxs41 hs
      refine O (r_assign (v := v40) rfl) rfl <| OW_nil ?_
      obtain rfl := Option.some.inj hM
      exact ⟨v40, xs41, rfl, rfl, rfl, rfl, hds, hrelxs41, (hs.sub (.cons _ (.cons_cons _ (.cons_cons _ (.cons_cons _ .slnil)))))⟩
     ·refine WP_false rfl hc19 <| WP_skip ?_
      obtain rfl := Option.some.inj hM
      exact ⟨v29, xs30, rfl, rfl, rfl, rfl, hds, hrelxs30, hs⟩
    ·clear hs
     rintro E w ⟨v38, xs39, hE1, hE2, hE4, hE5, hds, hrelxs39, hs⟩
     have hM := hKhx7
     obtain ⟨E, rfl⟩ := open4 (E := E) hE1 hE2 hE4 hE5
     refine WP_region <| O (r_move (v := Value.int .i64 xv11) rfl) rfl ?_
     obtain ⟨t6, ht6, hM⟩ := bindS hM
     refine O (r_addM rfl rfl ht6) rfl <| O (r_assign (v := Value.int .i64 t6) rfl) rfl <| OW_nil ?_
     obtain rfl := Option.some.inj hM
     exact ⟨v38, xs39, rfl, rfl, rfl, rfl, hds, hrelxs39, hs⟩
   ·refine WP_false rfl hc17 <| WP_exit ?_
    obtain rfl := Option.some.inj hM
    refine fun hr => ?_
    have hM := congrArg some hr
    obtain rfl := Option.some.inj hM
    exact ⟨v29, xs30, rfl, rfl, rfl, hds, hrelxs30, hs⟩
  ·clear hs
   rintro E w ⟨v22, xs21, hE1, hE2, hE4, hds, hrelxs21, hs⟩
   have hM := hKhx4
   obtain ⟨E, rfl⟩ := open3 (E := E) hE1 hE2 hE4
   refine WP_seq <| WP_region <| O (r_move (v := v22) rfl) rfl ?_
   have hsL1 := hs
   have hRv1L1 := hRv1
   have hRv2L1 := hRv2
   obtain ⟨gg2, hlegg2, hRgg2, hs⟩ := hs.relRow (i := 0) rfl hrelxs21
   replace hRv1 := hRv1.mono hlegg2
   replace hRv2 := hRv2.mono hlegg2
   obtain ⟨rv2, hrv2, hM⟩ := bindS hM
   refine C [v22] cf46 rfl (ref07_Classes_ok hrv2 hs.imm hRgg2) rfl ?_
   rintro v41 wv29 ⟨gg3, xs42, hvv41, hegg3⟩
   obtain ⟨gg4, hlegg4, hs⟩ := hsL1.lentOwn hegg3
   simp only [List.cons_append, List.nil_append] at hs
   have hvv41 : RowRel (tInt .i64) gg4 xs42 rv2 := RowRel.flat (fun _ _ _ _ h => h) hvv41
   replace hRv1 := hRv1L1.mono hlegg4
   replace hRv2 := hRv2L1.mono hlegg4
   refine O (r_assign (v := v41) rfl) rfl <| OW_nil <| WP_seq <| WP_region <| O (r_move (v := v41) rfl) rfl ?_
   have hsL2 := hs
   have hRv1L2 := hRv1
   have hRv2L2 := hRv2
   have hvv41L2 := hvv41
   obtain ⟨gg5, hlegg5, hRgg5, hs⟩ := hs.relRow (i := 0) rfl hvv41
   replace hRv1 := hRv1.mono hlegg5
   replace hRv2 := hRv2.mono hlegg5
   obtain ⟨rv3, hrv3, hM⟩ := bindS hM
   refine C [v41] cf47 rfl (ref10_first_ok hrv3 hs.imm hRgg5) rfl ?_
   rintro v42 wv30 ⟨gg6, xs43, hvv42, hegg6⟩
   obtain ⟨gg7, hlegg7, hs⟩ := hsL2.lentOwn hegg6
   simp only [List.cons_append, List.nil_append] at hs
   have hvv42 : RowRel (tInt .u8) gg7 xs43 rv3 := RowRel.flat (fun _ _ _ _ h => h) hvv42
   replace hRv1 := hRv1L2.mono hlegg7
   replace hRv2 := hRv2L2.mono hlegg7
   replace hvv41 := hvv41L2.mono hlegg7
   refine O (r_assign (v := v42) rfl) rfl <| OW_nil <| WP_seq <| WP_region <| O (r_loadN (cs := [Value.int .i64 p1.States, Value.int .i64 p1.Start, v1, v2]) ti41 rfl rfl (hs.cells (i := 4) rfl)) rfl <| O (r_fieldAddr Try.underlying41 ti3 rfl rfl (by decide) rfl rfl) rfl <| O (r_load (v := Value.int .i64 p1.Start) ti3 rfl (hs.cell (i := 4) (o := 1) rfl rfl)) rfl <| OW_lit (τ := (tInt .i64)) [Value.int .i64 p1.Start] [p1.Start] Try.underlying22 ti3 (by decide) hs rfl rfl rfl ⟨rfl, trivial⟩ rfl ?_
   intro v43 wv31 xs44 hrelxs44 hs
   have hsL3 := hs
   have hRv1L3 := hRv1
   have hRv2L3 := hRv2
   have hvv41L3 := hvv41
   have hvv42L3 := hvv42
   obtain ⟨gg8, hlegg8, hRgg8, hs⟩ := hs.relRow (i := 0) rfl hrelxs44
   replace hRv1 := hRv1.mono hlegg8
   replace hRv2 := hRv2.mono hlegg8
   replace hvv41 := hvv41.mono hlegg8
   replace hvv42 := hvv42.mono hlegg8
   obtain ⟨rv4, hrv4, hM⟩ := bindS hM
   refine C [Value.agg (List.toArray (α := Value) [Value.int .i64 p1.States, Value.int .i64 p1.Start, v1, v2]), v43] cf48 rfl (ref09_Closure_ok hrv4 hs.imm (⟨[Value.int .i64 p1.States], [Value.int .i64 p1.Start], [v1], [v2], rfl, rfl, rfl, ⟨_, rfl, hRv1⟩, ⟨_, rfl, hRv2⟩⟩) hRgg8) rfl ?_
   rintro v44 wv32 ⟨gg9, xs45, hvv44, hegg9⟩
   obtain ⟨gg10, hlegg10, hs⟩ := hsL3.lentOwn hegg9
   simp only [List.cons_append, List.nil_append] at hs
   have hvv44 : RowRel (tInt .i64) gg10 xs45 rv4 := RowRel.flat (fun _ _ _ _ h => h) hvv44
   replace hRv1 := hRv1L3.mono hlegg10
   replace hRv2 := hRv2L3.mono hlegg10
   replace hvv41 := hvv41L3.mono hlegg10
   replace hvv42 := hvv42L3.mono hlegg10
   obtain ⟨gg11, hlegg11, hRgg11, hs⟩ := hs.relRow (i := 0) rfl hvv44
   replace hRv1 := hRv1.mono hlegg11
   replace hRv2 := hRv2.mono hlegg11
   replace hvv41 := hvv41.mono hlegg11
   replace hvv42 := hvv42.mono hlegg11
   refine OW_lit (τ := (tSl (tInt .i64))) [v44] [rv4] Try.underlying23 ti22 (by decide) hs rfl rfl rfl ⟨⟨v44, cells_one (by obtain ⟨_, _, h9⟩ := hRgg11.shape; rw [h9]; rfl), hRgg11⟩, trivial⟩ rfl ?_
   intro v45 wv33 xs46 hrelxs46 hs
   refine O (r_assign (v := v45) rfl) rfl <| OW_nil <| WP_seq <| WP_region <| O (r_assign (v := Value.slice none 0 0) rfl) rfl <| OW_nil <| WP_seq <| WP_region <| O (r_assign (v := Value.slice none 0 0) rfl) rfl <| OW_nil ?_
   obtain ⟨o35, hx125, hKhx125⟩ := stepS hM
   refine WP_cut (fun E w => ∃ (xv257 : (List (List Int))) (xv258 : (List Int)), o35 = .next (xv257, xv258) ∧ ∃ (gg906 : Hp) (v1237 : Value) (xs1128 : List Value) (v1238 : Value) (xs1129 : List Value) (v1236 : Value) (xs1127 : List Value), E 2 = Value.pointer (some ⟨b2, 0, none⟩) ∧ E 6 = v1236 ∧ E 9 = v1237 ∧ E 10 = v1238 ∧ E.ds = [] ∧ Hle gg11 gg906 ∧ RowRel (tSl (tInt .i64)) gg906 xs1128 xv257 ∧ RowRel (tInt .i64) gg906 xs1129 xv258 ∧ RowRel (tInt .i64) gg906 xs1127 rv2 ∧ Go.Lx.Sep g0 w0 gg906 w [.row v1237 22 (tSl (tInt .i64)).sz xv257.length xs1128, .row v1238 3 (tInt .i64).sz xv258.length xs1129, .row v1236 3 (tInt .i64).sz rv2.length xs1127, Go.Lx.box b2 25 ([Value.slice none 0 0, Value.slice none 0 0, Value.slice none 0 0])]) ?_ ?_
   ·have hM := hx125
    have hagg11 := Hle.refl gg11
    refine WP_seq <| WP_region <| O (r_assign (v := Value.int .i64 0) rfl) rfl <| OW_nil <| WP_block ?_
    have hs := hs.nilRow 22 (tSl (tInt .i64)).sz
    have hs := hs.nilRow 3 (tInt .i64).sz
    refine WP_loop (fun (st9 : (List (List Int)) × (List (List Int)) × (List Int) × Int) E w => match st9 with | (xv340, xv341, xv342, xv343) => ∃ (gg1205 : Hp) (v1636 : Value) (xs1493 : List Value) (v1637 : Value) (xs1494 : List Value) (v1635 : Value) (xs1492 : List Value) (v1634 : Value) (xs1491 : List Value) (v1633 : Value) (xs1490 : List Value), E 1 = Value.pointer (some ⟨b1, 0, none⟩) ∧ E 2 = Value.pointer (some ⟨b2, 0, none⟩) ∧ E 6 = v1633 ∧ E 7 = v1634 ∧ E 8 = v1635 ∧ E 9 = v1636 ∧ E 10 = v1637 ∧ E 11 = Value.int .i64 xv343 ∧ E.ds = [] ∧ Hle gg11 gg1205 ∧ RowRel (tSl (tInt .i64)) gg1205 xs1493 xv341 ∧ RowRel (tInt .i64) gg1205 xs1494 xv342 ∧ RowRel (tSl (tInt .i64)) gg1205 xs1492 xv340 ∧ RowRel (tInt .u8) gg1205 xs1491 rv3 ∧ RowRel (tInt .i64) gg1205 xs1490 rv2 ∧ Go.Lx.Sep g0 w0 gg1205 w [.row v1636 22 (tSl (tInt .i64)).sz xv341.length xs1493, .row v1637 3 (tInt .i64).sz xv342.length xs1494, .row v1635 22 (tSl (tInt .i64)).sz xv340.length xs1492, .row v1634 5 (tInt .u8).sz rv3.length xs1491, .row v1633 3 (tInt .i64).sz rv2.length xs1490, Go.Lx.box b2 25 ([Value.slice none 0 0, Value.slice none 0 0, Value.slice none 0 0]), Go.Lx.box b1 41 ([Value.int .i64 p1.States, Value.int .i64 p1.Start, v1, v2])]) hM ⟨gg11, (Value.slice none 0 0), [], (Value.slice none 0 0), [], v45, xs46, v42, xs43, v41, xs42, rfl, rfl, rfl, rfl, rfl, rfl, rfl, rfl, hds, (Hle.refl _), RowRel.nil, RowRel.nil, hrelxs46, hvv42, hvv41, (hs.sel [1, 0, 2, 4, 5, 7, 8] (by decide) rfl)⟩ ?_
    clear hs hM
    rintro ⟨xv340, xv341, xv342, xv343⟩ o29 E w hM ⟨gg1205, v1636, xs1493, v1637, xs1494, v1635, xs1492, v1634, xs1491, v1633, xs1490, hE1, hE2, hE6, hE7, hE8, hE9, hE10, hE11, hds, hlegg1205, hrelxs1493, hrelxs1494, hrelxs1492, hrelxs1491, hrelxs1490, hs⟩
    obtain ⟨E, rfl⟩ := open8 (E := E) hE1 hE2 hE6 hE7 hE8 hE9 hE10 hE11
    replace hRv1 := hRv1.mono hlegg1205
    replace hRv2 := hRv2.mono hlegg1205
    have hagg1205 := Hle.refl gg1205
    refine WP_seq <| WP_seq <| WP_region <| O (r_move (v := Value.int .i64 xv343) rfl) rfl <| O (r_move (v := v1635) rfl) rfl ?_
    obtain ⟨a442, ca442, hva442⟩ := hs.rowShape (i := 2) rfl
    refine O (r_lenSl (v := v1635) Try.underlying23 rfl hva442) rfl <| O (r_lss rfl rfl) rfl <| OW_nil ?_
    rcases condS hM with ⟨hc455, hM⟩ | ⟨hc455, hM⟩
    ·refine WP_true rfl hc455 <| WP_skip ?_
     obtain ⟨o34, hx223, hKhx223⟩ := stepS hM
     refine WP_cut (fun E w => ∃ (xv463 : (List (List Int))) (y777 : (List (List Int))) (y778 : (List Int)), o34 = .next (xv463, y777, y778) ∧ ∃ (gg1652 : Hp) (v2233 : Value) (xs2033 : List Value) (v2234 : Value) (xs2034 : List Value) (v2232 : Value) (xs2032 : List Value) (v2231 : Value) (xs2031 : List Value) (v2230 : Value) (xs2030 : List Value), E 1 = Value.pointer (some ⟨b1, 0, none⟩) ∧ E 2 = Value.pointer (some ⟨b2, 0, none⟩) ∧ E 6 = v2230 ∧ E 7 = v2231 ∧ E 8 = v2232 ∧ E 9 = v2233 ∧ E 10 = v2234 ∧ E 11 = Value.int .i64 xv343 ∧ E.ds = [] ∧ Hle gg1205 gg1652 ∧ RowRel (tSl (tInt .i64)) gg1652 xs2033 y777 ∧ RowRel (tInt .i64) gg1652 xs2034 y778 ∧ RowRel (tSl (tInt .i64)) gg1652 xs2032 xv463 ∧ RowRel (tInt .u8) gg1652 xs2031 rv3 ∧ RowRel (tInt .i64) gg1652 xs2030 rv2 ∧ Go.Lx.Sep g0 w0 gg1652 w [.row v2233 22 (tSl (tInt .i64)).sz y777.length xs2033, .row v2234 3 (tInt .i64).sz y778.length xs2034, .row v2232 22 (tSl (tInt .i64)).sz xv463.length xs2032, .row v2231 5 (tInt .u8).sz rv3.length xs2031, .row v2230 3 (tInt .i64).sz rv2.length xs2030, Go.Lx.box b2 25 ([Value.slice none 0 0, Value.slice none 0 0, Value.slice none 0 0]), Go.Lx.box b1 41 ([Value.int .i64 p1.States, Value.int .i64 p1.Start, v1, v2])]) ?_ ?_
     ·have hM := hx223
      refine WP_block <| WP_seq <| WP_region <| O (r_assign (v := Value.slice none 0 0) rfl) rfl <| OW_nil ?_
      obtain ⟨⟨xv482, xv483⟩, hx233, hKhx233⟩ := bindS hM
      refine WP_cut (fun E w => ∃ (gg1725 : Hp) (v2330 : Value) (xs2122 : List Value) (v2328 : Value) (xs2120 : List Value) (v2329 : Value) (xs2121 : List Value) (v2327 : Value) (xs2119 : List Value) (v2326 : Value) (xs2118 : List Value) (v2325 : Value) (xs2117 : List Value), E 1 = Value.pointer (some ⟨b1, 0, none⟩) ∧ E 2 = Value.pointer (some ⟨b2, 0, none⟩) ∧ E 6 = v2325 ∧ E 7 = v2326 ∧ E 8 = v2327 ∧ E 9 = v2328 ∧ E 10 = v2329 ∧ E 11 = Value.int .i64 xv343 ∧ E 12 = v2330 ∧ E.ds = [] ∧ Hle gg1205 gg1725 ∧ RowRel (tInt .i64) gg1725 xs2122 xv483 ∧ RowRel (tSl (tInt .i64)) gg1725 xs2120 xv341 ∧ RowRel (tInt .i64) gg1725 xs2121 xv342 ∧ RowRel (tSl (tInt .i64)) gg1725 xs2119 xv482 ∧ RowRel (tInt .u8) gg1725 xs2118 rv3 ∧ RowRel (tInt .i64) gg1725 xs2117 rv2 ∧ Go.Lx.Sep g0 w0 gg1725 w [.row v2330 3 (tInt .i64).sz xv483.length xs2122, .row v2328 22 (tSl (tInt .i64)).sz xv341.length xs2120, .row v2329 3 (tInt .i64).sz xv342.length xs2121, .row v2327 22 (tSl (tInt .i64)).sz xv482.length xs2119, .row v2326 5 (tInt .u8).sz rv3.length xs2118, .row v2325 3 (tInt .i64).sz rv2.length xs2117, Go.Lx.box b2 25 ([Value.slice none 0 0, Value.slice none 0 0, Value.slice none 0 0]), Go.Lx.box b1 41 ([Value.int .i64 p1.States, Value.int .i64 p1.Start, v1, v2])]) ?_ ?_
      ·have hM := hx233
       refine WP_seq <| WP_region <| O (r_assign (v := Value.int .i64 0) rfl) rfl <| OW_nil <| WP_block ?_
       have hs := hs.nilRow 3 (tInt .i64).sz
       refine WP_loop (fun (st9 : (List (List Int)) × (List Int) × Int) E w => match st9 with | (xv490, xv491, xv492) => ∃ (gg1750 : Hp) (v2362 : Value) (xs2154 : List Value) (v2361 : Value) (xs2153 : List Value), E 1 = Value.pointer (some ⟨b1, 0, none⟩) ∧ E 2 = Value.pointer (some ⟨b2, 0, none⟩) ∧ E 6 = v1633 ∧ E 7 = v1634 ∧ E 8 = v2361 ∧ E 9 = v1636 ∧ E 10 = v1637 ∧ E 11 = Value.int .i64 xv343 ∧ E 12 = v2362 ∧ E 13 = Value.int .i64 xv492 ∧ E.ds = [] ∧ Hle gg1205 gg1750 ∧ RowRel (tInt .i64) gg1750 xs2154 xv491 ∧ RowRel (tSl (tInt .i64)) gg1750 xs2153 xv490 ∧ Go.Lx.Sep g0 w0 gg1750 w [.row v2362 3 (tInt .i64).sz xv491.length xs2154, .row v1636 22 (tSl (tInt .i64)).sz xv341.length xs1493, .row v1637 3 (tInt .i64).sz xv342.length xs1494, .row v2361 22 (tSl (tInt .i64)).sz xv490.length xs2153, .row v1634 5 (tInt .u8).sz rv3.length xs1491, .row v1633 3 (tInt .i64).sz rv2.length xs1490, Go.Lx.box b2 25 ([Value.slice none 0 0, Value.slice none 0 0, Value.slice none 0 0]), Go.Lx.box b1 41 ([Value.int .i64 p1.States, Value.int .i64 p1.Start, v1, v2])]) hM ⟨gg1205, (Value.slice none 0 0), [], v1635, xs1492, rfl, rfl, rfl, rfl, rfl, rfl, rfl, rfl, rfl, rfl, hds, (Hle.refl _), RowRel.nil, hrelxs1492, hs⟩ ?_
       clear hs hM
       rintro ⟨xv490, xv491, xv492⟩ o33 E w hM ⟨gg1750, v2362, xs2154, v2361, xs2153, hE1, hE2, hE6, hE7, hE8, hE9, hE10, hE11, hE12, hE13, hds, hlegg1750, hrelxs2154, hrelxs2153, hs⟩
       obtain ⟨E, rfl⟩ := open8 (E := E) hE1 hE2 hE6 hE7 hE8 hE9 hE10 hE11
       obtain ⟨E, rfl⟩ := open2 (E := E) hE12 hE13
       replace hRv1 := hRv1.mono hlegg1750
       replace hRv2 := hRv2.mono hlegg1750
       replace hrelxs1493 := hrelxs1493.mono hlegg1750
       replace hrelxs1494 := hrelxs1494.mono hlegg1750
       replace hrelxs1491 := hrelxs1491.mono hlegg1750
       replace hrelxs1490 := hrelxs1490.mono hlegg1750
       have hagg1750 := Hle.refl gg1750
       refine WP_seq <| WP_seq <| WP_region <| O (r_move (v := Value.int .i64 xv492) rfl) rfl <| O (r_move (v := v1634) rfl) rfl ?_
       obtain ⟨a521, ca521, hva521⟩ := hs.rowShape (i := 4) rfl
       refine O (r_lenSl (v := v1634) Try.underlying59 rfl hva521) rfl <| O (r_lss rfl rfl) rfl <| OW_nil ?_
       rcases condS hM with ⟨hc534, hM⟩ | ⟨hc534, hM⟩
       ·refine WP_true rfl hc534 <| WP_skip ?_
        obtain ⟨⟨xv500, y839⟩, hx241, hKhx241⟩ := bindS hM
        refine WP_cut (fun E w => ∃ (gg1786 : Hp) (v2407 : Value) (xs2193 : List Value) (v2406 : Value) (xs2192 : List Value), E 1 = Value.pointer (some ⟨b1, 0, none⟩) ∧ E 2 = Value.pointer (some ⟨b2, 0, none⟩) ∧ E 6 = v1633 ∧ E 7 = v1634 ∧ E 8 = v2406 ∧ E 9 = v1636 ∧ E 10 = v1637 ∧ E 11 = Value.int .i64 xv343 ∧ E 12 = v2407 ∧ E 13 = Value.int .i64 xv492 ∧ E.ds = [] ∧ Hle gg1750 gg1786 ∧ RowRel (tInt .i64) gg1786 xs2193 y839 ∧ RowRel (tSl (tInt .i64)) gg1786 xs2192 xv500 ∧ Go.Lx.Sep g0 w0 gg1786 w [.row v2407 3 (tInt .i64).sz y839.length xs2193, .row v1636 22 (tSl (tInt .i64)).sz xv341.length xs1493, .row v1637 3 (tInt .i64).sz xv342.length xs1494, .row v2406 22 (tSl (tInt .i64)).sz xv500.length xs2192, .row v1634 5 (tInt .u8).sz rv3.length xs1491, .row v1633 3 (tInt .i64).sz rv2.length xs1490, Go.Lx.box b2 25 ([Value.slice none 0 0, Value.slice none 0 0, Value.slice none 0 0]), Go.Lx.box b1 41 ([Value.int .i64 p1.States, Value.int .i64 p1.Start, v1, v2])]) ?_ ?_
        ·have hM := hx241
         refine WP_block <| WP_seq <| WP_any (.q 0 (.q 1 (.q 2 (.q 3 (.q 4 (.q 5 (.q 6 (.q 7 (.q 8 (.q 9 (.s 10 (.s 11 (.q 12 (.leaf)))))))))))))) (SS g0 w0 gg1750 [.row v2362 3 (tInt .i64).sz xv491.length xs2154, .row v1636 22 (tSl (tInt .i64)).sz xv341.length xs1493, .row v1637 3 (tInt .i64).sz xv342.length xs1494, .row v2361 22 (tSl (tInt .i64)).sz xv490.length xs2153, .row v1634 5 (tInt .u8).sz rv3.length xs1491, .row v1633 3 (tInt .i64).sz rv2.length xs1490, Go.Lx.box b2 25 ([Value.slice none 0 0, Value.slice none 0 0, Value.slice none 0 0]), Go.Lx.box b1 41 ([Value.int .i64 p1.States, Value.int .i64 p1.Start, v1, v2])]) mo (by decide +kernel) ?_
         have hs := hs.drew
         have hS : SS g0 w0 gg1750 [.row v2362 3 (tInt .i64).sz xv491.length xs2154, .row v1636 22 (tSl (tInt .i64)).sz xv341.length xs1493, .row v1637 3 (tInt .i64).sz xv342.length xs1494, .row v2361 22 (tSl (tInt .i64)).sz xv490.length xs2153, .row v1634 5 (tInt .u8).sz rv3.length xs1491, .row v1633 3 (tInt .i64).sz rv2.length xs1490, Go.Lx.box b2 25 ([Value.slice none 0 0, Value.slice none 0 0, Value.slice none 0 0]), Go.Lx.box b1 41 ([Value.int .i64 p1.States, Value.int .i64 p1.Start, v1, v2])] _ := ⟨gg1750, Hle.refl _, hs⟩
         refine A rfl hS (fun w9 ⟨g9, hle9, hs⟩ => r_loadN (cs := [Value.int .i64 p1.States, Value.int .i64 p1.Start, v1, v2]) ti41 rfl rfl (hs.cells (i := 7) rfl)) rfl <| A rfl hS (fun w9 ⟨g9, hle9, hs⟩ => r_loadN (cs := [Value.int .i64 p1.States, Value.int .i64 p1.Start, v1, v2]) ti41 rfl rfl (hs.cells (i := 7) rfl)) rfl <| A rfl hS (fun w9 ⟨g9, hle9, hs⟩ => r_move (v := v2361) rfl) rfl <| A rfl hS (fun w9 ⟨g9, hle9, hs⟩ => r_move (v := Value.int .i64 xv343) rfl) rfl ?_
         obtain ⟨e321, he321, hM⟩ := bindS hM
         obtain ⟨b335, cb335, hvb335, cs589, hcs589, hcb335⟩ := hs.rowEl (i := 3) rfl hrelxs2153 he321
         obtain ⟨v2408, rfl, hRv2408⟩ := hcs589
         refine A rfl hS (fun w9 ⟨g9, hle9, hs⟩ => r_idxSl Try.underlying23 ti22 (v := v2361) rfl hvb335 rfl (idxL_some he321).1 (idxL_some he321).2.1) rfl <| A rfl hS (fun w9 ⟨g9, hle9, hs⟩ => r_loadEl (cs := [v2408]) ti22 rfl rfl (.inr rfl) (hcb335 _ (hs.at (i := 3) rfl)) (v := v2408) rfl) rfl <| A rfl hS (fun w9 ⟨g9, hle9, hs⟩ => r_move (v := v1634) rfl) rfl <| A rfl hS (fun w9 ⟨g9, hle9, hs⟩ => r_move (v := Value.int .i64 xv492) rfl) rfl ?_
         obtain ⟨e322, he322, hM⟩ := bindS hM
         obtain ⟨b336, cb336, hvb336, cs590, hcs590, hcb336⟩ := hs.rowEl (i := 4) rfl hrelxs1491 he322
         have hcs590 : cs590 = _ := hcs590; subst hcs590
         refine A rfl hS (fun w9 ⟨g9, hle9, hs⟩ => r_idxSl Try.underlying59 ti5 (v := v1634) rfl hvb336 rfl (idxL_some he322).1 (idxL_some he322).2.1) rfl <| A rfl hS (fun w9 ⟨g9, hle9, hs⟩ => r_loadEl (cs := [Value.int .u8 e322]) ti5 rfl rfl (.inr rfl) (hcb336 _ (hs.at (i := 4) rfl)) (v := Value.int .u8 e322) rfl) rfl <| A1 rfl ?_
         obtain ⟨rv445, hrv445, hM⟩ := bindS hM
         refine C [Value.agg (List.toArray (α := Value) [Value.int .i64 p1.States, Value.int .i64 p1.Start, v1, v2]), v2408, Value.int .u8 e322] cf49 rfl (ref09_Step_ok hrv445 hs.imm (⟨[Value.int .i64 p1.States], [Value.int .i64 p1.Start], [v1], [v2], rfl, rfl, rfl, ⟨_, rfl, hRv1⟩, ⟨_, rfl, hRv2⟩⟩) hRv2408) rfl ?_
         rintro v2409 wv1684 ⟨gg1787, xs2194, hvv2409, hegg1787⟩
         have hlegg1787 := hegg1787.ext.le hs.imm
         replace hs := hs.callOwn hegg1787
         simp only [List.cons_append, List.nil_append] at hs
         replace hRv1 := hRv1.mono hlegg1787
         replace hRv2 := hRv2.mono hlegg1787
         replace hrelxs2154 := hrelxs2154.mono hlegg1787
         replace hrelxs2153 := hrelxs2153.mono hlegg1787
         replace hagg1750 := hagg1750.trans hlegg1787
         refine OW_nil ?_
         replace hS := hS.to hagg1750 (hs.sub (.cons _ (.cons_cons _ (.cons_cons _ (.cons_cons _ (.cons_cons _ (.cons_cons _ (.cons_cons _ (.cons_cons _ (.cons_cons _ .slnil))))))))))
         refine ⟨fun _ => hS, ?_⟩
         refine A1 rfl ?_
         have hsL290 := hs
         have hrelxs2154L290 := hrelxs2154
         have hrelxs2153L290 := hrelxs2153
         have hagg1750L290 := hagg1750
         obtain ⟨gg1788, hlegg1788, hRgg1788, hs⟩ := hs.relRow (i := 0) rfl hvv2409
         replace hRv1 := hRv1.mono hlegg1788
         replace hRv2 := hRv2.mono hlegg1788
         replace hrelxs2154 := hrelxs2154.mono hlegg1788
         replace hrelxs2153 := hrelxs2153.mono hlegg1788
         replace hagg1750 := hagg1750.trans hlegg1788
         obtain ⟨rv446, hrv446, hM⟩ := bindS hM
         refine C [Value.agg (List.toArray (α := Value) [Value.int .i64 p1.States, Value.int .i64 p1.Start, v1, v2]), v2409] cf48 rfl (ref09_Closure_ok hrv446 hs.imm (⟨[Value.int .i64 p1.States], [Value.int .i64 p1.Start], [v1], [v2], rfl, rfl, rfl, ⟨_, rfl, hRv1⟩, ⟨_, rfl, hRv2⟩⟩) hRgg1788) rfl ?_
         rintro v2410 wv1685 ⟨gg1789, xs2195, hvv2410, hegg1789⟩
         obtain ⟨gg1790, hlegg1790, hs⟩ := hsL290.lentOwn hegg1789
         simp only [List.cons_append, List.nil_append] at hs
         have hvv2410 : RowRel (tInt .i64) gg1790 xs2195 rv446 := RowRel.flat (fun _ _ _ _ h => h) hvv2410
         replace hrelxs2154 := hrelxs2154L290.mono hlegg1790
         replace hrelxs2153 := hrelxs2153L290.mono hlegg1790
         replace hagg1750 := hagg1750L290.trans hlegg1790
         refine OW_nil ?_
         replace hS := hS.to hagg1750 (hs.sub (.cons _ (.cons _ (.cons_cons _ (.cons_cons _ (.cons_cons _ (.cons_cons _ (.cons_cons _ (.cons_cons _ (.cons_cons _ (.cons_cons _ .slnil)))))))))))
         refine ⟨fun _ => hS, ?_⟩
         refine A rfl hS (fun w9 ⟨g9, hle9, hs⟩ => r_assign (v := v2410) rfl) rfl <| AN <| WP_seq <| WP_seq <| WP_region <| O (r_move (v := v2410) rfl) rfl ?_
         obtain ⟨a525, ca525, hva525⟩ := hs.rowShape (i := 0) rfl
         refine O (r_lenSl (v := v2410) Try.underlying22 rfl hva525) rfl <| O (r_eql rfl rfl) rfl <| OW_nil ?_
         rcases condS hM with ⟨hc538, hM⟩ | ⟨hc538, hM⟩
         ·refine WP_true rfl hc538 <| WP_seq <| WP_region <| O (r_move (v := v2362) rfl) rfl <| OW_lit (τ := (tInt .i64)) [Value.int .i64 (-1)] [(-1)] Try.underlying22 ti3 (by decide) hs rfl rfl rfl ⟨rfl, trivial⟩ rfl ?_
          intro v2411 wv1686 xs2196 hrelxs2196 hs
          obtain ⟨y840, hy840, hM⟩ := bindS hM
          refine OW_append Try.underlying22 ti3 rfl (by decide) (by decide) hs (i := 3) rfl hrelxs2154 (v := v2362) rfl (u := v2411) rfl (hs.rowSrc (i := 0) rfl) hrelxs2196 hy840 rfl ?_
          intro v2412 wv1687 xs2197 hrelxs2197 hs
          refine O (r_assign (v := v2412) rfl) rfl <| OW_nil <| WP_exit ?_
          simp only [Option.some.injEq, Prod.mk.injEq] at hM
          obtain ⟨rfl, rfl⟩ := hM
          exact ⟨gg1790, v2412, xs2197, v2361, xs2153, rfl, rfl, rfl, rfl, rfl, rfl, rfl, rfl, rfl, rfl, hds, hagg1750, hrelxs2197, hrelxs2153, (hs.sub (.cons _ (.cons _ (.cons _ (.cons_cons _ (.cons_cons _ (.cons_cons _ (.cons_cons _ (.cons_cons _ (.cons_cons _ (.cons_cons _ (.cons_cons _ .slnil))))))))))))⟩
         ·refine WP_false rfl hc538 <| WP_skip <| WP_seq <| WP_region <| O (r_move (v := v2361) rfl) rfl <| O (r_move (v := v2410) rfl) rfl ?_
          have hsL291 := hs
          have hrelxs2154L291 := hrelxs2154
          have hrelxs2153L291 := hrelxs2153
          have hvv2410L291 := hvv2410
          have hagg1750L291 := hagg1750
          obtain ⟨gg1791, hlegg1791, hRgg1791, hs⟩ := hs.relRow (i := 5) rfl hrelxs2153
          replace hrelxs2154 := hrelxs2154.mono hlegg1791
          replace hvv2410 := hvv2410.mono hlegg1791
          replace hagg1750 := hagg1750.trans hlegg1791
          obtain ⟨gg1792, hlegg1792, hRgg1792, hs⟩ := hs.relRow (i := 0) rfl hvv2410
          replace hrelxs2154 := hrelxs2154.mono hlegg1792
          replace hRgg1791 := hRgg1791.mono hlegg1792
          replace hagg1750 := hagg1750.trans hlegg1792
          obtain ⟨rv447, hrv447, hM⟩ := bindS hM
          refine C [v2361, v2410] cf50 rfl (ref10_find_ok hrv447 hs.imm hRgg1791 hRgg1792) rfl ?_
          rintro v2413 wv1688 ⟨gg1793, hvv2413, hegg1793⟩
          obtain ⟨gg1794, hlegg1794, hs⟩ := hsL291.lent hegg1793
          replace hrelxs2154 := hrelxs2154L291.mono hlegg1794
          replace hrelxs2153 := hrelxs2153L291.mono hlegg1794
          replace hvv2410 := hvv2410L291.mono hlegg1794
          replace hagg1750 := hagg1750L291.trans hlegg1794
          obtain ⟨cs591, rfl, hcs591⟩ := hvv2413
          have hcs591 : cs591 = _ := hcs591; subst hcs591
          refine O (r_assign (v := Value.int .i64 rv447) rfl) rfl <| OW_nil ?_
          obtain ⟨⟨y842, xv501⟩, hx242, hKhx242⟩ := bindS hM
          refine WP_cut (fun E w => ∃ (gg1796 : Hp) (v2416 : Value) (xs2200 : List Value), E 1 = Value.pointer (some ⟨b1, 0, none⟩) ∧ E 2 = Value.pointer (some ⟨b2, 0, none⟩) ∧ E 6 = v1633 ∧ E 7 = v1634 ∧ E 8 = v2416 ∧ E 9 = v1636 ∧ E 10 = v1637 ∧ E 11 = Value.int .i64 xv343 ∧ E 12 = v2362 ∧ E 13 = Value.int .i64 xv492 ∧ E 15 = Value.int .i64 xv501 ∧ E.ds = [] ∧ Hle gg1794 gg1796 ∧ RowRel (tSl (tInt .i64)) gg1796 xs2200 y842 ∧ Go.Lx.Sep g0 w0 gg1796 w [.row v2362 3 (tInt .i64).sz xv491.length xs2154, .row v1636 22 (tSl (tInt .i64)).sz xv341.length xs1493, .row v1637 3 (tInt .i64).sz xv342.length xs1494, .row v2416 22 (tSl (tInt .i64)).sz y842.length xs2200, .row v1634 5 (tInt .u8).sz rv3.length xs1491, .row v1633 3 (tInt .i64).sz rv2.length xs1490, Go.Lx.box b2 25 ([Value.slice none 0 0, Value.slice none 0 0, Value.slice none 0 0]), Go.Lx.box b1 41 ([Value.int .i64 p1.States, Value.int .i64 p1.Start, v1, v2])]) ?_ ?_
          ·have hM := hx242
           have hagg1794 := Hle.refl gg1794
           refine WP_seq <| WP_region <| O (r_move (v := Value.int .i64 rv447) rfl) rfl <| O (r_lss rfl rfl) rfl <| OW_nil ?_
           rcases condS hM with ⟨hc540, hM⟩ | ⟨hc540, hM⟩
           ·refine WP_true rfl hc540 <| WP_seq <| WP_region <| O (r_move (v := v2361) rfl) rfl ?_
            obtain ⟨a527, ca527, hva527⟩ := hs.rowShape (i := 5) rfl
            refine O (r_lenSl (v := v2361) Try.underlying23 rfl hva527) rfl <| O (r_assign (v := Value.int .i64 (xv490.length : Int)) rfl) rfl <| OW_nil <| WP_region <| O (r_move (v := v2361) rfl) rfl <| O (r_move (v := v2410) rfl) rfl ?_
            obtain ⟨gg1797, hlegg1797, hRgg1797, hs⟩ := hs.relRow (i := 0) rfl hvv2410
            replace hrelxs2153 := hrelxs2153.mono hlegg1797
            replace hagg1794 := hagg1794.trans hlegg1797
            refine OW_lit (τ := (tSl (tInt .i64))) [v2410] [rv446] Try.underlying23 ti22 (by decide) hs rfl rfl rfl ⟨⟨v2410, cells_one (by obtain ⟨_, _, h9⟩ := hRgg1797.shape; rw [h9]; rfl), hRgg1797⟩, trivial⟩ rfl ?_
            intro v2417 wv1691 xs2201 hrelxs2201 hs
            obtain ⟨y843, hy843, hM⟩ := bindS hM
            refine OW_append Try.underlying23 ti22 rfl (by decide) (by decide) hs (i := 5) rfl hrelxs2153 (v := v2361) rfl (u := v2417) rfl (hs.rowSrc (i := 0) rfl) hrelxs2201 hy843 rfl ?_
            intro v2418 wv1692 xs2202 hrelxs2202 hs
            refine O (r_assign (v := v2418) rfl) rfl <| OW_nil ?_
            simp only [Option.some.injEq, Prod.mk.injEq] at hM
            obtain ⟨rfl, rfl⟩ := hM
            exact ⟨gg1797, v2418, xs2202, rfl, rfl, rfl, rfl, rfl, rfl, rfl, rfl, rfl, rfl, rfl, hds, hagg1794, hrelxs2202, (hs.sub (.cons _ (.cons _ (.cons_cons _ (.cons_cons _ (.cons_cons _ (.cons_cons _ (.cons_cons _ (.cons_cons _ (.cons_cons _ (.cons_cons _ .slnil)))))))))))⟩
           ·refine WP_false rfl hc540 <| WP_skip ?_
            simp only [Option.some.injEq, Prod.mk.injEq] at hM
            obtain ⟨rfl, rfl⟩ := hM
            exact ⟨gg1794, v2361, xs2153, rfl, rfl, rfl, rfl, rfl, rfl, rfl, rfl, rfl, rfl, rfl, hds, (Hle.refl _), hrelxs2153, (hs.sub (.cons _ (.cons _ (.cons_cons _ (.cons_cons _ (.cons_cons _ (.cons_cons _ (.cons_cons _ (.cons_cons _ (.cons_cons _ (.cons_cons _ .slnil)))))))))))⟩
          ·clear hs
           rintro E w ⟨gg1796, v2416, xs2200, hE1, hE2, hE6, hE7, hE8, hE9, hE10, hE11, hE12, hE13, hE15, hds, hlegg1796, hrelxs2200, hs⟩
           have hM := hKhx242
           obtain ⟨E, rfl⟩ := open8 (E := E) hE1 hE2 hE6 hE7 hE8 hE9 hE10 hE11
           obtain ⟨E, rfl⟩ := open3 (E := E) hE12 hE13 hE15
           replace hrelxs2154 := hrelxs2154.mono hlegg1796
           replace hagg1750 := hagg1750.trans hlegg1796
           refine WP_region <| O (r_move (v := v2362) rfl) rfl <| O (r_move (v := Value.int .i64 xv501) rfl) rfl <| OW_lit (τ := (tInt .i64)) [Value.int .i64 xv501] [xv501] Try.underlying22 ti3 (by decide) hs rfl rfl rfl ⟨rfl, trivial⟩ rfl ?_
           intro v2419 wv1693 xs2203 hrelxs2203 hs
           obtain ⟨y844, hy844, hM⟩ := bindS hM
           refine OW_append Try.underlying22 ti3 rfl (by decide) (by decide) hs (i := 1) rfl hrelxs2154 (v := v2362) rfl (u := v2419) rfl (hs.rowSrc (i := 0) rfl) hrelxs2203 hy844 rfl ?_
           intro v2420 wv1694 xs2204 hrelxs2204 hs
           refine O (r_assign (v := v2420) rfl) rfl <| OW_nil ?_
           simp only [Option.some.injEq, Prod.mk.injEq] at hM
           obtain ⟨rfl, rfl⟩ := hM
           exact ⟨gg1796, v2420, xs2204, v2416, xs2200, rfl, rfl, rfl, rfl, rfl, rfl, rfl, rfl, rfl, rfl, hds, hagg1750, hrelxs2204, hrelxs2200, (hs.sub (.cons _ (.cons_cons _ (.cons_cons _ (.cons_cons _ (.cons_cons _ (.cons_cons _ (.cons_cons _ (.cons_cons _ (.cons_cons _ .slnil))))))))))⟩
        ·clear hs
         rintro E w ⟨gg1786, v2407, xs2193, v2406, xs2192, hE1, hE2, hE6, hE7, hE8, hE9, hE10, hE11, hE12, hE13, hds, hlegg1786, hrelxs2193, hrelxs2192, hs⟩
         have hM := hKhx241
         obtain ⟨E, rfl⟩ := open8 (E := E) hE1 hE2 hE6 hE7 hE8 hE9 hE10 hE11
         obtain ⟨E, rfl⟩ := open2 (E := E) hE12 hE13
         replace hlegg1750 := hlegg1750.trans hlegg1786
         refine WP_region <| O (r_move (v := Value.int .i64 xv492) rfl) rfl ?_
         obtain ⟨t83, ht83, hM⟩ := bindS hM
         refine O (r_addM rfl rfl ht83) rfl <| O (r_assign (v := Value.int .i64 t83) rfl) rfl <| OW_nil ?_
         obtain rfl := Option.some.inj hM
         exact ⟨gg1786, v2407, xs2193, v2406, xs2192, rfl, rfl, rfl, rfl, rfl, rfl, rfl, rfl, rfl, rfl, hds, hlegg1750, hrelxs2193, hrelxs2192, hs⟩
       ·refine WP_false rfl hc534 <| WP_exit ?_
        obtain rfl := Option.some.inj hM
        refine fun hr => ?_
        have hM := congrArg some hr
        simp only [Option.some.injEq, Prod.mk.injEq] at hM
        obtain ⟨rfl, rfl⟩ := hM
        exact ⟨gg1750, v2362, xs2154, v1636, xs1493, v1637, xs1494, v2361, xs2153, v1634, xs1491, v1633, xs1490, rfl, rfl, rfl, rfl, rfl, rfl, rfl, rfl, rfl, hds, hlegg1750, hrelxs2154, hrelxs1493, hrelxs1494, hrelxs2153, hrelxs1491, hrelxs1490, hs⟩
      ·clear hs
       rintro E w ⟨gg1725, v2330, xs2122, v2328, xs2120, v2329, xs2121, v2327, xs2119, v2326, xs2118, v2325, xs2117, hE1, hE2, hE6, hE7, hE8, hE9, hE10, hE11, hE12, hds, hlegg1725, hrelxs2122, hrelxs2120, hrelxs2121, hrelxs2119, hrelxs2118, hrelxs2117, hs⟩
       have hM := hKhx233
       obtain ⟨E, rfl⟩ := open8 (E := E) hE1 hE2 hE6 hE7 hE8 hE9 hE10 hE11
       obtain ⟨E, rfl⟩ := open1 (E := E) hE12
       replace hRv1 := hRv1.mono hlegg1725
       replace hRv2 := hRv2.mono hlegg1725
       replace hagg1205 := hagg1205.trans hlegg1725
       refine WP_seq <| WP_seq <| WP_region <| O (r_move (v := v2327) rfl) rfl ?_
       obtain ⟨a528, ca528, hva528⟩ := hs.rowShape (i := 3) rfl
       refine O (r_lenSl (v := v2327) Try.underlying23 rfl hva528) rfl <| O (r_gtr rfl rfl) rfl <| OW_nil ?_
       rcases condS hM with ⟨hc541, hM⟩ | ⟨hc541, hM⟩
       ·refine WP_true rfl hc541 <| WP_seq <| WP_region <| O (r_build (vs := []) (cs := [Value.slice none 0 0, Value.slice none 0 0, Value.slice none 0 0]) rfl (built_fill [(0, 1), (1, 1), (2, 1)] [Value.slice none 0 0, Value.slice none 0 0, Value.slice none 0 0] (fun _ => by kernel_rfl) (fill_done))) rfl <| OW_storeAll ti25 hs (i := 6) rfl rfl (v := Value.agg (List.toArray (α := Value) [Value.slice none 0 0, Value.slice none 0 0, Value.slice none 0 0])) rfl (vs := [Value.slice none 0 0, Value.slice none 0 0, Value.slice none 0 0]) rfl (one_cons rfl (one_cons rfl (one_cons rfl one_nil))) rfl rfl ?_
        intro wv1695 hs
        refine O (r_assign (v := Value.int .i64 11) rfl) rfl <| OW_nil <| WP_ret ?_
        obtain rfl := Option.some.inj hM
        have hM := hKhx223
        obtain rfl := Option.some.inj hM
        refine fun hr => ?_
        have hM := congrArg some hr
        obtain rfl := Option.some.inj hM
        have hM := hKhx125
        obtain rfl := Option.some.inj hM
        refine FL_nil hds ?_
        exact ⟨_, res2 Try.results22 (rv_cells (vs := [Value.slice none 0 0, Value.slice none 0 0, Value.slice none 0 0]) ti25 rfl rfl (hs.cells (i := 6) rfl)) (rv_tmp (v := Value.int .i64 11) rfl), gg1725, ⟨_, _, rfl, ⟨[Value.slice none 0 0, Value.slice none 0 0, Value.slice none 0 0], rfl, ⟨[Value.slice none 0 0], [Value.slice none 0 0], [Value.slice none 0 0], rfl, ⟨_, rfl, RdS.nil⟩, ⟨_, rfl, RdS.nil⟩, ⟨_, rfl, RdS.nil⟩⟩⟩, ⟨[Value.int .i64 11], rfl, rfl⟩⟩, hs.ext⟩
       ·refine WP_false rfl hc541 <| WP_skip ?_
        obtain ⟨gg1799, hlegg1799, hRgg1799, hs⟩ := hs.relRow (i := 0) rfl hrelxs2122
        replace hRv1 := hRv1.mono hlegg1799
        replace hRv2 := hRv2.mono hlegg1799
        replace hrelxs2120 := hrelxs2120.mono hlegg1799
        replace hrelxs2121 := hrelxs2121.mono hlegg1799
        replace hrelxs2119 := hrelxs2119.mono hlegg1799
        replace hrelxs2118 := hrelxs2118.mono hlegg1799
        replace hrelxs2117 := hrelxs2117.mono hlegg1799
        replace hagg1205 := hagg1205.trans hlegg1799
        refine WP_any (.q 0 (.q 1 (.q 4 (.q 5 (.q 6 (.q 7 (.q 8 (.q 9 (.s 2 (.s 3 (.s 10 (.s 11 (.s 12 (.q 13 (.q 14 (.leaf)))))))))))))))) (SS g0 w0 gg1799 [.row v2328 22 (tSl (tInt .i64)).sz xv341.length xs2120, .row v2329 3 (tInt .i64).sz xv342.length xs2121, .row v2327 22 (tSl (tInt .i64)).sz xv482.length xs2119, .row v2326 5 (tInt .u8).sz rv3.length xs2118, .row v2325 3 (tInt .i64).sz rv2.length xs2117, Go.Lx.box b2 25 ([Value.slice none 0 0, Value.slice none 0 0, Value.slice none 0 0]), Go.Lx.box b1 41 ([Value.int .i64 p1.States, Value.int .i64 p1.Start, v1, v2])]) mo (by decide +kernel) ?_
        have hs := hs.drew
        have hagg1799 := Hle.refl gg1799
        have hS : SS g0 w0 gg1799 [.row v2328 22 (tSl (tInt .i64)).sz xv341.length xs2120, .row v2329 3 (tInt .i64).sz xv342.length xs2121, .row v2327 22 (tSl (tInt .i64)).sz xv482.length xs2119, .row v2326 5 (tInt .u8).sz rv3.length xs2118, .row v2325 3 (tInt .i64).sz rv2.length xs2117, Go.Lx.box b2 25 ([Value.slice none 0 0, Value.slice none 0 0, Value.slice none 0 0]), Go.Lx.box b1 41 ([Value.int .i64 p1.States, Value.int .i64 p1.Start, v1, v2])] _ := ⟨gg1799, Hle.refl _, hs⟩
        refine A rfl hS (fun w9 ⟨g9, hle9, hs⟩ => r_move (v := v2328) rfl) rfl <| A rfl hS (fun w9 ⟨g9, hle9, hs⟩ => r_move (v := v2330) rfl) rfl <| A rfl hS (fun w9 ⟨g9, hle9, hs⟩ => r_move (v := v2329) rfl) rfl <| A rfl hS (fun w9 ⟨g9, hle9, hs⟩ => r_loadN (cs := [Value.int .i64 p1.States, Value.int .i64 p1.Start, v1, v2]) ti41 rfl rfl (hs.cells (i := 6) rfl)) rfl <| A rfl hS (fun w9 ⟨g9, hle9, hs⟩ => r_move (v := v2327) rfl) rfl <| A rfl hS (fun w9 ⟨g9, hle9, hs⟩ => r_move (v := Value.int .i64 xv343) rfl) rfl ?_
        obtain ⟨e324, he324, hM⟩ := bindS hM
        obtain ⟨b338, cb338, hvb338, cs593, hcs593, hcb338⟩ := hs.rowEl (i := 2) rfl hrelxs2119 he324
        obtain ⟨v2423, rfl, hRv2423⟩ := hcs593
        refine A rfl hS (fun w9 ⟨g9, hle9, hs⟩ => r_idxSl Try.underlying23 ti22 (v := v2327) rfl hvb338 rfl (idxL_some he324).1 (idxL_some he324).2.1) rfl <| A rfl hS (fun w9 ⟨g9, hle9, hs⟩ => r_loadEl (cs := [v2423]) ti22 rfl rfl (.inr rfl) (hcb338 _ (hs.at (i := 2) rfl)) (v := v2423) rfl) rfl <| A1 rfl <| OW_lit (τ := (tSl (tInt .i64))) [v2330] [xv483] Try.underlying23 ti22 (by decide) hs rfl rfl rfl ⟨⟨v2330, cells_one (by obtain ⟨_, _, h9⟩ := hRgg1799.shape; rw [h9]; rfl), hRgg1799⟩, trivial⟩ rfl ?_
        intro v2424 wv1697 xs2206 hrelxs2206 hs
        refine OW_nil ?_
        replace hS := hS.to (Hle.refl _) (hs.sub (.cons _ (.cons_cons _ (.cons_cons _ (.cons_cons _ (.cons_cons _ (.cons_cons _ (.cons_cons _ (.cons_cons _ .slnil)))))))))
        refine ⟨fun _ => hS, ?_⟩
        refine A1 rfl ?_
        obtain ⟨y845, hy845, hM⟩ := bindS hM
        refine OW_appendK Try.underlying23 ti22 rfl (by decide) (by decide) hs (i := 1) rfl hrelxs2120 (v := v2328) rfl (u := v2424) rfl (hs.rowSrc (i := 0) rfl) hrelxs2206 hy845 rfl ?_
        intro v2425 wv1698 xs2207 hrelxs2207 hsO hs
        refine OW_nil ?_
        have hsO : Go.Lx.Sep g0 w0 gg1799 _ [.row v2328 22 (tSl (tInt .i64)).sz xv341.length xs2120, .row v2329 3 (tInt .i64).sz xv342.length xs2121, .row v2327 22 (tSl (tInt .i64)).sz xv482.length xs2119, .row v2326 5 (tInt .u8).sz rv3.length xs2118, .row v2325 3 (tInt .i64).sz rv2.length xs2117, Go.Lx.box b2 25 ([Value.slice none 0 0, Value.slice none 0 0, Value.slice none 0 0]), Go.Lx.box b1 41 ([Value.int .i64 p1.States, Value.int .i64 p1.Start, v1, v2])] := (hsO.sub (.cons _ (.cons_cons _ (.cons_cons _ (.cons_cons _ (.cons_cons _ (.cons_cons _ (.cons_cons _ (.cons_cons _ .slnil)))))))))
        replace hS := hS.to (Hle.refl _) hsO
        refine ⟨fun _ => hS, ?_⟩
        refine A1 rfl ?_
        obtain ⟨rv448, hrv448, hM⟩ := bindS hM
        refine C [Value.agg (List.toArray (α := Value) [Value.int .i64 p1.States, Value.int .i64 p1.Start, v1, v2]), v2423] cf51 rfl (ref10_least_ok hrv448 hs.imm (⟨[Value.int .i64 p1.States], [Value.int .i64 p1.Start], [v1], [v2], rfl, rfl, rfl, ⟨_, rfl, hRv1⟩, ⟨_, rfl, hRv2⟩⟩) hRv2423) rfl ?_
        rintro v2426 wv1699 ⟨gg1800, hvv2426, hegg1800⟩
        have hlegg1800 := hegg1800.le hs.imm
        replace hs := hs.call hegg1800
        replace hsO := hsO.call hegg1800
        replace hrelxs2121 := hrelxs2121.mono hlegg1800
        replace hrelxs2119 := hrelxs2119.mono hlegg1800
        replace hrelxs2118 := hrelxs2118.mono hlegg1800
        replace hrelxs2117 := hrelxs2117.mono hlegg1800
        replace hrelxs2207 := hrelxs2207.mono hlegg1800
        replace hagg1205 := hagg1205.trans hlegg1800
        replace hagg1799 := hagg1799.trans hlegg1800
        obtain ⟨cs594, rfl, hcs594⟩ := hvv2426
        have hcs594 : cs594 = _ := hcs594; subst hcs594
        refine OW_nil ?_
        replace hS := hS.to hagg1799 hsO
        refine ⟨fun _ => hS, ?_⟩
        refine A1 rfl <| OW_litK (τ := (tInt .i64)) [Value.int .i64 rv448] [rv448] Try.underlying22 ti3 (by decide) hs rfl rfl rfl ⟨rfl, trivial⟩ rfl ?_
        intro v2427 wv1700 xs2208 hrelxs2208 hK9 hs
        replace hsO := hK9 _ hsO
        clear hK9
        refine OW_nil ?_
        replace hS := hS.to hagg1799 hsO
        refine ⟨fun _ => hS, ?_⟩
        refine A1 rfl ?_
        obtain ⟨y846, hy846, hM⟩ := bindS hM
        refine OW_append2 Try.underlying22 ti3 rfl (by decide) (by decide) hs (i := 3) rfl hrelxs2121 (v := v2329) rfl (u := v2427) rfl (hs.rowSrc (i := 0) rfl) hrelxs2208 hy846 rfl ?_
        intro v2428 wv1701 xs2209 hrelxs2209 hK9 hs
        replace hsO := hK9 (j := 1) rfl hsO
        clear hK9
        refine OW_nil ?_
        replace hS := hS.to hagg1799 hsO
        refine ⟨fun _ => hS, ?_⟩
        refine A rfl hS (fun w9 ⟨g9, hle9, hs⟩ => r_assign (v := v2425) rfl) rfl <| A rfl hS (fun w9 ⟨g9, hle9, hs⟩ => r_assign (v := v2428) rfl) rfl <| AN ?_
        obtain rfl := Option.some.inj hM
        exact ⟨xv482, y845, y846, rfl, gg1800, v2425, xs2207, v2428, xs2209, v2327, xs2119, v2326, xs2118, v2325, xs2117, rfl, rfl, rfl, rfl, rfl, rfl, rfl, rfl, hds, hagg1205, hrelxs2207, hrelxs2209, hrelxs2119, hrelxs2118, hrelxs2117, (hs.sub (.cons _ (.cons _ (.cons_cons _ (.cons_cons _ (.cons_cons _ (.cons_cons _ (.cons_cons _ (.cons_cons _ (.cons_cons _ .slnil))))))))))⟩
     ·clear hs
      rintro E w ⟨xv463, y777, y778, rfl, gg1652, v2233, xs2033, v2234, xs2034, v2232, xs2032, v2231, xs2031, v2230, xs2030, hE1, hE2, hE6, hE7, hE8, hE9, hE10, hE11, hds, hlegg1652, hrelxs2033, hrelxs2034, hrelxs2032, hrelxs2031, hrelxs2030, hs⟩
      have hM := hKhx223
      dsimp only [onStep] at hM
      obtain ⟨E, rfl⟩ := open8 (E := E) hE1 hE2 hE6 hE7 hE8 hE9 hE10 hE11
      replace hlegg1205 := hlegg1205.trans hlegg1652
      refine WP_region <| O (r_move (v := Value.int .i64 xv343) rfl) rfl ?_
      obtain ⟨t84, ht84, hM⟩ := bindS hM
      refine O (r_addM rfl rfl ht84) rfl <| O (r_assign (v := Value.int .i64 t84) rfl) rfl <| OW_nil ?_
      obtain rfl := Option.some.inj hM
      exact ⟨gg1652, v2233, xs2033, v2234, xs2034, v2232, xs2032, v2231, xs2031, v2230, xs2030, rfl, rfl, rfl, rfl, rfl, rfl, rfl, rfl, hds, hlegg1205, hrelxs2033, hrelxs2034, hrelxs2032, hrelxs2031, hrelxs2030, hs⟩
    ·refine WP_false rfl hc455 <| WP_exit ?_
     obtain rfl := Option.some.inj hM
     refine fun hr => ?_
     have hM := congrArg some hr
     obtain rfl := Option.some.inj hM
     exact ⟨xv341, xv342, rfl, gg1205, v1636, xs1493, v1637, xs1494, v1633, xs1490, rfl, rfl, rfl, rfl, hds, hlegg1205, hrelxs1493, hrelxs1494, hrelxs1490, (hs.sub (.cons_cons _ (.cons_cons _ (.cons _ (.cons _ (.cons_cons _ (.cons_cons _ (.cons _ .slnil))))))))⟩
   ·clear hs
    rintro E w ⟨xv257, xv258, rfl, gg906, v1237, xs1128, v1238, xs1129, v1236, xs1127, hE2, hE6, hE9, hE10, hds, hlegg906, hrelxs1128, hrelxs1129, hrelxs1127, hs⟩
    have hM := hKhx125
    dsimp only [onStep] at hM
    obtain ⟨E, rfl⟩ := open4 (E := E) hE2 hE6 hE9 hE10
    refine WP_seq <| WP_region <| O (r_move (v := v1236) rfl) rfl <| O (r_move (v := v1237) rfl) rfl <| O (r_move (v := v1238) rfl) rfl ?_
    have ho1 := one_of_shape (hs.rowShape (i := 2) rfl)
    have ho2 := one_of_shape (hs.rowShape (i := 0) rfl)
    have ho3 := one_of_shape (hs.rowShape (i := 1) rfl)
    refine O (r_build (vs := [(0, v1236), (1, v1237), (2, v1238)]) (cs := [v1236, v1237, v1238]) rfl (built_fill [(0, 1), (1, 1), (2, 1)] [Value.slice none 0 0, Value.slice none 0 0, Value.slice none 0 0] (fun _ => by kernel_rfl) (fill_step ([]) ([Value.slice none 0 0]) ([Value.slice none 0 0, Value.slice none 0 0]) ([v1236]) rfl rfl (cells_one ho1) rfl rfl rfl <| fill_step ([v1236]) ([Value.slice none 0 0]) ([Value.slice none 0 0]) ([v1237]) rfl rfl (cells_one ho2) rfl rfl rfl <| fill_step ([v1236, v1237]) ([Value.slice none 0 0]) ([]) ([v1238]) rfl rfl (cells_one ho3) rfl rfl rfl <| fill_done))) rfl <| OW_storeAll ti25 hs (i := 3) rfl rfl (v := Value.agg (List.toArray (α := Value) [v1236, v1237, v1238])) rfl (vs := [v1236, v1237, v1238]) rfl (one_cons (by obtain ⟨_, _, h9⟩ := hs.rowShape (i := 2) rfl; rw [h9]; rfl) (one_cons (by obtain ⟨_, _, h9⟩ := hs.rowShape (i := 0) rfl; rw [h9]; rfl) (one_cons (by obtain ⟨_, _, h9⟩ := hs.rowShape (i := 1) rfl; rw [h9]; rfl) one_nil))) rfl rfl ?_
    intro wv1702 hs
    refine O (r_assign (v := Value.int .i64 0) rfl) rfl <| OW_nil <| WP_ret ?_
    obtain rfl := Option.some.inj hM
    obtain ⟨gg1801, hlegg1801, hRgg1801, hs⟩ := hs.relRow (i := 2) rfl hrelxs1127
    replace hrelxs1128 := hrelxs1128.mono hlegg1801
    replace hrelxs1129 := hrelxs1129.mono hlegg1801
    obtain ⟨gg1802, hlegg1802, hRgg1802, hs⟩ := hs.relRow (i := 0) rfl hrelxs1128
    replace hrelxs1129 := hrelxs1129.mono hlegg1802
    replace hRgg1801 := hRgg1801.mono hlegg1802
    obtain ⟨gg1803, hlegg1803, hRgg1803, hs⟩ := hs.relRow (i := 0) rfl hrelxs1129
    replace hRgg1801 := hRgg1801.mono hlegg1803
    replace hRgg1802 := hRgg1802.mono hlegg1803
    refine FL_nil hds ?_
    exact ⟨_, res2 Try.results22 (rv_cells (vs := [v1236, v1237, v1238]) ti25 rfl rfl (hs.cells (i := 0) rfl)) (rv_tmp (v := Value.int .i64 0) rfl), gg1803, ⟨_, _, rfl, ⟨[v1236, v1237, v1238], rfl, ⟨[v1236], [v1237], [v1238], rfl, ⟨_, rfl, hRgg1801⟩, ⟨_, rfl, hRgg1802⟩, ⟨_, rfl, hRgg1803⟩⟩⟩, ⟨[Value.int .i64 0], rfl, rfl⟩⟩, hs.ext⟩

set_option maxRecDepth 100000 in
theorem ref10_Valid_ok {p1 : T_DFA} {r : Bool} (hM : M.ref10_Valid p1 = some r) {g0 : Hp} {w0 : World} (hi : Imm g0 w0) {cs1 : List Value} (hcs1 : tT_DFA.rel g0 cs1 p1) :
    CallsV Try.prog 10 #[Value.agg cs1.toArray] w0 (fun v w' => ∃ g', (VRd tBool false g' v r) ∧ Ext g0 w0 g' w') := by
 unfold M.ref10_Valid at hM
 obtain ⟨cs2, cs3, cs4, rfl, hcs2, hcs3, hcs4⟩ := hcs1
 obtain ⟨v1, rfl, hRv1⟩ := hcs2
 obtain ⟨v2, rfl, hRv2⟩ := hcs3
 obtain ⟨v3, rfl, hRv3⟩ := hcs4
 have hs := Sep.start hi
 refine calls_of_WP (args := [Value.agg (List.toArray (α := Value) [v1, v2, v3])]) Try.func10 rfl Try.ntmps10 rfl ?_
 have hds : (argEnv [Value.agg (List.toArray (α := Value) [v1, v2, v3])]).ds = [] := rfl
 refine WP_seq <| WP_region <| OW_box (v := Value.agg (List.toArray (α := Value) [v1, v2, v3])) rfl hs (zs := [v1, v2, v3]) rfl rfl ?_
 intro b1 wv1 hs
 refine O (r_assign (v := Value.bool false) rfl) rfl <| OW_nil <| WP_seq <| WP_region <| O (r_fieldAddr Try.underlying25 ti23 rfl rfl (by decide) rfl rfl) rfl <| O (r_load (v := v2) ti23 rfl (hs.cell (i := 0) (o := 1) rfl rfl)) rfl ?_
 obtain ⟨a1, ca1, hva1⟩ := hRv2.shape
 refine O (r_lenSl (v := v2) Try.underlying23 rfl hva1) rfl <| O (r_assign (v := Value.int .i64 (p1.Next.length : Int)) rfl) rfl <| OW_nil <| WP_seq ?_
 obtain ⟨xv1, hx1, hKhx1⟩ := bindS hM
 refine WP_cut (fun E w => E 1 = Value.pointer (some ⟨b1, 0, none⟩) ∧ E 3 = Value.int .i64 (p1.Next.length : Int) ∧ E 29 = Value.bool xv1 ∧ E.ds = [] ∧ Go.Lx.Sep g0 w0 g0 w [Go.Lx.box b1 25 ([v1, v2, v3])]) ?_ ?_
 ·have hM := hx1
  have hag0 := Hle.refl g0
  refine WP_region <| O (r_fieldAddr Try.underlying25 ti22 rfl rfl (by decide) rfl rfl) rfl <| O (r_load (v := v1) ti22 rfl (hs.cell (i := 0) (o := 0) rfl rfl)) rfl ?_
  obtain ⟨a4, ca4, hva4⟩ := hRv1.shape
  refine O (r_lenSl (v := v1) Try.underlying22 rfl hva4) rfl <| O (r_neq rfl rfl) rfl <| O (r_move (v := Value.bool ((p1.Class.length : Int) != 256)) rfl) rfl ?_
  rcases condS hM with ⟨hg4, hM⟩ | ⟨hg4, hM⟩
  ·refine OK rfl rfl rfl (by rw [hg4]; rfl) rfl <| OK rfl rfl rfl (by rw [hg4]; rfl) rfl <| O (r_pickT (v := Value.bool true) rfl hg4 rfl) rfl <| O (r_move (v := Value.bool true) rfl) rfl <| OK rfl rfl rfl rfl rfl <| OK rfl rfl rfl rfl rfl <| O (r_pickT (v := Value.bool true) rfl rfl rfl) rfl <| O (r_move (v := Value.bool true) rfl) rfl <| OK rfl rfl rfl rfl rfl <| OK rfl rfl rfl rfl rfl <| OK rfl rfl rfl rfl rfl <| OK rfl rfl rfl rfl rfl <| OK rfl rfl rfl rfl rfl <| O (r_pickT (v := Value.bool true) rfl rfl rfl) rfl <| OW_nil ?_
   obtain rfl := Option.some.inj hM
   exact ⟨rfl, rfl, rfl, hds, hs⟩
  ·refine OG rfl rfl rfl (by rw [hg4]; rfl) (r_move (v := Value.int .i64 (p1.Next.length : Int)) rfl) rfl <| OG rfl rfl rfl (by rw [hg4]; rfl) (r_lss rfl rfl) rfl <| O (r_pickF (v := Value.bool (decide ((p1.Next.length : Int) < 1))) rfl hg4 rfl) rfl <| O (r_move (v := Value.bool (decide ((p1.Next.length : Int) < 1))) rfl) rfl ?_
   rcases condS hM with ⟨hg5, hM⟩ | ⟨hg5, hM⟩
   ·refine OK rfl rfl rfl (by rw [hg5]; rfl) rfl <| OK rfl rfl rfl (by rw [hg5]; rfl) rfl <| O (r_pickT (v := Value.bool true) rfl hg5 rfl) rfl <| O (r_move (v := Value.bool true) rfl) rfl <| OK rfl rfl rfl rfl rfl <| OK rfl rfl rfl rfl rfl <| OK rfl rfl rfl rfl rfl <| OK rfl rfl rfl rfl rfl <| OK rfl rfl rfl rfl rfl <| O (r_pickT (v := Value.bool true) rfl rfl rfl) rfl <| OW_nil ?_
    obtain rfl := Option.some.inj hM
    exact ⟨rfl, rfl, rfl, hds, hs⟩
   ·refine OG rfl rfl rfl (by rw [hg5]; rfl) (r_move (v := Value.int .i64 (p1.Next.length : Int)) rfl) rfl <| OG rfl rfl rfl (by rw [hg5]; rfl) (r_gtr rfl rfl) rfl <| O (r_pickF (v := Value.bool (decide (500 < (p1.Next.length : Int)))) rfl hg5 rfl) rfl <| O (r_move (v := Value.bool (decide (500 < (p1.Next.length : Int)))) rfl) rfl ?_
    rcases condS hM with ⟨hg6, hM⟩ | ⟨hg6, hM⟩
    ·refine OK rfl rfl rfl (by rw [hg6]; rfl) rfl <| OK rfl rfl rfl (by rw [hg6]; rfl) rfl <| OK rfl rfl rfl (by rw [hg6]; rfl) rfl <| OK rfl rfl rfl (by rw [hg6]; rfl) rfl <| OK rfl rfl rfl (by rw [hg6]; rfl) rfl <| O (r_pickT (v := Value.bool true) rfl hg6 rfl) rfl <| OW_nil ?_
     obtain rfl := Option.some.inj hM
     exact ⟨rfl, rfl, rfl, hds, hs⟩
    ·refine OG rfl rfl rfl (by rw [hg6]; rfl) (r_fieldAddr Try.underlying25 ti22 rfl rfl (by decide) rfl rfl) rfl <| OG rfl rfl rfl (by rw [hg6]; rfl) (r_load (v := v3) ti22 rfl (hs.cell (i := 0) (o := 2) rfl rfl)) rfl ?_
     obtain ⟨a5, ca5, hva5⟩ := hRv3.shape
     refine OG rfl rfl rfl (by rw [hg6]; rfl) (r_lenSl (v := v3) Try.underlying22 rfl hva5) rfl <| OG rfl rfl rfl (by rw [hg6]; rfl) (r_move (v := Value.int .i64 (p1.Next.length : Int)) rfl) rfl <| OG rfl rfl rfl (by rw [hg6]; rfl) (r_neq rfl rfl) rfl <| O (r_pickF (v := Value.bool ((p1.Accept.length : Int) != (p1.Next.length : Int))) rfl hg6 rfl) rfl <| OW_nil ?_
     obtain rfl := Option.some.inj hM
     exact ⟨rfl, rfl, rfl, hds, hs⟩
 ·clear hs
  rintro E w ⟨hE1, hE3, hE29, hds, hs⟩
  have hM := hKhx1
  obtain ⟨E, rfl⟩ := open3 (E := E) hE1 hE3 hE29
  rcases condS hM with ⟨hc1, hM⟩ | ⟨hc1, hM⟩
  ·refine WP_true rfl hc1 <| WP_seq <| WP_region <| O (r_assign (v := Value.bool false) rfl) rfl <| OW_nil <| WP_ret ?_
   obtain rfl := Option.some.inj hM
   refine FL_nil hds ?_
   exact ⟨_, res1 Try.results10 (rv_tmp (v := Value.bool false) rfl), g0, ⟨[Value.bool false], rfl, rfl⟩, hs.ext⟩
  ·refine WP_false rfl hc1 <| WP_skip <| WP_seq <| WP_region <| O (r_fieldAddr Try.underlying25 ti23 rfl rfl (by decide) rfl rfl) rfl <| O (r_load (v := v2) ti23 rfl (hs.cell (i := 0) (o := 1) rfl rfl)) rfl ?_
   obtain ⟨e1, he1, hM⟩ := bindS hM
   obtain ⟨b2, ob2, cb2, hvb2, cs5, hcs5, hcb2⟩ := hRv2.at he1
   obtain ⟨v4, rfl, hRv4⟩ := hcs5
   refine O (r_idxSl Try.underlying23 ti22 (v := v2) rfl hvb2 rfl (idxL_some he1).1 (idxL_some he1).2.1) rfl <| O (r_loadEl (cs := [v4]) ti22 rfl rfl (.inr rfl) (hcb2 _ hs.imm) (v := v4) rfl) rfl ?_
   obtain ⟨a6, ca6, hva6⟩ := hRv4.shape
   refine O (r_lenSl (v := v4) Try.underlying22 rfl hva6) rfl <| O (r_assign (v := Value.int .i64 (e1.length : Int)) rfl) rfl <| OW_nil <| WP_seq <| WP_seq <| WP_region <| O (r_move (v := Value.int .i64 (e1.length : Int)) rfl) rfl <| O (r_lss rfl rfl) rfl <| OW_nil ?_
   rcases condS hM with ⟨hc2, hM⟩ | ⟨hc2, hM⟩
   ·refine WP_true rfl hc2 <| WP_seq <| WP_region <| O (r_assign (v := Value.bool false) rfl) rfl <| OW_nil <| WP_ret ?_
    obtain rfl := Option.some.inj hM
    refine FL_nil hds ?_
    exact ⟨_, res1 Try.results10 (rv_tmp (v := Value.bool false) rfl), g0, ⟨[Value.bool false], rfl, rfl⟩, hs.ext⟩
   ·refine WP_false rfl hc2 <| WP_skip ?_
    obtain ⟨o3, hx5, hKhx5⟩ := stepS hM
    refine WP_cut (fun E w => ∃ u9 : Unit, o3 = .next u9 ∧ E 1 = Value.pointer (some ⟨b1, 0, none⟩) ∧ E 3 = Value.int .i64 (p1.Next.length : Int) ∧ E 4 = Value.int .i64 (e1.length : Int) ∧ E.ds = [] ∧ Go.Lx.Sep g0 w0 g0 w [Go.Lx.box b1 25 ([v1, v2, v3])]) ?_ ?_
    ·have hM := hx5
     have hag0 := Hle.refl g0
     refine WP_seq <| WP_region <| O (r_assign (v := Value.int .i64 0) rfl) rfl <| OW_nil <| WP_block <| WP_loop (fun (xv10 : Int) E w => E 1 = Value.pointer (some ⟨b1, 0, none⟩) ∧ E 3 = Value.int .i64 (p1.Next.length : Int) ∧ E 4 = Value.int .i64 (e1.length : Int) ∧ E 5 = Value.int .i64 xv10 ∧ E.ds = [] ∧ Go.Lx.Sep g0 w0 g0 w [Go.Lx.box b1 25 ([v1, v2, v3])]) hM ⟨rfl, rfl, rfl, rfl, hds, hs⟩ ?_
     clear hs hM
     rintro xv10 o2 E w hM ⟨hE1, hE3, hE4, hE5, hds, hs⟩
     obtain ⟨E, rfl⟩ := open4 (E := E) hE1 hE3 hE4 hE5
     refine WP_seq <| WP_seq <| WP_region <| O (r_move (v := Value.int .i64 xv10) rfl) rfl <| O (r_lss rfl rfl) rfl <| OW_nil ?_
     rcases condS hM with ⟨hc13, hM⟩ | ⟨hc13, hM⟩
     ·refine WP_true rfl hc13 <| WP_skip <| WP_seq <| WP_block ?_
      obtain ⟨xv13, hx8, hKhx8⟩ := bindS hM
      refine WP_cut (fun E w => E 1 = Value.pointer (some ⟨b1, 0, none⟩) ∧ E 3 = Value.int .i64 (p1.Next.length : Int) ∧ E 4 = Value.int .i64 (e1.length : Int) ∧ E 5 = Value.int .i64 xv10 ∧ E 55 = Value.bool xv13 ∧ E.ds = [] ∧ Go.Lx.Sep g0 w0 g0 w [Go.Lx.box b1 25 ([v1, v2, v3])]) ?_ ?_
      ·have hM := hx8
       refine WP_region <| O (r_fieldAddr Try.underlying25 ti22 rfl rfl (by decide) rfl rfl) rfl <| O (r_load (v := v1) ti22 rfl (hs.cell (i := 0) (o := 0) rfl rfl)) rfl <| O (r_move (v := Value.int .i64 xv10) rfl) rfl ?_
       obtain ⟨e13, he13, hM⟩ := bindS hM
       obtain ⟨b25, ob25, cb25, hvb25, cs28, hcs28, hcb25⟩ := hRv1.at he13
       have hcs28 : cs28 = _ := hcs28; subst hcs28
       refine O (r_idxSl Try.underlying22 ti3 (v := v1) rfl hvb25 rfl (idxL_some he13).1 (idxL_some he13).2.1) rfl <| O (r_loadEl (cs := [Value.int .i64 e13]) ti3 rfl rfl (.inr rfl) (hcb25 _ hs.imm) (v := Value.int .i64 e13) rfl) rfl <| O (r_lss rfl rfl) rfl <| O (r_move (v := Value.bool (decide (e13 < 0))) rfl) rfl ?_
       rcases condS hM with ⟨hg18, hM⟩ | ⟨hg18, hM⟩
       ·refine OK rfl rfl rfl (by rw [hg18]; rfl) rfl <| OK rfl rfl rfl (by rw [hg18]; rfl) rfl <| OK rfl rfl rfl (by rw [hg18]; rfl) rfl <| OK rfl rfl rfl (by rw [hg18]; rfl) rfl <| OK rfl rfl rfl (by rw [hg18]; rfl) rfl <| OK rfl rfl rfl (by rw [hg18]; rfl) rfl <| OK rfl rfl rfl (by rw [hg18]; rfl) rfl <| O (r_pickT (v := Value.bool true) rfl hg18 rfl) rfl <| OW_nil ?_
        obtain rfl := Option.some.inj hM
        exact ⟨rfl, rfl, rfl, rfl, rfl, hds, hs⟩
       ·refine OG rfl rfl rfl (by rw [hg18]; rfl) (r_fieldAddr Try.underlying25 ti22 rfl rfl (by decide) rfl rfl) rfl <| OG rfl rfl rfl (by rw [hg18]; rfl) (r_load (v := v1) ti22 rfl (hs.cell (i := 0) (o := 0) rfl rfl)) rfl <| OG rfl rfl rfl (by rw [hg18]; rfl) (r_move (v := Value.int .i64 xv10) rfl) rfl ?_
        obtain ⟨b26, ob26, cb26, hvb26, cs29, hcs29, hcb26⟩ := hRv1.at he13
        have hcs29 : cs29 = _ := hcs29; subst hcs29
        refine OG rfl rfl rfl (by rw [hg18]; rfl) (r_idxSl Try.underlying22 ti3 (v := v1) rfl hvb26 rfl (idxL_some he13).1 (idxL_some he13).2.1) rfl <| OG rfl rfl rfl (by rw [hg18]; rfl) (r_loadEl (cs := [Value.int .i64 e13]) ti3 rfl rfl (.inr rfl) (hcb26 _ hs.imm) (v := Value.int .i64 e13) rfl) rfl <| OG rfl rfl rfl (by rw [hg18]; rfl) (r_move (v := Value.int .i64 (e1.length : Int)) rfl) rfl <| OG rfl rfl rfl (by rw [hg18]; rfl) (r_geq rfl rfl) rfl <| O (r_pickF (v := Value.bool (decide ((e1.length : Int) ≤ e13))) rfl hg18 rfl) rfl <| OW_nil ?_
        obtain rfl := Option.some.inj hM
        exact ⟨rfl, rfl, rfl, rfl, rfl, hds, hs⟩
      ·clear hs
       rintro E w ⟨hE1, hE3, hE4, hE5, hE55, hds, hs⟩
       have hM := hKhx8
       obtain ⟨E, rfl⟩ := open5 (E := E) hE1 hE3 hE4 hE5 hE55
       rcases condS hM with ⟨hc14, hM⟩ | ⟨hc14, hM⟩
       ·refine WP_true rfl hc14 <| WP_seq <| WP_region <| O (r_assign (v := Value.bool false) rfl) rfl <| OW_nil <| WP_ret ?_
        obtain rfl := Option.some.inj hM
        refine fun hr => ?_
        have hM := congrArg some hr
        obtain rfl := Option.some.inj hM
        have hM := hKhx5
        obtain rfl := Option.some.inj hM
        refine FL_nil hds ?_
        exact ⟨_, res1 Try.results10 (rv_tmp (v := Value.bool false) rfl), g0, ⟨[Value.bool false], rfl, rfl⟩, hs.ext⟩
       ·refine WP_false rfl hc14 <| WP_skip <| WP_region <| O (r_move (v := Value.int .i64 xv10) rfl) rfl ?_
        obtain ⟨t6, ht6, hM⟩ := bindS hM
        refine O (r_addM rfl rfl ht6) rfl <| O (r_assign (v := Value.int .i64 t6) rfl) rfl <| OW_nil ?_
        obtain rfl := Option.some.inj hM
        exact ⟨rfl, rfl, rfl, rfl, hds, hs⟩
     ·refine WP_false rfl hc13 <| WP_exit ?_
      obtain rfl := Option.some.inj hM
      refine fun hr => ?_
      have hM := congrArg some hr
      obtain rfl := Option.some.inj hM
      exact ⟨(), rfl, rfl, rfl, rfl, hds, hs⟩
    ·clear hs
     rintro E w ⟨_, rfl, hE1, hE3, hE4, hds, hs⟩
     have hM := hKhx5
     dsimp only [onStep] at hM
     obtain ⟨E, rfl⟩ := open3 (E := E) hE1 hE3 hE4
     obtain ⟨o24, hx36, hKhx36⟩ := stepS hM
     refine WP_cut (fun E w => ∃ u9 : Unit, o24 = .next u9 ∧ E.ds = [] ∧ Go.Lx.Sep g0 w0 g0 w []) ?_ ?_
     ·have hM := hx36
      have hag0 := Hle.refl g0
      refine WP_seq <| WP_region <| O (r_assign (v := Value.int .i64 0) rfl) rfl <| OW_nil <| WP_block <| WP_loop (fun (xv74 : Int) E w => E 1 = Value.pointer (some ⟨b1, 0, none⟩) ∧ E 3 = Value.int .i64 (p1.Next.length : Int) ∧ E 4 = Value.int .i64 (e1.length : Int) ∧ E 6 = Value.int .i64 xv74 ∧ E.ds = [] ∧ Go.Lx.Sep g0 w0 g0 w [Go.Lx.box b1 25 ([v1, v2, v3])]) hM ⟨rfl, rfl, rfl, rfl, hds, hs⟩ ?_
      clear hs hM
      rintro xv74 o20 E w hM ⟨hE1, hE3, hE4, hE6, hds, hs⟩
      obtain ⟨E, rfl⟩ := open4 (E := E) hE1 hE3 hE4 hE6
      refine WP_seq <| WP_seq <| WP_region <| O (r_move (v := Value.int .i64 xv74) rfl) rfl <| O (r_move (v := Value.int .i64 (p1.Next.length : Int)) rfl) rfl <| O (r_lss rfl rfl) rfl <| OW_nil ?_
      rcases condS hM with ⟨hc90, hM⟩ | ⟨hc90, hM⟩
      ·refine WP_true rfl hc90 <| WP_skip ?_
       obtain ⟨o23, hx59, hKhx59⟩ := stepS hM
       refine WP_cut (fun E w => ∃ u9 : Unit, o23 = .next u9 ∧ E 1 = Value.pointer (some ⟨b1, 0, none⟩) ∧ E 3 = Value.int .i64 (p1.Next.length : Int) ∧ E 4 = Value.int .i64 (e1.length : Int) ∧ E 6 = Value.int .i64 xv74 ∧ E.ds = [] ∧ Go.Lx.Sep g0 w0 g0 w [Go.Lx.box b1 25 ([v1, v2, v3])]) ?_ ?_
       ·have hM := hx59
        refine WP_block <| WP_seq ?_
        obtain ⟨xv97, hx60, hKhx60⟩ := bindS hM
        refine WP_cut (fun E w => E 1 = Value.pointer (some ⟨b1, 0, none⟩) ∧ E 3 = Value.int .i64 (p1.Next.length : Int) ∧ E 4 = Value.int .i64 (e1.length : Int) ∧ E 6 = Value.int .i64 xv74 ∧ E 76 = Value.bool xv97 ∧ E.ds = [] ∧ Go.Lx.Sep g0 w0 g0 w [Go.Lx.box b1 25 ([v1, v2, v3])]) ?_ ?_
        ·have hM := hx60
         refine WP_region <| O (r_fieldAddr Try.underlying25 ti23 rfl rfl (by decide) rfl rfl) rfl <| O (r_load (v := v2) ti23 rfl (hs.cell (i := 0) (o := 1) rfl rfl)) rfl <| O (r_move (v := Value.int .i64 xv74) rfl) rfl ?_
         obtain ⟨e160, he160, hM⟩ := bindS hM
         obtain ⟨b337, ob337, cb337, hvb337, cs340, hcs340, hcb337⟩ := hRv2.at he160
         obtain ⟨v160, rfl, hRv160⟩ := hcs340
         refine O (r_idxSl Try.underlying23 ti22 (v := v2) rfl hvb337 rfl (idxL_some he160).1 (idxL_some he160).2.1) rfl <| O (r_loadEl (cs := [v160]) ti22 rfl rfl (.inr rfl) (hcb337 _ hs.imm) (v := v160) rfl) rfl ?_
         obtain ⟨a30, ca30, hva30⟩ := hRv160.shape
         refine O (r_lenSl (v := v160) Try.underlying22 rfl hva30) rfl <| O (r_move (v := Value.int .i64 (e1.length : Int)) rfl) rfl <| O (r_neq rfl rfl) rfl <| O (r_move (v := Value.bool ((e160.length : Int) != (e1.length : Int))) rfl) rfl ?_
         rcases condS hM with ⟨hg108, hM⟩ | ⟨hg108, hM⟩
         ·refine OK rfl rfl rfl (by rw [hg108]; rfl) rfl <| OK rfl rfl rfl (by rw [hg108]; rfl) rfl <| OK rfl rfl rfl (by rw [hg108]; rfl) rfl <| OK rfl rfl rfl (by rw [hg108]; rfl) rfl <| OK rfl rfl rfl (by rw [hg108]; rfl) rfl <| OK rfl rfl rfl (by rw [hg108]; rfl) rfl <| O (r_pickT (v := Value.bool true) rfl hg108 rfl) rfl <| OW_nil ?_
          obtain rfl := Option.some.inj hM
          exact ⟨rfl, rfl, rfl, rfl, rfl, hds, hs⟩
         ·refine OG rfl rfl rfl (by rw [hg108]; rfl) (r_fieldAddr Try.underlying25 ti22 rfl rfl (by decide) rfl rfl) rfl <| OG rfl rfl rfl (by rw [hg108]; rfl) (r_load (v := v3) ti22 rfl (hs.cell (i := 0) (o := 2) rfl rfl)) rfl <| OG rfl rfl rfl (by rw [hg108]; rfl) (r_move (v := Value.int .i64 xv74) rfl) rfl ?_
          obtain ⟨e161, he161, hM⟩ := bindS hM
          obtain ⟨b338, ob338, cb338, hvb338, cs341, hcs341, hcb338⟩ := hRv3.at he161
          have hcs341 : cs341 = _ := hcs341; subst hcs341
          refine OG rfl rfl rfl (by rw [hg108]; rfl) (r_idxSl Try.underlying22 ti3 (v := v3) rfl hvb338 rfl (idxL_some he161).1 (idxL_some he161).2.1) rfl <| OG rfl rfl rfl (by rw [hg108]; rfl) (r_loadEl (cs := [Value.int .i64 e161]) ti3 rfl rfl (.inr rfl) (hcb338 _ hs.imm) (v := Value.int .i64 e161) rfl) rfl <| OG rfl rfl rfl (by rw [hg108]; rfl) (r_lss rfl rfl) rfl <| O (r_pickF (v := Value.bool (decide (e161 < (-1)))) rfl hg108 rfl) rfl <| OW_nil ?_
          obtain rfl := Option.some.inj hM
          exact ⟨rfl, rfl, rfl, rfl, rfl, hds, hs⟩
        ·clear hs
         rintro E w ⟨hE1, hE3, hE4, hE6, hE76, hds, hs⟩
         have hM := hKhx60
         obtain ⟨E, rfl⟩ := open5 (E := E) hE1 hE3 hE4 hE6 hE76
         rcases condS hM with ⟨hc98, hM⟩ | ⟨hc98, hM⟩
         ·refine WP_true rfl hc98 <| WP_seq <| WP_region <| O (r_assign (v := Value.bool false) rfl) rfl <| OW_nil <| WP_ret ?_
          obtain rfl := Option.some.inj hM
          have hM := hKhx59
          obtain rfl := Option.some.inj hM
          refine fun hr => ?_
          have hM := congrArg some hr
          obtain rfl := Option.some.inj hM
          have hM := hKhx36
          obtain rfl := Option.some.inj hM
          refine FL_nil hds ?_
          exact ⟨_, res1 Try.results10 (rv_tmp (v := Value.bool false) rfl), g0, ⟨[Value.bool false], rfl, rfl⟩, hs.ext⟩
         ·refine WP_false rfl hc98 <| WP_skip <| WP_seq <| WP_region <| O (r_assign (v := Value.int .i64 0) rfl) rfl <| OW_nil <| WP_block <| WP_loop (fun (xv100 : Int) E w => E 1 = Value.pointer (some ⟨b1, 0, none⟩) ∧ E 3 = Value.int .i64 (p1.Next.length : Int) ∧ E 4 = Value.int .i64 (e1.length : Int) ∧ E 6 = Value.int .i64 xv74 ∧ E 7 = Value.int .i64 xv100 ∧ E.ds = [] ∧ Go.Lx.Sep g0 w0 g0 w [Go.Lx.box b1 25 ([v1, v2, v3])]) hM ⟨rfl, rfl, rfl, rfl, rfl, hds, hs⟩ ?_
          clear hs hM
          rintro xv100 o22 E w hM ⟨hE1, hE3, hE4, hE6, hE7, hds, hs⟩
          obtain ⟨E, rfl⟩ := open5 (E := E) hE1 hE3 hE4 hE6 hE7
          refine WP_seq <| WP_seq <| WP_region <| O (r_move (v := Value.int .i64 xv100) rfl) rfl <| O (r_move (v := Value.int .i64 (e1.length : Int)) rfl) rfl <| O (r_lss rfl rfl) rfl <| OW_nil ?_
          rcases condS hM with ⟨hc103, hM⟩ | ⟨hc103, hM⟩
          ·refine WP_true rfl hc103 <| WP_skip <| WP_seq <| WP_block ?_
           obtain ⟨xv103, hx63, hKhx63⟩ := bindS hM
           refine WP_cut (fun E w => E 1 = Value.pointer (some ⟨b1, 0, none⟩) ∧ E 3 = Value.int .i64 (p1.Next.length : Int) ∧ E 4 = Value.int .i64 (e1.length : Int) ∧ E 6 = Value.int .i64 xv74 ∧ E 7 = Value.int .i64 xv100 ∧ E 102 = Value.bool xv103 ∧ E.ds = [] ∧ Go.Lx.Sep g0 w0 g0 w [Go.Lx.box b1 25 ([v1, v2, v3])]) ?_ ?_
           ·have hM := hx63
            refine WP_region <| O (r_fieldAddr Try.underlying25 ti23 rfl rfl (by decide) rfl rfl) rfl <| O (r_load (v := v2) ti23 rfl (hs.cell (i := 0) (o := 1) rfl rfl)) rfl <| O (r_move (v := Value.int .i64 xv74) rfl) rfl ?_
            obtain ⟨e172, he172, hM⟩ := bindS hM
            obtain ⟨b359, ob359, cb359, hvb359, cs362, hcs362, hcb359⟩ := hRv2.at he172
            obtain ⟨v171, rfl, hRv171⟩ := hcs362
            refine O (r_idxSl Try.underlying23 ti22 (v := v2) rfl hvb359 rfl (idxL_some he172).1 (idxL_some he172).2.1) rfl <| O (r_loadEl (cs := [v171]) ti22 rfl rfl (.inr rfl) (hcb359 _ hs.imm) (v := v171) rfl) rfl <| O (r_move (v := Value.int .i64 xv100) rfl) rfl ?_
            obtain ⟨e173, he173, hM⟩ := bindS hM
            obtain ⟨b360, ob360, cb360, hvb360, cs363, hcs363, hcb360⟩ := hRv171.at he173
            have hcs363 : cs363 = _ := hcs363; subst hcs363
            refine O (r_idxSl Try.underlying22 ti3 (v := v171) rfl hvb360 rfl (idxL_some he173).1 (idxL_some he173).2.1) rfl <| O (r_loadEl (cs := [Value.int .i64 e173]) ti3 rfl rfl (.inr rfl) (hcb360 _ hs.imm) (v := Value.int .i64 e173) rfl) rfl <| O (r_lss rfl rfl) rfl <| O (r_move (v := Value.bool (decide (e173 < (-1)))) rfl) rfl ?_
            rcases condS hM with ⟨hg114, hM⟩ | ⟨hg114, hM⟩
            ·refine OK rfl rfl rfl (by rw [hg114]; rfl) rfl <| OK rfl rfl rfl (by rw [hg114]; rfl) rfl <| OK rfl rfl rfl (by rw [hg114]; rfl) rfl <| OK rfl rfl rfl (by rw [hg114]; rfl) rfl <| OK rfl rfl rfl (by rw [hg114]; rfl) rfl <| OK rfl rfl rfl (by rw [hg114]; rfl) rfl <| OK rfl rfl rfl (by rw [hg114]; rfl) rfl <| OK rfl rfl rfl (by rw [hg114]; rfl) rfl <| OK rfl rfl rfl (by rw [hg114]; rfl) rfl <| OK rfl rfl rfl (by rw [hg114]; rfl) rfl <| O (r_pickT (v := Value.bool true) rfl hg114 rfl) rfl <| OW_nil ?_
             obtain rfl := Option.some.inj hM
             exact ⟨rfl, rfl, rfl, rfl, rfl, rfl, hds, hs⟩
            ·refine OG rfl rfl rfl (by rw [hg114]; rfl) (r_fieldAddr Try.underlying25 ti23 rfl rfl (by decide) rfl rfl) rfl <| OG rfl rfl rfl (by rw [hg114]; rfl) (r_load (v := v2) ti23 rfl (hs.cell (i := 0) (o := 1) rfl rfl)) rfl <| OG rfl rfl rfl (by rw [hg114]; rfl) (r_move (v := Value.int .i64 xv74) rfl) rfl ?_
             obtain ⟨b361, ob361, cb361, hvb361, cs364, hcs364, hcb361⟩ := hRv2.at he172
             obtain ⟨v172, rfl, hRv172⟩ := hcs364
             refine OG rfl rfl rfl (by rw [hg114]; rfl) (r_idxSl Try.underlying23 ti22 (v := v2) rfl hvb361 rfl (idxL_some he172).1 (idxL_some he172).2.1) rfl <| OG rfl rfl rfl (by rw [hg114]; rfl) (r_loadEl (cs := [v172]) ti22 rfl rfl (.inr rfl) (hcb361 _ hs.imm) (v := v172) rfl) rfl <| OG rfl rfl rfl (by rw [hg114]; rfl) (r_move (v := Value.int .i64 xv100) rfl) rfl ?_
             obtain ⟨b362, ob362, cb362, hvb362, cs365, hcs365, hcb362⟩ := hRv172.at he173
             have hcs365 : cs365 = _ := hcs365; subst hcs365
             refine OG rfl rfl rfl (by rw [hg114]; rfl) (r_idxSl Try.underlying22 ti3 (v := v172) rfl hvb362 rfl (idxL_some he173).1 (idxL_some he173).2.1) rfl <| OG rfl rfl rfl (by rw [hg114]; rfl) (r_loadEl (cs := [Value.int .i64 e173]) ti3 rfl rfl (.inr rfl) (hcb362 _ hs.imm) (v := Value.int .i64 e173) rfl) rfl <| OG rfl rfl rfl (by rw [hg114]; rfl) (r_move (v := Value.int .i64 (p1.Next.length : Int)) rfl) rfl <| OG rfl rfl rfl (by rw [hg114]; rfl) (r_geq rfl rfl) rfl <| O (r_pickF (v := Value.bool (decide ((p1.Next.length : Int) ≤ e173))) rfl hg114 rfl) rfl <| OW_nil ?_
             obtain rfl := Option.some.inj hM
             exact ⟨rfl, rfl, rfl, rfl, rfl, rfl, hds, hs⟩
           ·clear hs
            rintro E w ⟨hE1, hE3, hE4, hE6, hE7, hE102, hds, hs⟩
            have hM := hKhx63
            obtain ⟨E, rfl⟩ := open6 (E := E) hE1 hE3 hE4 hE6 hE7 hE102
            rcases condS hM with ⟨hc104, hM⟩ | ⟨hc104, hM⟩
            ·refine WP_true rfl hc104 <| WP_seq <| WP_region <| O (r_assign (v := Value.bool false) rfl) rfl <| OW_nil <| WP_ret ?_
             obtain rfl := Option.some.inj hM
             refine fun hr => ?_
             have hM := congrArg some hr
             obtain rfl := Option.some.inj hM
             have hM := hKhx59
             obtain rfl := Option.some.inj hM
             refine fun hr => ?_
             have hM := congrArg some hr
             obtain rfl := Option.some.inj hM
             have hM := hKhx36
             obtain rfl := Option.some.inj hM
             refine FL_nil hds ?_
             exact ⟨_, res1 Try.results10 (rv_tmp (v := Value.bool false) rfl), g0, ⟨[Value.bool false], rfl, rfl⟩, hs.ext⟩
            ·refine WP_false rfl hc104 <| WP_skip <| WP_region <| O (r_move (v := Value.int .i64 xv100) rfl) rfl ?_
             obtain ⟨t47, ht47, hM⟩ := bindS hM
             refine O (r_addM rfl rfl ht47) rfl <| O (r_assign (v := Value.int .i64 t47) rfl) rfl <| OW_nil ?_
             obtain rfl := Option.some.inj hM
             exact ⟨rfl, rfl, rfl, rfl, rfl, hds, hs⟩
          ·refine WP_false rfl hc103 <| WP_exit ?_
           obtain rfl := Option.some.inj hM
           refine fun hr => ?_
           have hM := congrArg some hr
           obtain rfl := Option.some.inj hM
           exact ⟨(), rfl, rfl, rfl, rfl, rfl, hds, hs⟩
       ·clear hs
        rintro E w ⟨_, rfl, hE1, hE3, hE4, hE6, hds, hs⟩
        have hM := hKhx59
        dsimp only [onStep] at hM
        obtain ⟨E, rfl⟩ := open4 (E := E) hE1 hE3 hE4 hE6
        refine WP_region <| O (r_move (v := Value.int .i64 xv74) rfl) rfl ?_
        obtain ⟨t48, ht48, hM⟩ := bindS hM
        refine O (r_addM rfl rfl ht48) rfl <| O (r_assign (v := Value.int .i64 t48) rfl) rfl <| OW_nil ?_
        obtain rfl := Option.some.inj hM
        exact ⟨rfl, rfl, rfl, rfl, hds, hs⟩
      ·refine WP_false rfl hc90 <| WP_exit ?_
       obtain rfl := Option.some.inj hM
       refine fun hr => ?_
       have hM := congrArg some hr
       obtain rfl := Option.some.inj hM
       exact ⟨(), rfl, hds, (hs.sub (.cons _ .slnil))⟩
     ·clear hs
      rintro E w ⟨_, rfl, hds, hs⟩
      have hM := hKhx36
      dsimp only [onStep] at hM
      refine WP_seq <| WP_region <| O (r_assign (v := Value.bool true) rfl) rfl <| OW_nil <| WP_ret ?_
      obtain rfl := Option.some.inj hM
      refine FL_nil hds ?_
      exact ⟨_, res1 Try.results10 (rv_tmp (v := Value.bool true) rfl), g0, ⟨[Value.bool true], rfl, rfl⟩, hs.ext⟩

set_option maxRecDepth 100000 in
theorem ref09_Accepted_ok {nv1 : T_NFA} {l1 : (List Int)} {r : Int} (hM : M.ref09_Accepted nv1 l1 = some r) {g0 : Hp} {w0 : World} (hi : Imm g0 w0) {cs1 : List Value} (hcs1 : tT_NFA.rel g0 cs1 nv1) {v1 : Value} (hRv1 : RdS (tInt .i64) g0 v1 l1) :
    CallsV Try.prog 52 #[Value.agg cs1.toArray, v1] w0 (fun v w' => ∃ g', (VRd (tInt .i64) false g' v r) ∧ Ext g0 w0 g' w') := by
 unfold M.ref09_Accepted at hM
 obtain ⟨cs2, cs3, cs4, cs5, rfl, hcs2, hcs3, hcs4, hcs5⟩ := hcs1
 have hcs2 : cs2 = _ := hcs2; subst hcs2
 have hcs3 : cs3 = _ := hcs3; subst hcs3
 obtain ⟨v2, rfl, hRv2⟩ := hcs4
 obtain ⟨v3, rfl, hRv3⟩ := hcs5
 have hs := Sep.start hi
 refine calls_of_WP (args := [Value.agg (List.toArray (α := Value) [Value.int .i64 nv1.States, Value.int .i64 nv1.Start, v2, v3]), v1]) Try.func52 rfl Try.ntmps52 rfl ?_
 have hds : (argEnv [Value.agg (List.toArray (α := Value) [Value.int .i64 nv1.States, Value.int .i64 nv1.Start, v2, v3]), v1]).ds = [] := rfl
 refine WP_seq <| WP_region <| OW_box (v := Value.agg (List.toArray (α := Value) [Value.int .i64 nv1.States, Value.int .i64 nv1.Start, v2, v3])) rfl hs (zs := [Value.int .i64 nv1.States, Value.int .i64 nv1.Start, v2, v3]) rfl rfl ?_
 intro b1 wv1 hs
 refine O (r_assign (v := Value.int .i64 0) rfl) rfl <| OW_nil <| WP_seq <| WP_region <| O (r_assign (v := Value.int .i64 (-1)) rfl) rfl <| OW_nil ?_
 obtain ⟨best7, hx10, hKhx10⟩ := bindS hM
 refine WP_cut (fun E w => E 5 = Value.int .i64 best7 ∧ E.ds = [] ∧ Go.Lx.Sep g0 w0 g0 w []) ?_ ?_
 ·have hM := hx10
  have hag0 := Hle.refl g0
  refine WP_seq <| WP_region <| O (r_assign (v := Value.int .i64 0) rfl) rfl <| OW_nil <| WP_block <| WP_loop (fun (st9 : Int × Int) E w => match st9 with | (best10, i5) => E 1 = v1 ∧ E 2 = Value.pointer (some ⟨b1, 0, none⟩) ∧ E 5 = Value.int .i64 best10 ∧ E 6 = Value.int .i64 i5 ∧ E.ds = [] ∧ Go.Lx.Sep g0 w0 g0 w [Go.Lx.box b1 41 ([Value.int .i64 nv1.States, Value.int .i64 nv1.Start, v2, v3])]) hM ⟨rfl, rfl, rfl, rfl, hds, hs⟩ ?_
  clear hs hM
  rintro ⟨best10, i5⟩ o2 E w hM ⟨hE1, hE2, hE5, hE6, hds, hs⟩
  obtain ⟨E, rfl⟩ := open4 (E := E) hE1 hE2 hE5 hE6
  refine WP_seq <| WP_seq <| WP_region <| O (r_move (v := Value.int .i64 i5) rfl) rfl <| O (r_move (v := v1) rfl) rfl ?_
  obtain ⟨a6, ca6, hva6⟩ := hRv1.shape
  refine O (r_lenSl (v := v1) Try.underlying22 rfl hva6) rfl <| O (r_lss rfl rfl) rfl <| OW_nil ?_
  rcases condS hM with ⟨hc16, hM⟩ | ⟨hc16, hM⟩
  ·refine WP_true rfl hc16 <| WP_skip ?_
   obtain ⟨best13, hx18, hKhx18⟩ := bindS hM
   refine WP_cut (fun E w => E 1 = v1 ∧ E 2 = Value.pointer (some ⟨b1, 0, none⟩) ∧ E 5 = Value.int .i64 best13 ∧ E 6 = Value.int .i64 i5 ∧ E.ds = [] ∧ Go.Lx.Sep g0 w0 g0 w [Go.Lx.box b1 41 ([Value.int .i64 nv1.States, Value.int .i64 nv1.Start, v2, v3])]) ?_ ?_
   ·have hM := hx18
    refine WP_block <| WP_seq <| WP_draw mo (by decide +kernel) ?_
    have hs := hs.drew
    refine S (r_fieldAddr Try.underlying41 ti22 rfl rfl (by decide) rfl rfl) rfl <| S (r_load (v := v3) ti22 rfl (hs.cell (i := 0) (o := 3) rfl rfl)) rfl <| S (r_move (v := v1) rfl) rfl <| S (r_move (v := Value.int .i64 i5) rfl) rfl ?_
    obtain ⟨e23, he23, hM⟩ := bindS hM
    obtain ⟨b24, ob24, cb24, hvb24, cs28, hcs28, hcb24⟩ := hRv1.at he23
    have hcs28 : cs28 = _ := hcs28; subst hcs28
    refine S (r_idxSl Try.underlying22 ti3 (v := v1) rfl hvb24 rfl (idxL_some he23).1 (idxL_some he23).2.1) rfl <| S (r_loadEl (cs := [Value.int .i64 e23]) ti3 rfl rfl (.inr rfl) (hcb24 _ hs.imm) (v := Value.int .i64 e23) rfl) rfl ?_
    obtain ⟨e24, he24, hM⟩ := bindS hM
    obtain ⟨b25, ob25, cb25, hvb25, cs29, hcs29, hcb25⟩ := hRv3.at he24
    have hcs29 : cs29 = _ := hcs29; subst hcs29
    refine S (r_idxSl Try.underlying22 ti3 (v := v3) rfl hvb25 rfl (idxL_some he24).1 (idxL_some he24).2.1) rfl <| S (r_loadEl (cs := [Value.int .i64 e24]) ti3 rfl rfl (.inr rfl) (hcb25 _ hs.imm) (v := Value.int .i64 e24) rfl) rfl <| S (r_assign (v := Value.int .i64 e24) rfl) rfl <| SW_nil ?_
    obtain ⟨xv12, hx19, hKhx19⟩ := bindS hM
    refine WP_cut (fun E w => E 1 = v1 ∧ E 2 = Value.pointer (some ⟨b1, 0, none⟩) ∧ E 5 = Value.int .i64 best10 ∧ E 6 = Value.int .i64 i5 ∧ E 7 = Value.int .i64 e24 ∧ E 32 = Value.bool xv12 ∧ E.ds = [] ∧ Go.Lx.Sep g0 w0 g0 w [Go.Lx.box b1 41 ([Value.int .i64 nv1.States, Value.int .i64 nv1.Start, v2, v3])]) ?_ ?_
    ·have hM := hx19
     refine WP_region <| O (r_move (v := Value.int .i64 e24) rfl) rfl <| O (r_geq rfl rfl) rfl <| O (r_move (v := Value.bool (decide (0 ≤ e24))) rfl) rfl ?_
     rcases condS hM with ⟨hg47, hM⟩ | ⟨hg47, hM⟩
     ·refine OG rfl rfl rfl (by rw [hg47]; rfl) (r_move (v := Value.int .i64 best10) rfl) rfl <| OG rfl rfl rfl (by rw [hg47]; rfl) (r_lss rfl rfl) rfl <| OG rfl rfl rfl (by rw [hg47]; rfl) (r_move (v := Value.bool (decide (best10 < 0))) rfl) rfl ?_
      rcases condS hM with ⟨hg48, hM⟩ | ⟨hg48, hM⟩
      ·refine OK rfl rfl rfl (by rw [hg48]; rfl) rfl <| OK rfl rfl rfl (by rw [hg48]; rfl) rfl <| OK rfl rfl rfl (by rw [hg48]; rfl) rfl <| OG rfl rfl rfl (by rw [hg47]; rfl) (r_pickT (v := Value.bool true) rfl hg48 rfl) rfl <| O (r_pickT (v := Value.bool true) rfl hg47 rfl) rfl <| OW_nil ?_
       obtain rfl := Option.some.inj hM
       exact ⟨rfl, rfl, rfl, rfl, rfl, rfl, hds, hs⟩
      ·refine OG rfl rfl rfl (by rw [hg48]; rfl) (r_move (v := Value.int .i64 e24) rfl) rfl <| OG rfl rfl rfl (by rw [hg48]; rfl) (r_move (v := Value.int .i64 best10) rfl) rfl <| OG rfl rfl rfl (by rw [hg48]; rfl) (r_lss rfl rfl) rfl <| OG rfl rfl rfl (by rw [hg47]; rfl) (r_pickF (v := Value.bool (decide (e24 < best10))) rfl hg48 rfl) rfl <| O (r_pickT (v := Value.bool (decide (e24 < best10))) rfl hg47 rfl) rfl <| OW_nil ?_
       obtain rfl := Option.some.inj hM
       exact ⟨rfl, rfl, rfl, rfl, rfl, rfl, hds, hs⟩
     ·refine OK rfl rfl rfl (by rw [hg47]; rfl) rfl <| OK rfl rfl rfl (by rw [hg47]; rfl) rfl <| OK rfl rfl rfl (by rw [hg47]; rfl) rfl <| OKU rfl rfl rfl rfl <| OKU rfl rfl rfl rfl <| OKU rfl rfl rfl rfl <| OK rfl rfl rfl (by rw [hg47]; rfl) rfl <| O (r_pickF (v := Value.bool false) rfl hg47 rfl) rfl <| OW_nil ?_
      obtain rfl := Option.some.inj hM
      exact ⟨rfl, rfl, rfl, rfl, rfl, rfl, hds, hs⟩
    ·clear hs
     rintro E w ⟨hE1, hE2, hE5, hE6, hE7, hE32, hds, hs⟩
     have hM := hKhx19
     obtain ⟨E, rfl⟩ := open6 (E := E) hE1 hE2 hE5 hE6 hE7 hE32
     rcases condS hM with ⟨hc18, hM⟩ | ⟨hc18, hM⟩
     ·refine WP_true rfl hc18 <| WP_region <| O (r_move (v := Value.int .i64 e24) rfl) rfl <| O (r_assign (v := Value.int .i64 e24) rfl) rfl <| OW_nil ?_
      obtain rfl := Option.some.inj hM
      exact ⟨rfl, rfl, rfl, rfl, hds, hs⟩
     ·refine WP_false rfl hc18 <| WP_skip ?_
      obtain rfl := Option.some.inj hM
      exact ⟨rfl, rfl, rfl, rfl, hds, hs⟩
   ·clear hs
    rintro E w ⟨hE1, hE2, hE5, hE6, hds, hs⟩
    have hM := hKhx18
    obtain ⟨E, rfl⟩ := open4 (E := E) hE1 hE2 hE5 hE6
    refine WP_region <| O (r_move (v := Value.int .i64 i5) rfl) rfl ?_
    obtain ⟨t6, ht6, hM⟩ := bindS hM
    refine O (r_addM rfl rfl ht6) rfl <| O (r_assign (v := Value.int .i64 t6) rfl) rfl <| OW_nil ?_
    obtain rfl := Option.some.inj hM
    exact ⟨rfl, rfl, rfl, rfl, hds, hs⟩
  ·refine WP_false rfl hc16 <| WP_exit ?_
   obtain rfl := Option.some.inj hM
   refine fun hr => ?_
   have hM := congrArg some hr
   obtain rfl := Option.some.inj hM
   exact ⟨rfl, hds, (hs.sub (.cons _ .slnil))⟩
 ·clear hs
  rintro E w ⟨hE5, hds, hs⟩
  have hM := hKhx10
  obtain ⟨E, rfl⟩ := open1 (E := E) hE5
  refine WP_seq <| WP_region <| O (r_move (v := Value.int .i64 best7) rfl) rfl <| O (r_assign (v := Value.int .i64 best7) rfl) rfl <| OW_nil <| WP_ret ?_
  obtain rfl := Option.some.inj hM
  refine FL_nil hds ?_
  exact ⟨_, res1 Try.results52 (rv_tmp (v := Value.int .i64 best7) rfl), g0, ⟨[Value.int .i64 best7], rfl, rfl⟩, hs.ext⟩

set_option maxRecDepth 100000 in
theorem ref09_Run_ok {nv1 : T_NFA} {s1 : Str} {r : Int} (hM : M.ref09_Run nv1 s1 = some r) {g0 : Hp} {w0 : World} (hi : Imm g0 w0) {cs1 : List Value} (hcs1 : tT_NFA.rel g0 cs1 nv1) :
    CallsV Try.prog 23 #[Value.agg cs1.toArray, encS s1] w0 (fun v w' => ∃ g', (VRd (tInt .i64) false g' v r) ∧ Ext g0 w0 g' w') := by
 unfold M.ref09_Run at hM
 obtain ⟨cs2, cs3, cs4, cs5, rfl, hcs2, hcs3, hcs4, hcs5⟩ := hcs1
 have hcs2 : cs2 = _ := hcs2; subst hcs2
 have hcs3 : cs3 = _ := hcs3; subst hcs3
 obtain ⟨v1, rfl, hRv1⟩ := hcs4
 obtain ⟨v2, rfl, hRv2⟩ := hcs5
 have hs := Sep.start hi
 refine calls_of_WP (args := [Value.agg (List.toArray (α := Value) [Value.int .i64 nv1.States, Value.int .i64 nv1.Start, v1, v2]), encS s1]) Try.func23 rfl Try.ntmps23 rfl ?_
 have hds : (argEnv [Value.agg (List.toArray (α := Value) [Value.int .i64 nv1.States, Value.int .i64 nv1.Start, v1, v2]), encS s1]).ds = [] := rfl
 refine WP_seq <| WP_region <| OW_box (v := Value.agg (List.toArray (α := Value) [Value.int .i64 nv1.States, Value.int .i64 nv1.Start, v1, v2])) rfl hs (zs := [Value.int .i64 nv1.States, Value.int .i64 nv1.Start, v1, v2]) rfl rfl ?_
 intro b1 wv1 hs
 refine O (r_assign (v := Value.int .i64 0) rfl) rfl <| OW_nil <| WP_seq <| WP_region <| O (r_loadN (cs := [Value.int .i64 nv1.States, Value.int .i64 nv1.Start, v1, v2]) ti41 rfl rfl (hs.cells (i := 0) rfl)) rfl <| O (r_fieldAddr Try.underlying41 ti3 rfl rfl (by decide) rfl rfl) rfl <| O (r_load (v := Value.int .i64 nv1.Start) ti3 rfl (hs.cell (i := 0) (o := 1) rfl rfl)) rfl <| OW_lit (τ := (tInt .i64)) [Value.int .i64 nv1.Start] [nv1.Start] Try.underlying22 ti3 (by decide) hs rfl rfl rfl ⟨rfl, trivial⟩ rfl ?_
 intro v3 wv2 xs1 hrelxs1 hs
 have hsL1 := hs
 have hRv1L1 := hRv1
 have hRv2L1 := hRv2
 obtain ⟨gg1, hlegg1, hRgg1, hs⟩ := hs.relRow (i := 0) rfl hrelxs1
 replace hRv1 := hRv1.mono hlegg1
 replace hRv2 := hRv2.mono hlegg1
 obtain ⟨l1, hl1, hM⟩ := bindS hM
 refine C [Value.agg (List.toArray (α := Value) [Value.int .i64 nv1.States, Value.int .i64 nv1.Start, v1, v2]), v3] cf48 rfl (ref09_Closure_ok hl1 hs.imm (⟨[Value.int .i64 nv1.States], [Value.int .i64 nv1.Start], [v1], [v2], rfl, rfl, rfl, ⟨_, rfl, hRv1⟩, ⟨_, rfl, hRv2⟩⟩) hRgg1) rfl ?_
 rintro v4 wv3 ⟨gg2, xs2, hvv4, hegg2⟩
 obtain ⟨gg3, hlegg3, hs⟩ := hsL1.lentOwn hegg2
 simp only [List.cons_append, List.nil_append] at hs
 have hvv4 : RowRel (tInt .i64) gg3 xs2 l1 := RowRel.flat (fun _ _ _ _ h => h) hvv4
 replace hRv1 := hRv1L1.mono hlegg3
 replace hRv2 := hRv2L1.mono hlegg3
 refine O (r_assign (v := v4) rfl) rfl <| OW_nil ?_
 obtain ⟨l8, hx1, hKhx1⟩ := bindS hM
 refine WP_cut (fun E w => ∃ (gg16 : Hp) (v11 : Value) (xs9 : List Value), E 2 = Value.pointer (some ⟨b1, 0, none⟩) ∧ E 5 = v11 ∧ E.ds = [] ∧ Hle gg3 gg16 ∧ RowRel (tInt .i64) gg16 xs9 l8 ∧ Go.Lx.Sep g0 w0 gg16 w [.row v11 3 (tInt .i64).sz l8.length xs9, Go.Lx.box b1 41 ([Value.int .i64 nv1.States, Value.int .i64 nv1.Start, v1, v2])]) ?_ ?_
 ·have hM := hx1
  have hagg3 := Hle.refl gg3
  refine WP_seq <| WP_region <| O (r_assign (v := Value.int .i64 0) rfl) rfl <| OW_nil <| WP_block <| WP_loop (fun (st9 : (List Int) × Int) E w => match st9 with | (l11, i5) => ∃ (gg21 : Hp) (v14 : Value) (xs12 : List Value), E 1 = encS s1 ∧ E 2 = Value.pointer (some ⟨b1, 0, none⟩) ∧ E 5 = v14 ∧ E 6 = Value.int .i64 i5 ∧ E.ds = [] ∧ Hle gg3 gg21 ∧ RowRel (tInt .i64) gg21 xs12 l11 ∧ Go.Lx.Sep g0 w0 gg21 w [.row v14 3 (tInt .i64).sz l11.length xs12, Go.Lx.box b1 41 ([Value.int .i64 nv1.States, Value.int .i64 nv1.Start, v1, v2])]) hM ⟨gg3, v4, xs2, rfl, rfl, rfl, rfl, hds, (Hle.refl _), hvv4, (hs.sub (.cons_cons _ (.cons _ (.cons_cons _ .slnil))))⟩ ?_
  clear hs hM
  rintro ⟨l11, i5⟩ o2 E w hM ⟨gg21, v14, xs12, hE1, hE2, hE5, hE6, hds, hlegg21, hrelxs12, hs⟩
  obtain ⟨E, rfl⟩ := open4 (E := E) hE1 hE2 hE5 hE6
  replace hRv1 := hRv1.mono hlegg21
  replace hRv2 := hRv2.mono hlegg21
  have hagg21 := Hle.refl gg21
  refine WP_seq <| WP_seq <| WP_region <| O (r_move (v := Value.int .i64 i5) rfl) rfl <| O (r_move (v := encS s1) rfl) rfl <| O (r_lenStr Try.underlying9 rfl) rfl <| O (r_lss rfl rfl) rfl <| OW_nil ?_
  rcases condS hM with ⟨hc6, hM⟩ | ⟨hc6, hM⟩
  ·refine WP_true rfl hc6 <| WP_skip <| WP_seq <| WP_block <| WP_drawTail 5 mo (by decide +kernel) ?_
   have hs := hs.drew
   refine S (r_loadN (cs := [Value.int .i64 nv1.States, Value.int .i64 nv1.Start, v1, v2]) ti41 rfl rfl (hs.cells (i := 1) rfl)) rfl <| S (r_move (v := v14) rfl) rfl <| S (r_move (v := encS s1) rfl) rfl <| S (r_move (v := Value.int .i64 i5) rfl) rfl ?_
   obtain ⟨c6, hc6, hM⟩ := bindS hM
   refine S (r_idxStr Try.underlying9 rfl rfl hc6) rfl <| SW_nil ?_
   have hsL7 := hs
   have hlegg21L7 := hlegg21
   obtain ⟨gg26, hlegg26, hRgg26, hs⟩ := hs.relRow (i := 0) rfl hrelxs12
   replace hRv1 := hRv1.mono hlegg26
   replace hRv2 := hRv2.mono hlegg26
   replace hlegg21 := hlegg21.trans hlegg26
   obtain ⟨l14, hl14, hM⟩ := bindS hM
   refine C [Value.agg (List.toArray (α := Value) [Value.int .i64 nv1.States, Value.int .i64 nv1.Start, v1, v2]), v14, Value.int .u8 c6] cf49 rfl (ref09_Step_ok hl14 hs.imm (⟨[Value.int .i64 nv1.States], [Value.int .i64 nv1.Start], [v1], [v2], rfl, rfl, rfl, ⟨_, rfl, hRv1⟩, ⟨_, rfl, hRv2⟩⟩) hRgg26) rfl ?_
   rintro v17 wv9 ⟨gg27, xs15, hvv17, hegg27⟩
   obtain ⟨gg28, hlegg28, hs⟩ := hsL7.lentOwn hegg27
   simp only [List.cons_append, List.nil_append] at hs
   have hvv17 : RowRel (tInt .i64) gg28 xs15 l14 := RowRel.flat (fun _ _ _ _ h => h) hvv17
   replace hlegg21 := hlegg21L7.trans hlegg28
   refine O (r_assign (v := v17) rfl) rfl <| OW_nil <| WP_region <| O (r_move (v := Value.int .i64 i5) rfl) rfl ?_
   obtain ⟨t6, ht6, hM⟩ := bindS hM
   refine O (r_addM rfl rfl ht6) rfl <| O (r_assign (v := Value.int .i64 t6) rfl) rfl <| OW_nil ?_
   obtain rfl := Option.some.inj hM
   exact ⟨gg28, v17, xs15, rfl, rfl, rfl, rfl, hds, hlegg21, hvv17, (hs.sub (.cons_cons _ (.cons _ (.cons_cons _ .slnil))))⟩
  ·refine WP_false rfl hc6 <| WP_exit ?_
   obtain rfl := Option.some.inj hM
   refine fun hr => ?_
   have hM := congrArg some hr
   obtain rfl := Option.some.inj hM
   exact ⟨gg21, v14, xs12, rfl, rfl, hds, hlegg21, hrelxs12, hs⟩
 ·clear hs
  rintro E w ⟨gg16, v11, xs9, hE2, hE5, hds, hlegg16, hrelxs9, hs⟩
  have hM := hKhx1
  obtain ⟨E, rfl⟩ := open2 (E := E) hE2 hE5
  replace hRv1 := hRv1.mono hlegg16
  replace hRv2 := hRv2.mono hlegg16
  refine WP_seq <| WP_region <| O (r_loadN (cs := [Value.int .i64 nv1.States, Value.int .i64 nv1.Start, v1, v2]) ti41 rfl rfl (hs.cells (i := 1) rfl)) rfl <| O (r_move (v := v11) rfl) rfl ?_
  have hsL8 := hs
  obtain ⟨gg29, hlegg29, hRgg29, hs⟩ := hs.relRow (i := 0) rfl hrelxs9
  replace hRv1 := hRv1.mono hlegg29
  replace hRv2 := hRv2.mono hlegg29
  obtain ⟨rv1, hrv1, hM⟩ := bindS hM
  refine C [Value.agg (List.toArray (α := Value) [Value.int .i64 nv1.States, Value.int .i64 nv1.Start, v1, v2]), v11] cf52 rfl (ref09_Accepted_ok hrv1 hs.imm (⟨[Value.int .i64 nv1.States], [Value.int .i64 nv1.Start], [v1], [v2], rfl, rfl, rfl, ⟨_, rfl, hRv1⟩, ⟨_, rfl, hRv2⟩⟩) hRgg29) rfl ?_
  rintro v18 wv10 ⟨gg30, hvv18, hegg30⟩
  obtain ⟨gg31, hlegg31, hs⟩ := hsL8.lent hegg30
  obtain ⟨cs6, rfl, hcs6⟩ := hvv18
  have hcs6 : cs6 = _ := hcs6; subst hcs6
  refine O (r_assign (v := Value.int .i64 rv1) rfl) rfl <| OW_nil <| WP_ret ?_
  obtain rfl := Option.some.inj hM
  refine FL_nil hds ?_
  exact ⟨_, res1 Try.results23 (rv_tmp (v := Value.int .i64 rv1) rfl), gg31, ⟨[Value.int .i64 rv1], rfl, rfl⟩, hs.ext⟩


end Go.Proofs.Ytogpainomdfpnaa
