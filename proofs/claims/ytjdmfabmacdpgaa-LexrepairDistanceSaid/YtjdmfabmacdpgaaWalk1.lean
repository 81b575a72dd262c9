/- The walks: what each function does is what its model says. Printed by a program of my own. -/
import Derived.Test.YtjdmfabmacdpgaaTyp
set_option linter.unusedVariables false
set_option linter.unusedSimpArgs false
namespace Go.Proofs.Ytjdmfabmacdpgaa
open Go.Lx Go.RowKit
theorem strings_IndexByte_ok {s1 : Str} {c1 : Int} {r : Int} (hM : M.strings_IndexByte s1 c1 = some r) {g0 : Hp} {w0 : World} (hi : Imm g0 w0) :
    CallsV Try.prog 55 #[encS s1, .int .u8 c1] w0 (fun v w' => ∃ g', (VRd (tInt .i64) false g' v r) ∧ Ext g0 w0 g' w') := by
  obtain rfl := Option.some.inj hM
  refine (Try.strings_IndexByte ⟨s1.toArray⟩ c1 w0).mono ?_
  rintro e w' ⟨rfl, rfl⟩
  exact ⟨_, rfl, g0, ⟨_, rfl, rfl⟩, Ext.refl hi⟩

theorem internal_stringslite_Index_ok {s1 s2 : Str} {r : Int} (hM : M.internal_stringslite_Index s1 s2 = some r) {g0 : Hp} {w0 : World} (hi : Imm g0 w0) :
    CallsV Try.prog 35 #[encS s1, encS s2] w0 (fun v w' => ∃ g', (VRd (tInt .i64) false g' v r) ∧ Ext g0 w0 g' w') := by
  unfold M.internal_stringslite_Index at hM
  split at hM
  · rename_i c
    obtain rfl := Option.some.inj hM
    refine (Try.stringslite_Index_one ⟨s1.toArray⟩ c w0).mono ?_
    rintro e w' ⟨rfl, rfl⟩
    exact ⟨_, rfl, g0, ⟨_, rfl, rfl⟩, Ext.refl hi⟩
  · cases hM

set_option maxRecDepth 100000 in
theorem internal_stringslite_Cut_ok {s1 : Str} {sep1 : Str} {r : Str × Str × Bool} (hM : M.internal_stringslite_Cut s1 sep1 = some r) {g0 : Hp} {w0 : World} (hi : Imm g0 w0) :
    CallsV Try.prog 27 #[encS s1, encS sep1] w0 (fun v w' => ∃ g', (∃ v1 v2 v3, v = .tuple #[v1, v2, v3] ∧ VRd tStr false g' v1 r.1 ∧ VRd tStr false g' v2 r.2.1 ∧ VRd tBool false g' v3 r.2.2) ∧ Ext g0 w0 g' w') := by
 unfold M.internal_stringslite_Cut at hM
 have hs := Sep.start hi
 refine calls_of_WP (args := [encS s1, encS sep1]) Try.func27 rfl Try.ntmps27 rfl ?_
 have hds : (argEnv [encS s1, encS sep1]).ds = [] := rfl
 refine WP_seq <| WP_region <| O (r_assign (v := encS []) rfl) rfl <| O (r_assign (v := encS []) rfl) rfl <| O (r_assign (v := Value.bool false) rfl) rfl <| OW_nil <| WP_seq <| WP_seq <| WP_region <| O (r_move (v := encS s1) rfl) rfl <| O (r_move (v := encS sep1) rfl) rfl ?_
 obtain ⟨i1, hi1, hM⟩ := bindS hM
 refine C [encS s1, encS sep1] cf35 rfl (internal_stringslite_Index_ok hi1 hs.imm) rfl ?_
 rintro v1 wv1 ⟨gg1, hvv1, hegg1⟩
 have hlegg1 := hegg1.le hs.imm
 replace hs := hs.call hegg1
 obtain ⟨cs1, rfl, hcs1⟩ := hvv1
 have hcs1 : cs1 = _ := hcs1; subst hcs1
 refine O (r_assign (v := Value.int .i64 i1) rfl) rfl <| OW_nil <| WP_seq <| WP_region <| O (r_move (v := Value.int .i64 i1) rfl) rfl <| O (r_geq rfl rfl) rfl <| OW_nil ?_
 rcases condS hM with ⟨hc1, hM⟩ | ⟨hc1, hM⟩
 ·refine WP_true rfl hc1 <| WP_seq <| WP_draw mo (by decide +kernel) ?_
  have hs := hs.drew
  refine S (r_move (v := encS s1) rfl) rfl <| S (r_move (v := Value.int .i64 i1) rfl) rfl ?_
  obtain ⟨s2, hs2, hM⟩ := bindS hM
  refine S (r_sliceS_hi Try.underlying9 rfl rfl hs2) rfl <| S (r_move (v := encS s1) rfl) rfl <| S (r_move (v := Value.int .i64 i1) rfl) rfl <| S (r_move (v := encS sep1) rfl) rfl <| S (r_lenStr Try.underlying9 rfl) rfl ?_
  obtain ⟨t1, ht1, hM⟩ := bindS hM
  refine S (r_addM rfl rfl ht1) rfl ?_
  obtain ⟨s3, hs3, hM⟩ := bindS hM
  refine S (r_sliceS_lo Try.underlying9 rfl rfl hs3) rfl <| S (r_assign (v := encS s2) rfl) rfl <| S (r_assign (v := encS s3) rfl) rfl <| S (r_assign (v := Value.bool true) rfl) rfl <| SW_nil <| WP_ret ?_
  obtain rfl := Option.some.inj hM
  refine FL_nil hds ?_
  exact ⟨_, res3 Try.results27 (rv_tmp (v := encS s2) rfl) (rv_tmp (v := encS s3) rfl) (rv_tmp (v := Value.bool true) rfl), gg1, ⟨_, _, _, rfl, ⟨[encS s2], rfl, rfl⟩, ⟨[encS s3], rfl, rfl⟩, ⟨[Value.bool true], rfl, rfl⟩⟩, hs.ext⟩
 ·refine WP_false rfl hc1 <| WP_skip <| WP_seq <| WP_region <| O (r_move (v := encS s1) rfl) rfl <| O (r_assign (v := encS s1) rfl) rfl <| O (r_assign (v := encS []) rfl) rfl <| O (r_assign (v := Value.bool false) rfl) rfl <| OW_nil <| WP_ret ?_
  obtain rfl := Option.some.inj hM
  refine FL_nil hds ?_
  exact ⟨_, res3 Try.results27 (rv_tmp (v := encS s1) rfl) (rv_tmp (v := encS []) rfl) (rv_tmp (v := Value.bool false) rfl), gg1, ⟨_, _, _, rfl, ⟨[encS s1], rfl, rfl⟩, ⟨[encS []], rfl, rfl⟩, ⟨[Value.bool false], rfl, rfl⟩⟩, hs.ext⟩

set_option maxRecDepth 100000 in
theorem strings_Cut_ok {s1 : Str} {sep1 : Str} {r : Str × Str × Bool} (hM : M.strings_Cut s1 sep1 = some r) {g0 : Hp} {w0 : World} (hi : Imm g0 w0) :
    CallsV Try.prog 19 #[encS s1, encS sep1] w0 (fun v w' => ∃ g', (∃ v1 v2 v3, v = .tuple #[v1, v2, v3] ∧ VRd tStr false g' v1 r.1 ∧ VRd tStr false g' v2 r.2.1 ∧ VRd tBool false g' v3 r.2.2) ∧ Ext g0 w0 g' w') := by
 unfold M.strings_Cut at hM
 have hs := Sep.start hi
 refine calls_of_WP (args := [encS s1, encS sep1]) Try.func19 rfl Try.ntmps19 rfl ?_
 have hds : (argEnv [encS s1, encS sep1]).ds = [] := rfl
 refine WP_seq <| WP_region <| O (r_assign (v := encS []) rfl) rfl <| O (r_assign (v := encS []) rfl) rfl <| O (r_assign (v := Value.bool false) rfl) rfl <| OW_nil <| WP_seq <| WP_region <| O (r_move (v := encS s1) rfl) rfl <| O (r_move (v := encS sep1) rfl) rfl ?_
 obtain ⟨rv1, hrv1, hM⟩ := bindS hM
 refine C [encS s1, encS sep1] cf27 rfl (internal_stringslite_Cut_ok hrv1 hs.imm) rfl ?_
 rintro v1 wv1 ⟨gg1, hvv1, hegg1⟩
 have hlegg1 := hegg1.le hs.imm
 replace hs := hs.call hegg1
 obtain ⟨v2, v3, v4, rfl, hvv2, hvv3, hvv4⟩ := hvv1
 obtain ⟨cs1, rfl, hcs1⟩ := hvv4
 have hcs1 : cs1 = _ := hcs1; subst hcs1
 obtain ⟨cs2, rfl, hcs2⟩ := hvv3
 have hcs2 : cs2 = _ := hcs2; subst hcs2
 obtain ⟨cs3, rfl, hcs3⟩ := hvv2
 have hcs3 : cs3 = _ := hcs3; subst hcs3
 refine O (r_extract (vs := [encS rv1.1, encS rv1.2.1, Value.bool rv1.2.2]) (v := encS rv1.1) rfl rfl) rfl <| O (r_extract (vs := [encS rv1.1, encS rv1.2.1, Value.bool rv1.2.2]) (v := encS rv1.2.1) rfl rfl) rfl <| O (r_extract (vs := [encS rv1.1, encS rv1.2.1, Value.bool rv1.2.2]) (v := Value.bool rv1.2.2) rfl rfl) rfl <| O (r_assign (v := encS rv1.1) rfl) rfl <| O (r_assign (v := encS rv1.2.1) rfl) rfl <| O (r_assign (v := Value.bool rv1.2.2) rfl) rfl <| OW_nil <| WP_ret ?_
 obtain rfl := Option.some.inj hM
 refine FL_nil hds ?_
 exact ⟨_, res3 Try.results19 (rv_tmp (v := encS rv1.1) rfl) (rv_tmp (v := encS rv1.2.1) rfl) (rv_tmp (v := Value.bool rv1.2.2) rfl), gg1, ⟨_, _, _, rfl, ⟨[encS rv1.1], rfl, rfl⟩, ⟨[encS rv1.2.1], rfl, rfl⟩, ⟨[Value.bool rv1.2.2], rfl, rfl⟩⟩, hs.ext⟩

set_option maxRecDepth 100000 in
theorem byteset_Of_ok {s1 : Str} {r : (Vec 4)} (hM : M.byteset_Of s1 = some r) {g0 : Hp} {w0 : World} (hi : Imm g0 w0) :
    CallsV Try.prog 53 #[encS s1] w0 (fun v w' => ∃ g', (VRd (tVec 4 .u64) true g' v r) ∧ Ext g0 w0 g' w') := by
 unfold M.byteset_Of at hM
 have hs := Sep.start hi
 refine calls_of_WP (args := [encS s1]) Try.func53 rfl Try.ntmps53 rfl ?_
 have hds : (argEnv [encS s1]).ds = [] := rfl
 refine WP_seq <| WP_region <| OW_alloc ti51 hs (zs := (Vec.zero 4).1.map (Value.int .u64)) rfl rfl ?_
 intro b1 wv1 hs
 refine OW_nil <| WP_seq <| WP_region <| OW_alloc ti51 hs (zs := (Vec.zero 4).1.map (Value.int .u64)) rfl rfl ?_
 intro b2 wv2 hs
 refine OW_nil ?_
 obtain ⟨xv10, hx1, hKhx1⟩ := bindS hM
 refine WP_cut (fun E w => E 2 = Value.pointer (some ⟨b1, 0, none⟩) ∧ E 3 = Value.pointer (some ⟨b2, 0, none⟩) ∧ E.ds = [] ∧ Go.Lx.Sep g0 w0 g0 w [Go.Lx.box b2 51 (xv10.1.map (Value.int .u64)), Go.Lx.box b1 51 ((Vec.zero 4).1.map (Value.int .u64))]) ?_ ?_
 ·have hM := hx1
  have hag0 := Hle.refl g0
  refine WP_seq <| WP_region <| O (r_move (v := encS s1) rfl) rfl <| O (r_lenStr Try.underlying9 rfl) rfl <| O (r_move (v := Value.int .i64 0) rfl) rfl <| OW_nil <| WP_block <| WP_loop (fun (st9 : (Vec 4) × Int) E w => match st9 with | (xv14, xv15) => E 0 = encS s1 ∧ E 2 = Value.pointer (some ⟨b1, 0, none⟩) ∧ E 3 = Value.pointer (some ⟨b2, 0, none⟩) ∧ E 6 = Value.int .i64 (s1.length : Int) ∧ E 7 = Value.int .i64 xv15 ∧ E.ds = [] ∧ Go.Lx.Sep g0 w0 g0 w [Go.Lx.box b2 51 (xv14.1.map (Value.int .u64)), Go.Lx.box b1 51 ((Vec.zero 4).1.map (Value.int .u64))]) hM ⟨rfl, rfl, rfl, rfl, rfl, hds, hs⟩ ?_
  clear hs hM
  rintro ⟨xv14, xv15⟩ o2 E w hM ⟨hE0, hE2, hE3, hE6, hE7, hds, hs⟩
  obtain ⟨E, rfl⟩ := open5 (E := E) hE0 hE2 hE3 hE6 hE7
  refine WP_seq <| WP_region <| O (r_lss rfl rfl) rfl <| OW_nil <| WP_seq ?_
  rcases condS hM with ⟨hc6, hM⟩ | ⟨hc6, hM⟩
  ·refine WP_true rfl hc6 <| WP_skip <| WP_seq <| WP_block <| WP_seq <| WP_region <| O (r_move (v := Value.int .i64 xv15) rfl) rfl <| O (r_assign (v := Value.int .i64 xv15) rfl) rfl <| OW_nil <| WP_drawTail 13 mo (by decide +kernel) ?_
   have hs := hs.drew
   refine S (r_move (v := encS s1) rfl) rfl <| S (r_move (v := Value.int .i64 xv15) rfl) rfl ?_
   obtain ⟨c11, hc11, hM⟩ := bindS hM
   refine S (r_idxStr Try.underlying9 rfl rfl hc11) rfl ?_
   obtain ⟨t21, ht21, hM⟩ := bindS hM
   refine S (r_quoM rfl rfl ht21) rfl ?_
   obtain ⟨c12, hc12, hM⟩ := bindS hM
   refine S (r_idxArr Try.underlying51 ti49 rfl rfl (vget_some hc12).1 (vget_some hc12).2.1) rfl <| S (r_load ti49 rfl (hs.cell (i := 0) rfl (vget_cell hc12))) rfl <| S (r_move (v := encS s1) rfl) rfl <| S (r_move (v := Value.int .i64 xv15) rfl) rfl <| S (r_idxStr Try.underlying9 rfl rfl hc11) rfl ?_
   obtain ⟨t22, ht22, hM⟩ := bindS hM
   refine S (r_remM rfl rfl ht22) rfl ?_
   obtain ⟨t23, ht23, hM⟩ := bindS hM
   refine S (r_shlM rfl rfl ht23) rfl <| S (r_or rfl rfl) rfl ?_
   obtain ⟨xv19, hxv19, hM⟩ := bindS hM
   refine S (r_idxArr Try.underlying51 ti49 rfl rfl (vset_some hxv19).1 (vset_some hxv19).2.1) rfl <| SW_nil <| OW_store1 ti49 hs (i := 0) rfl rfl (v := Value.int .u64 (bits .or .u64 c12 t23)) rfl rfl (vset_lt hxv19) ?_
   intro wv8 hs
   replace hs : Go.Lx.Sep g0 w0 g0 wv8 [Go.Lx.box b2 51 (xv19.1.map (Value.int .u64)), Go.Lx.box b1 51 ((Vec.zero 4).1.map (Value.int .u64))] := by have h9 := hs; simp only [List.set] at h9; rw [vset_cells hxv19] at h9; exact h9
   refine OW_nil <| WP_region ?_
   obtain ⟨t24, ht24, hM⟩ := bindS hM
   refine O (r_addM rfl rfl ht24) rfl <| O (r_move (v := Value.int .i64 t24) rfl) rfl <| OW_nil ?_
   obtain rfl := Option.some.inj hM
   exact ⟨rfl, rfl, rfl, rfl, rfl, hds, hs⟩
  ·refine WP_false rfl hc6 <| WP_exit ?_
   obtain rfl := Option.some.inj hM
   refine fun hr => ?_
   have hM := congrArg some hr
   obtain rfl := Option.some.inj hM
   exact ⟨rfl, rfl, hds, hs⟩
 ·clear hs
  rintro E w ⟨hE2, hE3, hds, hs⟩
  have hM := hKhx1
  obtain ⟨E, rfl⟩ := open2 (E := E) hE2 hE3
  refine WP_seq <| WP_region <| O (r_loadN (cs := xv10.1.map (Value.int .u64)) ti51 rfl (by simp [xv10.2]) (hs.cells (i := 0) rfl)) rfl <| OW_storeAll ti51 hs (i := 1) rfl rfl (v := encV .u64 xv10) rfl (vs := xv10.1.map (Value.int .u64)) rfl vec_one (by simp [xv10.2]) (by simp [xv10.2, (Vec.zero 4).2]) ?_
  intro wv9 hs
  refine OW_nil <| WP_ret ?_
  obtain rfl := Option.some.inj hM
  refine FL_nil hds ?_
  exact ⟨_, res1 Try.results53 (rv_cells (vs := xv10.1.map (Value.int .u64)) ti51 rfl (by simp [xv10.2]) (hs.cells (i := 1) rfl)), g0, ⟨xv10.1.map (Value.int .u64), rfl, rfl⟩, hs.ext⟩

set_option maxRecDepth 100000 in
theorem byteset_Range_ok {lo1 : Int} {hiv1 : Int} {r : (Vec 4)} (hM : M.byteset_Range lo1 hiv1 = some r) {g0 : Hp} {w0 : World} (hi : Imm g0 w0) :
    CallsV Try.prog 49 #[Value.int .u8 lo1, Value.int .u8 hiv1] w0 (fun v w' => ∃ g', (VRd (tVec 4 .u64) true g' v r) ∧ Ext g0 w0 g' w') := by
 unfold M.byteset_Range at hM
 have hs := Sep.start hi
 refine calls_of_WP (args := [Value.int .u8 lo1, Value.int .u8 hiv1]) Try.func49 rfl Try.ntmps49 rfl ?_
 have hds : (argEnv [Value.int .u8 lo1, Value.int .u8 hiv1]).ds = [] := rfl
 refine WP_seq <| WP_region <| OW_alloc ti51 hs (zs := (Vec.zero 4).1.map (Value.int .u64)) rfl rfl ?_
 intro b1 wv1 hs
 refine OW_nil <| WP_seq <| WP_region <| OW_alloc ti51 hs (zs := (Vec.zero 4).1.map (Value.int .u64)) rfl rfl ?_
 intro b2 wv2 hs
 refine OW_nil ?_
 obtain ⟨xv7, hx1, hKhx1⟩ := bindS hM
 refine WP_cut (fun E w => E 4 = Value.pointer (some ⟨b1, 0, none⟩) ∧ E 5 = Value.pointer (some ⟨b2, 0, none⟩) ∧ E.ds = [] ∧ Go.Lx.Sep g0 w0 g0 w [Go.Lx.box b2 51 (xv7.1.map (Value.int .u64)), Go.Lx.box b1 51 ((Vec.zero 4).1.map (Value.int .u64))]) ?_ ?_
 ·have hM := hx1
  have hag0 := Hle.refl g0
  refine WP_seq <| WP_region <| O (r_move (v := Value.int .u8 lo1) rfl) rfl <| O (r_conv Try.underlying5 Try.underlying3 rfl) rfl <| O (r_assign (v := Value.int .i64 (IntKind.i64.wrap lo1)) rfl) rfl <| OW_nil <| WP_block <| WP_loop (fun (st9 : (Vec 4) × Int) E w => match st9 with | (xv10, b7) => E 1 = Value.int .u8 hiv1 ∧ E 4 = Value.pointer (some ⟨b1, 0, none⟩) ∧ E 5 = Value.pointer (some ⟨b2, 0, none⟩) ∧ E 6 = Value.int .i64 b7 ∧ E.ds = [] ∧ Go.Lx.Sep g0 w0 g0 w [Go.Lx.box b2 51 (xv10.1.map (Value.int .u64)), Go.Lx.box b1 51 ((Vec.zero 4).1.map (Value.int .u64))]) hM ⟨rfl, rfl, rfl, rfl, hds, hs⟩ ?_
  clear hs hM
  rintro ⟨xv10, b7⟩ o2 E w hM ⟨hE1, hE4, hE5, hE6, hds, hs⟩
  obtain ⟨E, rfl⟩ := open4 (E := E) hE1 hE4 hE5 hE6
  refine WP_seq <| WP_seq <| WP_region <| O (r_move (v := Value.int .i64 b7) rfl) rfl <| O (r_move (v := Value.int .u8 hiv1) rfl) rfl <| O (r_conv Try.underlying5 Try.underlying3 rfl) rfl <| O (r_leq rfl rfl) rfl <| OW_nil ?_
  rcases condS hM with ⟨hc6, hM⟩ | ⟨hc6, hM⟩
  ·refine WP_true rfl hc6 <| WP_skip <| WP_seq <| WP_block <| WP_drawTail 9 mo (by decide +kernel) ?_
   have hs := hs.drew
   refine S (r_move (v := Value.int .i64 b7) rfl) rfl ?_
   obtain ⟨t21, ht21, hM⟩ := bindS hM
   refine S (r_quoM rfl rfl ht21) rfl ?_
   obtain ⟨c6, hc6, hM⟩ := bindS hM
   refine S (r_idxArr Try.underlying51 ti49 rfl rfl (vget_some hc6).1 (vget_some hc6).2.1) rfl <| S (r_load ti49 rfl (hs.cell (i := 0) rfl (vget_cell hc6))) rfl <| S (r_move (v := Value.int .i64 b7) rfl) rfl ?_
   obtain ⟨t22, ht22, hM⟩ := bindS hM
   refine S (r_remM rfl rfl ht22) rfl ?_
   obtain ⟨t23, ht23, hM⟩ := bindS hM
   refine S (r_shlM rfl rfl ht23) rfl <| S (r_or rfl rfl) rfl ?_
   obtain ⟨xv13, hxv13, hM⟩ := bindS hM
   refine S (r_idxArr Try.underlying51 ti49 rfl rfl (vset_some hxv13).1 (vset_some hxv13).2.1) rfl <| SW_nil <| OW_store1 ti49 hs (i := 0) rfl rfl (v := Value.int .u64 (bits .or .u64 c6 t23)) rfl rfl (vset_lt hxv13) ?_
   intro wv8 hs
   replace hs : Go.Lx.Sep g0 w0 g0 wv8 [Go.Lx.box b2 51 (xv13.1.map (Value.int .u64)), Go.Lx.box b1 51 ((Vec.zero 4).1.map (Value.int .u64))] := by have h9 := hs; simp only [List.set] at h9; rw [vset_cells hxv13] at h9; exact h9
   refine OW_nil <| WP_region <| O (r_move (v := Value.int .i64 b7) rfl) rfl ?_
   obtain ⟨t24, ht24, hM⟩ := bindS hM
   refine O (r_addM rfl rfl ht24) rfl <| O (r_assign (v := Value.int .i64 t24) rfl) rfl <| OW_nil ?_
   obtain rfl := Option.some.inj hM
   exact ⟨rfl, rfl, rfl, rfl, hds, hs⟩
  ·refine WP_false rfl hc6 <| WP_exit ?_
   obtain rfl := Option.some.inj hM
   refine fun hr => ?_
   have hM := congrArg some hr
   obtain rfl := Option.some.inj hM
   exact ⟨rfl, rfl, hds, hs⟩
 ·clear hs
  rintro E w ⟨hE4, hE5, hds, hs⟩
  have hM := hKhx1
  obtain ⟨E, rfl⟩ := open2 (E := E) hE4 hE5
  refine WP_seq <| WP_region <| O (r_loadN (cs := xv7.1.map (Value.int .u64)) ti51 rfl (by simp [xv7.2]) (hs.cells (i := 0) rfl)) rfl <| OW_storeAll ti51 hs (i := 1) rfl rfl (v := encV .u64 xv7) rfl (vs := xv7.1.map (Value.int .u64)) rfl vec_one (by simp [xv7.2]) (by simp [xv7.2, (Vec.zero 4).2]) ?_
  intro wv9 hs
  refine OW_nil <| WP_ret ?_
  obtain rfl := Option.some.inj hM
  refine FL_nil hds ?_
  exact ⟨_, res1 Try.results49 (rv_cells (vs := xv7.1.map (Value.int .u64)) ti51 rfl (by simp [xv7.2]) (hs.cells (i := 1) rfl)), g0, ⟨xv7.1.map (Value.int .u64), rfl, rfl⟩, hs.ext⟩

set_option maxRecDepth 100000 in
theorem byteset_Has_ok {s1 : (Vec 4)} {b1 : Int} {r : Bool} (hM : M.byteset_Has s1 b1 = some r) {g0 : Hp} {w0 : World} (hi : Imm g0 w0) :
    CallsV Try.prog 32 #[encV .u64 s1, Value.int .u8 b1] w0 (fun v w' => ∃ g', (VRd tBool false g' v r) ∧ Ext g0 w0 g' w') := by
 unfold M.byteset_Has at hM
 have hs := Sep.start hi
 refine calls_of_WP (args := [encV .u64 s1, Value.int .u8 b1]) Try.func32 rfl Try.ntmps32 rfl ?_
 have hds : (argEnv [encV .u64 s1, Value.int .u8 b1]).ds = [] := rfl
 refine WP_seq <| WP_region <| OW_box (v := encV .u64 s1) rfl hs (zs := s1.1.map (Value.int .u64)) rfl rfl ?_
 intro b2 wv1 hs
 refine O (r_assign (v := Value.bool false) rfl) rfl <| OW_nil <| WP_seq <| WP_region <| O (r_move (v := Value.int .u8 b1) rfl) rfl ?_
 obtain ⟨t1, ht1, hM⟩ := bindS hM
 refine O (r_quoM rfl rfl ht1) rfl ?_
 obtain ⟨c1, hc1, hM⟩ := bindS hM
 refine O (r_idxArr Try.underlying51 ti49 rfl rfl (vget_some hc1).1 (vget_some hc1).2.1) rfl <| O (r_load ti49 rfl (hs.cell (i := 0) rfl (vget_cell hc1))) rfl <| O (r_move (v := Value.int .u8 b1) rfl) rfl ?_
 obtain ⟨t2, ht2, hM⟩ := bindS hM
 refine O (r_remM rfl rfl ht2) rfl ?_
 obtain ⟨t3, ht3, hM⟩ := bindS hM
 refine O (r_shrM rfl rfl ht3) rfl <| O (r_and rfl rfl) rfl <| O (r_eql rfl rfl) rfl <| O (r_assign (v := Value.bool ((bits .and .u64 t3 1) == 1)) rfl) rfl <| OW_nil <| WP_ret ?_
 obtain rfl := Option.some.inj hM
 refine FL_nil hds ?_
 exact ⟨_, res1 Try.results32 (rv_tmp (v := Value.bool ((bits .and .u64 t3 1) == 1)) rfl), g0, ⟨[Value.bool ((bits .and .u64 t3 1) == 1)], rfl, rfl⟩, hs.ext⟩

set_option maxRecDepth 100000 in
theorem byteset_Union_ok {a1 : (Vec 4)} {b1 : (Vec 4)} {r : (Vec 4)} (hM : M.byteset_Union a1 b1 = some r) {g0 : Hp} {w0 : World} (hi : Imm g0 w0) :
    CallsV Try.prog 51 #[encV .u64 a1, encV .u64 b1] w0 (fun v w' => ∃ g', (VRd (tVec 4 .u64) true g' v r) ∧ Ext g0 w0 g' w') := by
 unfold M.byteset_Union at hM
 have hs := Sep.start hi
 refine calls_of_WP (args := [encV .u64 a1, encV .u64 b1]) Try.func51 rfl Try.ntmps51 rfl ?_
 have hds : (argEnv [encV .u64 a1, encV .u64 b1]).ds = [] := rfl
 refine WP_seq <| WP_region <| OW_box (v := encV .u64 a1) rfl hs (zs := a1.1.map (Value.int .u64)) rfl rfl ?_
 intro b2 wv1 hs
 refine OW_box (v := encV .u64 b1) rfl hs (zs := b1.1.map (Value.int .u64)) rfl rfl ?_
 intro b3 wv2 hs
 refine OW_alloc ti51 hs (zs := (Vec.zero 4).1.map (Value.int .u64)) rfl rfl ?_
 intro b4 wv3 hs
 refine OW_nil ?_
 obtain ⟨a8, hx1, hKhx1⟩ := bindS hM
 refine WP_cut (fun E w => E 2 = Value.pointer (some ⟨b2, 0, none⟩) ∧ E 4 = Value.pointer (some ⟨b4, 0, none⟩) ∧ E.ds = [] ∧ Go.Lx.Sep g0 w0 g0 w [Go.Lx.box b4 51 ((Vec.zero 4).1.map (Value.int .u64)), Go.Lx.box b2 51 (a8.1.map (Value.int .u64))]) ?_ ?_
 ·have hM := hx1
  have hag0 := Hle.refl g0
  refine WP_seq <| WP_region <| O (r_move (v := Value.int .i64 0) rfl) rfl <| OW_nil <| WP_block <| WP_loop (fun (st9 : (Vec 4) × Int) E w => match st9 with | (a11, xv5) => E 2 = Value.pointer (some ⟨b2, 0, none⟩) ∧ E 3 = Value.pointer (some ⟨b3, 0, none⟩) ∧ E 4 = Value.pointer (some ⟨b4, 0, none⟩) ∧ E 6 = Value.int .i64 xv5 ∧ E.ds = [] ∧ Go.Lx.Sep g0 w0 g0 w [Go.Lx.box b4 51 ((Vec.zero 4).1.map (Value.int .u64)), Go.Lx.box b3 51 (b1.1.map (Value.int .u64)), Go.Lx.box b2 51 (a11.1.map (Value.int .u64))]) hM ⟨rfl, rfl, rfl, rfl, hds, hs⟩ ?_
  clear hs hM
  rintro ⟨a11, xv5⟩ o2 E w hM ⟨hE2, hE3, hE4, hE6, hds, hs⟩
  obtain ⟨E, rfl⟩ := open4 (E := E) hE2 hE3 hE4 hE6
  refine WP_seq <| WP_region <| O (r_lss rfl rfl) rfl <| OW_nil <| WP_seq ?_
  rcases condS hM with ⟨hc6, hM⟩ | ⟨hc6, hM⟩
  ·refine WP_true rfl hc6 <| WP_skip <| WP_seq <| WP_block <| WP_seq <| WP_region <| O (r_move (v := Value.int .i64 xv5) rfl) rfl <| O (r_assign (v := Value.int .i64 xv5) rfl) rfl <| OW_nil <| WP_drawTail 8 mo (by decide +kernel) ?_
   have hs := hs.drew
   refine S (r_move (v := Value.int .i64 xv5) rfl) rfl ?_
   obtain ⟨c11, hc11, hM⟩ := bindS hM
   refine S (r_idxArr Try.underlying51 ti49 rfl rfl (vget_some hc11).1 (vget_some hc11).2.1) rfl <| S (r_load ti49 rfl (hs.cell (i := 2) rfl (vget_cell hc11))) rfl <| S (r_move (v := Value.int .i64 xv5) rfl) rfl ?_
   obtain ⟨c12, hc12, hM⟩ := bindS hM
   refine S (r_idxArr Try.underlying51 ti49 rfl rfl (vget_some hc12).1 (vget_some hc12).2.1) rfl <| S (r_load ti49 rfl (hs.cell (i := 1) rfl (vget_cell hc12))) rfl <| S (r_or rfl rfl) rfl ?_
   obtain ⟨a14, ha14, hM⟩ := bindS hM
   refine S (r_idxArr Try.underlying51 ti49 rfl rfl (vset_some ha14).1 (vset_some ha14).2.1) rfl <| SW_nil <| OW_store1 ti49 hs (i := 2) rfl rfl (v := Value.int .u64 (bits .or .u64 c11 c12)) rfl rfl (vset_lt ha14) ?_
   intro wv9 hs
   replace hs : Go.Lx.Sep g0 w0 g0 wv9 [Go.Lx.box b4 51 ((Vec.zero 4).1.map (Value.int .u64)), Go.Lx.box b3 51 (b1.1.map (Value.int .u64)), Go.Lx.box b2 51 (a14.1.map (Value.int .u64))] := by have h9 := hs; simp only [List.set] at h9; rw [vset_cells ha14] at h9; exact h9
   refine OW_nil <| WP_region ?_
   obtain ⟨t6, ht6, hM⟩ := bindS hM
   refine O (r_addM rfl rfl ht6) rfl <| O (r_move (v := Value.int .i64 t6) rfl) rfl <| OW_nil ?_
   obtain rfl := Option.some.inj hM
   exact ⟨rfl, rfl, rfl, rfl, hds, hs⟩
  ·refine WP_false rfl hc6 <| WP_exit ?_
   obtain rfl := Option.some.inj hM
   refine fun hr => ?_
   have hM := congrArg some hr
   obtain rfl := Option.some.inj hM
   exact ⟨rfl, rfl, hds, (hs.sub (.cons_cons _ (.cons _ (.cons_cons _ .slnil))))⟩
 ·clear hs
  rintro E w ⟨hE2, hE4, hds, hs⟩
  have hM := hKhx1
  obtain ⟨E, rfl⟩ := open2 (E := E) hE2 hE4
  refine WP_seq <| WP_region <| O (r_loadN (cs := a8.1.map (Value.int .u64)) ti51 rfl (by simp [a8.2]) (hs.cells (i := 1) rfl)) rfl <| OW_storeAll ti51 hs (i := 0) rfl rfl (v := encV .u64 a8) rfl (vs := a8.1.map (Value.int .u64)) rfl vec_one (by simp [a8.2]) (by simp [a8.2, (Vec.zero 4).2]) ?_
  intro wv10 hs
  refine OW_nil <| WP_ret ?_
  obtain rfl := Option.some.inj hM
  refine FL_nil hds ?_
  exact ⟨_, res1 Try.results51 (rv_cells (vs := a8.1.map (Value.int .u64)) ti51 rfl (by simp [a8.2]) (hs.cells (i := 0) rfl)), g0, ⟨a8.1.map (Value.int .u64), rfl, rfl⟩, hs.ext⟩

set_option maxRecDepth 100000 in
theorem byteset_Complement_ok {s1 : (Vec 4)} {r : (Vec 4)} (hM : M.byteset_Complement s1 = some r) {g0 : Hp} {w0 : World} (hi : Imm g0 w0) :
    CallsV Try.prog 52 #[encV .u64 s1] w0 (fun v w' => ∃ g', (VRd (tVec 4 .u64) true g' v r) ∧ Ext g0 w0 g' w') := by
 unfold M.byteset_Complement at hM
 have hs := Sep.start hi
 refine calls_of_WP (args := [encV .u64 s1]) Try.func52 rfl Try.ntmps52 rfl ?_
 have hds : (argEnv [encV .u64 s1]).ds = [] := rfl
 refine WP_seq <| WP_region <| OW_box (v := encV .u64 s1) rfl hs (zs := s1.1.map (Value.int .u64)) rfl rfl ?_
 intro b1 wv1 hs
 refine OW_alloc ti51 hs (zs := (Vec.zero 4).1.map (Value.int .u64)) rfl rfl ?_
 intro b2 wv2 hs
 refine OW_nil ?_
 obtain ⟨s8, hx1, hKhx1⟩ := bindS hM
 refine WP_cut (fun E w => E 1 = Value.pointer (some ⟨b1, 0, none⟩) ∧ E 2 = Value.pointer (some ⟨b2, 0, none⟩) ∧ E.ds = [] ∧ Go.Lx.Sep g0 w0 g0 w [Go.Lx.box b2 51 ((Vec.zero 4).1.map (Value.int .u64)), Go.Lx.box b1 51 (s8.1.map (Value.int .u64))]) ?_ ?_
 ·have hM := hx1
  have hag0 := Hle.refl g0
  refine WP_seq <| WP_region <| O (r_move (v := Value.int .i64 0) rfl) rfl <| OW_nil <| WP_block <| WP_loop (fun (st9 : (Vec 4) × Int) E w => match st9 with | (s11, xv5) => E 1 = Value.pointer (some ⟨b1, 0, none⟩) ∧ E 2 = Value.pointer (some ⟨b2, 0, none⟩) ∧ E 4 = Value.int .i64 xv5 ∧ E.ds = [] ∧ Go.Lx.Sep g0 w0 g0 w [Go.Lx.box b2 51 ((Vec.zero 4).1.map (Value.int .u64)), Go.Lx.box b1 51 (s11.1.map (Value.int .u64))]) hM ⟨rfl, rfl, rfl, hds, hs⟩ ?_
  clear hs hM
  rintro ⟨s11, xv5⟩ o2 E w hM ⟨hE1, hE2, hE4, hds, hs⟩
  obtain ⟨E, rfl⟩ := open3 (E := E) hE1 hE2 hE4
  refine WP_seq <| WP_region <| O (r_lss rfl rfl) rfl <| OW_nil <| WP_seq ?_
  rcases condS hM with ⟨hc6, hM⟩ | ⟨hc6, hM⟩
  ·refine WP_true rfl hc6 <| WP_skip <| WP_seq <| WP_block <| WP_seq <| WP_region <| O (r_move (v := Value.int .i64 xv5) rfl) rfl <| O (r_assign (v := Value.int .i64 xv5) rfl) rfl <| OW_nil <| WP_region <| O (r_move (v := Value.int .i64 xv5) rfl) rfl <| O (r_move (v := Value.int .i64 xv5) rfl) rfl ?_
   obtain ⟨c6, hc6, hM⟩ := bindS hM
   refine O (r_idxArr Try.underlying51 ti49 rfl rfl (vget_some hc6).1 (vget_some hc6).2.1) rfl <| O (r_load ti49 rfl (hs.cell (i := 1) rfl (vget_cell hc6))) rfl <| O (r_compl rfl) rfl ?_
   obtain ⟨s14, hs14, hM⟩ := bindS hM
   refine O (r_idxArr Try.underlying51 ti49 rfl rfl (vset_some hs14).1 (vset_some hs14).2.1) rfl <| OW_store1 ti49 hs (i := 1) rfl rfl (v := Value.int .u64 (complM .u64 c6)) rfl rfl (vset_lt hs14) ?_
   intro wv8 hs
   replace hs : Go.Lx.Sep g0 w0 g0 wv8 [Go.Lx.box b2 51 ((Vec.zero 4).1.map (Value.int .u64)), Go.Lx.box b1 51 (s14.1.map (Value.int .u64))] := by have h9 := hs; simp only [List.set] at h9; rw [vset_cells hs14] at h9; exact h9
   refine OW_nil <| WP_region ?_
   obtain ⟨t6, ht6, hM⟩ := bindS hM
   refine O (r_addM rfl rfl ht6) rfl <| O (r_move (v := Value.int .i64 t6) rfl) rfl <| OW_nil ?_
   obtain rfl := Option.some.inj hM
   exact ⟨rfl, rfl, rfl, hds, hs⟩
  ·refine WP_false rfl hc6 <| WP_exit ?_
   obtain rfl := Option.some.inj hM
   refine fun hr => ?_
   have hM := congrArg some hr
   obtain rfl := Option.some.inj hM
   exact ⟨rfl, rfl, hds, hs⟩
 ·clear hs
  rintro E w ⟨hE1, hE2, hds, hs⟩
  have hM := hKhx1
  obtain ⟨E, rfl⟩ := open2 (E := E) hE1 hE2
  refine WP_seq <| WP_region <| O (r_loadN (cs := s8.1.map (Value.int .u64)) ti51 rfl (by simp [s8.2]) (hs.cells (i := 1) rfl)) rfl <| OW_storeAll ti51 hs (i := 0) rfl rfl (v := encV .u64 s8) rfl (vs := s8.1.map (Value.int .u64)) rfl vec_one (by simp [s8.2]) (by simp [s8.2, (Vec.zero 4).2]) ?_
  intro wv9 hs
  refine OW_nil <| WP_ret ?_
  obtain rfl := Option.some.inj hM
  refine FL_nil hds ?_
  exact ⟨_, res1 Try.results52 (rv_cells (vs := s8.1.map (Value.int .u64)) ti51 rfl (by simp [s8.2]) (hs.cells (i := 0) rfl)), g0, ⟨s8.1.map (Value.int .u64), rfl, rfl⟩, hs.ext⟩

def C.regex_valid (fl : Nat) : Prop := ∀ {rv1 : T_Regex} {depth1 : Int} {r : Bool} (_ : M.regex_valid fl rv1 depth1 = some r) {g0 : Hp} {w0 : World} (hi : Imm g0 w0) {cs1 : List Value} (hcs1 : tT_Regex.rel g0 cs1 rv1),
    CallsV Try.prog 31 #[Value.agg cs1.toArray, Value.int .i64 depth1] w0 (fun v w' => ∃ g', (VRd tBool false g' v r) ∧ Ext g0 w0 g' w')
set_option maxRecDepth 100000 in
theorem regex_valid_step {fl : Nat} (ih_regex_valid : C.regex_valid fl) : C.regex_valid (fl + 1) := by
 intro rv1 depth1 r hM g0 w0 hi cs1 hcs1
 unfold M.regex_valid at hM
 obtain ⟨cs2, cs3, cs4, rfl, hcs2, hcs3, hcs4⟩ := tT_Regex_iff.1 hcs1
 have hcs2 : cs2 = _ := hcs2; subst hcs2
 have hcs3 : cs3 = _ := hcs3; subst hcs3
 obtain ⟨v1, rfl, hRv1⟩ := hcs4
 have hs := Sep.start hi
 refine calls_of_WP (args := [Value.agg (List.toArray (α := Value) (([Value.int .i64 rv1.Kind]) ++ ((rv1.Set.1.map (Value.int .u64)) ++ ([v1])))), Value.int .i64 depth1]) Try.func31 rfl Try.ntmps31 rfl ?_
 have hds : (argEnv [Value.agg (List.toArray (α := Value) (([Value.int .i64 rv1.Kind]) ++ ((rv1.Set.1.map (Value.int .u64)) ++ ([v1])))), Value.int .i64 depth1]).ds = [] := rfl
 refine WP_seq <| WP_region <| OW_box (v := Value.agg (List.toArray (α := Value) (([Value.int .i64 rv1.Kind]) ++ ((rv1.Set.1.map (Value.int .u64)) ++ ([v1]))))) rfl hs (zs := ([Value.int .i64 rv1.Kind]) ++ ((rv1.Set.1.map (Value.int .u64)) ++ ([v1]))) rfl rfl ?_
 intro b1 wv1 hs
 refine O (r_assign (v := Value.bool false) rfl) rfl <| OW_nil <| WP_seq ?_
 obtain ⟨xv1, hx1, hKhx1⟩ := bindS hM
 refine WP_cut (fun E w => E 1 = Value.int .i64 depth1 ∧ E 2 = Value.pointer (some ⟨b1, 0, none⟩) ∧ E 20 = Value.bool xv1 ∧ E.ds = [] ∧ Go.Lx.Sep g0 w0 g0 w [Go.Lx.box b1 54 (([Value.int .i64 rv1.Kind]) ++ ((rv1.Set.1.map (Value.int .u64)) ++ ([v1])))]) ?_ ?_
 ·have hM := hx1
  have hag0 := Hle.refl g0
  refine WP_draw mo (by decide +kernel) ?_
  have hs := hs.drew
  refine S (r_move (v := Value.int .i64 depth1) rfl) rfl <| S (r_eql rfl rfl) rfl <| S (r_move (v := Value.bool (depth1 == 0)) rfl) rfl ?_
  rcases condS hM with ⟨hg2, hM⟩ | ⟨hg2, hM⟩
  ·refine SK rfl rfl rfl (by rw [hg2]; rfl) rfl <| SK rfl rfl rfl (by rw [hg2]; rfl) rfl <| SK rfl rfl rfl (by rw [hg2]; rfl) rfl <| SK rfl rfl rfl (by rw [hg2]; rfl) rfl <| SK rfl rfl rfl (by rw [hg2]; rfl) rfl <| SK rfl rfl rfl (by rw [hg2]; rfl) rfl <| SK rfl rfl rfl (by rw [hg2]; rfl) rfl <| SK rfl rfl rfl (by rw [hg2]; rfl) rfl <| S (r_pickT (v := Value.bool true) rfl hg2 rfl) rfl <| SW_nil ?_
   obtain rfl := Option.some.inj hM
   exact ⟨rfl, rfl, rfl, hds, hs⟩
  ·refine SG rfl rfl rfl (by rw [hg2]; rfl) (r_fieldAddr Try.underlying54 ti3 rfl rfl (by decide) rfl rfl) rfl <| SG rfl rfl rfl (by rw [hg2]; rfl) (r_load (v := Value.int .i64 rv1.Kind) ti3 rfl (hs.cell (i := 0) (o := 0) rfl (by simp [rv1.Set.2]))) rfl <| SG rfl rfl rfl (by rw [hg2]; rfl) (r_eql rfl rfl) rfl <| SG rfl rfl rfl (by rw [hg2]; rfl) (r_fieldAddr Try.underlying54 ti51 rfl rfl (by decide) rfl rfl) rfl <| SG rfl rfl rfl (by rw [hg2]; rfl) (r_loadN (cs := rv1.Set.1.map (Value.int .u64)) ti51 rfl (by simp [rv1.Set.2]) (hs.cellsAt (i := 0) (o := 1) rfl (by intro j u hj; exact sub_at (pre := [Value.int .i64 rv1.Kind]) (ds := rv1.Set.1.map (Value.int .u64)) (post := [v1]) rfl ((by simp)) hj))) rfl ?_
   refine SG rfl rfl rfl (by rw [hg2]; rfl) (r_build (vs := []) (cs := (Vec.zero 4).1.map (Value.int .u64)) rfl (by kernel_rfl)) rfl <| SG rfl rfl rfl (by rw [hg2]; rfl) (r_eqlV Try.underlying51 Try.underlying49 ti49 rfl rfl eg51) rfl <| SG rfl rfl rfl (by rw [hg2]; rfl) (r_eqlB Try.underlying4 rfl rfl) rfl <| S (r_pickF (v := Value.bool ((rv1.Kind == 3) == (rv1.Set == (Vec.zero 4)))) rfl hg2 rfl) rfl <| SW_nil ?_
   obtain rfl := Option.some.inj hM
   exact ⟨rfl, rfl, rfl, hds, hs⟩
 ·clear hs
  rintro E w ⟨hE1, hE2, hE20, hds, hs⟩
  have hM := hKhx1
  obtain ⟨E, rfl⟩ := open3 (E := E) hE1 hE2 hE20
  rcases condS hM with ⟨hc1, hM⟩ | ⟨hc1, hM⟩
  ·refine WP_true rfl hc1 <| WP_seq <| WP_region <| O (r_assign (v := Value.bool false) rfl) rfl <| OW_nil <| WP_ret ?_
   obtain rfl := Option.some.inj hM
   refine FL_nil hds ?_
   exact ⟨_, res1 Try.results31 (rv_tmp (v := Value.bool false) rfl), g0, ⟨[Value.bool false], rfl, rfl⟩, hs.ext⟩
  ·refine WP_false rfl hc1 <| WP_skip <| WP_seq <| WP_region <| O (r_assign (v := Value.int .i64 0) rfl) rfl <| O (r_assign (v := Value.int .i64 0) rfl) rfl <| OW_nil ?_
   obtain ⟨o1, hx4, hKhx4⟩ := stepS hM
   refine WP_cut (fun E w => ∃ (least1 : Int) (most1 : Int), o1 = .next (least1, most1) ∧ E 1 = Value.int .i64 depth1 ∧ E 2 = Value.pointer (some ⟨b1, 0, none⟩) ∧ E 5 = Value.int .i64 least1 ∧ E 6 = Value.int .i64 most1 ∧ E.ds = [] ∧ Go.Lx.Sep g0 w0 g0 w [Go.Lx.box b1 54 (([Value.int .i64 rv1.Kind]) ++ ((rv1.Set.1.map (Value.int .u64)) ++ ([v1])))]) ?_ ?_
   ·have hM := hx4
    have hag0 := Hle.refl g0
    refine WP_seq <| WP_region <| O (r_fieldAddr Try.underlying54 ti3 rfl rfl (by decide) rfl rfl) rfl <| O (r_load (v := Value.int .i64 rv1.Kind) ti3 rfl (hs.cell (i := 0) (o := 0) rfl (by simp [rv1.Set.2]))) rfl <| OW_nil <| WP_block ?_
    obtain ⟨xv4, hx5, hKhx5⟩ := bindS hM
    refine WP_cut (fun E w => E 1 = Value.int .i64 depth1 ∧ E 2 = Value.pointer (some ⟨b1, 0, none⟩) ∧ E 5 = Value.int .i64 0 ∧ E 6 = Value.int .i64 0 ∧ E 22 = Value.int .i64 rv1.Kind ∧ E 23 = Value.bool xv4 ∧ E.ds = [] ∧ Go.Lx.Sep g0 w0 g0 w [Go.Lx.box b1 54 (([Value.int .i64 rv1.Kind]) ++ ((rv1.Set.1.map (Value.int .u64)) ++ ([v1])))]) ?_ ?_
    ·have hM := hx5
     refine WP_seq <| WP_region <| O (r_eql rfl rfl) rfl <| O (r_assign (v := Value.bool (rv1.Kind == 1)) rfl) rfl <| OW_nil ?_
     rcases condS hM with ⟨hc13, hM⟩ | ⟨hc13, hM⟩
     ·refine WP_true rfl hc13 <| WP_skip ?_
      obtain rfl := Option.some.inj hM
      exact ⟨rfl, rfl, rfl, rfl, rfl, rfl, hds, hs⟩
     ·refine WP_false rfl hc13 <| WP_seq <| WP_region <| O (r_eql rfl rfl) rfl <| O (r_assign (v := Value.bool (rv1.Kind == 2)) rfl) rfl <| OW_nil ?_
      rcases condS hM with ⟨hc14, hM⟩ | ⟨hc14, hM⟩
      ·refine WP_true rfl hc14 <| WP_skip ?_
       obtain rfl := Option.some.inj hM
       exact ⟨rfl, rfl, rfl, rfl, rfl, rfl, hds, hs⟩
      ·refine WP_false rfl hc14 <| WP_region <| O (r_eql rfl rfl) rfl <| O (r_assign (v := Value.bool (rv1.Kind == 3)) rfl) rfl <| OW_nil ?_
       obtain rfl := Option.some.inj hM
       exact ⟨rfl, rfl, rfl, rfl, rfl, rfl, hds, hs⟩
    ·clear hs
     rintro E w ⟨hE1, hE2, hE5, hE6, hE22, hE23, hds, hs⟩
     have hM := hKhx5
     obtain ⟨E, rfl⟩ := open6 (E := E) hE1 hE2 hE5 hE6 hE22 hE23
     rcases condS hM with ⟨hc15, hM⟩ | ⟨hc15, hM⟩
     ·refine WP_true rfl hc15 <| WP_skip ?_
      obtain rfl := Option.some.inj hM
      exact ⟨(0 : Int), (0 : Int), rfl, rfl, rfl, rfl, rfl, hds, hs⟩
     ·refine WP_false rfl hc15 ?_
      obtain ⟨xv5, hx6, hKhx6⟩ := bindS hM
      refine WP_cut (fun E w => E 1 = Value.int .i64 depth1 ∧ E 2 = Value.pointer (some ⟨b1, 0, none⟩) ∧ E 22 = Value.int .i64 rv1.Kind ∧ E 27 = Value.bool xv5 ∧ E.ds = [] ∧ Go.Lx.Sep g0 w0 g0 w [Go.Lx.box b1 54 (([Value.int .i64 rv1.Kind]) ++ ((rv1.Set.1.map (Value.int .u64)) ++ ([v1])))]) ?_ ?_
      ·have hM := hx6
       refine WP_seq <| WP_region <| O (r_eql rfl rfl) rfl <| O (r_assign (v := Value.bool (rv1.Kind == 4)) rfl) rfl <| OW_nil ?_
       rcases condS hM with ⟨hc17, hM⟩ | ⟨hc17, hM⟩
       ·refine WP_true rfl hc17 <| WP_skip ?_
        obtain rfl := Option.some.inj hM
        exact ⟨rfl, rfl, rfl, rfl, hds, hs⟩
       ·refine WP_false rfl hc17 <| WP_region <| O (r_eql rfl rfl) rfl <| O (r_assign (v := Value.bool (rv1.Kind == 5)) rfl) rfl <| OW_nil ?_
        obtain rfl := Option.some.inj hM
        exact ⟨rfl, rfl, rfl, rfl, hds, hs⟩
      ·clear hs
       rintro E w ⟨hE1, hE2, hE22, hE27, hds, hs⟩
       have hM := hKhx6
       obtain ⟨E, rfl⟩ := open4 (E := E) hE1 hE2 hE22 hE27
       rcases condS hM with ⟨hc18, hM⟩ | ⟨hc18, hM⟩
       ·refine WP_true rfl hc18 <| WP_draw mo (by decide +kernel) ?_
        have hs := hs.drew
        refine S (r_fieldAddr Try.underlying54 ti52 rfl rfl (by decide) rfl rfl) rfl <| S (r_load (v := v1) ti52 rfl (hs.cell (i := 0) (o := 5) rfl (by simp [rv1.Set.2]))) rfl ?_
        obtain ⟨a2, ca2, hva2⟩ := hRv1.shape
        refine S (r_lenSl (v := v1) Try.underlying52 rfl hva2) rfl <| S (r_assign (v := Value.int .i64 2) rfl) rfl <| S (r_assign (v := Value.int .i64 (rv1.Kids.length : Int)) rfl) rfl <| SW_nil ?_
        obtain rfl := Option.some.inj hM
        exact ⟨(2 : Int), (rv1.Kids.length : Int), rfl, rfl, rfl, rfl, rfl, hds, hs⟩
       ·refine WP_false rfl hc18 <| WP_seq <| WP_region <| O (r_eql rfl rfl) rfl <| O (r_assign (v := Value.bool (rv1.Kind == 6)) rfl) rfl <| OW_nil ?_
        rcases condS hM with ⟨hc19, hM⟩ | ⟨hc19, hM⟩
        ·refine WP_true rfl hc19 <| WP_region <| O (r_assign (v := Value.int .i64 1) rfl) rfl <| O (r_assign (v := Value.int .i64 1) rfl) rfl <| OW_nil ?_
         obtain rfl := Option.some.inj hM
         exact ⟨(1 : Int), (1 : Int), rfl, rfl, rfl, rfl, rfl, hds, hs⟩
        ·refine WP_false rfl hc19 <| WP_seq <| WP_region <| O (r_assign (v := Value.bool false) rfl) rfl <| OW_nil <| WP_ret ?_
         obtain rfl := Option.some.inj hM
         have hM := hKhx4
         obtain rfl := Option.some.inj hM
         refine FL_nil hds ?_
         exact ⟨_, res1 Try.results31 (rv_tmp (v := Value.bool false) rfl), g0, ⟨[Value.bool false], rfl, rfl⟩, hs.ext⟩
   ·clear hs
    rintro E w ⟨least1, most1, rfl, hE1, hE2, hE5, hE6, hds, hs⟩
    have hM := hKhx4
    dsimp only [onStep] at hM
    obtain ⟨E, rfl⟩ := open4 (E := E) hE1 hE2 hE5 hE6
    refine WP_seq ?_
    obtain ⟨xv6, hx7, hKhx7⟩ := bindS hM
    refine WP_cut (fun E w => E 1 = Value.int .i64 depth1 ∧ E 2 = Value.pointer (some ⟨b1, 0, none⟩) ∧ E 46 = Value.bool xv6 ∧ E.ds = [] ∧ Go.Lx.Sep g0 w0 g0 w [Go.Lx.box b1 54 (([Value.int .i64 rv1.Kind]) ++ ((rv1.Set.1.map (Value.int .u64)) ++ ([v1])))]) ?_ ?_
    ·have hM := hx7
     have hag0 := Hle.refl g0
     refine WP_region <| O (r_fieldAddr Try.underlying54 ti52 rfl rfl (by decide) rfl rfl) rfl <| O (r_load (v := v1) ti52 rfl (hs.cell (i := 0) (o := 5) rfl (by simp [rv1.Set.2]))) rfl ?_
     obtain ⟨a5, ca5, hva5⟩ := hRv1.shape
     refine O (r_lenSl (v := v1) Try.underlying52 rfl hva5) rfl <| O (r_move (v := Value.int .i64 least1) rfl) rfl <| O (r_lss rfl rfl) rfl <| O (r_move (v := Value.bool (decide ((rv1.Kids.length : Int) < least1))) rfl) rfl ?_
     rcases condS hM with ⟨hg4, hM⟩ | ⟨hg4, hM⟩
     ·refine OK rfl rfl rfl (by rw [hg4]; rfl) rfl <| OK rfl rfl rfl (by rw [hg4]; rfl) rfl <| OK rfl rfl rfl (by rw [hg4]; rfl) rfl <| OK rfl rfl rfl (by rw [hg4]; rfl) rfl <| OK rfl rfl rfl (by rw [hg4]; rfl) rfl <| O (r_pickT (v := Value.bool true) rfl hg4 rfl) rfl <| OW_nil ?_
      obtain rfl := Option.some.inj hM
      exact ⟨rfl, rfl, rfl, hds, hs⟩
     ·refine OG rfl rfl rfl (by rw [hg4]; rfl) (r_fieldAddr Try.underlying54 ti52 rfl rfl (by decide) rfl rfl) rfl <| OG rfl rfl rfl (by rw [hg4]; rfl) (r_load (v := v1) ti52 rfl (hs.cell (i := 0) (o := 5) rfl (by simp [rv1.Set.2]))) rfl ?_
      obtain ⟨a6, ca6, hva6⟩ := hRv1.shape
      refine OG rfl rfl rfl (by rw [hg4]; rfl) (r_lenSl (v := v1) Try.underlying52 rfl hva6) rfl <| OG rfl rfl rfl (by rw [hg4]; rfl) (r_move (v := Value.int .i64 most1) rfl) rfl <| OG rfl rfl rfl (by rw [hg4]; rfl) (r_gtr rfl rfl) rfl <| O (r_pickF (v := Value.bool (decide (most1 < (rv1.Kids.length : Int)))) rfl hg4 rfl) rfl <| OW_nil ?_
      obtain rfl := Option.some.inj hM
      exact ⟨rfl, rfl, rfl, hds, hs⟩
    ·clear hs
     rintro E w ⟨hE1, hE2, hE46, hds, hs⟩
     have hM := hKhx7
     obtain ⟨E, rfl⟩ := open3 (E := E) hE1 hE2 hE46
     rcases condS hM with ⟨hc20, hM⟩ | ⟨hc20, hM⟩
     ·refine WP_true rfl hc20 <| WP_seq <| WP_region <| O (r_assign (v := Value.bool false) rfl) rfl <| OW_nil <| WP_ret ?_
      obtain rfl := Option.some.inj hM
      refine FL_nil hds ?_
      exact ⟨_, res1 Try.results31 (rv_tmp (v := Value.bool false) rfl), g0, ⟨[Value.bool false], rfl, rfl⟩, hs.ext⟩
     ·refine WP_false rfl hc20 <| WP_skip ?_
      obtain ⟨o4, hx8, hKhx8⟩ := stepS hM
      refine WP_cut (fun E w => ∃ u9 : Unit, o4 = .next u9 ∧ ∃ (gg7 : Hp), E.ds = [] ∧ Hle g0 gg7 ∧ Go.Lx.Sep g0 w0 gg7 w []) ?_ ?_
      ·have hM := hx8
       have hag0 := Hle.refl g0
       refine WP_seq <| WP_region <| O (r_fieldAddr Try.underlying54 ti52 rfl rfl (by decide) rfl rfl) rfl <| O (r_load (v := v1) ti52 rfl (hs.cell (i := 0) (o := 5) rfl (by simp [rv1.Set.2]))) rfl ?_
       obtain ⟨a8, ca8, hva8⟩ := hRv1.shape
       refine O (r_lenSl (v := v1) Try.underlying52 rfl hva8) rfl <| O (r_move (v := Value.int .i64 0) rfl) rfl <| OW_nil <| WP_block <| WP_loop (fun (xv11 : Int) E w => ∃ (gg10 : Hp), E 1 = Value.int .i64 depth1 ∧ E 48 = v1 ∧ E 49 = Value.int .i64 (rv1.Kids.length : Int) ∧ E 50 = Value.int .i64 xv11 ∧ E.ds = [] ∧ Hle g0 gg10 ∧ Go.Lx.Sep g0 w0 gg10 w []) hM ⟨g0, rfl, rfl, rfl, rfl, hds, (Hle.refl _), (hs.sub (.cons _ .slnil))⟩ ?_
       clear hs hM
       rintro xv11 o3 E w hM ⟨gg10, hE1, hE48, hE49, hE50, hds, hlegg10, hs⟩
       obtain ⟨E, rfl⟩ := open4 (E := E) hE1 hE48 hE49 hE50
       replace hRv1 := hRv1.mono hlegg10
       have hagg10 := Hle.refl gg10
       refine WP_seq <| WP_region <| O (r_lss rfl rfl) rfl <| OW_nil <| WP_seq ?_
       rcases condS hM with ⟨hc31, hM⟩ | ⟨hc31, hM⟩
       ·refine WP_true rfl hc31 <| WP_skip <| WP_seq <| WP_block <| WP_seq <| WP_region ?_
        obtain ⟨e6, he6, hM⟩ := bindS hM
        obtain ⟨b12, ob12, cb12, hvb12, cs30, hcs30, hcb12⟩ := hRv1.at he6
        obtain ⟨cs31, cs32, cs33, rfl, hcs31, hcs32, hcs33⟩ := tT_Regex_iff.1 hcs30
        have hcs31 : cs31 = _ := hcs31; subst hcs31
        have hcs32 : cs32 = _ := hcs32; subst hcs32
        obtain ⟨v12, rfl, hRv12⟩ := hcs33
        refine O (r_idxSl Try.underlying52 ti54 (v := v1) rfl hvb12 rfl (idxL_some he6).1 (idxL_some he6).2.1) rfl <| O (r_loadEl (cs := ([Value.int .i64 e6.Kind]) ++ ((e6.Set.1.map (Value.int .u64)) ++ ([v12]))) ti54 rfl (by simp [e6.Set.2]) (.inl rfl) (hcb12 _ hs.imm) (v := Value.agg (List.toArray (α := Value) (([Value.int .i64 e6.Kind]) ++ ((e6.Set.1.map (Value.int .u64)) ++ ([v12]))))) rfl) rfl <| OW_alloc ti54 hs (zs := ([Value.int .i64 0]) ++ (((Vec.zero 4).1.map (Value.int .u64)) ++ ([Value.slice none 0 0]))) rfl rfl ?_
        intro b13 wv17 hs
        refine OW_storeAll ti54 hs (i := 0) rfl rfl (v := Value.agg (List.toArray (α := Value) (([Value.int .i64 e6.Kind]) ++ ((e6.Set.1.map (Value.int .u64)) ++ ([v12]))))) rfl (vs := ([Value.int .i64 e6.Kind]) ++ ((e6.Set.1.map (Value.int .u64)) ++ ([v12]))) rfl (one_append (one_cons rfl one_nil) (one_append vec_one (one_cons (by obtain ⟨_, _, h9⟩ := hRv12.shape; rw [h9]; rfl) one_nil))) (by simp [e6.Set.2]) (by simp [e6.Set.2, (Vec.zero 4).2]) ?_
        intro wv18 hs
        refine OW_nil <| WP_seq <| WP_region <| O (r_loadN (cs := ([Value.int .i64 e6.Kind]) ++ ((e6.Set.1.map (Value.int .u64)) ++ ([v12]))) ti54 rfl (by simp [e6.Set.2]) (hs.cells (i := 0) rfl)) rfl <| O (r_move (v := Value.int .i64 depth1) rfl) rfl ?_
        obtain ⟨t11, ht11, hM⟩ := bindS hM
        refine O (r_subM rfl rfl ht11) rfl ?_
        obtain ⟨rv7, hrv7, hM⟩ := bindS hM
        refine C [Value.agg (List.toArray (α := Value) (([Value.int .i64 e6.Kind]) ++ ((e6.Set.1.map (Value.int .u64)) ++ ([v12])))), Value.int .i64 t11] cf31 rfl (ih_regex_valid hrv7 hs.imm (tT_Regex_iff.2 ⟨[Value.int .i64 e6.Kind], e6.Set.1.map (Value.int .u64), [v12], rfl, rfl, rfl, ⟨_, rfl, hRv12⟩⟩)) rfl ?_
        rintro v13 wv19 ⟨gg13, hvv13, hegg13⟩
        have hlegg13 := hegg13.le hs.imm
        replace hs := hs.call hegg13
        replace hlegg10 := hlegg10.trans hlegg13
        obtain ⟨cs34, rfl, hcs34⟩ := hvv13
        have hcs34 : cs34 = _ := hcs34; subst hcs34
        refine O (r_not rfl) rfl <| OW_nil ?_
        rcases condS hM with ⟨hc32, hM⟩ | ⟨hc32, hM⟩
        ·refine WP_true rfl hc32 <| WP_seq <| WP_region <| O (r_assign (v := Value.bool false) rfl) rfl <| OW_nil <| WP_ret ?_
         obtain rfl := Option.some.inj hM
         refine fun hr => ?_
         have hM := congrArg some hr
         obtain rfl := Option.some.inj hM
         have hM := hKhx8
         obtain rfl := Option.some.inj hM
         refine FL_nil hds ?_
         exact ⟨_, res1 Try.results31 (rv_tmp (v := Value.bool false) rfl), gg13, ⟨[Value.bool false], rfl, rfl⟩, hs.ext⟩
        ·refine WP_false rfl hc32 <| WP_skip <| WP_region ?_
         obtain ⟨t12, ht12, hM⟩ := bindS hM
         refine O (r_addM rfl rfl ht12) rfl <| O (r_move (v := Value.int .i64 t12) rfl) rfl <| OW_nil ?_
         obtain rfl := Option.some.inj hM
         exact ⟨gg13, rfl, rfl, rfl, rfl, hds, hlegg10, (hs.sub (.cons _ .slnil))⟩
       ·refine WP_false rfl hc31 <| WP_exit ?_
        obtain rfl := Option.some.inj hM
        refine fun hr => ?_
        have hM := congrArg some hr
        obtain rfl := Option.some.inj hM
        exact ⟨(), rfl, gg10, hds, hlegg10, hs⟩
      ·clear hs
       rintro E w ⟨_, rfl, gg7, hds, hlegg7, hs⟩
       have hM := hKhx8
       dsimp only [onStep] at hM
       refine WP_seq <| WP_region <| O (r_assign (v := Value.bool true) rfl) rfl <| OW_nil <| WP_ret ?_
       obtain rfl := Option.some.inj hM
       refine FL_nil hds ?_
       exact ⟨_, res1 Try.results31 (rv_tmp (v := Value.bool true) rfl), gg7, ⟨[Value.bool true], rfl, rfl⟩, hs.ext⟩
theorem regex_valid_zero : C.regex_valid 0 := by
  unfold C.regex_valid
  intros
  simp_all only [M.regex_valid, reduceCtorEq]
theorem regex_valid_all : ∀ fl, C.regex_valid fl := by
  intro fl
  induction fl with
  | zero => exact regex_valid_zero
  | succ fl ih =>
    exact regex_valid_step ih
theorem regex_valid_ok {fl : Nat} : C.regex_valid fl := (regex_valid_all fl)

set_option maxRecDepth 100000 in
theorem regex_Valid_ok {rv1 : T_Regex} {r : Bool} (hM : M.regex_Valid rv1 = some r) {g0 : Hp} {w0 : World} (hi : Imm g0 w0) {cs1 : List Value} (hcs1 : tT_Regex.rel g0 cs1 rv1) :
    CallsV Try.prog 24 #[Value.agg cs1.toArray] w0 (fun v w' => ∃ g', (VRd tBool false g' v r) ∧ Ext g0 w0 g' w') := by
 unfold M.regex_Valid at hM
 obtain ⟨cs2, cs3, cs4, rfl, hcs2, hcs3, hcs4⟩ := tT_Regex_iff.1 hcs1
 have hcs2 : cs2 = _ := hcs2; subst hcs2
 have hcs3 : cs3 = _ := hcs3; subst hcs3
 obtain ⟨v1, rfl, hRv1⟩ := hcs4
 have hs := Sep.start hi
 refine calls_of_WP (args := [Value.agg (List.toArray (α := Value) (([Value.int .i64 rv1.Kind]) ++ ((rv1.Set.1.map (Value.int .u64)) ++ ([v1]))))]) Try.func24 rfl Try.ntmps24 rfl ?_
 have hds : (argEnv [Value.agg (List.toArray (α := Value) (([Value.int .i64 rv1.Kind]) ++ ((rv1.Set.1.map (Value.int .u64)) ++ ([v1]))))]).ds = [] := rfl
 refine WP_seq <| WP_region <| OW_box (v := Value.agg (List.toArray (α := Value) (([Value.int .i64 rv1.Kind]) ++ ((rv1.Set.1.map (Value.int .u64)) ++ ([v1]))))) rfl hs (zs := ([Value.int .i64 rv1.Kind]) ++ ((rv1.Set.1.map (Value.int .u64)) ++ ([v1]))) rfl rfl ?_
 intro b1 wv1 hs
 refine O (r_assign (v := Value.bool false) rfl) rfl <| OW_nil <| WP_seq <| WP_region <| O (r_loadN (cs := ([Value.int .i64 rv1.Kind]) ++ ((rv1.Set.1.map (Value.int .u64)) ++ ([v1]))) ti54 rfl (by simp [rv1.Set.2]) (hs.cells (i := 0) rfl)) rfl ?_
 obtain ⟨rv2, hrv2, hM⟩ := bindS hM
 refine C [Value.agg (List.toArray (α := Value) (([Value.int .i64 rv1.Kind]) ++ ((rv1.Set.1.map (Value.int .u64)) ++ ([v1])))), Value.int .i64 30] cf31 rfl (regex_valid_ok hrv2 hs.imm (tT_Regex_iff.2 ⟨[Value.int .i64 rv1.Kind], rv1.Set.1.map (Value.int .u64), [v1], rfl, rfl, rfl, ⟨_, rfl, hRv1⟩⟩)) rfl ?_
 rintro v2 wv2 ⟨gg1, hvv2, hegg1⟩
 have hlegg1 := hegg1.le hs.imm
 replace hs := hs.call hegg1
 obtain ⟨cs5, rfl, hcs5⟩ := hvv2
 have hcs5 : cs5 = _ := hcs5; subst hcs5
 refine O (r_assign (v := Value.bool rv2) rfl) rfl <| OW_nil <| WP_ret ?_
 obtain rfl := Option.some.inj hM
 refine FL_nil hds ?_
 exact ⟨_, res1 Try.results24 (rv_tmp (v := Value.bool rv2) rfl), gg1, ⟨[Value.bool rv2], rfl, rfl⟩, hs.ext⟩

def C.regex_Nullable (fl : Nat) : Prop := ∀ {rv1 : T_Regex} {r : Bool} (_ : M.regex_Nullable fl rv1 = some r) {g0 : Hp} {w0 : World} (hi : Imm g0 w0) {cs1 : List Value} (hcs1 : tT_Regex.rel g0 cs1 rv1),
    CallsV Try.prog 26 #[Value.agg cs1.toArray] w0 (fun v w' => ∃ g', (VRd tBool false g' v r) ∧ Ext g0 w0 g' w')
set_option maxRecDepth 100000 in
theorem regex_Nullable_step {fl : Nat} (ih_regex_Nullable : C.regex_Nullable fl) : C.regex_Nullable (fl + 1) := by
 intro rv1 r hM g0 w0 hi cs1 hcs1
 unfold M.regex_Nullable at hM
 obtain ⟨cs2, cs3, cs4, rfl, hcs2, hcs3, hcs4⟩ := tT_Regex_iff.1 hcs1
 have hcs2 : cs2 = _ := hcs2; subst hcs2
 have hcs3 : cs3 = _ := hcs3; subst hcs3
 obtain ⟨v1, rfl, hRv1⟩ := hcs4
 have hs := Sep.start hi
 refine calls_of_WP (args := [Value.agg (List.toArray (α := Value) (([Value.int .i64 rv1.Kind]) ++ ((rv1.Set.1.map (Value.int .u64)) ++ ([v1]))))]) Try.func26 rfl Try.ntmps26 rfl ?_
 have hds : (argEnv [Value.agg (List.toArray (α := Value) (([Value.int .i64 rv1.Kind]) ++ ((rv1.Set.1.map (Value.int .u64)) ++ ([v1]))))]).ds = [] := rfl
 refine WP_seq <| WP_region <| OW_box (v := Value.agg (List.toArray (α := Value) (([Value.int .i64 rv1.Kind]) ++ ((rv1.Set.1.map (Value.int .u64)) ++ ([v1]))))) rfl hs (zs := ([Value.int .i64 rv1.Kind]) ++ ((rv1.Set.1.map (Value.int .u64)) ++ ([v1]))) rfl rfl ?_
 intro b1 wv1 hs
 refine O (r_assign (v := Value.bool false) rfl) rfl <| OW_nil ?_
 obtain ⟨o9, hx3, hKhx3⟩ := stepS hM
 refine WP_cut (fun E w => ∃ u9 : Unit, o9 = .next u9 ∧ ∃ (gg20 : Hp), E.ds = [] ∧ Hle g0 gg20 ∧ Go.Lx.Sep g0 w0 gg20 w []) ?_ ?_
 ·have hM := hx3
  have hag0 := Hle.refl g0
  refine WP_seq <| WP_region <| O (r_fieldAddr Try.underlying54 ti3 rfl rfl (by decide) rfl rfl) rfl <| O (r_load (v := Value.int .i64 rv1.Kind) ti3 rfl (hs.cell (i := 0) (o := 0) rfl (by simp [rv1.Set.2]))) rfl <| OW_nil <| WP_block ?_
  obtain ⟨xv11, hx4, hKhx4⟩ := bindS hM
  refine WP_cut (fun E w => E 1 = Value.pointer (some ⟨b1, 0, none⟩) ∧ E 8 = Value.int .i64 rv1.Kind ∧ E 9 = Value.bool xv11 ∧ E.ds = [] ∧ Go.Lx.Sep g0 w0 g0 w [Go.Lx.box b1 54 (([Value.int .i64 rv1.Kind]) ++ ((rv1.Set.1.map (Value.int .u64)) ++ ([v1])))]) ?_ ?_
  ·have hM := hx4
   refine WP_seq <| WP_region <| O (r_eql rfl rfl) rfl <| O (r_assign (v := Value.bool (rv1.Kind == 2)) rfl) rfl <| OW_nil ?_
   rcases condS hM with ⟨hc25, hM⟩ | ⟨hc25, hM⟩
   ·refine WP_true rfl hc25 <| WP_skip ?_
    obtain rfl := Option.some.inj hM
    exact ⟨rfl, rfl, rfl, hds, hs⟩
   ·refine WP_false rfl hc25 <| WP_region <| O (r_eql rfl rfl) rfl <| O (r_assign (v := Value.bool (rv1.Kind == 6)) rfl) rfl <| OW_nil ?_
    obtain rfl := Option.some.inj hM
    exact ⟨rfl, rfl, rfl, hds, hs⟩
  ·clear hs
   rintro E w ⟨hE1, hE8, hE9, hds, hs⟩
   have hM := hKhx4
   obtain ⟨E, rfl⟩ := open3 (E := E) hE1 hE8 hE9
   rcases condS hM with ⟨hc26, hM⟩ | ⟨hc26, hM⟩
   ·refine WP_true rfl hc26 <| WP_seq <| WP_region <| O (r_assign (v := Value.bool true) rfl) rfl <| OW_nil <| WP_ret ?_
    obtain rfl := Option.some.inj hM
    have hM := hKhx3
    obtain rfl := Option.some.inj hM
    refine FL_nil hds ?_
    exact ⟨_, res1 Try.results26 (rv_tmp (v := Value.bool true) rfl), g0, ⟨[Value.bool true], rfl, rfl⟩, hs.ext⟩
   ·refine WP_false rfl hc26 <| WP_seq <| WP_region <| O (r_eql rfl rfl) rfl <| O (r_assign (v := Value.bool (rv1.Kind == 4)) rfl) rfl <| OW_nil ?_
    rcases condS hM with ⟨hc27, hM⟩ | ⟨hc27, hM⟩
    ·refine WP_true rfl hc27 ?_
     obtain ⟨o7, hx5, hKhx5⟩ := stepS hM
     refine WP_cut (fun E w => ∃ u9 : Unit, o7 = .next u9 ∧ ∃ (gg27 : Hp), E.ds = [] ∧ Hle g0 gg27 ∧ Go.Lx.Sep g0 w0 gg27 w []) ?_ ?_
     ·have hM := hx5
      refine WP_seq <| WP_region <| O (r_fieldAddr Try.underlying54 ti52 rfl rfl (by decide) rfl rfl) rfl <| O (r_load (v := v1) ti52 rfl (hs.cell (i := 0) (o := 5) rfl (by simp [rv1.Set.2]))) rfl ?_
      obtain ⟨a5, ca5, hva5⟩ := hRv1.shape
      refine O (r_lenSl (v := v1) Try.underlying52 rfl hva5) rfl <| O (r_move (v := Value.int .i64 0) rfl) rfl <| OW_nil <| WP_block <| WP_loop (fun (xv16 : Int) E w => ∃ (gg30 : Hp), E 15 = v1 ∧ E 16 = Value.int .i64 (rv1.Kids.length : Int) ∧ E 17 = Value.int .i64 xv16 ∧ E.ds = [] ∧ Hle g0 gg30 ∧ Go.Lx.Sep g0 w0 gg30 w []) hM ⟨g0, rfl, rfl, rfl, hds, (Hle.refl _), (hs.sub (.cons _ .slnil))⟩ ?_
      clear hs hM
      rintro xv16 o6 E w hM ⟨gg30, hE15, hE16, hE17, hds, hlegg30, hs⟩
      obtain ⟨E, rfl⟩ := open3 (E := E) hE15 hE16 hE17
      replace hRv1 := hRv1.mono hlegg30
      have hagg30 := Hle.refl gg30
      refine WP_seq <| WP_region <| O (r_lss rfl rfl) rfl <| OW_nil <| WP_seq ?_
      rcases condS hM with ⟨hc38, hM⟩ | ⟨hc38, hM⟩
      ·refine WP_true rfl hc38 <| WP_skip <| WP_seq <| WP_block <| WP_seq <| WP_region ?_
       obtain ⟨e15, he15, hM⟩ := bindS hM
       obtain ⟨b30, ob30, cb30, hvb30, cs75, hcs75, hcb30⟩ := hRv1.at he15
       obtain ⟨cs76, cs77, cs78, rfl, hcs76, hcs77, hcs78⟩ := tT_Regex_iff.1 hcs75
       have hcs76 : cs76 = _ := hcs76; subst hcs76
       have hcs77 : cs77 = _ := hcs77; subst hcs77
       obtain ⟨v30, rfl, hRv30⟩ := hcs78
       refine O (r_idxSl Try.underlying52 ti54 (v := v1) rfl hvb30 rfl (idxL_some he15).1 (idxL_some he15).2.1) rfl <| O (r_loadEl (cs := ([Value.int .i64 e15.Kind]) ++ ((e15.Set.1.map (Value.int .u64)) ++ ([v30]))) ti54 rfl (by simp [e15.Set.2]) (.inl rfl) (hcb30 _ hs.imm) (v := Value.agg (List.toArray (α := Value) (([Value.int .i64 e15.Kind]) ++ ((e15.Set.1.map (Value.int .u64)) ++ ([v30]))))) rfl) rfl <| OW_alloc ti54 hs (zs := ([Value.int .i64 0]) ++ (((Vec.zero 4).1.map (Value.int .u64)) ++ ([Value.slice none 0 0]))) rfl rfl ?_
       intro b31 wv44 hs
       refine OW_storeAll ti54 hs (i := 0) rfl rfl (v := Value.agg (List.toArray (α := Value) (([Value.int .i64 e15.Kind]) ++ ((e15.Set.1.map (Value.int .u64)) ++ ([v30]))))) rfl (vs := ([Value.int .i64 e15.Kind]) ++ ((e15.Set.1.map (Value.int .u64)) ++ ([v30]))) rfl (one_append (one_cons rfl one_nil) (one_append vec_one (one_cons (by obtain ⟨_, _, h9⟩ := hRv30.shape; rw [h9]; rfl) one_nil))) (by simp [e15.Set.2]) (by simp [e15.Set.2, (Vec.zero 4).2]) ?_
       intro wv45 hs
       refine OW_nil <| WP_seq <| WP_region <| O (r_loadN (cs := ([Value.int .i64 e15.Kind]) ++ ((e15.Set.1.map (Value.int .u64)) ++ ([v30]))) ti54 rfl (by simp [e15.Set.2]) (hs.cells (i := 0) rfl)) rfl ?_
       obtain ⟨rv16, hrv16, hM⟩ := bindS hM
       refine C [Value.agg (List.toArray (α := Value) (([Value.int .i64 e15.Kind]) ++ ((e15.Set.1.map (Value.int .u64)) ++ ([v30]))))] cf26 rfl (ih_regex_Nullable hrv16 hs.imm (tT_Regex_iff.2 ⟨[Value.int .i64 e15.Kind], e15.Set.1.map (Value.int .u64), [v30], rfl, rfl, rfl, ⟨_, rfl, hRv30⟩⟩)) rfl ?_
       rintro v31 wv46 ⟨gg33, hvv31, hegg33⟩
       have hlegg33 := hegg33.le hs.imm
       replace hs := hs.call hegg33
       replace hlegg30 := hlegg30.trans hlegg33
       obtain ⟨cs79, rfl, hcs79⟩ := hvv31
       have hcs79 : cs79 = _ := hcs79; subst hcs79
       refine O (r_not rfl) rfl <| OW_nil ?_
       rcases condS hM with ⟨hc39, hM⟩ | ⟨hc39, hM⟩
       ·refine WP_true rfl hc39 <| WP_seq <| WP_region <| O (r_assign (v := Value.bool false) rfl) rfl <| OW_nil <| WP_ret ?_
        obtain rfl := Option.some.inj hM
        refine fun hr => ?_
        have hM := congrArg some hr
        obtain rfl := Option.some.inj hM
        have hM := hKhx5
        obtain rfl := Option.some.inj hM
        have hM := hKhx3
        obtain rfl := Option.some.inj hM
        refine FL_nil hds ?_
        exact ⟨_, res1 Try.results26 (rv_tmp (v := Value.bool false) rfl), gg33, ⟨[Value.bool false], rfl, rfl⟩, hs.ext⟩
       ·refine WP_false rfl hc39 <| WP_skip <| WP_region ?_
        obtain ⟨t15, ht15, hM⟩ := bindS hM
        refine O (r_addM rfl rfl ht15) rfl <| O (r_move (v := Value.int .i64 t15) rfl) rfl <| OW_nil ?_
        obtain rfl := Option.some.inj hM
        exact ⟨gg33, rfl, rfl, rfl, hds, hlegg30, (hs.sub (.cons _ .slnil))⟩
      ·refine WP_false rfl hc38 <| WP_exit ?_
       obtain rfl := Option.some.inj hM
       refine fun hr => ?_
       have hM := congrArg some hr
       obtain rfl := Option.some.inj hM
       exact ⟨(), rfl, gg30, hds, hlegg30, hs⟩
     ·clear hs
      rintro E w ⟨_, rfl, gg27, hds, hlegg27, hs⟩
      have hM := hKhx5
      dsimp only [onStep] at hM
      refine WP_seq <| WP_region <| O (r_assign (v := Value.bool true) rfl) rfl <| OW_nil <| WP_ret ?_
      obtain rfl := Option.some.inj hM
      have hM := hKhx3
      obtain rfl := Option.some.inj hM
      refine FL_nil hds ?_
      exact ⟨_, res1 Try.results26 (rv_tmp (v := Value.bool true) rfl), gg27, ⟨[Value.bool true], rfl, rfl⟩, hs.ext⟩
    ·refine WP_false rfl hc27 <| WP_seq <| WP_region <| O (r_eql rfl rfl) rfl <| O (r_assign (v := Value.bool (rv1.Kind == 5)) rfl) rfl <| OW_nil ?_
     rcases condS hM with ⟨hc40, hM⟩ | ⟨hc40, hM⟩
     ·refine WP_true rfl hc40 <| WP_seq <| WP_region <| O (r_fieldAddr Try.underlying54 ti52 rfl rfl (by decide) rfl rfl) rfl <| O (r_load (v := v1) ti52 rfl (hs.cell (i := 0) (o := 5) rfl (by simp [rv1.Set.2]))) rfl ?_
      obtain ⟨a6, ca6, hva6⟩ := hRv1.shape
      refine O (r_lenSl (v := v1) Try.underlying52 rfl hva6) rfl <| O (r_move (v := Value.int .i64 0) rfl) rfl <| OW_nil <| WP_block <| WP_loop (fun (xv19 : Int) E w => ∃ (gg36 : Hp), E 28 = v1 ∧ E 29 = Value.int .i64 (rv1.Kids.length : Int) ∧ E 30 = Value.int .i64 xv19 ∧ E.ds = [] ∧ Hle g0 gg36 ∧ Go.Lx.Sep g0 w0 gg36 w []) hM ⟨g0, rfl, rfl, rfl, hds, (Hle.refl _), (hs.sub (.cons _ .slnil))⟩ ?_
      clear hs hM
      rintro xv19 o8 E w hM ⟨gg36, hE28, hE29, hE30, hds, hlegg36, hs⟩
      obtain ⟨E, rfl⟩ := open3 (E := E) hE28 hE29 hE30
      replace hRv1 := hRv1.mono hlegg36
      have hagg36 := Hle.refl gg36
      refine WP_seq <| WP_region <| O (r_lss rfl rfl) rfl <| OW_nil <| WP_seq ?_
      rcases condS hM with ⟨hc45, hM⟩ | ⟨hc45, hM⟩
      ·refine WP_true rfl hc45 <| WP_skip <| WP_seq <| WP_block <| WP_seq <| WP_region ?_
       obtain ⟨e18, he18, hM⟩ := bindS hM
       obtain ⟨b36, ob36, cb36, hvb36, cs90, hcs90, hcb36⟩ := hRv1.at he18
       obtain ⟨cs91, cs92, cs93, rfl, hcs91, hcs92, hcs93⟩ := tT_Regex_iff.1 hcs90
       have hcs91 : cs91 = _ := hcs91; subst hcs91
       have hcs92 : cs92 = _ := hcs92; subst hcs92
       obtain ⟨v36, rfl, hRv36⟩ := hcs93
       refine O (r_idxSl Try.underlying52 ti54 (v := v1) rfl hvb36 rfl (idxL_some he18).1 (idxL_some he18).2.1) rfl <| O (r_loadEl (cs := ([Value.int .i64 e18.Kind]) ++ ((e18.Set.1.map (Value.int .u64)) ++ ([v36]))) ti54 rfl (by simp [e18.Set.2]) (.inl rfl) (hcb36 _ hs.imm) (v := Value.agg (List.toArray (α := Value) (([Value.int .i64 e18.Kind]) ++ ((e18.Set.1.map (Value.int .u64)) ++ ([v36]))))) rfl) rfl <| OW_alloc ti54 hs (zs := ([Value.int .i64 0]) ++ (((Vec.zero 4).1.map (Value.int .u64)) ++ ([Value.slice none 0 0]))) rfl rfl ?_
       intro b37 wv53 hs
       refine OW_storeAll ti54 hs (i := 0) rfl rfl (v := Value.agg (List.toArray (α := Value) (([Value.int .i64 e18.Kind]) ++ ((e18.Set.1.map (Value.int .u64)) ++ ([v36]))))) rfl (vs := ([Value.int .i64 e18.Kind]) ++ ((e18.Set.1.map (Value.int .u64)) ++ ([v36]))) rfl (one_append (one_cons rfl one_nil) (one_append vec_one (one_cons (by obtain ⟨_, _, h9⟩ := hRv36.shape; rw [h9]; rfl) one_nil))) (by simp [e18.Set.2]) (by simp [e18.Set.2, (Vec.zero 4).2]) ?_
       intro wv54 hs
       refine OW_nil <| WP_seq <| WP_region <| O (r_loadN (cs := ([Value.int .i64 e18.Kind]) ++ ((e18.Set.1.map (Value.int .u64)) ++ ([v36]))) ti54 rfl (by simp [e18.Set.2]) (hs.cells (i := 0) rfl)) rfl ?_
       obtain ⟨rv19, hrv19, hM⟩ := bindS hM
       refine C [Value.agg (List.toArray (α := Value) (([Value.int .i64 e18.Kind]) ++ ((e18.Set.1.map (Value.int .u64)) ++ ([v36]))))] cf26 rfl (ih_regex_Nullable hrv19 hs.imm (tT_Regex_iff.2 ⟨[Value.int .i64 e18.Kind], e18.Set.1.map (Value.int .u64), [v36], rfl, rfl, rfl, ⟨_, rfl, hRv36⟩⟩)) rfl ?_
       rintro v37 wv55 ⟨gg39, hvv37, hegg39⟩
       have hlegg39 := hegg39.le hs.imm
       replace hs := hs.call hegg39
       replace hlegg36 := hlegg36.trans hlegg39
       obtain ⟨cs94, rfl, hcs94⟩ := hvv37
       have hcs94 : cs94 = _ := hcs94; subst hcs94
       refine OW_nil ?_
       rcases condS hM with ⟨hc46, hM⟩ | ⟨hc46, hM⟩
       ·refine WP_true rfl hc46 <| WP_seq <| WP_region <| O (r_assign (v := Value.bool true) rfl) rfl <| OW_nil <| WP_ret ?_
        obtain rfl := Option.some.inj hM
        refine fun hr => ?_
        have hM := congrArg some hr
        obtain rfl := Option.some.inj hM
        have hM := hKhx3
        obtain rfl := Option.some.inj hM
        refine FL_nil hds ?_
        exact ⟨_, res1 Try.results26 (rv_tmp (v := Value.bool true) rfl), gg39, ⟨[Value.bool true], rfl, rfl⟩, hs.ext⟩
       ·refine WP_false rfl hc46 <| WP_skip <| WP_region ?_
        obtain ⟨t18, ht18, hM⟩ := bindS hM
        refine O (r_addM rfl rfl ht18) rfl <| O (r_move (v := Value.int .i64 t18) rfl) rfl <| OW_nil ?_
        obtain rfl := Option.some.inj hM
        exact ⟨gg39, rfl, rfl, rfl, hds, hlegg36, (hs.sub (.cons _ .slnil))⟩
      ·refine WP_false rfl hc45 <| WP_exit ?_
       obtain rfl := Option.some.inj hM
       refine fun hr => ?_
       have hM := congrArg some hr
       obtain rfl := Option.some.inj hM
       exact ⟨(), rfl, gg36, hds, hlegg36, hs⟩
     ·refine WP_false rfl hc40 <| WP_skip ?_
      obtain rfl := Option.some.inj hM
      exact ⟨(), rfl, g0, hds, (Hle.refl _), (hs.sub (.cons _ .slnil))⟩
 ·clear hs
  rintro E w ⟨_, rfl, gg20, hds, hlegg20, hs⟩
  have hM := hKhx3
  dsimp only [onStep] at hM
  refine WP_seq <| WP_region <| O (r_assign (v := Value.bool false) rfl) rfl <| OW_nil <| WP_ret ?_
  obtain rfl := Option.some.inj hM
  refine FL_nil hds ?_
  exact ⟨_, res1 Try.results26 (rv_tmp (v := Value.bool false) rfl), gg20, ⟨[Value.bool false], rfl, rfl⟩, hs.ext⟩
theorem regex_Nullable_zero : C.regex_Nullable 0 := by
  unfold C.regex_Nullable
  intros
  simp_all only [M.regex_Nullable, reduceCtorEq]
theorem regex_Nullable_all : ∀ fl, C.regex_Nullable fl := by
  intro fl
  induction fl with
  | zero => exact regex_Nullable_zero
  | succ fl ih =>
    exact regex_Nullable_step ih
theorem regex_Nullable_ok {fl : Nat} : C.regex_Nullable fl := (regex_Nullable_all fl)

def C.regex_equal (fl : Nat) : Prop := ∀ {a1 : T_Regex} {b1 : T_Regex} {r : Bool} (_ : M.regex_equal fl a1 b1 = some r) {g0 : Hp} {w0 : World} (hi : Imm g0 w0) {cs1 : List Value} (hcs1 : tT_Regex.rel g0 cs1 a1) {cs2 : List Value} (hcs2 : tT_Regex.rel g0 cs2 b1),
    CallsV Try.prog 37 #[Value.agg cs1.toArray, Value.agg cs2.toArray] w0 (fun v w' => ∃ g', (VRd tBool false g' v r) ∧ Ext g0 w0 g' w')
set_option maxRecDepth 100000 in
theorem regex_equal_step {fl : Nat} (ih_regex_equal : C.regex_equal fl) : C.regex_equal (fl + 1) := by
 intro a1 b1 r hM g0 w0 hi cs1 hcs1 cs2 hcs2
 unfold M.regex_equal at hM
 obtain ⟨cs3, cs4, cs5, rfl, hcs3, hcs4, hcs5⟩ := tT_Regex_iff.1 hcs1
 have hcs3 : cs3 = _ := hcs3; subst hcs3
 have hcs4 : cs4 = _ := hcs4; subst hcs4
 obtain ⟨v1, rfl, hRv1⟩ := hcs5
 obtain ⟨cs6, cs7, cs8, rfl, hcs6, hcs7, hcs8⟩ := tT_Regex_iff.1 hcs2
 have hcs6 : cs6 = _ := hcs6; subst hcs6
 have hcs7 : cs7 = _ := hcs7; subst hcs7
 obtain ⟨v2, rfl, hRv2⟩ := hcs8
 have hs := Sep.start hi
 refine calls_of_WP (args := [Value.agg (List.toArray (α := Value) (([Value.int .i64 a1.Kind]) ++ ((a1.Set.1.map (Value.int .u64)) ++ ([v1])))), Value.agg (List.toArray (α := Value) (([Value.int .i64 b1.Kind]) ++ ((b1.Set.1.map (Value.int .u64)) ++ ([v2]))))]) Try.func37 rfl Try.ntmps37 rfl ?_
 have hds : (argEnv [Value.agg (List.toArray (α := Value) (([Value.int .i64 a1.Kind]) ++ ((a1.Set.1.map (Value.int .u64)) ++ ([v1])))), Value.agg (List.toArray (α := Value) (([Value.int .i64 b1.Kind]) ++ ((b1.Set.1.map (Value.int .u64)) ++ ([v2]))))]).ds = [] := rfl
 refine WP_seq <| WP_region <| OW_box (v := Value.agg (List.toArray (α := Value) (([Value.int .i64 a1.Kind]) ++ ((a1.Set.1.map (Value.int .u64)) ++ ([v1]))))) rfl hs (zs := ([Value.int .i64 a1.Kind]) ++ ((a1.Set.1.map (Value.int .u64)) ++ ([v1]))) rfl rfl ?_
 intro b2 wv1 hs
 refine OW_box (v := Value.agg (List.toArray (α := Value) (([Value.int .i64 b1.Kind]) ++ ((b1.Set.1.map (Value.int .u64)) ++ ([v2]))))) rfl hs (zs := ([Value.int .i64 b1.Kind]) ++ ((b1.Set.1.map (Value.int .u64)) ++ ([v2]))) rfl rfl ?_
 intro b3 wv2 hs
 refine O (r_assign (v := Value.bool false) rfl) rfl <| OW_nil <| WP_seq ?_
 obtain ⟨xv1, hx1, hKhx1⟩ := bindS hM
 refine WP_cut (fun E w => E 2 = Value.pointer (some ⟨b2, 0, none⟩) ∧ E 3 = Value.pointer (some ⟨b3, 0, none⟩) ∧ E 26 = Value.bool xv1 ∧ E.ds = [] ∧ Go.Lx.Sep g0 w0 g0 w [Go.Lx.box b3 54 (([Value.int .i64 b1.Kind]) ++ ((b1.Set.1.map (Value.int .u64)) ++ ([v2]))), Go.Lx.box b2 54 (([Value.int .i64 a1.Kind]) ++ ((a1.Set.1.map (Value.int .u64)) ++ ([v1])))]) ?_ ?_
 ·have hM := hx1
  have hag0 := Hle.refl g0
  refine WP_region <| O (r_fieldAddr Try.underlying54 ti3 rfl rfl (by decide) rfl rfl) rfl <| O (r_load (v := Value.int .i64 a1.Kind) ti3 rfl (hs.cell (i := 1) (o := 0) rfl (by simp [a1.Set.2]))) rfl <| O (r_fieldAddr Try.underlying54 ti3 rfl rfl (by decide) rfl rfl) rfl <| O (r_load (v := Value.int .i64 b1.Kind) ti3 rfl (hs.cell (i := 0) (o := 0) rfl (by simp [b1.Set.2]))) rfl <| O (r_neq rfl rfl) rfl <| O (r_move (v := Value.bool (a1.Kind != b1.Kind)) rfl) rfl ?_
  rcases condS hM with ⟨hg3, hM⟩ | ⟨hg3, hM⟩
  ·refine OK rfl rfl rfl (by rw [hg3]; rfl) rfl <| OK rfl rfl rfl (by rw [hg3]; rfl) rfl <| OK rfl rfl rfl (by rw [hg3]; rfl) rfl <| OK rfl rfl rfl (by rw [hg3]; rfl) rfl <| OK rfl rfl rfl (by rw [hg3]; rfl) rfl <| O (r_pickT (v := Value.bool true) rfl hg3 rfl) rfl <| O (r_move (v := Value.bool true) rfl) rfl <| OK rfl rfl rfl rfl rfl <| OK rfl rfl rfl rfl rfl <| OK rfl rfl rfl rfl rfl <| OK rfl rfl rfl rfl rfl <| OK rfl rfl rfl rfl rfl <| OK rfl rfl rfl rfl rfl <| OK rfl rfl rfl rfl rfl <| O (r_pickT (v := Value.bool true) rfl rfl rfl) rfl <| OW_nil ?_
   obtain rfl := Option.some.inj hM
   exact ⟨rfl, rfl, rfl, hds, hs⟩
  ·refine OG rfl rfl rfl (by rw [hg3]; rfl) (r_fieldAddr Try.underlying54 ti51 rfl rfl (by decide) rfl rfl) rfl <| OG rfl rfl rfl (by rw [hg3]; rfl) (r_loadN (cs := a1.Set.1.map (Value.int .u64)) ti51 rfl (by simp [a1.Set.2]) (hs.cellsAt (i := 1) (o := 1) rfl (by intro j u hj; exact sub_at (pre := [Value.int .i64 a1.Kind]) (ds := a1.Set.1.map (Value.int .u64)) (post := [v1]) rfl ((by simp)) hj))) rfl <| OG rfl rfl rfl (by rw [hg3]; rfl) (r_fieldAddr Try.underlying54 ti51 rfl rfl (by decide) rfl rfl) rfl <| OG rfl rfl rfl (by rw [hg3]; rfl) (r_loadN (cs := b1.Set.1.map (Value.int .u64)) ti51 rfl (by simp [b1.Set.2]) (hs.cellsAt (i := 0) (o := 1) rfl (by intro j u hj; exact sub_at (pre := [Value.int .i64 b1.Kind]) (ds := b1.Set.1.map (Value.int .u64)) (post := [v2]) rfl ((by simp)) hj))) rfl ?_
   refine OG rfl rfl rfl (by rw [hg3]; rfl) (r_neqV Try.underlying51 Try.underlying49 ti49 rfl rfl eg51) rfl <| O (r_pickF (v := Value.bool (a1.Set != b1.Set)) rfl hg3 rfl) rfl <| O (r_move (v := Value.bool (a1.Set != b1.Set)) rfl) rfl ?_
   rcases condS hM with ⟨hg4, hM⟩ | ⟨hg4, hM⟩
   ·refine OK rfl rfl rfl (by rw [hg4]; rfl) rfl <| OK rfl rfl rfl (by rw [hg4]; rfl) rfl <| OK rfl rfl rfl (by rw [hg4]; rfl) rfl <| OK rfl rfl rfl (by rw [hg4]; rfl) rfl <| OK rfl rfl rfl (by rw [hg4]; rfl) rfl <| OK rfl rfl rfl (by rw [hg4]; rfl) rfl <| OK rfl rfl rfl (by rw [hg4]; rfl) rfl <| O (r_pickT (v := Value.bool true) rfl hg4 rfl) rfl <| OW_nil ?_
    obtain rfl := Option.some.inj hM
    exact ⟨rfl, rfl, rfl, hds, hs⟩
   ·refine OG rfl rfl rfl (by rw [hg4]; rfl) (r_fieldAddr Try.underlying54 ti52 rfl rfl (by decide) rfl rfl) rfl <| OG rfl rfl rfl (by rw [hg4]; rfl) (r_load (v := v1) ti52 rfl (hs.cell (i := 1) (o := 5) rfl (by simp [a1.Set.2]))) rfl ?_
    obtain ⟨a4, ca4, hva4⟩ := hRv1.shape
    refine OG rfl rfl rfl (by rw [hg4]; rfl) (r_lenSl (v := v1) Try.underlying52 rfl hva4) rfl <| OG rfl rfl rfl (by rw [hg4]; rfl) (r_fieldAddr Try.underlying54 ti52 rfl rfl (by decide) rfl rfl) rfl <| OG rfl rfl rfl (by rw [hg4]; rfl) (r_load (v := v2) ti52 rfl (hs.cell (i := 0) (o := 5) rfl (by simp [b1.Set.2]))) rfl ?_
    obtain ⟨a5, ca5, hva5⟩ := hRv2.shape
    refine OG rfl rfl rfl (by rw [hg4]; rfl) (r_lenSl (v := v2) Try.underlying52 rfl hva5) rfl <| OG rfl rfl rfl (by rw [hg4]; rfl) (r_neq rfl rfl) rfl <| O (r_pickF (v := Value.bool ((a1.Kids.length : Int) != (b1.Kids.length : Int))) rfl hg4 rfl) rfl <| OW_nil ?_
    obtain rfl := Option.some.inj hM
    exact ⟨rfl, rfl, rfl, hds, hs⟩
 ·clear hs
  rintro E w ⟨hE2, hE3, hE26, hds, hs⟩
  have hM := hKhx1
  obtain ⟨E, rfl⟩ := open3 (E := E) hE2 hE3 hE26
  rcases condS hM with ⟨hc1, hM⟩ | ⟨hc1, hM⟩
  ·refine WP_true rfl hc1 <| WP_seq <| WP_region <| O (r_assign (v := Value.bool false) rfl) rfl <| OW_nil <| WP_ret ?_
   obtain rfl := Option.some.inj hM
   refine FL_nil hds ?_
   exact ⟨_, res1 Try.results37 (rv_tmp (v := Value.bool false) rfl), g0, ⟨[Value.bool false], rfl, rfl⟩, hs.ext⟩
  ·refine WP_false rfl hc1 <| WP_skip ?_
   obtain ⟨o3, hx2, hKhx2⟩ := stepS hM
   refine WP_cut (fun E w => ∃ u9 : Unit, o3 = .next u9 ∧ ∃ (gg7 : Hp), E.ds = [] ∧ Hle g0 gg7 ∧ Go.Lx.Sep g0 w0 gg7 w []) ?_ ?_
   ·have hM := hx2
    have hag0 := Hle.refl g0
    refine WP_seq <| WP_region <| O (r_fieldAddr Try.underlying54 ti52 rfl rfl (by decide) rfl rfl) rfl <| O (r_load (v := v1) ti52 rfl (hs.cell (i := 1) (o := 5) rfl (by simp [a1.Set.2]))) rfl ?_
    obtain ⟨a7, ca7, hva7⟩ := hRv1.shape
    refine O (r_lenSl (v := v1) Try.underlying52 rfl hva7) rfl <| O (r_move (v := Value.int .i64 0) rfl) rfl <| OW_nil <| WP_block <| WP_loop (fun (xv6 : Int) E w => ∃ (gg10 : Hp), E 2 = Value.pointer (some ⟨b2, 0, none⟩) ∧ E 3 = Value.pointer (some ⟨b3, 0, none⟩) ∧ E 29 = Value.int .i64 (a1.Kids.length : Int) ∧ E 30 = Value.int .i64 xv6 ∧ E.ds = [] ∧ Hle g0 gg10 ∧ Go.Lx.Sep g0 w0 gg10 w [Go.Lx.box b3 54 (([Value.int .i64 b1.Kind]) ++ ((b1.Set.1.map (Value.int .u64)) ++ ([v2]))), Go.Lx.box b2 54 (([Value.int .i64 a1.Kind]) ++ ((a1.Set.1.map (Value.int .u64)) ++ ([v1])))]) hM ⟨g0, rfl, rfl, rfl, rfl, hds, (Hle.refl _), hs⟩ ?_
    clear hs hM
    rintro xv6 o2 E w hM ⟨gg10, hE2, hE3, hE29, hE30, hds, hlegg10, hs⟩
    obtain ⟨E, rfl⟩ := open4 (E := E) hE2 hE3 hE29 hE30
    replace hRv1 := hRv1.mono hlegg10
    replace hRv2 := hRv2.mono hlegg10
    have hagg10 := Hle.refl gg10
    refine WP_seq <| WP_region <| O (r_lss rfl rfl) rfl <| OW_nil <| WP_seq ?_
    rcases condS hM with ⟨hc12, hM⟩ | ⟨hc12, hM⟩
    ·refine WP_true rfl hc12 <| WP_skip <| WP_seq <| WP_block <| WP_seq <| WP_region <| O (r_move (v := Value.int .i64 xv6) rfl) rfl <| O (r_assign (v := Value.int .i64 xv6) rfl) rfl <| OW_nil <| WP_seq <| WP_drawTail 10 mo (by decide +kernel) ?_
     have hs := hs.drew
     refine S (r_fieldAddr Try.underlying54 ti52 rfl rfl (by decide) rfl rfl) rfl <| S (r_load (v := v1) ti52 rfl (hs.cell (i := 1) (o := 5) rfl (by simp [a1.Set.2]))) rfl <| S (r_move (v := Value.int .i64 xv6) rfl) rfl ?_
     obtain ⟨e11, he11, hM⟩ := bindS hM
     obtain ⟨b14, ob14, cb14, hvb14, cs54, hcs54, hcb14⟩ := hRv1.at he11
     obtain ⟨cs55, cs56, cs57, rfl, hcs55, hcs56, hcs57⟩ := tT_Regex_iff.1 hcs54
     have hcs55 : cs55 = _ := hcs55; subst hcs55
     have hcs56 : cs56 = _ := hcs56; subst hcs56
     obtain ⟨v18, rfl, hRv18⟩ := hcs57
     refine S (r_idxSl Try.underlying52 ti54 (v := v1) rfl hvb14 rfl (idxL_some he11).1 (idxL_some he11).2.1) rfl <| S (r_loadEl (cs := ([Value.int .i64 e11.Kind]) ++ ((e11.Set.1.map (Value.int .u64)) ++ ([v18]))) ti54 rfl (by simp [e11.Set.2]) (.inl rfl) (hcb14 _ hs.imm) (v := Value.agg (List.toArray (α := Value) (([Value.int .i64 e11.Kind]) ++ ((e11.Set.1.map (Value.int .u64)) ++ ([v18]))))) rfl) rfl <| S (r_fieldAddr Try.underlying54 ti52 rfl rfl (by decide) rfl rfl) rfl <| S (r_load (v := v2) ti52 rfl (hs.cell (i := 0) (o := 5) rfl (by simp [b1.Set.2]))) rfl <| S (r_move (v := Value.int .i64 xv6) rfl) rfl ?_
     obtain ⟨e12, he12, hM⟩ := bindS hM
     obtain ⟨b15, ob15, cb15, hvb15, cs58, hcs58, hcb15⟩ := hRv2.at he12
     obtain ⟨cs59, cs60, cs61, rfl, hcs59, hcs60, hcs61⟩ := tT_Regex_iff.1 hcs58
     have hcs59 : cs59 = _ := hcs59; subst hcs59
     have hcs60 : cs60 = _ := hcs60; subst hcs60
     obtain ⟨v19, rfl, hRv19⟩ := hcs61
     refine S (r_idxSl Try.underlying52 ti54 (v := v2) rfl hvb15 rfl (idxL_some he12).1 (idxL_some he12).2.1) rfl <| S (r_loadEl (cs := ([Value.int .i64 e12.Kind]) ++ ((e12.Set.1.map (Value.int .u64)) ++ ([v19]))) ti54 rfl (by simp [e12.Set.2]) (.inl rfl) (hcb15 _ hs.imm) (v := Value.agg (List.toArray (α := Value) (([Value.int .i64 e12.Kind]) ++ ((e12.Set.1.map (Value.int .u64)) ++ ([v19]))))) rfl) rfl <| SW_nil ?_
     obtain ⟨rv6, hrv6, hM⟩ := bindS hM
     refine C [Value.agg (List.toArray (α := Value) (([Value.int .i64 e11.Kind]) ++ ((e11.Set.1.map (Value.int .u64)) ++ ([v18])))), Value.agg (List.toArray (α := Value) (([Value.int .i64 e12.Kind]) ++ ((e12.Set.1.map (Value.int .u64)) ++ ([v19]))))] cf37 rfl (ih_regex_equal hrv6 hs.imm (tT_Regex_iff.2 ⟨[Value.int .i64 e11.Kind], e11.Set.1.map (Value.int .u64), [v18], rfl, rfl, rfl, ⟨_, rfl, hRv18⟩⟩) (tT_Regex_iff.2 ⟨[Value.int .i64 e12.Kind], e12.Set.1.map (Value.int .u64), [v19], rfl, rfl, rfl, ⟨_, rfl, hRv19⟩⟩)) rfl ?_
     rintro v20 wv8 ⟨gg13, hvv20, hegg13⟩
     have hlegg13 := hegg13.le hs.imm
     replace hs := hs.call hegg13
     replace hlegg10 := hlegg10.trans hlegg13
     obtain ⟨cs62, rfl, hcs62⟩ := hvv20
     have hcs62 : cs62 = _ := hcs62; subst hcs62
     refine O (r_not rfl) rfl <| OW_nil ?_
     rcases condS hM with ⟨hc13, hM⟩ | ⟨hc13, hM⟩
     ·refine WP_true rfl hc13 <| WP_seq <| WP_region <| O (r_assign (v := Value.bool false) rfl) rfl <| OW_nil <| WP_ret ?_
      obtain rfl := Option.some.inj hM
      refine fun hr => ?_
      have hM := congrArg some hr
      obtain rfl := Option.some.inj hM
      have hM := hKhx2
      obtain rfl := Option.some.inj hM
      refine FL_nil hds ?_
      exact ⟨_, res1 Try.results37 (rv_tmp (v := Value.bool false) rfl), gg13, ⟨[Value.bool false], rfl, rfl⟩, hs.ext⟩
     ·refine WP_false rfl hc13 <| WP_skip <| WP_region ?_
      obtain ⟨t6, ht6, hM⟩ := bindS hM
      refine O (r_addM rfl rfl ht6) rfl <| O (r_move (v := Value.int .i64 t6) rfl) rfl <| OW_nil ?_
      obtain rfl := Option.some.inj hM
      exact ⟨gg13, rfl, rfl, rfl, rfl, hds, hlegg10, hs⟩
    ·refine WP_false rfl hc12 <| WP_exit ?_
     obtain rfl := Option.some.inj hM
     refine fun hr => ?_
     have hM := congrArg some hr
     obtain rfl := Option.some.inj hM
     exact ⟨(), rfl, gg10, hds, hlegg10, (hs.sub (.cons _ (.cons _ .slnil)))⟩
   ·clear hs
    rintro E w ⟨_, rfl, gg7, hds, hlegg7, hs⟩
    have hM := hKhx2
    dsimp only [onStep] at hM
    refine WP_seq <| WP_region <| O (r_assign (v := Value.bool true) rfl) rfl <| OW_nil <| WP_ret ?_
    obtain rfl := Option.some.inj hM
    refine FL_nil hds ?_
    exact ⟨_, res1 Try.results37 (rv_tmp (v := Value.bool true) rfl), gg7, ⟨[Value.bool true], rfl, rfl⟩, hs.ext⟩
theorem regex_equal_zero : C.regex_equal 0 := by
  unfold C.regex_equal
  intros
  simp_all only [M.regex_equal, reduceCtorEq]
theorem regex_equal_all : ∀ fl, C.regex_equal fl := by
  intro fl
  induction fl with
  | zero => exact regex_equal_zero
  | succ fl ih =>
    exact regex_equal_step ih
theorem regex_equal_ok {fl : Nat} : C.regex_equal fl := (regex_equal_all fl)

set_option maxRecDepth 100000 in
theorem regex_union_ok {l1 : (List T_Regex)} {r : T_Regex} (hM : M.regex_union l1 = some r) {g0 : Hp} {w0 : World} (hi : Imm g0 w0) {v1 : Value} (hRv1 : RdS tT_Regex g0 v1 l1) :
    CallsV Try.prog 34 #[v1] w0 (fun v w' => ∃ g', (VRd tT_Regex true g' v r) ∧ Ext g0 w0 g' w') := by
 unfold M.regex_union at hM
 have hs := Sep.start hi
 refine calls_of_WP (args := [v1]) Try.func34 rfl Try.ntmps34 rfl ?_
 have hds : (argEnv [v1]).ds = [] := rfl
 refine WP_seq <| WP_region <| OW_alloc ti54 hs (zs := ([Value.int .i64 0]) ++ (((Vec.zero 4).1.map (Value.int .u64)) ++ ([Value.slice none 0 0]))) rfl rfl ?_
 intro b1 wv1 hs
 refine OW_nil <| WP_seq <| WP_region <| O (r_assign (v := Value.slice none 0 0) rfl) rfl <| OW_nil ?_
 obtain ⟨xv280, hx64, hKhx64⟩ := bindS hM
 refine WP_cut (fun E w => ∃ (gg523 : Hp) (v640 : Value) (xs157 : List Value), E 2 = Value.pointer (some ⟨b1, 0, none⟩) ∧ E 3 = v640 ∧ E.ds = [] ∧ Hle g0 gg523 ∧ RowRel tT_Regex gg523 xs157 xv280 ∧ Go.Lx.Sep g0 w0 gg523 w [.row v640 54 tT_Regex.sz xv280.length xs157, Go.Lx.box b1 54 (([Value.int .i64 0]) ++ (((Vec.zero 4).1.map (Value.int .u64)) ++ ([Value.slice none 0 0])))]) ?_ ?_
 ·have hM := hx64
  have hag0 := Hle.refl g0
  refine WP_seq <| WP_region <| O (r_move (v := v1) rfl) rfl ?_
  obtain ⟨a72, ca72, hva72⟩ := hRv1.shape
  refine O (r_lenSl (v := v1) Try.underlying52 rfl hva72) rfl <| O (r_move (v := Value.int .i64 0) rfl) rfl <| OW_nil <| WP_block ?_
  have hs := hs.nilRow 54 tT_Regex.sz
  refine WP_loop (fun (st9 : (List T_Regex) × Int) E w => match st9 with | (xv374, xv375) => ∃ (gg698 : Hp) (v851 : Value) (xs210 : List Value), E 2 = Value.pointer (some ⟨b1, 0, none⟩) ∧ E 3 = v851 ∧ E 11 = v1 ∧ E 12 = Value.int .i64 (l1.length : Int) ∧ E 13 = Value.int .i64 xv375 ∧ E.ds = [] ∧ Hle g0 gg698 ∧ RowRel tT_Regex gg698 xs210 xv374 ∧ Go.Lx.Sep g0 w0 gg698 w [.row v851 54 tT_Regex.sz xv374.length xs210, Go.Lx.box b1 54 (([Value.int .i64 0]) ++ (((Vec.zero 4).1.map (Value.int .u64)) ++ ([Value.slice none 0 0])))]) hM ⟨g0, (Value.slice none 0 0), [], rfl, rfl, rfl, rfl, rfl, hds, (Hle.refl _), RowRel.nil, hs⟩ ?_
  clear hs hM
  rintro ⟨xv374, xv375⟩ o192 E w hM ⟨gg698, v851, xs210, hE2, hE3, hE11, hE12, hE13, hds, hlegg698, hrelxs210, hs⟩
  obtain ⟨E, rfl⟩ := open5 (E := E) hE2 hE3 hE11 hE12 hE13
  replace hRv1 := hRv1.mono hlegg698
  have hagg698 := Hle.refl gg698
  refine WP_seq <| WP_region <| O (r_lss rfl rfl) rfl <| OW_nil <| WP_seq ?_
  rcases condS hM with ⟨hc836, hM⟩ | ⟨hc836, hM⟩
  ·refine WP_true rfl hc836 <| WP_skip ?_
   obtain ⟨xv514, hx117, hKhx117⟩ := bindS hM
   refine WP_cut (fun E w => ∃ (gg959 : Hp) (v1172 : Value) (xs288 : List Value), E 2 = Value.pointer (some ⟨b1, 0, none⟩) ∧ E 3 = v1172 ∧ E 11 = v1 ∧ E 12 = Value.int .i64 (l1.length : Int) ∧ E 13 = Value.int .i64 xv375 ∧ E.ds = [] ∧ Hle gg698 gg959 ∧ RowRel tT_Regex gg959 xs288 xv514 ∧ Go.Lx.Sep g0 w0 gg959 w [.row v1172 54 tT_Regex.sz xv514.length xs288, Go.Lx.box b1 54 (([Value.int .i64 0]) ++ (((Vec.zero 4).1.map (Value.int .u64)) ++ ([Value.slice none 0 0])))]) ?_ ?_
   ·have hM := hx117
    refine WP_block <| WP_seq <| WP_region ?_
    obtain ⟨e474, he474, hM⟩ := bindS hM
    obtain ⟨b948, ob948, cb948, hvb948, cs2289, hcs2289, hcb948⟩ := hRv1.at he474
    obtain ⟨cs2290, cs2291, cs2292, rfl, hcs2290, hcs2291, hcs2292⟩ := tT_Regex_iff.1 hcs2289
    have hcs2290 : cs2290 = _ := hcs2290; subst hcs2290
    have hcs2291 : cs2291 = _ := hcs2291; subst hcs2291
    obtain ⟨v1173, rfl, hRv1173⟩ := hcs2292
    refine O (r_idxSl Try.underlying52 ti54 (v := v1) rfl hvb948 rfl (idxL_some he474).1 (idxL_some he474).2.1) rfl <| O (r_loadEl (cs := ([Value.int .i64 e474.Kind]) ++ ((e474.Set.1.map (Value.int .u64)) ++ ([v1173]))) ti54 rfl (by simp [e474.Set.2]) (.inl rfl) (hcb948 _ hs.imm) (v := Value.agg (List.toArray (α := Value) (([Value.int .i64 e474.Kind]) ++ ((e474.Set.1.map (Value.int .u64)) ++ ([v1173]))))) rfl) rfl <| OW_alloc ti54 hs (zs := ([Value.int .i64 0]) ++ (((Vec.zero 4).1.map (Value.int .u64)) ++ ([Value.slice none 0 0]))) rfl rfl ?_
    intro b949 wv1487 hs
    refine OW_storeAll ti54 hs (i := 0) rfl rfl (v := Value.agg (List.toArray (α := Value) (([Value.int .i64 e474.Kind]) ++ ((e474.Set.1.map (Value.int .u64)) ++ ([v1173]))))) rfl (vs := ([Value.int .i64 e474.Kind]) ++ ((e474.Set.1.map (Value.int .u64)) ++ ([v1173]))) rfl (one_append (one_cons rfl one_nil) (one_append vec_one (one_cons (by obtain ⟨_, _, h9⟩ := hRv1173.shape; rw [h9]; rfl) one_nil))) (by simp [e474.Set.2]) (by simp [e474.Set.2, (Vec.zero 4).2]) ?_
    intro wv1488 hs
    refine OW_nil <| WP_scope <| WP_seq <| WP_region <| O (r_loadN (cs := ([Value.int .i64 e474.Kind]) ++ ((e474.Set.1.map (Value.int .u64)) ++ ([v1173]))) ti54 rfl (by simp [e474.Set.2]) (hs.cells (i := 0) rfl)) rfl <| OW_lit (τ := tT_Regex) [Value.agg (List.toArray (α := Value) (([Value.int .i64 e474.Kind]) ++ ((e474.Set.1.map (Value.int .u64)) ++ ([v1173]))))] [e474] Try.underlying52 ti54 (by decide) hs rfl rfl rfl ⟨(tT_Regex_iff.2 ⟨[Value.int .i64 e474.Kind], e474.Set.1.map (Value.int .u64), [v1173], rfl, rfl, rfl, ⟨_, rfl, hRv1173⟩⟩), trivial⟩ rfl ?_
    intro v1174 wv1489 xs289 hrelxs289 hs
    refine O (r_assign (v := v1174) rfl) rfl <| OW_nil ?_
    obtain ⟨more24, hx118, hKhx118⟩ := bindS hM
    refine WP_cut (fun E w => ∃ (gg960 : Hp) (v1176 : Value), E 2 = Value.pointer (some ⟨b1, 0, none⟩) ∧ E 3 = v851 ∧ E 6 = v1176 ∧ E 11 = v1 ∧ E 12 = Value.int .i64 (l1.length : Int) ∧ E 13 = Value.int .i64 xv375 ∧ E.ds = [] ∧ Hle gg698 gg960 ∧ RdS tT_Regex gg960 v1176 more24 ∧ Go.Lx.Sep g0 w0 gg960 w [.row v851 54 tT_Regex.sz xv374.length xs210, Go.Lx.box b1 54 (([Value.int .i64 0]) ++ (((Vec.zero 4).1.map (Value.int .u64)) ++ ([Value.slice none 0 0])))]) ?_ ?_
    ·have hM := hx118
     refine WP_seq <| WP_region <| O (r_fieldAddr Try.underlying54 ti3 rfl rfl (by decide) rfl rfl) rfl <| O (r_load (v := Value.int .i64 e474.Kind) ti3 rfl (hs.cell (i := 1) (o := 0) rfl (by simp [e474.Set.2]))) rfl <| O (r_eql rfl rfl) rfl <| OW_nil ?_
     rcases condS hM with ⟨hc921, hM⟩ | ⟨hc921, hM⟩
     ·refine WP_true rfl hc921 <| WP_region <| O (r_fieldAddr Try.underlying54 ti52 rfl rfl (by decide) rfl rfl) rfl <| O (r_load (v := v1173) ti52 rfl (hs.cell (i := 1) (o := 5) rfl (by simp [e474.Set.2]))) rfl <| O (r_assign (v := v1173) rfl) rfl <| OW_nil ?_
      obtain rfl := Option.some.inj hM
      exact ⟨gg698, v1173, rfl, rfl, rfl, rfl, rfl, rfl, hds, (Hle.refl _), hRv1173, (hs.sub (.cons _ (.cons _ (.cons_cons _ (.cons_cons _ .slnil)))))⟩
     ·refine WP_false rfl hc921 <| WP_skip ?_
      obtain rfl := Option.some.inj hM
      obtain ⟨gg961, hlegg961, hRgg961, hs⟩ := hs.relRow (i := 0) rfl hrelxs289
      replace hagg698 := hagg698.trans hlegg961
      exact ⟨gg961, v1174, rfl, rfl, rfl, rfl, rfl, rfl, hds, hagg698, hRgg961, (hs.sub (.cons _ (.cons_cons _ (.cons_cons _ .slnil))))⟩
    ·clear hs
     rintro E w ⟨gg960, v1176, hE2, hE3, hE6, hE11, hE12, hE13, hds, hlegg960, hRv1176, hs⟩
     have hM := hKhx118
     obtain ⟨E, rfl⟩ := open6 (E := E) hE2 hE3 hE6 hE11 hE12 hE13
     replace hrelxs210 := hrelxs210.mono hlegg960
     replace hagg698 := hagg698.trans hlegg960
     refine WP_seq <| WP_label <| WP_seq <| WP_region <| O (r_move (v := v1176) rfl) rfl ?_
     obtain ⟨a130, ca130, hva130⟩ := hRv1176.shape
     refine O (r_lenSl (v := v1176) Try.underlying52 rfl hva130) rfl <| O (r_move (v := Value.int .i64 0) rfl) rfl <| OW_nil <| WP_block ?_
     have hagg960 := Hle.refl gg960
     refine WP_loop (fun (st9 : (List T_Regex) × Int) E w => match st9 with | (xv530, xv531) => ∃ (gg990 : Hp) (v1211 : Value) (xs298 : List Value), E 2 = Value.pointer (some ⟨b1, 0, none⟩) ∧ E 3 = v1211 ∧ E 11 = v1 ∧ E 12 = Value.int .i64 (l1.length : Int) ∧ E 13 = Value.int .i64 xv375 ∧ E 24 = v1176 ∧ E 25 = Value.int .i64 (more24.length : Int) ∧ E 26 = Value.int .i64 xv531 ∧ E.ds = [] ∧ Hle gg960 gg990 ∧ RowRel tT_Regex gg990 xs298 xv530 ∧ Go.Lx.Sep g0 w0 gg990 w [.row v1211 54 tT_Regex.sz xv530.length xs298, Go.Lx.box b1 54 (([Value.int .i64 0]) ++ (((Vec.zero 4).1.map (Value.int .u64)) ++ ([Value.slice none 0 0])))]) hM ⟨gg960, v851, xs210, rfl, rfl, rfl, rfl, rfl, rfl, rfl, rfl, hds, (Hle.refl _), hrelxs210, hs⟩ ?_
     clear hs hM
     rintro ⟨xv530, xv531⟩ o224 E w hM ⟨gg990, v1211, xs298, hE2, hE3, hE11, hE12, hE13, hE24, hE25, hE26, hds, hlegg990, hrelxs298, hs⟩
     obtain ⟨E, rfl⟩ := open8 (E := E) hE2 hE3 hE11 hE12 hE13 hE24 hE25 hE26
     replace hRv1176 := hRv1176.mono hlegg990
     replace hagg698 := hagg698.trans hlegg990
     have hagg990 := Hle.refl gg990
     refine WP_seq <| WP_region <| O (r_lss rfl rfl) rfl <| OW_nil <| WP_seq ?_
     rcases condS hM with ⟨hc976, hM⟩ | ⟨hc976, hM⟩
     ·refine WP_true rfl hc976 <| WP_skip ?_
      obtain ⟨xv553, hx126, hKhx126⟩ := bindS hM
      refine WP_cut (fun E w => ∃ (gg1032 : Hp) (v1262 : Value) (xs310 : List Value), E 2 = Value.pointer (some ⟨b1, 0, none⟩) ∧ E 3 = v1262 ∧ E 11 = v1 ∧ E 12 = Value.int .i64 (l1.length : Int) ∧ E 13 = Value.int .i64 xv375 ∧ E 24 = v1176 ∧ E 25 = Value.int .i64 (more24.length : Int) ∧ E 26 = Value.int .i64 xv531 ∧ E.ds = [] ∧ Hle gg990 gg1032 ∧ RowRel tT_Regex gg1032 xs310 xv553 ∧ Go.Lx.Sep g0 w0 gg1032 w [.row v1262 54 tT_Regex.sz xv553.length xs310, Go.Lx.box b1 54 (([Value.int .i64 0]) ++ (((Vec.zero 4).1.map (Value.int .u64)) ++ ([Value.slice none 0 0])))]) ?_ ?_
      ·have hM := hx126
       refine WP_block <| WP_seq <| WP_region ?_
       obtain ⟨e510, he510, hM⟩ := bindS hM
       obtain ⟨b1020, ob1020, cb1020, hvb1020, cs2463, hcs2463, hcb1020⟩ := hRv1176.at he510
       obtain ⟨cs2464, cs2465, cs2466, rfl, hcs2464, hcs2465, hcs2466⟩ := tT_Regex_iff.1 hcs2463
       have hcs2464 : cs2464 = _ := hcs2464; subst hcs2464
       have hcs2465 : cs2465 = _ := hcs2465; subst hcs2465
       obtain ⟨v1263, rfl, hRv1263⟩ := hcs2466
       refine O (r_idxSl Try.underlying52 ti54 (v := v1176) rfl hvb1020 rfl (idxL_some he510).1 (idxL_some he510).2.1) rfl <| O (r_loadEl (cs := ([Value.int .i64 e510.Kind]) ++ ((e510.Set.1.map (Value.int .u64)) ++ ([v1263]))) ti54 rfl (by simp [e510.Set.2]) (.inl rfl) (hcb1020 _ hs.imm) (v := Value.agg (List.toArray (α := Value) (([Value.int .i64 e510.Kind]) ++ ((e510.Set.1.map (Value.int .u64)) ++ ([v1263]))))) rfl) rfl <| OW_alloc ti54 hs (zs := ([Value.int .i64 0]) ++ (((Vec.zero 4).1.map (Value.int .u64)) ++ ([Value.slice none 0 0]))) rfl rfl ?_
       intro b1021 wv1600 hs
       refine OW_storeAll ti54 hs (i := 0) rfl rfl (v := Value.agg (List.toArray (α := Value) (([Value.int .i64 e510.Kind]) ++ ((e510.Set.1.map (Value.int .u64)) ++ ([v1263]))))) rfl (vs := ([Value.int .i64 e510.Kind]) ++ ((e510.Set.1.map (Value.int .u64)) ++ ([v1263]))) rfl (one_append (one_cons rfl one_nil) (one_append vec_one (one_cons (by obtain ⟨_, _, h9⟩ := hRv1263.shape; rw [h9]; rfl) one_nil))) (by simp [e510.Set.2]) (by simp [e510.Set.2, (Vec.zero 4).2]) ?_
       intro wv1601 hs
       refine OW_nil <| WP_seq <| WP_seq <| WP_region <| O (r_fieldAddr Try.underlying54 ti3 rfl rfl (by decide) rfl rfl) rfl <| O (r_load (v := Value.int .i64 e510.Kind) ti3 rfl (hs.cell (i := 0) (o := 0) rfl (by simp [e510.Set.2]))) rfl <| O (r_eql rfl rfl) rfl <| OW_nil ?_
       rcases condS hM with ⟨hc990, hM⟩ | ⟨hc990, hM⟩
       ·refine WP_true rfl hc990 <| WP_exit ?_
        obtain rfl := Option.some.inj hM
        exact ⟨gg990, v1211, xs298, rfl, rfl, rfl, rfl, rfl, rfl, rfl, rfl, hds, (Hle.refl _), hrelxs298, (hs.sub (.cons _ (.cons_cons _ (.cons_cons _ .slnil))))⟩
       ·refine WP_false rfl hc990 <| WP_skip ?_
        obtain ⟨o230, hx127, hKhx127⟩ := stepS hM
        refine WP_cut (fun E w => ∃ u9 : Unit, o230 = .next u9 ∧ ∃ (gg1039 : Hp) (v1270 : Value) (xs311 : List Value), E 2 = Value.pointer (some ⟨b1, 0, none⟩) ∧ E 3 = v1270 ∧ E 8 = Value.pointer (some ⟨b1021, 0, none⟩) ∧ E 11 = v1 ∧ E 12 = Value.int .i64 (l1.length : Int) ∧ E 13 = Value.int .i64 xv375 ∧ E 24 = v1176 ∧ E 25 = Value.int .i64 (more24.length : Int) ∧ E 26 = Value.int .i64 xv531 ∧ E.ds = [] ∧ Hle gg990 gg1039 ∧ RowRel tT_Regex gg1039 xs311 xv530 ∧ Go.Lx.Sep g0 w0 gg1039 w [Go.Lx.box b1021 54 (([Value.int .i64 e510.Kind]) ++ ((e510.Set.1.map (Value.int .u64)) ++ ([v1263]))), .row v1270 54 tT_Regex.sz xv530.length xs311, Go.Lx.box b1 54 (([Value.int .i64 0]) ++ (((Vec.zero 4).1.map (Value.int .u64)) ++ ([Value.slice none 0 0])))]) ?_ ?_
        ·have hM := hx127
         refine WP_seq <| WP_region <| O (r_move (v := v1211) rfl) rfl ?_
         obtain ⟨a142, ca142, hva142⟩ := hs.rowShape (i := 1) rfl
         refine O (r_lenSl (v := v1211) Try.underlying52 rfl hva142) rfl <| O (r_move (v := Value.int .i64 0) rfl) rfl <| OW_nil <| WP_block <| WP_loop (fun (xv558 : Int) E w => ∃ (gg1042 : Hp), E 2 = Value.pointer (some ⟨b1, 0, none⟩) ∧ E 3 = v1211 ∧ E 8 = Value.pointer (some ⟨b1021, 0, none⟩) ∧ E 11 = v1 ∧ E 12 = Value.int .i64 (l1.length : Int) ∧ E 13 = Value.int .i64 xv375 ∧ E 24 = v1176 ∧ E 25 = Value.int .i64 (more24.length : Int) ∧ E 26 = Value.int .i64 xv531 ∧ E 33 = v1211 ∧ E 34 = Value.int .i64 (xv530.length : Int) ∧ E 35 = Value.int .i64 xv558 ∧ E.ds = [] ∧ Hle gg990 gg1042 ∧ Go.Lx.Sep g0 w0 gg1042 w [Go.Lx.box b1021 54 (([Value.int .i64 e510.Kind]) ++ ((e510.Set.1.map (Value.int .u64)) ++ ([v1263]))), .row v1211 54 tT_Regex.sz xv530.length xs298, Go.Lx.box b1 54 (([Value.int .i64 0]) ++ (((Vec.zero 4).1.map (Value.int .u64)) ++ ([Value.slice none 0 0])))]) hM ⟨gg990, rfl, rfl, rfl, rfl, rfl, rfl, rfl, rfl, rfl, rfl, rfl, rfl, hds, (Hle.refl _), hs⟩ ?_
         clear hs hM
         rintro xv558 o229 E w hM ⟨gg1042, hE2, hE3, hE8, hE11, hE12, hE13, hE24, hE25, hE26, hE33, hE34, hE35, hds, hlegg1042, hs⟩
         obtain ⟨E, rfl⟩ := open8 (E := E) hE2 hE3 hE8 hE11 hE12 hE13 hE24 hE25
         obtain ⟨E, rfl⟩ := open4 (E := E) hE26 hE33 hE34 hE35
         replace hRv1263 := hRv1263.mono hlegg1042
         replace hrelxs298 := hrelxs298.mono hlegg1042
         have hagg1042 := Hle.refl gg1042
         refine WP_seq <| WP_region <| O (r_lss rfl rfl) rfl <| OW_nil <| WP_seq ?_
         rcases condS hM with ⟨hc1001, hM⟩ | ⟨hc1001, hM⟩
         ·refine WP_true rfl hc1001 <| WP_skip <| WP_seq <| WP_block <| WP_seq <| WP_region ?_
          obtain ⟨e516, he516, hM⟩ := bindS hM
          obtain ⟨b1032, cb1032, hvb1032, cs2492, hcs2492, hcb1032⟩ := hs.rowEl (i := 1) rfl hrelxs298 he516
          obtain ⟨cs2493, cs2494, cs2495, rfl, hcs2493, hcs2494, hcs2495⟩ := tT_Regex_iff.1 hcs2492
          have hcs2493 : cs2493 = _ := hcs2493; subst hcs2493
          have hcs2494 : cs2494 = _ := hcs2494; subst hcs2494
          obtain ⟨v1275, rfl, hRv1275⟩ := hcs2495
          refine O (r_idxSl Try.underlying52 ti54 (v := v1211) rfl hvb1032 rfl (idxL_some he516).1 (idxL_some he516).2.1) rfl <| O (r_loadEl (cs := ([Value.int .i64 e516.Kind]) ++ ((e516.Set.1.map (Value.int .u64)) ++ ([v1275]))) ti54 rfl (by simp [e516.Set.2]) (.inl rfl) (hcb1032 _ (hs.at (i := 1) rfl)) (v := Value.agg (List.toArray (α := Value) (([Value.int .i64 e516.Kind]) ++ ((e516.Set.1.map (Value.int .u64)) ++ ([v1275]))))) rfl) rfl <| OW_alloc ti54 hs (zs := ([Value.int .i64 0]) ++ (((Vec.zero 4).1.map (Value.int .u64)) ++ ([Value.slice none 0 0]))) rfl rfl ?_
          intro b1033 wv1617 hs
          refine OW_storeAll ti54 hs (i := 0) rfl rfl (v := Value.agg (List.toArray (α := Value) (([Value.int .i64 e516.Kind]) ++ ((e516.Set.1.map (Value.int .u64)) ++ ([v1275]))))) rfl (vs := ([Value.int .i64 e516.Kind]) ++ ((e516.Set.1.map (Value.int .u64)) ++ ([v1275]))) rfl (one_append (one_cons rfl one_nil) (one_append vec_one (one_cons (by obtain ⟨_, _, h9⟩ := hRv1275.shape; rw [h9]; rfl) one_nil))) (by simp [e516.Set.2]) (by simp [e516.Set.2, (Vec.zero 4).2]) ?_
          intro wv1618 hs
          refine OW_nil <| WP_seq <| WP_region <| O (r_loadN (cs := ([Value.int .i64 e516.Kind]) ++ ((e516.Set.1.map (Value.int .u64)) ++ ([v1275]))) ti54 rfl (by simp [e516.Set.2]) (hs.cells (i := 0) rfl)) rfl <| O (r_loadN (cs := ([Value.int .i64 e510.Kind]) ++ ((e510.Set.1.map (Value.int .u64)) ++ ([v1263]))) ti54 rfl (by simp [e510.Set.2]) (hs.cells (i := 1) rfl)) rfl ?_
          obtain ⟨rv432, hrv432, hM⟩ := bindS hM
          refine C [Value.agg (List.toArray (α := Value) (([Value.int .i64 e516.Kind]) ++ ((e516.Set.1.map (Value.int .u64)) ++ ([v1275])))), Value.agg (List.toArray (α := Value) (([Value.int .i64 e510.Kind]) ++ ((e510.Set.1.map (Value.int .u64)) ++ ([v1263]))))] cf37 rfl (regex_equal_ok hrv432 hs.imm (tT_Regex_iff.2 ⟨[Value.int .i64 e516.Kind], e516.Set.1.map (Value.int .u64), [v1275], rfl, rfl, rfl, ⟨_, rfl, hRv1275⟩⟩) (tT_Regex_iff.2 ⟨[Value.int .i64 e510.Kind], e510.Set.1.map (Value.int .u64), [v1263], rfl, rfl, rfl, ⟨_, rfl, hRv1263⟩⟩)) rfl ?_
          rintro v1276 wv1619 ⟨gg1045, hvv1276, hegg1045⟩
          have hlegg1045 := hegg1045.le hs.imm
          replace hs := hs.call hegg1045
          replace hrelxs298 := hrelxs298.mono hlegg1045
          replace hlegg1042 := hlegg1042.trans hlegg1045
          obtain ⟨cs2496, rfl, hcs2496⟩ := hvv1276
          have hcs2496 : cs2496 = _ := hcs2496; subst hcs2496
          refine OW_nil ?_
          rcases condS hM with ⟨hc1002, hM⟩ | ⟨hc1002, hM⟩
          ·refine WP_true rfl hc1002 <| WP_exit ?_
           obtain rfl := Option.some.inj hM
           refine fun hr => ?_
           have hM := congrArg some hr
           obtain rfl := Option.some.inj hM
           have hM := hKhx127
           obtain rfl := Option.some.inj hM
           exact ⟨gg1045, v1211, xs298, rfl, rfl, rfl, rfl, rfl, rfl, rfl, rfl, hds, hlegg1042, hrelxs298, (hs.sub (.cons _ (.cons _ (.cons_cons _ (.cons_cons _ .slnil)))))⟩
          ·refine WP_false rfl hc1002 <| WP_skip <| WP_region ?_
           obtain ⟨t472, ht472, hM⟩ := bindS hM
           refine O (r_addM rfl rfl ht472) rfl <| O (r_move (v := Value.int .i64 t472) rfl) rfl <| OW_nil ?_
           obtain rfl := Option.some.inj hM
           exact ⟨gg1045, rfl, rfl, rfl, rfl, rfl, rfl, rfl, rfl, rfl, rfl, rfl, rfl, hds, hlegg1042, (hs.sub (.cons _ (.cons_cons _ (.cons_cons _ (.cons_cons _ .slnil)))))⟩
         ·refine WP_false rfl hc1001 <| WP_exit ?_
          obtain rfl := Option.some.inj hM
          refine fun hr => ?_
          have hM := congrArg some hr
          obtain rfl := Option.some.inj hM
          exact ⟨(), rfl, gg1042, v1211, xs298, rfl, rfl, rfl, rfl, rfl, rfl, rfl, rfl, rfl, hds, hlegg1042, hrelxs298, hs⟩
        ·clear hs
         rintro E w ⟨_, rfl, gg1039, v1270, xs311, hE2, hE3, hE8, hE11, hE12, hE13, hE24, hE25, hE26, hds, hlegg1039, hrelxs311, hs⟩
         have hM := hKhx127
         dsimp only [onStep] at hM
         obtain ⟨E, rfl⟩ := open8 (E := E) hE2 hE3 hE8 hE11 hE12 hE13 hE24 hE25
         obtain ⟨E, rfl⟩ := open1 (E := E) hE26
         replace hRv1263 := hRv1263.mono hlegg1039
         replace hagg990 := hagg990.trans hlegg1039
         refine WP_region <| O (r_move (v := v1270) rfl) rfl <| O (r_loadN (cs := ([Value.int .i64 e510.Kind]) ++ ((e510.Set.1.map (Value.int .u64)) ++ ([v1263]))) ti54 rfl (by simp [e510.Set.2]) (hs.cells (i := 0) rfl)) rfl <| OW_lit (τ := tT_Regex) [Value.agg (List.toArray (α := Value) (([Value.int .i64 e510.Kind]) ++ ((e510.Set.1.map (Value.int .u64)) ++ ([v1263]))))] [e510] Try.underlying52 ti54 (by decide) hs rfl rfl rfl ⟨(tT_Regex_iff.2 ⟨[Value.int .i64 e510.Kind], e510.Set.1.map (Value.int .u64), [v1263], rfl, rfl, rfl, ⟨_, rfl, hRv1263⟩⟩), trivial⟩ rfl ?_
         intro v1277 wv1620 xs312 hrelxs312 hs
         obtain ⟨kids64, hkids64, hM⟩ := bindS hM
         refine OW_append Try.underlying52 ti54 rfl (by decide) (by decide) hs (i := 2) rfl hrelxs311 (v := v1270) rfl (u := v1277) rfl (hs.rowSrc (i := 0) rfl) hrelxs312 hkids64 rfl ?_
         intro v1278 wv1621 xs313 hrelxs313 hs
         refine O (r_assign (v := v1278) rfl) rfl <| OW_nil ?_
         obtain rfl := Option.some.inj hM
         exact ⟨gg1039, v1278, xs313, rfl, rfl, rfl, rfl, rfl, rfl, rfl, rfl, hds, hagg990, hrelxs313, (hs.sub (.cons _ (.cons _ (.cons_cons _ (.cons_cons _ .slnil)))))⟩
      ·clear hs
       rintro E w ⟨gg1032, v1262, xs310, hE2, hE3, hE11, hE12, hE13, hE24, hE25, hE26, hds, hlegg1032, hrelxs310, hs⟩
       have hM := hKhx126
       obtain ⟨E, rfl⟩ := open8 (E := E) hE2 hE3 hE11 hE12 hE13 hE24 hE25 hE26
       replace hlegg990 := hlegg990.trans hlegg1032
       refine WP_region ?_
       obtain ⟨t473, ht473, hM⟩ := bindS hM
       refine O (r_addM rfl rfl ht473) rfl <| O (r_move (v := Value.int .i64 t473) rfl) rfl <| OW_nil ?_
       obtain rfl := Option.some.inj hM
       exact ⟨gg1032, v1262, xs310, rfl, rfl, rfl, rfl, rfl, rfl, rfl, rfl, hds, hlegg990, hrelxs310, hs⟩
     ·refine WP_false rfl hc976 <| WP_exit ?_
      obtain rfl := Option.some.inj hM
      refine fun hr => ?_
      have hM := congrArg some hr
      obtain rfl := Option.some.inj hM
      exact ⟨gg990, v1211, xs298, rfl, rfl, rfl, rfl, rfl, hds, hagg698, hrelxs298, hs⟩
   ·clear hs
    rintro E w ⟨gg959, v1172, xs288, hE2, hE3, hE11, hE12, hE13, hds, hlegg959, hrelxs288, hs⟩
    have hM := hKhx117
    obtain ⟨E, rfl⟩ := open5 (E := E) hE2 hE3 hE11 hE12 hE13
    replace hlegg698 := hlegg698.trans hlegg959
    refine WP_region ?_
    obtain ⟨t474, ht474, hM⟩ := bindS hM
    refine O (r_addM rfl rfl ht474) rfl <| O (r_move (v := Value.int .i64 t474) rfl) rfl <| OW_nil ?_
    obtain rfl := Option.some.inj hM
    exact ⟨gg959, v1172, xs288, rfl, rfl, rfl, rfl, rfl, hds, hlegg698, hrelxs288, hs⟩
  ·refine WP_false rfl hc836 <| WP_exit ?_
   obtain rfl := Option.some.inj hM
   refine fun hr => ?_
   have hM := congrArg some hr
   obtain rfl := Option.some.inj hM
   exact ⟨gg698, v851, xs210, rfl, rfl, hds, hlegg698, hrelxs210, hs⟩
 ·clear hs
  rintro E w ⟨gg523, v640, xs157, hE2, hE3, hds, hlegg523, hrelxs157, hs⟩
  have hM := hKhx64
  obtain ⟨E, rfl⟩ := open2 (E := E) hE2 hE3
  refine WP_seq <| WP_seq <| WP_region <| O (r_move (v := v640) rfl) rfl ?_
  obtain ⟨a143, ca143, hva143⟩ := hs.rowShape (i := 0) rfl
  refine O (r_lenSl (v := v640) Try.underlying52 rfl hva143) rfl <| OW_nil <| WP_block <| WP_seq <| WP_region <| O (r_eql rfl rfl) rfl <| O (r_assign (v := Value.bool ((xv280.length : Int) == 0)) rfl) rfl <| OW_nil ?_
  rcases condS hM with ⟨hc1003, hM⟩ | ⟨hc1003, hM⟩
  ·refine WP_true rfl hc1003 <| WP_seq <| WP_region <| O (r_build (vs := [(0, Value.int .i64 1)]) (cs := ([Value.int .i64 1]) ++ (((Vec.zero 4).1.map (Value.int .u64)) ++ ([Value.slice none 0 0]))) rfl (built_fill [(0, 1), (1, 4), (5, 1)] (([Value.int .i64 0]) ++ (((Vec.zero 4).1.map (Value.int .u64)) ++ ([Value.slice none 0 0]))) (fun _ => by kernel_rfl) (fill_step ([]) ([Value.int .i64 0]) (((Vec.zero 4).1.map (Value.int .u64)) ++ ([Value.slice none 0 0])) ([Value.int .i64 1]) rfl (by simp) rfl rfl rfl rfl <| fill_done))) rfl <| OW_storeAll ti54 hs (i := 1) rfl rfl (v := Value.agg (List.toArray (α := Value) (([Value.int .i64 1]) ++ (((Vec.zero 4).1.map (Value.int .u64)) ++ ([Value.slice none 0 0]))))) rfl (vs := ([Value.int .i64 1]) ++ (((Vec.zero 4).1.map (Value.int .u64)) ++ ([Value.slice none 0 0]))) rfl (one_append (one_cons rfl one_nil) (one_append vec_one (one_cons rfl one_nil))) (by simp [(Vec.zero 4).2]) (by simp [(Vec.zero 4).2, (Vec.zero 4).2]) ?_
   intro wv1622 hs
   refine OW_nil <| WP_ret ?_
   obtain rfl := Option.some.inj hM
   refine FL_nil hds ?_
   exact ⟨_, res1 Try.results34 (rv_cells (vs := ([Value.int .i64 1]) ++ (((Vec.zero 4).1.map (Value.int .u64)) ++ ([Value.slice none 0 0]))) ti54 rfl (by simp [(Vec.zero 4).2]) (hs.cells (i := 1) rfl)), gg523, ⟨([Value.int .i64 1]) ++ (((Vec.zero 4).1.map (Value.int .u64)) ++ ([Value.slice none 0 0])), rfl, (tT_Regex_iff.2 ⟨[Value.int .i64 1], (Vec.zero 4).1.map (Value.int .u64), [Value.slice none 0 0], rfl, rfl, rfl, ⟨_, rfl, RdS.nil⟩⟩)⟩, hs.ext⟩
  ·refine WP_false rfl hc1003 <| WP_seq <| WP_region <| O (r_eql rfl rfl) rfl <| O (r_assign (v := Value.bool ((xv280.length : Int) == 1)) rfl) rfl <| OW_nil ?_
   rcases condS hM with ⟨hc1004, hM⟩ | ⟨hc1004, hM⟩
   ·refine WP_true rfl hc1004 <| WP_seq <| WP_region <| O (r_move (v := v640) rfl) rfl ?_
    obtain ⟨e517, he517, hM⟩ := bindS hM
    obtain ⟨b1034, cb1034, hvb1034, cs2497, hcs2497, hcb1034⟩ := hs.rowEl (i := 0) rfl hrelxs157 he517
    obtain ⟨cs2498, cs2499, cs2500, rfl, hcs2498, hcs2499, hcs2500⟩ := tT_Regex_iff.1 hcs2497
    have hcs2498 : cs2498 = _ := hcs2498; subst hcs2498
    have hcs2499 : cs2499 = _ := hcs2499; subst hcs2499
    obtain ⟨v1279, rfl, hRv1279⟩ := hcs2500
    refine O (r_idxSl Try.underlying52 ti54 (v := v640) rfl hvb1034 rfl (idxL_some he517).1 (idxL_some he517).2.1) rfl <| O (r_loadEl (cs := ([Value.int .i64 e517.Kind]) ++ ((e517.Set.1.map (Value.int .u64)) ++ ([v1279]))) ti54 rfl (by simp [e517.Set.2]) (.inl rfl) (hcb1034 _ (hs.at (i := 0) rfl)) (v := Value.agg (List.toArray (α := Value) (([Value.int .i64 e517.Kind]) ++ ((e517.Set.1.map (Value.int .u64)) ++ ([v1279]))))) rfl) rfl <| OW_storeAll ti54 hs (i := 1) rfl rfl (v := Value.agg (List.toArray (α := Value) (([Value.int .i64 e517.Kind]) ++ ((e517.Set.1.map (Value.int .u64)) ++ ([v1279]))))) rfl (vs := ([Value.int .i64 e517.Kind]) ++ ((e517.Set.1.map (Value.int .u64)) ++ ([v1279]))) rfl (one_append (one_cons rfl one_nil) (one_append vec_one (one_cons (by obtain ⟨_, _, h9⟩ := hRv1279.shape; rw [h9]; rfl) one_nil))) (by simp [e517.Set.2]) (by simp [e517.Set.2, (Vec.zero 4).2]) ?_
    intro wv1623 hs
    refine OW_nil <| WP_ret ?_
    obtain rfl := Option.some.inj hM
    refine FL_nil hds ?_
    exact ⟨_, res1 Try.results34 (rv_cells (vs := ([Value.int .i64 e517.Kind]) ++ ((e517.Set.1.map (Value.int .u64)) ++ ([v1279]))) ti54 rfl (by simp [e517.Set.2]) (hs.cells (i := 1) rfl)), gg523, ⟨([Value.int .i64 e517.Kind]) ++ ((e517.Set.1.map (Value.int .u64)) ++ ([v1279])), rfl, (tT_Regex_iff.2 ⟨[Value.int .i64 e517.Kind], e517.Set.1.map (Value.int .u64), [v1279], rfl, rfl, rfl, ⟨_, rfl, hRv1279⟩⟩)⟩, hs.ext⟩
   ·refine WP_false rfl hc1004 <| WP_skip <| WP_seq <| WP_region <| O (r_move (v := v640) rfl) rfl ?_
    have ho1 := one_of_shape (hs.rowShape (i := 0) rfl)
    refine O (r_build (vs := [(0, Value.int .i64 5), (2, v640)]) (cs := ([Value.int .i64 5]) ++ (((Vec.zero 4).1.map (Value.int .u64)) ++ ([v640]))) rfl (built_fill [(0, 1), (1, 4), (5, 1)] (([Value.int .i64 0]) ++ (((Vec.zero 4).1.map (Value.int .u64)) ++ ([Value.slice none 0 0]))) (fun _ => by kernel_rfl) (fill_step ([]) ([Value.int .i64 0]) (((Vec.zero 4).1.map (Value.int .u64)) ++ ([Value.slice none 0 0])) ([Value.int .i64 5]) rfl (by simp) rfl rfl rfl rfl <| fill_step (([Value.int .i64 5]) ++ ((Vec.zero 4).1.map (Value.int .u64))) ([Value.slice none 0 0]) ([]) ([v640]) rfl (by simp) (cells_one ho1) (by simp [(Vec.zero 4).2]) rfl rfl <| fill_done))) rfl <| OW_storeAll ti54 hs (i := 1) rfl rfl (v := Value.agg (List.toArray (α := Value) (([Value.int .i64 5]) ++ (((Vec.zero 4).1.map (Value.int .u64)) ++ ([v640]))))) rfl (vs := ([Value.int .i64 5]) ++ (((Vec.zero 4).1.map (Value.int .u64)) ++ ([v640]))) rfl (one_append (one_cons rfl one_nil) (one_append vec_one (one_cons (by obtain ⟨_, _, h9⟩ := hs.rowShape (i := 0) rfl; rw [h9]; rfl) one_nil))) (by simp [(Vec.zero 4).2]) (by simp [(Vec.zero 4).2, (Vec.zero 4).2]) ?_
    intro wv1624 hs
    refine OW_nil <| WP_ret ?_
    obtain rfl := Option.some.inj hM
    obtain ⟨gg1046, hlegg1046, hRgg1046, hs⟩ := hs.relRow (i := 0) rfl hrelxs157
    refine FL_nil hds ?_
    exact ⟨_, res1 Try.results34 (rv_cells (vs := ([Value.int .i64 5]) ++ (((Vec.zero 4).1.map (Value.int .u64)) ++ ([v640]))) ti54 rfl (by simp [(Vec.zero 4).2]) (hs.cells (i := 0) rfl)), gg1046, ⟨([Value.int .i64 5]) ++ (((Vec.zero 4).1.map (Value.int .u64)) ++ ([v640])), rfl, (tT_Regex_iff.2 ⟨[Value.int .i64 5], (Vec.zero 4).1.map (Value.int .u64), [v640], rfl, rfl, rfl, ⟨_, rfl, hRgg1046⟩⟩)⟩, hs.ext⟩

set_option maxRecDepth 100000 in
theorem regex_concat_ok {l1 : (List T_Regex)} {r : T_Regex} (hM : M.regex_concat l1 = some r) {g0 : Hp} {w0 : World} (hi : Imm g0 w0) {v1 : Value} (hRv1 : RdS tT_Regex g0 v1 l1) :
    CallsV Try.prog 33 #[v1] w0 (fun v w' => ∃ g', (VRd tT_Regex true g' v r) ∧ Ext g0 w0 g' w') := by
 unfold M.regex_concat at hM
 have hs := Sep.start hi
 refine calls_of_WP (args := [v1]) Try.func33 rfl Try.ntmps33 rfl ?_
 have hds : (argEnv [v1]).ds = [] := rfl
 refine WP_seq <| WP_region <| OW_alloc ti54 hs (zs := ([Value.int .i64 0]) ++ (((Vec.zero 4).1.map (Value.int .u64)) ++ ([Value.slice none 0 0]))) rfl rfl ?_
 intro b1 wv1 hs
 refine OW_nil <| WP_seq <| WP_region <| O (r_assign (v := Value.slice none 0 0) rfl) rfl <| OW_nil ?_
 obtain ⟨o9, hx4, hKhx4⟩ := stepS hM
 refine WP_cut (fun E w => ∃ (xv7 : (List T_Regex)), o9 = .next xv7 ∧ ∃ (v26 : Value) (xs21 : List Value), E 2 = Value.pointer (some ⟨b1, 0, none⟩) ∧ E 3 = v26 ∧ E.ds = [] ∧ RowRel tT_Regex g0 xs21 xv7 ∧ Go.Lx.Sep g0 w0 g0 w [.row v26 54 tT_Regex.sz xv7.length xs21, Go.Lx.box b1 54 (([Value.int .i64 0]) ++ (((Vec.zero 4).1.map (Value.int .u64)) ++ ([Value.slice none 0 0])))]) ?_ ?_
 ·have hM := hx4
  have hag0 := Hle.refl g0
  refine WP_seq <| WP_region <| O (r_move (v := v1) rfl) rfl ?_
  obtain ⟨a2, ca2, hva2⟩ := hRv1.shape
  refine O (r_lenSl (v := v1) Try.underlying52 rfl hva2) rfl <| O (r_move (v := Value.int .i64 0) rfl) rfl <| OW_nil <| WP_block ?_
  have hs := hs.nilRow 54 tT_Regex.sz
  refine WP_loop (fun (st9 : (List T_Regex) × Int) E w => match st9 with | (xv10, xv11) => ∃ (v35 : Value) (xs30 : List Value), E 2 = Value.pointer (some ⟨b1, 0, none⟩) ∧ E 3 = v35 ∧ E 6 = v1 ∧ E 7 = Value.int .i64 (l1.length : Int) ∧ E 8 = Value.int .i64 xv11 ∧ E.ds = [] ∧ RowRel tT_Regex g0 xs30 xv10 ∧ Go.Lx.Sep g0 w0 g0 w [.row v35 54 tT_Regex.sz xv10.length xs30, Go.Lx.box b1 54 (([Value.int .i64 0]) ++ (((Vec.zero 4).1.map (Value.int .u64)) ++ ([Value.slice none 0 0])))]) hM ⟨(Value.slice none 0 0), [], rfl, rfl, rfl, rfl, rfl, hds, RowRel.nil, hs⟩ ?_
  clear hs hM
  rintro ⟨xv10, xv11⟩ o7 E w hM ⟨v35, xs30, hE2, hE3, hE6, hE7, hE8, hds, hrelxs30, hs⟩
  obtain ⟨E, rfl⟩ := open5 (E := E) hE2 hE3 hE6 hE7 hE8
  refine WP_seq <| WP_region <| O (r_lss rfl rfl) rfl <| OW_nil <| WP_seq ?_
  rcases condS hM with ⟨hc26, hM⟩ | ⟨hc26, hM⟩
  ·refine WP_true rfl hc26 <| WP_skip ?_
   obtain ⟨o8, hx7, hKhx7⟩ := stepS hM
   refine WP_cut (fun E w => ∃ (kids11 : (List T_Regex)), o8 = .next kids11 ∧ ∃ (v47 : Value) (xs39 : List Value), E 2 = Value.pointer (some ⟨b1, 0, none⟩) ∧ E 3 = v47 ∧ E 6 = v1 ∧ E 7 = Value.int .i64 (l1.length : Int) ∧ E 8 = Value.int .i64 xv11 ∧ E.ds = [] ∧ RowRel tT_Regex g0 xs39 kids11 ∧ Go.Lx.Sep g0 w0 g0 w [.row v47 54 tT_Regex.sz kids11.length xs39, Go.Lx.box b1 54 (([Value.int .i64 0]) ++ (((Vec.zero 4).1.map (Value.int .u64)) ++ ([Value.slice none 0 0])))]) ?_ ?_
   ·have hM := hx7
    refine WP_block <| WP_seq <| WP_region ?_
    obtain ⟨e12, he12, hM⟩ := bindS hM
    obtain ⟨b24, ob24, cb24, hvb24, cs45, hcs45, hcb24⟩ := hRv1.at he12
    obtain ⟨cs46, cs47, cs48, rfl, hcs46, hcs47, hcs48⟩ := tT_Regex_iff.1 hcs45
    have hcs46 : cs46 = _ := hcs46; subst hcs46
    have hcs47 : cs47 = _ := hcs47; subst hcs47
    obtain ⟨v48, rfl, hRv48⟩ := hcs48
    refine O (r_idxSl Try.underlying52 ti54 (v := v1) rfl hvb24 rfl (idxL_some he12).1 (idxL_some he12).2.1) rfl <| O (r_loadEl (cs := ([Value.int .i64 e12.Kind]) ++ ((e12.Set.1.map (Value.int .u64)) ++ ([v48]))) ti54 rfl (by simp [e12.Set.2]) (.inl rfl) (hcb24 _ hs.imm) (v := Value.agg (List.toArray (α := Value) (([Value.int .i64 e12.Kind]) ++ ((e12.Set.1.map (Value.int .u64)) ++ ([v48]))))) rfl) rfl <| OW_alloc ti54 hs (zs := ([Value.int .i64 0]) ++ (((Vec.zero 4).1.map (Value.int .u64)) ++ ([Value.slice none 0 0]))) rfl rfl ?_
    intro b25 wv57 hs
    refine OW_storeAll ti54 hs (i := 0) rfl rfl (v := Value.agg (List.toArray (α := Value) (([Value.int .i64 e12.Kind]) ++ ((e12.Set.1.map (Value.int .u64)) ++ ([v48]))))) rfl (vs := ([Value.int .i64 e12.Kind]) ++ ((e12.Set.1.map (Value.int .u64)) ++ ([v48]))) rfl (one_append (one_cons rfl one_nil) (one_append vec_one (one_cons (by obtain ⟨_, _, h9⟩ := hRv48.shape; rw [h9]; rfl) one_nil))) (by simp [e12.Set.2]) (by simp [e12.Set.2, (Vec.zero 4).2]) ?_
    intro wv58 hs
    refine OW_nil <| WP_seq <| WP_seq <| WP_region <| O (r_fieldAddr Try.underlying54 ti3 rfl rfl (by decide) rfl rfl) rfl <| O (r_load (v := Value.int .i64 e12.Kind) ti3 rfl (hs.cell (i := 0) (o := 0) rfl (by simp [e12.Set.2]))) rfl <| O (r_eql rfl rfl) rfl <| OW_nil ?_
    rcases condS hM with ⟨hc29, hM⟩ | ⟨hc29, hM⟩
    ·refine WP_true rfl hc29 <| WP_seq <| WP_region <| O (r_loadN (cs := ([Value.int .i64 e12.Kind]) ++ ((e12.Set.1.map (Value.int .u64)) ++ ([v48]))) ti54 rfl (by simp [e12.Set.2]) (hs.cells (i := 0) rfl)) rfl <| OW_storeAll ti54 hs (i := 2) rfl rfl (v := Value.agg (List.toArray (α := Value) (([Value.int .i64 e12.Kind]) ++ ((e12.Set.1.map (Value.int .u64)) ++ ([v48]))))) rfl (vs := ([Value.int .i64 e12.Kind]) ++ ((e12.Set.1.map (Value.int .u64)) ++ ([v48]))) rfl (one_append (one_cons rfl one_nil) (one_append vec_one (one_cons (by obtain ⟨_, _, h9⟩ := hRv48.shape; rw [h9]; rfl) one_nil))) (by simp [e12.Set.2]) (by simp [e12.Set.2, (Vec.zero 4).2]) ?_
     intro wv59 hs
     refine OW_nil <| WP_ret ?_
     obtain rfl := Option.some.inj hM
     have hM := hKhx7
     obtain rfl := Option.some.inj hM
     refine fun hr => ?_
     have hM := congrArg some hr
     obtain rfl := Option.some.inj hM
     have hM := hKhx4
     obtain rfl := Option.some.inj hM
     refine FL_nil hds ?_
     exact ⟨_, res1 Try.results33 (rv_cells (vs := ([Value.int .i64 e12.Kind]) ++ ((e12.Set.1.map (Value.int .u64)) ++ ([v48]))) ti54 rfl (by simp [e12.Set.2]) (hs.cells (i := 2) rfl)), g0, ⟨([Value.int .i64 e12.Kind]) ++ ((e12.Set.1.map (Value.int .u64)) ++ ([v48])), rfl, (tT_Regex_iff.2 ⟨[Value.int .i64 e12.Kind], e12.Set.1.map (Value.int .u64), [v48], rfl, rfl, rfl, ⟨_, rfl, hRv48⟩⟩)⟩, hs.ext⟩
    ·refine WP_false rfl hc29 <| WP_skip <| WP_seq <| WP_region <| O (r_fieldAddr Try.underlying54 ti3 rfl rfl (by decide) rfl rfl) rfl <| O (r_load (v := Value.int .i64 e12.Kind) ti3 rfl (hs.cell (i := 0) (o := 0) rfl (by simp [e12.Set.2]))) rfl <| O (r_neq rfl rfl) rfl <| OW_nil ?_
     rcases condS hM with ⟨hc30, hM⟩ | ⟨hc30, hM⟩
     ·refine WP_true rfl hc30 <| WP_region <| O (r_move (v := v35) rfl) rfl <| O (r_loadN (cs := ([Value.int .i64 e12.Kind]) ++ ((e12.Set.1.map (Value.int .u64)) ++ ([v48]))) ti54 rfl (by simp [e12.Set.2]) (hs.cells (i := 0) rfl)) rfl <| OW_lit (τ := tT_Regex) [Value.agg (List.toArray (α := Value) (([Value.int .i64 e12.Kind]) ++ ((e12.Set.1.map (Value.int .u64)) ++ ([v48]))))] [e12] Try.underlying52 ti54 (by decide) hs rfl rfl rfl ⟨(tT_Regex_iff.2 ⟨[Value.int .i64 e12.Kind], e12.Set.1.map (Value.int .u64), [v48], rfl, rfl, rfl, ⟨_, rfl, hRv48⟩⟩), trivial⟩ rfl ?_
      intro v49 wv60 xs40 hrelxs40 hs
      obtain ⟨kids12, hkids12, hM⟩ := bindS hM
      refine OW_append Try.underlying52 ti54 rfl (by decide) (by decide) hs (i := 2) rfl hrelxs30 (v := v35) rfl (u := v49) rfl (hs.rowSrc (i := 0) rfl) hrelxs40 hkids12 rfl ?_
      intro v50 wv61 xs41 hrelxs41 hs
      refine O (r_assign (v := v50) rfl) rfl <| OW_nil ?_
      obtain rfl := Option.some.inj hM
      exact ⟨kids12, rfl, v50, xs41, rfl, rfl, rfl, rfl, rfl, hds, hrelxs41, (hs.sub (.cons _ (.cons _ (.cons_cons _ (.cons_cons _ .slnil)))))⟩
     ·refine WP_false rfl hc30 <| WP_skip ?_
      obtain rfl := Option.some.inj hM
      exact ⟨xv10, rfl, v35, xs30, rfl, rfl, rfl, rfl, rfl, hds, hrelxs30, (hs.sub (.cons _ (.cons_cons _ (.cons_cons _ .slnil))))⟩
   ·clear hs
    rintro E w ⟨kids11, rfl, v47, xs39, hE2, hE3, hE6, hE7, hE8, hds, hrelxs39, hs⟩
    have hM := hKhx7
    dsimp only [onStep] at hM
    obtain ⟨E, rfl⟩ := open5 (E := E) hE2 hE3 hE6 hE7 hE8
    refine WP_region ?_
    obtain ⟨t6, ht6, hM⟩ := bindS hM
    refine O (r_addM rfl rfl ht6) rfl <| O (r_move (v := Value.int .i64 t6) rfl) rfl <| OW_nil ?_
    obtain rfl := Option.some.inj hM
    exact ⟨v47, xs39, rfl, rfl, rfl, rfl, rfl, hds, hrelxs39, hs⟩
  ·refine WP_false rfl hc26 <| WP_exit ?_
   obtain rfl := Option.some.inj hM
   refine fun hr => ?_
   have hM := congrArg some hr
   obtain rfl := Option.some.inj hM
   exact ⟨xv10, rfl, v35, xs30, rfl, rfl, hds, hrelxs30, hs⟩
 ·clear hs
  rintro E w ⟨xv7, rfl, v26, xs21, hE2, hE3, hds, hrelxs21, hs⟩
  have hM := hKhx4
  dsimp only [onStep] at hM
  obtain ⟨E, rfl⟩ := open2 (E := E) hE2 hE3
  refine WP_seq <| WP_seq <| WP_region <| O (r_move (v := v26) rfl) rfl ?_
  obtain ⟨a3, ca3, hva3⟩ := hs.rowShape (i := 0) rfl
  refine O (r_lenSl (v := v26) Try.underlying52 rfl hva3) rfl <| OW_nil <| WP_block <| WP_seq <| WP_region <| O (r_eql rfl rfl) rfl <| O (r_assign (v := Value.bool ((xv7.length : Int) == 0)) rfl) rfl <| OW_nil ?_
  rcases condS hM with ⟨hc31, hM⟩ | ⟨hc31, hM⟩
  ·refine WP_true rfl hc31 <| WP_seq <| WP_region <| O (r_build (vs := [(0, Value.int .i64 2)]) (cs := ([Value.int .i64 2]) ++ (((Vec.zero 4).1.map (Value.int .u64)) ++ ([Value.slice none 0 0]))) rfl (built_fill [(0, 1), (1, 4), (5, 1)] (([Value.int .i64 0]) ++ (((Vec.zero 4).1.map (Value.int .u64)) ++ ([Value.slice none 0 0]))) (fun _ => by kernel_rfl) (fill_step ([]) ([Value.int .i64 0]) (((Vec.zero 4).1.map (Value.int .u64)) ++ ([Value.slice none 0 0])) ([Value.int .i64 2]) rfl (by simp) rfl rfl rfl rfl <| fill_done))) rfl <| OW_storeAll ti54 hs (i := 1) rfl rfl (v := Value.agg (List.toArray (α := Value) (([Value.int .i64 2]) ++ (((Vec.zero 4).1.map (Value.int .u64)) ++ ([Value.slice none 0 0]))))) rfl (vs := ([Value.int .i64 2]) ++ (((Vec.zero 4).1.map (Value.int .u64)) ++ ([Value.slice none 0 0]))) rfl (one_append (one_cons rfl one_nil) (one_append vec_one (one_cons rfl one_nil))) (by simp [(Vec.zero 4).2]) (by simp [(Vec.zero 4).2, (Vec.zero 4).2]) ?_
   intro wv62 hs
   refine OW_nil <| WP_ret ?_
   obtain rfl := Option.some.inj hM
   refine FL_nil hds ?_
   exact ⟨_, res1 Try.results33 (rv_cells (vs := ([Value.int .i64 2]) ++ (((Vec.zero 4).1.map (Value.int .u64)) ++ ([Value.slice none 0 0]))) ti54 rfl (by simp [(Vec.zero 4).2]) (hs.cells (i := 1) rfl)), g0, ⟨([Value.int .i64 2]) ++ (((Vec.zero 4).1.map (Value.int .u64)) ++ ([Value.slice none 0 0])), rfl, (tT_Regex_iff.2 ⟨[Value.int .i64 2], (Vec.zero 4).1.map (Value.int .u64), [Value.slice none 0 0], rfl, rfl, rfl, ⟨_, rfl, RdS.nil⟩⟩)⟩, hs.ext⟩
  ·refine WP_false rfl hc31 <| WP_seq <| WP_region <| O (r_eql rfl rfl) rfl <| O (r_assign (v := Value.bool ((xv7.length : Int) == 1)) rfl) rfl <| OW_nil ?_
   rcases condS hM with ⟨hc32, hM⟩ | ⟨hc32, hM⟩
   ·refine WP_true rfl hc32 <| WP_seq <| WP_region <| O (r_move (v := v26) rfl) rfl ?_
    obtain ⟨e13, he13, hM⟩ := bindS hM
    obtain ⟨b26, cb26, hvb26, cs49, hcs49, hcb26⟩ := hs.rowEl (i := 0) rfl hrelxs21 he13
    obtain ⟨cs50, cs51, cs52, rfl, hcs50, hcs51, hcs52⟩ := tT_Regex_iff.1 hcs49
    have hcs50 : cs50 = _ := hcs50; subst hcs50
    have hcs51 : cs51 = _ := hcs51; subst hcs51
    obtain ⟨v51, rfl, hRv51⟩ := hcs52
    refine O (r_idxSl Try.underlying52 ti54 (v := v26) rfl hvb26 rfl (idxL_some he13).1 (idxL_some he13).2.1) rfl <| O (r_loadEl (cs := ([Value.int .i64 e13.Kind]) ++ ((e13.Set.1.map (Value.int .u64)) ++ ([v51]))) ti54 rfl (by simp [e13.Set.2]) (.inl rfl) (hcb26 _ (hs.at (i := 0) rfl)) (v := Value.agg (List.toArray (α := Value) (([Value.int .i64 e13.Kind]) ++ ((e13.Set.1.map (Value.int .u64)) ++ ([v51]))))) rfl) rfl <| OW_storeAll ti54 hs (i := 1) rfl rfl (v := Value.agg (List.toArray (α := Value) (([Value.int .i64 e13.Kind]) ++ ((e13.Set.1.map (Value.int .u64)) ++ ([v51]))))) rfl (vs := ([Value.int .i64 e13.Kind]) ++ ((e13.Set.1.map (Value.int .u64)) ++ ([v51]))) rfl (one_append (one_cons rfl one_nil) (one_append vec_one (one_cons (by obtain ⟨_, _, h9⟩ := hRv51.shape; rw [h9]; rfl) one_nil))) (by simp [e13.Set.2]) (by simp [e13.Set.2, (Vec.zero 4).2]) ?_
    intro wv63 hs
    refine OW_nil <| WP_ret ?_
    obtain rfl := Option.some.inj hM
    refine FL_nil hds ?_
    exact ⟨_, res1 Try.results33 (rv_cells (vs := ([Value.int .i64 e13.Kind]) ++ ((e13.Set.1.map (Value.int .u64)) ++ ([v51]))) ti54 rfl (by simp [e13.Set.2]) (hs.cells (i := 1) rfl)), g0, ⟨([Value.int .i64 e13.Kind]) ++ ((e13.Set.1.map (Value.int .u64)) ++ ([v51])), rfl, (tT_Regex_iff.2 ⟨[Value.int .i64 e13.Kind], e13.Set.1.map (Value.int .u64), [v51], rfl, rfl, rfl, ⟨_, rfl, hRv51⟩⟩)⟩, hs.ext⟩
   ·refine WP_false rfl hc32 <| WP_skip <| WP_seq <| WP_region <| O (r_move (v := v26) rfl) rfl ?_
    have ho1 := one_of_shape (hs.rowShape (i := 0) rfl)
    refine O (r_build (vs := [(0, Value.int .i64 4), (2, v26)]) (cs := ([Value.int .i64 4]) ++ (((Vec.zero 4).1.map (Value.int .u64)) ++ ([v26]))) rfl (built_fill [(0, 1), (1, 4), (5, 1)] (([Value.int .i64 0]) ++ (((Vec.zero 4).1.map (Value.int .u64)) ++ ([Value.slice none 0 0]))) (fun _ => by kernel_rfl) (fill_step ([]) ([Value.int .i64 0]) (((Vec.zero 4).1.map (Value.int .u64)) ++ ([Value.slice none 0 0])) ([Value.int .i64 4]) rfl (by simp) rfl rfl rfl rfl <| fill_step (([Value.int .i64 4]) ++ ((Vec.zero 4).1.map (Value.int .u64))) ([Value.slice none 0 0]) ([]) ([v26]) rfl (by simp) (cells_one ho1) (by simp [(Vec.zero 4).2]) rfl rfl <| fill_done))) rfl <| OW_storeAll ti54 hs (i := 1) rfl rfl (v := Value.agg (List.toArray (α := Value) (([Value.int .i64 4]) ++ (((Vec.zero 4).1.map (Value.int .u64)) ++ ([v26]))))) rfl (vs := ([Value.int .i64 4]) ++ (((Vec.zero 4).1.map (Value.int .u64)) ++ ([v26]))) rfl (one_append (one_cons rfl one_nil) (one_append vec_one (one_cons (by obtain ⟨_, _, h9⟩ := hs.rowShape (i := 0) rfl; rw [h9]; rfl) one_nil))) (by simp [(Vec.zero 4).2]) (by simp [(Vec.zero 4).2, (Vec.zero 4).2]) ?_
    intro wv64 hs
    refine OW_nil <| WP_ret ?_
    obtain rfl := Option.some.inj hM
    obtain ⟨gg1, hlegg1, hRgg1, hs⟩ := hs.relRow (i := 0) rfl hrelxs21
    refine FL_nil hds ?_
    exact ⟨_, res1 Try.results33 (rv_cells (vs := ([Value.int .i64 4]) ++ (((Vec.zero 4).1.map (Value.int .u64)) ++ ([v26]))) ti54 rfl (by simp [(Vec.zero 4).2]) (hs.cells (i := 0) rfl)), gg1, ⟨([Value.int .i64 4]) ++ (((Vec.zero 4).1.map (Value.int .u64)) ++ ([v26])), rfl, (tT_Regex_iff.2 ⟨[Value.int .i64 4], (Vec.zero 4).1.map (Value.int .u64), [v26], rfl, rfl, rfl, ⟨_, rfl, hRgg1⟩⟩)⟩, hs.ext⟩


end Go.Proofs.Ytjdmfabmacdpgaa
