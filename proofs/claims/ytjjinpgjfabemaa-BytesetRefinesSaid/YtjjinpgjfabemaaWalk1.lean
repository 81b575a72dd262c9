/- The walks: what each function does is what its model says. Printed by a program of my own. -/
import Derived.Test.YtjjinpgjfabemaaTyp
set_option linter.unusedVariables false
namespace Go.Proofs.Ytjjinpgjfabemaa
open Go.Lx Go.RowKit
set_option maxRecDepth 100000 in
theorem byteset_Of_ok {s1 : Str} {r : (Vec 4)} (hM : M.byteset_Of s1 = some r) {g0 : Hp} {w0 : World} (hi : Imm g0 w0) :
    CallsV Try.prog 9 #[encS s1] w0 (fun v w' => ∃ g', (VRd (tVec 4 .u64) true g' v r) ∧ Ext g0 w0 g' w') := by
  unfold M.byteset_Of at hM
  have hs := Sep.start hi
  refine calls_of_WP (args := [encS s1]) Try.func9 rfl Try.ntmps9 rfl ?_
  refine WP_seq ?_
  refine WP_region ?_
  refine OW_alloc ti25 hs (zs := (Vec.zero 4).1.map (.int .u64)) rfl rfl ?_
  intro b1 wv1 hs
  refine OW_nil ?_
  refine WP_seq ?_
  refine WP_region ?_
  refine OW_alloc ti25 hs (zs := (Vec.zero 4).1.map (.int .u64)) rfl rfl ?_
  intro b2 wv2 hs
  refine OW_nil ?_
  obtain ⟨xv10, hx1, hKhx1⟩ := bindS hM
  refine WP_cut (fun E w => E 2 = .pointer (some ⟨b1, 0, none⟩) ∧ E 3 = .pointer (some ⟨b2, 0, none⟩) ∧ Go.Lx.Sep g0 w0 g0 w [Go.Lx.box b2 25 (xv10.1.map (.int .u64)), Go.Lx.box b1 25 ((Vec.zero 4).1.map (.int .u64))]) ?_ ?_
  · have hM := hx1
    have hag0 := Hle.refl g0
    refine WP_seq ?_
    refine WP_region ?_
    refine O (r_move (v := encS s1) rfl) rfl ?_
    refine O (r_lenStr Try.underlying9 rfl) rfl ?_
    refine O (r_move (v := .int .i64 0) rfl) rfl ?_
    refine OW_nil ?_
    refine WP_block ?_
    refine WP_loop (fun (st9 : (Vec 4) × Int) E w => match st9 with | (xv14, xv15) => E 0 = encS s1 ∧ E 2 = .pointer (some ⟨b1, 0, none⟩) ∧ E 3 = .pointer (some ⟨b2, 0, none⟩) ∧ E 6 = .int .i64 (s1.length : Int) ∧ E 7 = .int .i64 xv15 ∧ Go.Lx.Sep g0 w0 g0 w [Go.Lx.box b2 25 (xv14.1.map (.int .u64)), Go.Lx.box b1 25 ((Vec.zero 4).1.map (.int .u64))]) hM ⟨rfl, rfl, rfl, rfl, rfl, hs⟩ ?_
    clear hs hM
    rintro ⟨xv14, xv15⟩ o2 E w hM ⟨hE0, hE2, hE3, hE6, hE7, hs⟩
    obtain ⟨E, rfl⟩ := open1 (E := E) hE0
    obtain ⟨E, rfl⟩ := open1 (E := E) hE2
    obtain ⟨E, rfl⟩ := open1 (E := E) hE3
    obtain ⟨E, rfl⟩ := open1 (E := E) hE6
    obtain ⟨E, rfl⟩ := open1 (E := E) hE7
    refine WP_seq ?_
    refine WP_region ?_
    refine O (r_lss rfl rfl) rfl ?_
    refine OW_nil ?_
    refine WP_seq ?_
    rcases condS hM with ⟨hc6, hM⟩ | ⟨hc6, hM⟩
    · refine WP_true rfl hc6 ?_
      refine WP_skip ?_
      refine WP_seq ?_
      refine WP_block ?_
      refine WP_seq ?_
      refine WP_region ?_
      refine O (r_move (v := .int .i64 xv15) rfl) rfl ?_
      refine O (r_assign (v := .int .i64 xv15) rfl) rfl ?_
      refine OW_nil ?_
      refine WP_drawTail 13 mo (by decide +kernel) ?_
      have hs := hs.drew
      refine S (r_move (v := encS s1) rfl) rfl ?_
      refine S (r_move (v := .int .i64 xv15) rfl) rfl ?_
      obtain ⟨c11, hc11, hM⟩ := bindS hM
      refine S (r_idxStr Try.underlying9 rfl rfl hc11) rfl ?_
      obtain ⟨t21, ht21, hM⟩ := bindS hM
      refine S (r_quoM rfl rfl ht21) rfl ?_
      obtain ⟨c12, hc12, hM⟩ := bindS hM
      refine S (r_idxArr Try.underlying25 ti23 rfl rfl (vget_some hc12).1 (vget_some hc12).2.1) rfl ?_
      refine S (r_load ti23 rfl (hs.cell (i := 0) rfl (vget_cell hc12))) rfl ?_
      refine S (r_move (v := encS s1) rfl) rfl ?_
      refine S (r_move (v := .int .i64 xv15) rfl) rfl ?_
      refine S (r_idxStr Try.underlying9 rfl rfl hc11) rfl ?_
      obtain ⟨t22, ht22, hM⟩ := bindS hM
      refine S (r_remM rfl rfl ht22) rfl ?_
      obtain ⟨t23, ht23, hM⟩ := bindS hM
      refine S (r_shlM rfl rfl ht23) rfl ?_
      refine S (r_or rfl rfl) rfl ?_
      obtain ⟨xv19, hxv19, hM⟩ := bindS hM
      refine S (r_idxArr Try.underlying25 ti23 rfl rfl (vset_some hxv19).1 (vset_some hxv19).2.1) rfl ?_
      refine SW_nil ?_
      refine OW_store1 ti23 hs (i := 0) rfl rfl (v := .int .u64 (bits .or .u64 c12 t23)) rfl rfl (vset_lt hxv19) ?_
      intro wv8 hs
      replace hs : Go.Lx.Sep g0 w0 g0 wv8 [Go.Lx.box b2 25 (xv19.1.map (.int .u64)), Go.Lx.box b1 25 ((Vec.zero 4).1.map (.int .u64))] := by have h9 := hs; simp only [List.set] at h9; rw [vset_cells hxv19] at h9; exact h9
      refine OW_nil ?_
      refine WP_region ?_
      obtain ⟨t24, ht24, hM⟩ := bindS hM
      refine O (r_addM rfl rfl ht24) rfl ?_
      refine O (r_move (v := .int .i64 t24) rfl) rfl ?_
      refine OW_nil ?_
      obtain rfl := Option.some.inj hM
      exact ⟨rfl, rfl, rfl, rfl, rfl, hs⟩
    · refine WP_false rfl hc6 ?_
      refine WP_exit ?_
      obtain rfl := Option.some.inj hM
      refine fun hr => ?_
      have hM := congrArg some hr
      obtain rfl := Option.some.inj hM
      exact ⟨rfl, rfl, hs⟩
  · clear hs
    rintro E w ⟨hE2, hE3, hs⟩
    have hM := hKhx1
    obtain ⟨E, rfl⟩ := open1 (E := E) hE2
    obtain ⟨E, rfl⟩ := open1 (E := E) hE3
    refine WP_seq ?_
    refine WP_region ?_
    refine O (r_loadN (cs := xv10.1.map (.int .u64)) ti25 rfl (by simp [xv10.2]) (hs.cells (i := 0) rfl)) rfl ?_
    refine OW_storeAll ti25 hs (i := 1) rfl rfl (v := encV .u64 xv10) rfl (vs := xv10.1.map (.int .u64)) rfl vec_one (by simp [xv10.2]) (by simp [xv10.2, (Vec.zero 4).2]) ?_
    intro wv9 hs
    refine OW_nil ?_
    refine WP_ret ?_
    obtain rfl := Option.some.inj hM
    exact ⟨_, res1 Try.results9 (rv_cells (vs := xv10.1.map (.int .u64)) ti25 rfl (by simp [xv10.2]) (hs.cells (i := 1) rfl)), g0, ⟨xv10.1.map (.int .u64), rfl, rfl⟩, hs.ext⟩

set_option maxRecDepth 100000 in
theorem byteset_Range_ok {lo1 : Int} {hiv1 : Int} {r : (Vec 4)} (hM : M.byteset_Range lo1 hiv1 = some r) {g0 : Hp} {w0 : World} (hi : Imm g0 w0) :
    CallsV Try.prog 10 #[.int .u8 lo1, .int .u8 hiv1] w0 (fun v w' => ∃ g', (VRd (tVec 4 .u64) true g' v r) ∧ Ext g0 w0 g' w') := by
  unfold M.byteset_Range at hM
  have hs := Sep.start hi
  refine calls_of_WP (args := [.int .u8 lo1, .int .u8 hiv1]) Try.func10 rfl Try.ntmps10 rfl ?_
  refine WP_seq ?_
  refine WP_region ?_
  refine OW_alloc ti25 hs (zs := (Vec.zero 4).1.map (.int .u64)) rfl rfl ?_
  intro b1 wv1 hs
  refine OW_nil ?_
  refine WP_seq ?_
  refine WP_region ?_
  refine OW_alloc ti25 hs (zs := (Vec.zero 4).1.map (.int .u64)) rfl rfl ?_
  intro b2 wv2 hs
  refine OW_nil ?_
  obtain ⟨xv7, hx1, hKhx1⟩ := bindS hM
  refine WP_cut (fun E w => E 4 = .pointer (some ⟨b1, 0, none⟩) ∧ E 5 = .pointer (some ⟨b2, 0, none⟩) ∧ Go.Lx.Sep g0 w0 g0 w [Go.Lx.box b2 25 (xv7.1.map (.int .u64)), Go.Lx.box b1 25 ((Vec.zero 4).1.map (.int .u64))]) ?_ ?_
  · have hM := hx1
    have hag0 := Hle.refl g0
    refine WP_seq ?_
    refine WP_region ?_
    refine O (r_move (v := .int .u8 lo1) rfl) rfl ?_
    refine O (r_conv Try.underlying5 Try.underlying3 rfl) rfl ?_
    refine O (r_assign (v := .int .i64 (IntKind.i64.wrap lo1)) rfl) rfl ?_
    refine OW_nil ?_
    refine WP_block ?_
    refine WP_loop (fun (st9 : (Vec 4) × Int) E w => match st9 with | (xv10, b7) => E 1 = .int .u8 hiv1 ∧ E 4 = .pointer (some ⟨b1, 0, none⟩) ∧ E 5 = .pointer (some ⟨b2, 0, none⟩) ∧ E 6 = .int .i64 b7 ∧ Go.Lx.Sep g0 w0 g0 w [Go.Lx.box b2 25 (xv10.1.map (.int .u64)), Go.Lx.box b1 25 ((Vec.zero 4).1.map (.int .u64))]) hM ⟨rfl, rfl, rfl, rfl, hs⟩ ?_
    clear hs hM
    rintro ⟨xv10, b7⟩ o2 E w hM ⟨hE1, hE4, hE5, hE6, hs⟩
    obtain ⟨E, rfl⟩ := open1 (E := E) hE1
    obtain ⟨E, rfl⟩ := open1 (E := E) hE4
    obtain ⟨E, rfl⟩ := open1 (E := E) hE5
    obtain ⟨E, rfl⟩ := open1 (E := E) hE6
    refine WP_seq ?_
    refine WP_seq ?_
    refine WP_region ?_
    refine O (r_move (v := .int .i64 b7) rfl) rfl ?_
    refine O (r_move (v := .int .u8 hiv1) rfl) rfl ?_
    refine O (r_conv Try.underlying5 Try.underlying3 rfl) rfl ?_
    refine O (r_leq rfl rfl) rfl ?_
    refine OW_nil ?_
    rcases condS hM with ⟨hc6, hM⟩ | ⟨hc6, hM⟩
    · refine WP_true rfl hc6 ?_
      refine WP_skip ?_
      refine WP_seq ?_
      refine WP_block ?_
      refine WP_drawTail 9 mo (by decide +kernel) ?_
      have hs := hs.drew
      refine S (r_move (v := .int .i64 b7) rfl) rfl ?_
      obtain ⟨t21, ht21, hM⟩ := bindS hM
      refine S (r_quoM rfl rfl ht21) rfl ?_
      obtain ⟨c6, hc6, hM⟩ := bindS hM
      refine S (r_idxArr Try.underlying25 ti23 rfl rfl (vget_some hc6).1 (vget_some hc6).2.1) rfl ?_
      refine S (r_load ti23 rfl (hs.cell (i := 0) rfl (vget_cell hc6))) rfl ?_
      refine S (r_move (v := .int .i64 b7) rfl) rfl ?_
      obtain ⟨t22, ht22, hM⟩ := bindS hM
      refine S (r_remM rfl rfl ht22) rfl ?_
      obtain ⟨t23, ht23, hM⟩ := bindS hM
      refine S (r_shlM rfl rfl ht23) rfl ?_
      refine S (r_or rfl rfl) rfl ?_
      obtain ⟨xv13, hxv13, hM⟩ := bindS hM
      refine S (r_idxArr Try.underlying25 ti23 rfl rfl (vset_some hxv13).1 (vset_some hxv13).2.1) rfl ?_
      refine SW_nil ?_
      refine OW_store1 ti23 hs (i := 0) rfl rfl (v := .int .u64 (bits .or .u64 c6 t23)) rfl rfl (vset_lt hxv13) ?_
      intro wv8 hs
      replace hs : Go.Lx.Sep g0 w0 g0 wv8 [Go.Lx.box b2 25 (xv13.1.map (.int .u64)), Go.Lx.box b1 25 ((Vec.zero 4).1.map (.int .u64))] := by have h9 := hs; simp only [List.set] at h9; rw [vset_cells hxv13] at h9; exact h9
      refine OW_nil ?_
      refine WP_region ?_
      refine O (r_move (v := .int .i64 b7) rfl) rfl ?_
      obtain ⟨t24, ht24, hM⟩ := bindS hM
      refine O (r_addM rfl rfl ht24) rfl ?_
      refine O (r_assign (v := .int .i64 t24) rfl) rfl ?_
      refine OW_nil ?_
      obtain rfl := Option.some.inj hM
      exact ⟨rfl, rfl, rfl, rfl, hs⟩
    · refine WP_false rfl hc6 ?_
      refine WP_exit ?_
      obtain rfl := Option.some.inj hM
      refine fun hr => ?_
      have hM := congrArg some hr
      obtain rfl := Option.some.inj hM
      exact ⟨rfl, rfl, hs⟩
  · clear hs
    rintro E w ⟨hE4, hE5, hs⟩
    have hM := hKhx1
    obtain ⟨E, rfl⟩ := open1 (E := E) hE4
    obtain ⟨E, rfl⟩ := open1 (E := E) hE5
    refine WP_seq ?_
    refine WP_region ?_
    refine O (r_loadN (cs := xv7.1.map (.int .u64)) ti25 rfl (by simp [xv7.2]) (hs.cells (i := 0) rfl)) rfl ?_
    refine OW_storeAll ti25 hs (i := 1) rfl rfl (v := encV .u64 xv7) rfl (vs := xv7.1.map (.int .u64)) rfl vec_one (by simp [xv7.2]) (by simp [xv7.2, (Vec.zero 4).2]) ?_
    intro wv9 hs
    refine OW_nil ?_
    refine WP_ret ?_
    obtain rfl := Option.some.inj hM
    exact ⟨_, res1 Try.results10 (rv_cells (vs := xv7.1.map (.int .u64)) ti25 rfl (by simp [xv7.2]) (hs.cells (i := 1) rfl)), g0, ⟨xv7.1.map (.int .u64), rfl, rfl⟩, hs.ext⟩

set_option maxRecDepth 100000 in
theorem byteset_Has_ok {s1 : (Vec 4)} {b1 : Int} {r : Bool} (hM : M.byteset_Has s1 b1 = some r) {g0 : Hp} {w0 : World} (hi : Imm g0 w0) :
    CallsV Try.prog 13 #[encV .u64 s1, .int .u8 b1] w0 (fun v w' => ∃ g', (VRd tBool false g' v r) ∧ Ext g0 w0 g' w') := by
  unfold M.byteset_Has at hM
  have hs := Sep.start hi
  refine calls_of_WP (args := [encV .u64 s1, .int .u8 b1]) Try.func13 rfl Try.ntmps13 rfl ?_
  refine WP_seq ?_
  refine WP_region ?_
  refine OW_box (v := encV .u64 s1) rfl hs (zs := s1.1.map (.int .u64)) rfl rfl ?_
  intro b2 wv1 hs
  refine O (r_assign (v := .bool false) rfl) rfl ?_
  refine OW_nil ?_
  refine WP_seq ?_
  refine WP_region ?_
  refine O (r_move (v := .int .u8 b1) rfl) rfl ?_
  obtain ⟨t1, ht1, hM⟩ := bindS hM
  refine O (r_quoM rfl rfl ht1) rfl ?_
  obtain ⟨c1, hc1, hM⟩ := bindS hM
  refine O (r_idxArr Try.underlying25 ti23 rfl rfl (vget_some hc1).1 (vget_some hc1).2.1) rfl ?_
  refine O (r_load ti23 rfl (hs.cell (i := 0) rfl (vget_cell hc1))) rfl ?_
  refine O (r_move (v := .int .u8 b1) rfl) rfl ?_
  obtain ⟨t2, ht2, hM⟩ := bindS hM
  refine O (r_remM rfl rfl ht2) rfl ?_
  obtain ⟨t3, ht3, hM⟩ := bindS hM
  refine O (r_shrM rfl rfl ht3) rfl ?_
  refine O (r_and rfl rfl) rfl ?_
  refine O (r_eql rfl rfl) rfl ?_
  refine O (r_assign (v := .bool ((bits .and .u64 t3 1) == 1)) rfl) rfl ?_
  refine OW_nil ?_
  refine WP_ret ?_
  obtain rfl := Option.some.inj hM
  exact ⟨_, res1 Try.results13 (rv_tmp (v := .bool ((bits .and .u64 t3 1) == 1)) rfl), g0, ⟨[.bool ((bits .and .u64 t3 1) == 1)], rfl, rfl⟩, hs.ext⟩

set_option maxRecDepth 100000 in
theorem ref07_Has_ok {s1 : (Vec 4)} {b1 : Int} {r : Bool} (hM : M.ref07_Has s1 b1 = some r) {g0 : Hp} {w0 : World} (hi : Imm g0 w0) :
    CallsV Try.prog 14 #[encV .u64 s1, .int .u8 b1] w0 (fun v w' => ∃ g', (VRd tBool false g' v r) ∧ Ext g0 w0 g' w') := by
  unfold M.ref07_Has at hM
  have hs := Sep.start hi
  refine calls_of_WP (args := [encV .u64 s1, .int .u8 b1]) Try.func14 rfl Try.ntmps14 rfl ?_
  refine WP_seq ?_
  refine WP_region ?_
  refine OW_box (v := encV .u64 s1) rfl hs (zs := s1.1.map (.int .u64)) rfl rfl ?_
  intro b2 wv1 hs
  refine O (r_assign (v := .bool false) rfl) rfl ?_
  refine OW_nil ?_
  refine WP_seq ?_
  refine WP_region ?_
  refine O (r_move (v := .int .u8 b1) rfl) rfl ?_
  obtain ⟨t1, ht1, hM⟩ := bindS hM
  refine O (r_quoM rfl rfl ht1) rfl ?_
  obtain ⟨c1, hc1, hM⟩ := bindS hM
  refine O (r_idxArr Try.underlying25 ti23 rfl rfl (vget_some hc1).1 (vget_some hc1).2.1) rfl ?_
  refine O (r_load ti23 rfl (hs.cell (i := 0) rfl (vget_cell hc1))) rfl ?_
  refine O (r_move (v := .int .u8 b1) rfl) rfl ?_
  obtain ⟨t2, ht2, hM⟩ := bindS hM
  refine O (r_remM rfl rfl ht2) rfl ?_
  obtain ⟨t3, ht3, hM⟩ := bindS hM
  refine O (r_shrM rfl rfl ht3) rfl ?_
  refine O (r_and rfl rfl) rfl ?_
  refine O (r_eql rfl rfl) rfl ?_
  refine O (r_assign (v := .bool ((bits .and .u64 t3 1) == 1)) rfl) rfl ?_
  refine OW_nil ?_
  refine WP_ret ?_
  obtain rfl := Option.some.inj hM
  exact ⟨_, res1 Try.results14 (rv_tmp (v := .bool ((bits .and .u64 t3 1) == 1)) rfl), g0, ⟨[.bool ((bits .and .u64 t3 1) == 1)], rfl, rfl⟩, hs.ext⟩

set_option maxRecDepth 100000 in
theorem ref07_with_ok {s1 : (Vec 4)} {b1 : Int} {r : (Vec 4)} (hM : M.ref07_with s1 b1 = some r) {g0 : Hp} {w0 : World} (hi : Imm g0 w0) :
    CallsV Try.prog 26 #[encV .u64 s1, .int .u8 b1] w0 (fun v w' => ∃ g', (VRd (tVec 4 .u64) true g' v r) ∧ Ext g0 w0 g' w') := by
  unfold M.ref07_with at hM
  have hs := Sep.start hi
  refine calls_of_WP (args := [encV .u64 s1, .int .u8 b1]) Try.func26 rfl Try.ntmps26 rfl ?_
  refine WP_seq ?_
  refine WP_region ?_
  refine OW_box (v := encV .u64 s1) rfl hs (zs := s1.1.map (.int .u64)) rfl rfl ?_
  intro b2 wv1 hs
  refine OW_alloc ti25 hs (zs := (Vec.zero 4).1.map (.int .u64)) rfl rfl ?_
  intro b3 wv2 hs
  refine OW_nil ?_
  refine WP_seq ?_
  refine WP_region ?_
  refine O (r_move (v := .int .u8 b1) rfl) rfl ?_
  obtain ⟨t1, ht1, hM⟩ := bindS hM
  refine O (r_quoM rfl rfl ht1) rfl ?_
  refine O (r_move (v := .int .u8 b1) rfl) rfl ?_
  refine O (r_quoM rfl rfl ht1) rfl ?_
  obtain ⟨c1, hc1, hM⟩ := bindS hM
  refine O (r_idxArr Try.underlying25 ti23 rfl rfl (vget_some hc1).1 (vget_some hc1).2.1) rfl ?_
  refine O (r_load ti23 rfl (hs.cell (i := 1) rfl (vget_cell hc1))) rfl ?_
  refine O (r_move (v := .int .u8 b1) rfl) rfl ?_
  obtain ⟨t2, ht2, hM⟩ := bindS hM
  refine O (r_remM rfl rfl ht2) rfl ?_
  obtain ⟨t3, ht3, hM⟩ := bindS hM
  refine O (r_shlM rfl rfl ht3) rfl ?_
  refine O (r_or rfl rfl) rfl ?_
  obtain ⟨s2, hs2, hM⟩ := bindS hM
  refine O (r_idxArr Try.underlying25 ti23 rfl rfl (vset_some hs2).1 (vset_some hs2).2.1) rfl ?_
  refine OW_store1 ti23 hs (i := 1) rfl rfl (v := .int .u64 (bits .or .u64 c1 t3)) rfl rfl (vset_lt hs2) ?_
  intro wv3 hs
  replace hs : Go.Lx.Sep g0 w0 g0 wv3 [Go.Lx.box b3 25 ((Vec.zero 4).1.map (.int .u64)), Go.Lx.box b2 25 (s2.1.map (.int .u64))] := by have h9 := hs; simp only [List.set] at h9; rw [vset_cells hs2] at h9; exact h9
  refine OW_nil ?_
  refine WP_seq ?_
  refine WP_region ?_
  refine O (r_loadN (cs := s2.1.map (.int .u64)) ti25 rfl (by simp [s2.2]) (hs.cells (i := 1) rfl)) rfl ?_
  refine OW_storeAll ti25 hs (i := 0) rfl rfl (v := encV .u64 s2) rfl (vs := s2.1.map (.int .u64)) rfl vec_one (by simp [s2.2]) (by simp [s2.2, (Vec.zero 4).2]) ?_
  intro wv4 hs
  refine OW_nil ?_
  refine WP_ret ?_
  obtain rfl := Option.some.inj hM
  exact ⟨_, res1 Try.results26 (rv_cells (vs := s2.1.map (.int .u64)) ti25 rfl (by simp [s2.2]) (hs.cells (i := 0) rfl)), g0, ⟨s2.1.map (.int .u64), rfl, rfl⟩, hs.ext⟩

set_option maxRecDepth 100000 in
theorem ref07_Of_ok {xv1 : Str} {r : (Vec 4)} (hM : M.ref07_Of xv1 = some r) {g0 : Hp} {w0 : World} (hi : Imm g0 w0) :
    CallsV Try.prog 11 #[encS xv1] w0 (fun v w' => ∃ g', (VRd (tVec 4 .u64) true g' v r) ∧ Ext g0 w0 g' w') := by
  unfold M.ref07_Of at hM
  have hs := Sep.start hi
  refine calls_of_WP (args := [encS xv1]) Try.func11 rfl Try.ntmps11 rfl ?_
  refine WP_seq ?_
  refine WP_region ?_
  refine OW_alloc ti25 hs (zs := (Vec.zero 4).1.map (.int .u64)) rfl rfl ?_
  intro b1 wv1 hs
  refine OW_nil ?_
  refine WP_seq ?_
  refine WP_region ?_
  refine OW_alloc ti25 hs (zs := (Vec.zero 4).1.map (.int .u64)) rfl rfl ?_
  intro b2 wv2 hs
  refine OW_nil ?_
  obtain ⟨s4, hx1, hKhx1⟩ := bindS hM
  refine WP_cut (fun E w => ∃ (gg7 : Hp), E 2 = .pointer (some ⟨b1, 0, none⟩) ∧ E 3 = .pointer (some ⟨b2, 0, none⟩) ∧ Hle g0 gg7 ∧ Go.Lx.Sep g0 w0 gg7 w [Go.Lx.box b2 25 (s4.1.map (.int .u64)), Go.Lx.box b1 25 ((Vec.zero 4).1.map (.int .u64))]) ?_ ?_
  · have hM := hx1
    have hag0 := Hle.refl g0
    refine WP_seq ?_
    refine WP_region ?_
    refine O (r_assign (v := .int .i64 0) rfl) rfl ?_
    refine OW_nil ?_
    refine WP_block ?_
    refine WP_loop (fun (st9 : (Vec 4) × Int) E w => match st9 with | (s6, i5) => ∃ (gg10 : Hp), E 0 = encS xv1 ∧ E 2 = .pointer (some ⟨b1, 0, none⟩) ∧ E 3 = .pointer (some ⟨b2, 0, none⟩) ∧ E 4 = .int .i64 i5 ∧ Hle g0 gg10 ∧ Go.Lx.Sep g0 w0 gg10 w [Go.Lx.box b2 25 (s6.1.map (.int .u64)), Go.Lx.box b1 25 ((Vec.zero 4).1.map (.int .u64))]) hM ⟨g0, rfl, rfl, rfl, rfl, (Hle.refl _), hs⟩ ?_
    clear hs hM
    rintro ⟨s6, i5⟩ o2 E w hM ⟨gg10, hE0, hE2, hE3, hE4, hlegg10, hs⟩
    obtain ⟨E, rfl⟩ := open1 (E := E) hE0
    obtain ⟨E, rfl⟩ := open1 (E := E) hE2
    obtain ⟨E, rfl⟩ := open1 (E := E) hE3
    obtain ⟨E, rfl⟩ := open1 (E := E) hE4
    replace hag0 := hag0.trans hlegg10
    have hagg10 := Hle.refl gg10
    refine WP_seq ?_
    refine WP_seq ?_
    refine WP_region ?_
    refine O (r_move (v := .int .i64 i5) rfl) rfl ?_
    refine O (r_move (v := encS xv1) rfl) rfl ?_
    refine O (r_lenStr Try.underlying9 rfl) rfl ?_
    refine O (r_lss rfl rfl) rfl ?_
    refine OW_nil ?_
    rcases condS hM with ⟨hc6, hM⟩ | ⟨hc6, hM⟩
    · refine WP_true rfl hc6 ?_
      refine WP_skip ?_
      refine WP_seq ?_
      refine WP_block ?_
      refine WP_drawTail 4 mo (by decide +kernel) ?_
      have hs := hs.drew
      refine S (r_loadN (cs := s6.1.map (.int .u64)) ti25 rfl (by simp [s6.2]) (hs.cells (i := 0) rfl)) rfl ?_
      refine S (r_move (v := encS xv1) rfl) rfl ?_
      refine S (r_move (v := .int .i64 i5) rfl) rfl ?_
      obtain ⟨c6, hc6, hM⟩ := bindS hM
      refine S (r_idxStr Try.underlying9 rfl rfl hc6) rfl ?_
      refine SW_nil ?_
      obtain ⟨rv6, hrv6, hM⟩ := bindS hM
      refine C [encV .u64 s6, .int .u8 c6] cf26 rfl (ref07_with_ok hrv6 hs.imm) rfl ?_
      rintro v6 wv13 ⟨gg13, hvv6, hegg13⟩
      have hlegg13 := hegg13.le hs.imm
      replace hs := hs.call hegg13
      replace hlegg10 := hlegg10.trans hlegg13
      replace hagg10 := hagg10.trans hlegg13
      obtain ⟨cs6, rfl, hcs6⟩ := hvv6
      have hcs6 : cs6 = _ := hcs6; subst hcs6
      refine OW_storeAll ti25 hs (i := 0) rfl rfl (v := encV .u64 rv6) rfl (vs := rv6.1.map (.int .u64)) rfl vec_one (by simp [rv6.2]) (by simp [rv6.2, s6.2]) ?_
      intro wv14 hs
      refine OW_nil ?_
      refine WP_region ?_
      refine O (r_move (v := .int .i64 i5) rfl) rfl ?_
      obtain ⟨t6, ht6, hM⟩ := bindS hM
      refine O (r_addM rfl rfl ht6) rfl ?_
      refine O (r_assign (v := .int .i64 t6) rfl) rfl ?_
      refine OW_nil ?_
      obtain rfl := Option.some.inj hM
      exact ⟨gg13, rfl, rfl, rfl, rfl, hlegg10, hs⟩
    · refine WP_false rfl hc6 ?_
      refine WP_exit ?_
      obtain rfl := Option.some.inj hM
      refine fun hr => ?_
      have hM := congrArg some hr
      obtain rfl := Option.some.inj hM
      exact ⟨gg10, rfl, rfl, hlegg10, hs⟩
  · clear hs
    rintro E w ⟨gg7, hE2, hE3, hlegg7, hs⟩
    have hM := hKhx1
    obtain ⟨E, rfl⟩ := open1 (E := E) hE2
    obtain ⟨E, rfl⟩ := open1 (E := E) hE3
    refine WP_seq ?_
    refine WP_region ?_
    refine O (r_loadN (cs := s4.1.map (.int .u64)) ti25 rfl (by simp [s4.2]) (hs.cells (i := 0) rfl)) rfl ?_
    refine OW_storeAll ti25 hs (i := 1) rfl rfl (v := encV .u64 s4) rfl (vs := s4.1.map (.int .u64)) rfl vec_one (by simp [s4.2]) (by simp [s4.2, (Vec.zero 4).2]) ?_
    intro wv15 hs
    refine OW_nil ?_
    refine WP_ret ?_
    obtain rfl := Option.some.inj hM
    exact ⟨_, res1 Try.results11 (rv_cells (vs := s4.1.map (.int .u64)) ti25 rfl (by simp [s4.2]) (hs.cells (i := 1) rfl)), gg7, ⟨s4.1.map (.int .u64), rfl, rfl⟩, hs.ext⟩

set_option maxRecDepth 100000 in
theorem ref07_Range_ok {lo1 : Int} {hiv1 : Int} {r : (Vec 4)} (hM : M.ref07_Range lo1 hiv1 = some r) {g0 : Hp} {w0 : World} (hi : Imm g0 w0) :
    CallsV Try.prog 12 #[.int .u8 lo1, .int .u8 hiv1] w0 (fun v w' => ∃ g', (VRd (tVec 4 .u64) true g' v r) ∧ Ext g0 w0 g' w') := by
  unfold M.ref07_Range at hM
  have hs := Sep.start hi
  refine calls_of_WP (args := [.int .u8 lo1, .int .u8 hiv1]) Try.func12 rfl Try.ntmps12 rfl ?_
  refine WP_seq ?_
  refine WP_region ?_
  refine OW_alloc ti25 hs (zs := (Vec.zero 4).1.map (.int .u64)) rfl rfl ?_
  intro b1 wv1 hs
  refine OW_nil ?_
  refine WP_seq ?_
  refine WP_region ?_
  refine OW_alloc ti25 hs (zs := (Vec.zero 4).1.map (.int .u64)) rfl rfl ?_
  intro b2 wv2 hs
  refine OW_nil ?_
  obtain ⟨s4, hx1, hKhx1⟩ := bindS hM
  refine WP_cut (fun E w => ∃ (gg7 : Hp), E 4 = .pointer (some ⟨b1, 0, none⟩) ∧ E 5 = .pointer (some ⟨b2, 0, none⟩) ∧ Hle g0 gg7 ∧ Go.Lx.Sep g0 w0 gg7 w [Go.Lx.box b2 25 (s4.1.map (.int .u64)), Go.Lx.box b1 25 ((Vec.zero 4).1.map (.int .u64))]) ?_ ?_
  · have hM := hx1
    have hag0 := Hle.refl g0
    refine WP_seq ?_
    refine WP_region ?_
    refine O (r_move (v := .int .u8 lo1) rfl) rfl ?_
    refine O (r_conv Try.underlying5 Try.underlying3 rfl) rfl ?_
    refine O (r_assign (v := .int .i64 (IntKind.i64.wrap lo1)) rfl) rfl ?_
    refine OW_nil ?_
    refine WP_block ?_
    refine WP_loop (fun (st9 : (Vec 4) × Int) E w => match st9 with | (s6, b7) => ∃ (gg10 : Hp), E 1 = .int .u8 hiv1 ∧ E 4 = .pointer (some ⟨b1, 0, none⟩) ∧ E 5 = .pointer (some ⟨b2, 0, none⟩) ∧ E 6 = .int .i64 b7 ∧ Hle g0 gg10 ∧ Go.Lx.Sep g0 w0 gg10 w [Go.Lx.box b2 25 (s6.1.map (.int .u64)), Go.Lx.box b1 25 ((Vec.zero 4).1.map (.int .u64))]) hM ⟨g0, rfl, rfl, rfl, rfl, (Hle.refl _), hs⟩ ?_
    clear hs hM
    rintro ⟨s6, b7⟩ o2 E w hM ⟨gg10, hE1, hE4, hE5, hE6, hlegg10, hs⟩
    obtain ⟨E, rfl⟩ := open1 (E := E) hE1
    obtain ⟨E, rfl⟩ := open1 (E := E) hE4
    obtain ⟨E, rfl⟩ := open1 (E := E) hE5
    obtain ⟨E, rfl⟩ := open1 (E := E) hE6
    replace hag0 := hag0.trans hlegg10
    have hagg10 := Hle.refl gg10
    refine WP_seq ?_
    refine WP_seq ?_
    refine WP_region ?_
    refine O (r_move (v := .int .i64 b7) rfl) rfl ?_
    refine O (r_move (v := .int .u8 hiv1) rfl) rfl ?_
    refine O (r_conv Try.underlying5 Try.underlying3 rfl) rfl ?_
    refine O (r_leq rfl rfl) rfl ?_
    refine OW_nil ?_
    rcases condS hM with ⟨hc6, hM⟩ | ⟨hc6, hM⟩
    · refine WP_true rfl hc6 ?_
      refine WP_skip ?_
      refine WP_seq ?_
      refine WP_block ?_
      refine WP_region ?_
      refine O (r_loadN (cs := s6.1.map (.int .u64)) ti25 rfl (by simp [s6.2]) (hs.cells (i := 0) rfl)) rfl ?_
      refine O (r_move (v := .int .i64 b7) rfl) rfl ?_
      refine O (r_conv Try.underlying3 Try.underlying5 rfl) rfl ?_
      obtain ⟨rv6, hrv6, hM⟩ := bindS hM
      refine C [encV .u64 s6, .int .u8 (IntKind.u8.wrap b7)] cf26 rfl (ref07_with_ok hrv6 hs.imm) rfl ?_
      rintro v6 wv13 ⟨gg13, hvv6, hegg13⟩
      have hlegg13 := hegg13.le hs.imm
      replace hs := hs.call hegg13
      replace hlegg10 := hlegg10.trans hlegg13
      replace hagg10 := hagg10.trans hlegg13
      obtain ⟨cs6, rfl, hcs6⟩ := hvv6
      have hcs6 : cs6 = _ := hcs6; subst hcs6
      refine OW_storeAll ti25 hs (i := 0) rfl rfl (v := encV .u64 rv6) rfl (vs := rv6.1.map (.int .u64)) rfl vec_one (by simp [rv6.2]) (by simp [rv6.2, s6.2]) ?_
      intro wv14 hs
      refine OW_nil ?_
      refine WP_region ?_
      refine O (r_move (v := .int .i64 b7) rfl) rfl ?_
      obtain ⟨t6, ht6, hM⟩ := bindS hM
      refine O (r_addM rfl rfl ht6) rfl ?_
      refine O (r_assign (v := .int .i64 t6) rfl) rfl ?_
      refine OW_nil ?_
      obtain rfl := Option.some.inj hM
      exact ⟨gg13, rfl, rfl, rfl, rfl, hlegg10, hs⟩
    · refine WP_false rfl hc6 ?_
      refine WP_exit ?_
      obtain rfl := Option.some.inj hM
      refine fun hr => ?_
      have hM := congrArg some hr
      obtain rfl := Option.some.inj hM
      exact ⟨gg10, rfl, rfl, hlegg10, hs⟩
  · clear hs
    rintro E w ⟨gg7, hE4, hE5, hlegg7, hs⟩
    have hM := hKhx1
    obtain ⟨E, rfl⟩ := open1 (E := E) hE4
    obtain ⟨E, rfl⟩ := open1 (E := E) hE5
    refine WP_seq ?_
    refine WP_region ?_
    refine O (r_loadN (cs := s4.1.map (.int .u64)) ti25 rfl (by simp [s4.2]) (hs.cells (i := 0) rfl)) rfl ?_
    refine OW_storeAll ti25 hs (i := 1) rfl rfl (v := encV .u64 s4) rfl (vs := s4.1.map (.int .u64)) rfl vec_one (by simp [s4.2]) (by simp [s4.2, (Vec.zero 4).2]) ?_
    intro wv15 hs
    refine OW_nil ?_
    refine WP_ret ?_
    obtain rfl := Option.some.inj hM
    exact ⟨_, res1 Try.results12 (rv_cells (vs := s4.1.map (.int .u64)) ti25 rfl (by simp [s4.2]) (hs.cells (i := 1) rfl)), gg7, ⟨s4.1.map (.int .u64), rfl, rfl⟩, hs.ext⟩

set_option maxRecDepth 100000 in
theorem byteset_Union_ok {a1 : (Vec 4)} {b1 : (Vec 4)} {r : (Vec 4)} (hM : M.byteset_Union a1 b1 = some r) {g0 : Hp} {w0 : World} (hi : Imm g0 w0) :
    CallsV Try.prog 18 #[encV .u64 a1, encV .u64 b1] w0 (fun v w' => ∃ g', (VRd (tVec 4 .u64) true g' v r) ∧ Ext g0 w0 g' w') := by
  unfold M.byteset_Union at hM
  have hs := Sep.start hi
  refine calls_of_WP (args := [encV .u64 a1, encV .u64 b1]) Try.func18 rfl Try.ntmps18 rfl ?_
  refine WP_seq ?_
  refine WP_region ?_
  refine OW_box (v := encV .u64 a1) rfl hs (zs := a1.1.map (.int .u64)) rfl rfl ?_
  intro b2 wv1 hs
  refine OW_box (v := encV .u64 b1) rfl hs (zs := b1.1.map (.int .u64)) rfl rfl ?_
  intro b3 wv2 hs
  refine OW_alloc ti25 hs (zs := (Vec.zero 4).1.map (.int .u64)) rfl rfl ?_
  intro b4 wv3 hs
  refine OW_nil ?_
  obtain ⟨a8, hx1, hKhx1⟩ := bindS hM
  refine WP_cut (fun E w => E 2 = .pointer (some ⟨b2, 0, none⟩) ∧ E 4 = .pointer (some ⟨b4, 0, none⟩) ∧ Go.Lx.Sep g0 w0 g0 w [Go.Lx.box b4 25 ((Vec.zero 4).1.map (.int .u64)), Go.Lx.box b2 25 (a8.1.map (.int .u64))]) ?_ ?_
  · have hM := hx1
    have hag0 := Hle.refl g0
    refine WP_seq ?_
    refine WP_region ?_
    refine O (r_move (v := .int .i64 0) rfl) rfl ?_
    refine OW_nil ?_
    refine WP_block ?_
    refine WP_loop (fun (st9 : (Vec 4) × Int) E w => match st9 with | (a11, xv5) => E 2 = .pointer (some ⟨b2, 0, none⟩) ∧ E 3 = .pointer (some ⟨b3, 0, none⟩) ∧ E 4 = .pointer (some ⟨b4, 0, none⟩) ∧ E 6 = .int .i64 xv5 ∧ Go.Lx.Sep g0 w0 g0 w [Go.Lx.box b4 25 ((Vec.zero 4).1.map (.int .u64)), Go.Lx.box b3 25 (b1.1.map (.int .u64)), Go.Lx.box b2 25 (a11.1.map (.int .u64))]) hM ⟨rfl, rfl, rfl, rfl, hs⟩ ?_
    clear hs hM
    rintro ⟨a11, xv5⟩ o2 E w hM ⟨hE2, hE3, hE4, hE6, hs⟩
    obtain ⟨E, rfl⟩ := open1 (E := E) hE2
    obtain ⟨E, rfl⟩ := open1 (E := E) hE3
    obtain ⟨E, rfl⟩ := open1 (E := E) hE4
    obtain ⟨E, rfl⟩ := open1 (E := E) hE6
    refine WP_seq ?_
    refine WP_region ?_
    refine O (r_lss rfl rfl) rfl ?_
    refine OW_nil ?_
    refine WP_seq ?_
    rcases condS hM with ⟨hc6, hM⟩ | ⟨hc6, hM⟩
    · refine WP_true rfl hc6 ?_
      refine WP_skip ?_
      refine WP_seq ?_
      refine WP_block ?_
      refine WP_seq ?_
      refine WP_region ?_
      refine O (r_move (v := .int .i64 xv5) rfl) rfl ?_
      refine O (r_assign (v := .int .i64 xv5) rfl) rfl ?_
      refine OW_nil ?_
      refine WP_drawTail 8 mo (by decide +kernel) ?_
      have hs := hs.drew
      refine S (r_move (v := .int .i64 xv5) rfl) rfl ?_
      obtain ⟨c11, hc11, hM⟩ := bindS hM
      refine S (r_idxArr Try.underlying25 ti23 rfl rfl (vget_some hc11).1 (vget_some hc11).2.1) rfl ?_
      refine S (r_load ti23 rfl (hs.cell (i := 2) rfl (vget_cell hc11))) rfl ?_
      refine S (r_move (v := .int .i64 xv5) rfl) rfl ?_
      obtain ⟨c12, hc12, hM⟩ := bindS hM
      refine S (r_idxArr Try.underlying25 ti23 rfl rfl (vget_some hc12).1 (vget_some hc12).2.1) rfl ?_
      refine S (r_load ti23 rfl (hs.cell (i := 1) rfl (vget_cell hc12))) rfl ?_
      refine S (r_or rfl rfl) rfl ?_
      obtain ⟨a14, ha14, hM⟩ := bindS hM
      refine S (r_idxArr Try.underlying25 ti23 rfl rfl (vset_some ha14).1 (vset_some ha14).2.1) rfl ?_
      refine SW_nil ?_
      refine OW_store1 ti23 hs (i := 2) rfl rfl (v := .int .u64 (bits .or .u64 c11 c12)) rfl rfl (vset_lt ha14) ?_
      intro wv9 hs
      replace hs : Go.Lx.Sep g0 w0 g0 wv9 [Go.Lx.box b4 25 ((Vec.zero 4).1.map (.int .u64)), Go.Lx.box b3 25 (b1.1.map (.int .u64)), Go.Lx.box b2 25 (a14.1.map (.int .u64))] := by have h9 := hs; simp only [List.set] at h9; rw [vset_cells ha14] at h9; exact h9
      refine OW_nil ?_
      refine WP_region ?_
      obtain ⟨t6, ht6, hM⟩ := bindS hM
      refine O (r_addM rfl rfl ht6) rfl ?_
      refine O (r_move (v := .int .i64 t6) rfl) rfl ?_
      refine OW_nil ?_
      obtain rfl := Option.some.inj hM
      exact ⟨rfl, rfl, rfl, rfl, hs⟩
    · refine WP_false rfl hc6 ?_
      refine WP_exit ?_
      obtain rfl := Option.some.inj hM
      refine fun hr => ?_
      have hM := congrArg some hr
      obtain rfl := Option.some.inj hM
      exact ⟨rfl, rfl, (hs.sub (.cons_cons _ (.cons _ (.cons_cons _ .slnil))))⟩
  · clear hs
    rintro E w ⟨hE2, hE4, hs⟩
    have hM := hKhx1
    obtain ⟨E, rfl⟩ := open1 (E := E) hE2
    obtain ⟨E, rfl⟩ := open1 (E := E) hE4
    refine WP_seq ?_
    refine WP_region ?_
    refine O (r_loadN (cs := a8.1.map (.int .u64)) ti25 rfl (by simp [a8.2]) (hs.cells (i := 1) rfl)) rfl ?_
    refine OW_storeAll ti25 hs (i := 0) rfl rfl (v := encV .u64 a8) rfl (vs := a8.1.map (.int .u64)) rfl vec_one (by simp [a8.2]) (by simp [a8.2, (Vec.zero 4).2]) ?_
    intro wv10 hs
    refine OW_nil ?_
    refine WP_ret ?_
    obtain rfl := Option.some.inj hM
    exact ⟨_, res1 Try.results18 (rv_cells (vs := a8.1.map (.int .u64)) ti25 rfl (by simp [a8.2]) (hs.cells (i := 0) rfl)), g0, ⟨a8.1.map (.int .u64), rfl, rfl⟩, hs.ext⟩

set_option maxRecDepth 100000 in
theorem byteset_Intersect_ok {a1 : (Vec 4)} {b1 : (Vec 4)} {r : (Vec 4)} (hM : M.byteset_Intersect a1 b1 = some r) {g0 : Hp} {w0 : World} (hi : Imm g0 w0) :
    CallsV Try.prog 20 #[encV .u64 a1, encV .u64 b1] w0 (fun v w' => ∃ g', (VRd (tVec 4 .u64) true g' v r) ∧ Ext g0 w0 g' w') := by
  unfold M.byteset_Intersect at hM
  have hs := Sep.start hi
  refine calls_of_WP (args := [encV .u64 a1, encV .u64 b1]) Try.func20 rfl Try.ntmps20 rfl ?_
  refine WP_seq ?_
  refine WP_region ?_
  refine OW_box (v := encV .u64 a1) rfl hs (zs := a1.1.map (.int .u64)) rfl rfl ?_
  intro b2 wv1 hs
  refine OW_box (v := encV .u64 b1) rfl hs (zs := b1.1.map (.int .u64)) rfl rfl ?_
  intro b3 wv2 hs
  refine OW_alloc ti25 hs (zs := (Vec.zero 4).1.map (.int .u64)) rfl rfl ?_
  intro b4 wv3 hs
  refine OW_nil ?_
  obtain ⟨a8, hx1, hKhx1⟩ := bindS hM
  refine WP_cut (fun E w => E 2 = .pointer (some ⟨b2, 0, none⟩) ∧ E 4 = .pointer (some ⟨b4, 0, none⟩) ∧ Go.Lx.Sep g0 w0 g0 w [Go.Lx.box b4 25 ((Vec.zero 4).1.map (.int .u64)), Go.Lx.box b2 25 (a8.1.map (.int .u64))]) ?_ ?_
  · have hM := hx1
    have hag0 := Hle.refl g0
    refine WP_seq ?_
    refine WP_region ?_
    refine O (r_move (v := .int .i64 0) rfl) rfl ?_
    refine OW_nil ?_
    refine WP_block ?_
    refine WP_loop (fun (st9 : (Vec 4) × Int) E w => match st9 with | (a11, xv5) => E 2 = .pointer (some ⟨b2, 0, none⟩) ∧ E 3 = .pointer (some ⟨b3, 0, none⟩) ∧ E 4 = .pointer (some ⟨b4, 0, none⟩) ∧ E 6 = .int .i64 xv5 ∧ Go.Lx.Sep g0 w0 g0 w [Go.Lx.box b4 25 ((Vec.zero 4).1.map (.int .u64)), Go.Lx.box b3 25 (b1.1.map (.int .u64)), Go.Lx.box b2 25 (a11.1.map (.int .u64))]) hM ⟨rfl, rfl, rfl, rfl, hs⟩ ?_
    clear hs hM
    rintro ⟨a11, xv5⟩ o2 E w hM ⟨hE2, hE3, hE4, hE6, hs⟩
    obtain ⟨E, rfl⟩ := open1 (E := E) hE2
    obtain ⟨E, rfl⟩ := open1 (E := E) hE3
    obtain ⟨E, rfl⟩ := open1 (E := E) hE4
    obtain ⟨E, rfl⟩ := open1 (E := E) hE6
    refine WP_seq ?_
    refine WP_region ?_
    refine O (r_lss rfl rfl) rfl ?_
    refine OW_nil ?_
    refine WP_seq ?_
    rcases condS hM with ⟨hc6, hM⟩ | ⟨hc6, hM⟩
    · refine WP_true rfl hc6 ?_
      refine WP_skip ?_
      refine WP_seq ?_
      refine WP_block ?_
      refine WP_seq ?_
      refine WP_region ?_
      refine O (r_move (v := .int .i64 xv5) rfl) rfl ?_
      refine O (r_assign (v := .int .i64 xv5) rfl) rfl ?_
      refine OW_nil ?_
      refine WP_drawTail 8 mo (by decide +kernel) ?_
      have hs := hs.drew
      refine S (r_move (v := .int .i64 xv5) rfl) rfl ?_
      obtain ⟨c11, hc11, hM⟩ := bindS hM
      refine S (r_idxArr Try.underlying25 ti23 rfl rfl (vget_some hc11).1 (vget_some hc11).2.1) rfl ?_
      refine S (r_load ti23 rfl (hs.cell (i := 2) rfl (vget_cell hc11))) rfl ?_
      refine S (r_move (v := .int .i64 xv5) rfl) rfl ?_
      obtain ⟨c12, hc12, hM⟩ := bindS hM
      refine S (r_idxArr Try.underlying25 ti23 rfl rfl (vget_some hc12).1 (vget_some hc12).2.1) rfl ?_
      refine S (r_load ti23 rfl (hs.cell (i := 1) rfl (vget_cell hc12))) rfl ?_
      refine S (r_and rfl rfl) rfl ?_
      obtain ⟨a14, ha14, hM⟩ := bindS hM
      refine S (r_idxArr Try.underlying25 ti23 rfl rfl (vset_some ha14).1 (vset_some ha14).2.1) rfl ?_
      refine SW_nil ?_
      refine OW_store1 ti23 hs (i := 2) rfl rfl (v := .int .u64 (bits .and .u64 c11 c12)) rfl rfl (vset_lt ha14) ?_
      intro wv9 hs
      replace hs : Go.Lx.Sep g0 w0 g0 wv9 [Go.Lx.box b4 25 ((Vec.zero 4).1.map (.int .u64)), Go.Lx.box b3 25 (b1.1.map (.int .u64)), Go.Lx.box b2 25 (a14.1.map (.int .u64))] := by have h9 := hs; simp only [List.set] at h9; rw [vset_cells ha14] at h9; exact h9
      refine OW_nil ?_
      refine WP_region ?_
      obtain ⟨t6, ht6, hM⟩ := bindS hM
      refine O (r_addM rfl rfl ht6) rfl ?_
      refine O (r_move (v := .int .i64 t6) rfl) rfl ?_
      refine OW_nil ?_
      obtain rfl := Option.some.inj hM
      exact ⟨rfl, rfl, rfl, rfl, hs⟩
    · refine WP_false rfl hc6 ?_
      refine WP_exit ?_
      obtain rfl := Option.some.inj hM
      refine fun hr => ?_
      have hM := congrArg some hr
      obtain rfl := Option.some.inj hM
      exact ⟨rfl, rfl, (hs.sub (.cons_cons _ (.cons _ (.cons_cons _ .slnil))))⟩
  · clear hs
    rintro E w ⟨hE2, hE4, hs⟩
    have hM := hKhx1
    obtain ⟨E, rfl⟩ := open1 (E := E) hE2
    obtain ⟨E, rfl⟩ := open1 (E := E) hE4
    refine WP_seq ?_
    refine WP_region ?_
    refine O (r_loadN (cs := a8.1.map (.int .u64)) ti25 rfl (by simp [a8.2]) (hs.cells (i := 1) rfl)) rfl ?_
    refine OW_storeAll ti25 hs (i := 0) rfl rfl (v := encV .u64 a8) rfl (vs := a8.1.map (.int .u64)) rfl vec_one (by simp [a8.2]) (by simp [a8.2, (Vec.zero 4).2]) ?_
    intro wv10 hs
    refine OW_nil ?_
    refine WP_ret ?_
    obtain rfl := Option.some.inj hM
    exact ⟨_, res1 Try.results20 (rv_cells (vs := a8.1.map (.int .u64)) ti25 rfl (by simp [a8.2]) (hs.cells (i := 0) rfl)), g0, ⟨a8.1.map (.int .u64), rfl, rfl⟩, hs.ext⟩

set_option maxRecDepth 100000 in
theorem byteset_Complement_ok {s1 : (Vec 4)} {r : (Vec 4)} (hM : M.byteset_Complement s1 = some r) {g0 : Hp} {w0 : World} (hi : Imm g0 w0) :
    CallsV Try.prog 22 #[encV .u64 s1] w0 (fun v w' => ∃ g', (VRd (tVec 4 .u64) true g' v r) ∧ Ext g0 w0 g' w') := by
  unfold M.byteset_Complement at hM
  have hs := Sep.start hi
  refine calls_of_WP (args := [encV .u64 s1]) Try.func22 rfl Try.ntmps22 rfl ?_
  refine WP_seq ?_
  refine WP_region ?_
  refine OW_box (v := encV .u64 s1) rfl hs (zs := s1.1.map (.int .u64)) rfl rfl ?_
  intro b1 wv1 hs
  refine OW_alloc ti25 hs (zs := (Vec.zero 4).1.map (.int .u64)) rfl rfl ?_
  intro b2 wv2 hs
  refine OW_nil ?_
  obtain ⟨s8, hx1, hKhx1⟩ := bindS hM
  refine WP_cut (fun E w => E 1 = .pointer (some ⟨b1, 0, none⟩) ∧ E 2 = .pointer (some ⟨b2, 0, none⟩) ∧ Go.Lx.Sep g0 w0 g0 w [Go.Lx.box b2 25 ((Vec.zero 4).1.map (.int .u64)), Go.Lx.box b1 25 (s8.1.map (.int .u64))]) ?_ ?_
  · have hM := hx1
    have hag0 := Hle.refl g0
    refine WP_seq ?_
    refine WP_region ?_
    refine O (r_move (v := .int .i64 0) rfl) rfl ?_
    refine OW_nil ?_
    refine WP_block ?_
    refine WP_loop (fun (st9 : (Vec 4) × Int) E w => match st9 with | (s11, xv5) => E 1 = .pointer (some ⟨b1, 0, none⟩) ∧ E 2 = .pointer (some ⟨b2, 0, none⟩) ∧ E 4 = .int .i64 xv5 ∧ Go.Lx.Sep g0 w0 g0 w [Go.Lx.box b2 25 ((Vec.zero 4).1.map (.int .u64)), Go.Lx.box b1 25 (s11.1.map (.int .u64))]) hM ⟨rfl, rfl, rfl, hs⟩ ?_
    clear hs hM
    rintro ⟨s11, xv5⟩ o2 E w hM ⟨hE1, hE2, hE4, hs⟩
    obtain ⟨E, rfl⟩ := open1 (E := E) hE1
    obtain ⟨E, rfl⟩ := open1 (E := E) hE2
    obtain ⟨E, rfl⟩ := open1 (E := E) hE4
    refine WP_seq ?_
    refine WP_region ?_
    refine O (r_lss rfl rfl) rfl ?_
    refine OW_nil ?_
    refine WP_seq ?_
    rcases condS hM with ⟨hc6, hM⟩ | ⟨hc6, hM⟩
    · refine WP_true rfl hc6 ?_
      refine WP_skip ?_
      refine WP_seq ?_
      refine WP_block ?_
      refine WP_seq ?_
      refine WP_region ?_
      refine O (r_move (v := .int .i64 xv5) rfl) rfl ?_
      refine O (r_assign (v := .int .i64 xv5) rfl) rfl ?_
      refine OW_nil ?_
      refine WP_region ?_
      refine O (r_move (v := .int .i64 xv5) rfl) rfl ?_
      refine O (r_move (v := .int .i64 xv5) rfl) rfl ?_
      obtain ⟨c6, hc6, hM⟩ := bindS hM
      refine O (r_idxArr Try.underlying25 ti23 rfl rfl (vget_some hc6).1 (vget_some hc6).2.1) rfl ?_
      refine O (r_load ti23 rfl (hs.cell (i := 1) rfl (vget_cell hc6))) rfl ?_
      refine O (r_compl rfl) rfl ?_
      obtain ⟨s14, hs14, hM⟩ := bindS hM
      refine O (r_idxArr Try.underlying25 ti23 rfl rfl (vset_some hs14).1 (vset_some hs14).2.1) rfl ?_
      refine OW_store1 ti23 hs (i := 1) rfl rfl (v := .int .u64 (complM .u64 c6)) rfl rfl (vset_lt hs14) ?_
      intro wv8 hs
      replace hs : Go.Lx.Sep g0 w0 g0 wv8 [Go.Lx.box b2 25 ((Vec.zero 4).1.map (.int .u64)), Go.Lx.box b1 25 (s14.1.map (.int .u64))] := by have h9 := hs; simp only [List.set] at h9; rw [vset_cells hs14] at h9; exact h9
      refine OW_nil ?_
      refine WP_region ?_
      obtain ⟨t6, ht6, hM⟩ := bindS hM
      refine O (r_addM rfl rfl ht6) rfl ?_
      refine O (r_move (v := .int .i64 t6) rfl) rfl ?_
      refine OW_nil ?_
      obtain rfl := Option.some.inj hM
      exact ⟨rfl, rfl, rfl, hs⟩
    · refine WP_false rfl hc6 ?_
      refine WP_exit ?_
      obtain rfl := Option.some.inj hM
      refine fun hr => ?_
      have hM := congrArg some hr
      obtain rfl := Option.some.inj hM
      exact ⟨rfl, rfl, hs⟩
  · clear hs
    rintro E w ⟨hE1, hE2, hs⟩
    have hM := hKhx1
    obtain ⟨E, rfl⟩ := open1 (E := E) hE1
    obtain ⟨E, rfl⟩ := open1 (E := E) hE2
    refine WP_seq ?_
    refine WP_region ?_
    refine O (r_loadN (cs := s8.1.map (.int .u64)) ti25 rfl (by simp [s8.2]) (hs.cells (i := 1) rfl)) rfl ?_
    refine OW_storeAll ti25 hs (i := 0) rfl rfl (v := encV .u64 s8) rfl (vs := s8.1.map (.int .u64)) rfl vec_one (by simp [s8.2]) (by simp [s8.2, (Vec.zero 4).2]) ?_
    intro wv9 hs
    refine OW_nil ?_
    refine WP_ret ?_
    obtain rfl := Option.some.inj hM
    exact ⟨_, res1 Try.results22 (rv_cells (vs := s8.1.map (.int .u64)) ti25 rfl (by simp [s8.2]) (hs.cells (i := 0) rfl)), g0, ⟨s8.1.map (.int .u64), rfl, rfl⟩, hs.ext⟩

set_option maxRecDepth 100000 in
theorem ref07_Union_ok {a1 : (Vec 4)} {b1 : (Vec 4)} {r : (Vec 4)} (hM : M.ref07_Union a1 b1 = some r) {g0 : Hp} {w0 : World} (hi : Imm g0 w0) :
    CallsV Try.prog 19 #[encV .u64 a1, encV .u64 b1] w0 (fun v w' => ∃ g', (VRd (tVec 4 .u64) true g' v r) ∧ Ext g0 w0 g' w') := by
  unfold M.ref07_Union at hM
  have hs := Sep.start hi
  refine calls_of_WP (args := [encV .u64 a1, encV .u64 b1]) Try.func19 rfl Try.ntmps19 rfl ?_
  refine WP_seq ?_
  refine WP_region ?_
  refine OW_box (v := encV .u64 a1) rfl hs (zs := a1.1.map (.int .u64)) rfl rfl ?_
  intro b2 wv1 hs
  refine OW_box (v := encV .u64 b1) rfl hs (zs := b1.1.map (.int .u64)) rfl rfl ?_
  intro b3 wv2 hs
  refine OW_alloc ti25 hs (zs := (Vec.zero 4).1.map (.int .u64)) rfl rfl ?_
  intro b4 wv3 hs
  refine OW_nil ?_
  refine WP_seq ?_
  refine WP_region ?_
  refine OW_alloc ti25 hs (zs := (Vec.zero 4).1.map (.int .u64)) rfl rfl ?_
  intro b5 wv4 hs
  refine OW_nil ?_
  obtain ⟨s7, hx10, hKhx10⟩ := bindS hM
  refine WP_cut (fun E w => ∃ (gg43 : Hp), E 4 = .pointer (some ⟨b4, 0, none⟩) ∧ E 5 = .pointer (some ⟨b5, 0, none⟩) ∧ Hle g0 gg43 ∧ Go.Lx.Sep g0 w0 gg43 w [Go.Lx.box b5 25 (s7.1.map (.int .u64)), Go.Lx.box b4 25 ((Vec.zero 4).1.map (.int .u64))]) ?_ ?_
  · have hM := hx10
    have hag0 := Hle.refl g0
    refine WP_seq ?_
    refine WP_region ?_
    refine O (r_assign (v := .int .i64 0) rfl) rfl ?_
    refine OW_nil ?_
    refine WP_block ?_
    refine WP_loop (fun (st9 : (Vec 4) × Int) E w => match st9 with | (s10, i5) => ∃ (gg58 : Hp), E 2 = .pointer (some ⟨b2, 0, none⟩) ∧ E 3 = .pointer (some ⟨b3, 0, none⟩) ∧ E 4 = .pointer (some ⟨b4, 0, none⟩) ∧ E 5 = .pointer (some ⟨b5, 0, none⟩) ∧ E 6 = .int .i64 i5 ∧ Hle g0 gg58 ∧ Go.Lx.Sep g0 w0 gg58 w [Go.Lx.box b5 25 (s10.1.map (.int .u64)), Go.Lx.box b4 25 ((Vec.zero 4).1.map (.int .u64)), Go.Lx.box b3 25 (b1.1.map (.int .u64)), Go.Lx.box b2 25 (a1.1.map (.int .u64))]) hM ⟨g0, rfl, rfl, rfl, rfl, rfl, (Hle.refl _), hs⟩ ?_
    clear hs hM
    rintro ⟨s10, i5⟩ o2 E w hM ⟨gg58, hE2, hE3, hE4, hE5, hE6, hlegg58, hs⟩
    obtain ⟨E, rfl⟩ := open1 (E := E) hE2
    obtain ⟨E, rfl⟩ := open1 (E := E) hE3
    obtain ⟨E, rfl⟩ := open1 (E := E) hE4
    obtain ⟨E, rfl⟩ := open1 (E := E) hE5
    obtain ⟨E, rfl⟩ := open1 (E := E) hE6
    replace hag0 := hag0.trans hlegg58
    have hagg58 := Hle.refl gg58
    refine WP_seq ?_
    refine WP_seq ?_
    refine WP_region ?_
    refine O (r_move (v := .int .i64 i5) rfl) rfl ?_
    refine O (r_lss rfl rfl) rfl ?_
    refine OW_nil ?_
    rcases condS hM with ⟨hc16, hM⟩ | ⟨hc16, hM⟩
    · refine WP_true rfl hc16 ?_
      refine WP_skip ?_
      obtain ⟨s13, hx18, hKhx18⟩ := bindS hM
      refine WP_cut (fun E w => ∃ (gg79 : Hp), E 2 = .pointer (some ⟨b2, 0, none⟩) ∧ E 3 = .pointer (some ⟨b3, 0, none⟩) ∧ E 4 = .pointer (some ⟨b4, 0, none⟩) ∧ E 5 = .pointer (some ⟨b5, 0, none⟩) ∧ E 6 = .int .i64 i5 ∧ Hle gg58 gg79 ∧ Go.Lx.Sep g0 w0 gg79 w [Go.Lx.box b5 25 (s13.1.map (.int .u64)), Go.Lx.box b4 25 ((Vec.zero 4).1.map (.int .u64)), Go.Lx.box b3 25 (b1.1.map (.int .u64)), Go.Lx.box b2 25 (a1.1.map (.int .u64))]) ?_ ?_
      · have hM := hx18
        refine WP_block ?_
        obtain ⟨xv12, hx19, hKhx19⟩ := bindS hM
        refine WP_cut (fun E w => ∃ (gg82 : Hp), E 2 = .pointer (some ⟨b2, 0, none⟩) ∧ E 3 = .pointer (some ⟨b3, 0, none⟩) ∧ E 4 = .pointer (some ⟨b4, 0, none⟩) ∧ E 5 = .pointer (some ⟨b5, 0, none⟩) ∧ E 6 = .int .i64 i5 ∧ E 20 = .bool xv12 ∧ Hle gg58 gg82 ∧ Go.Lx.Sep g0 w0 gg82 w [Go.Lx.box b5 25 (s10.1.map (.int .u64)), Go.Lx.box b4 25 ((Vec.zero 4).1.map (.int .u64)), Go.Lx.box b3 25 (b1.1.map (.int .u64)), Go.Lx.box b2 25 (a1.1.map (.int .u64))]) ?_ ?_
        · have hM := hx19
          refine WP_region ?_
          refine O (r_loadN (cs := a1.1.map (.int .u64)) ti25 rfl (by simp [a1.2]) (hs.cells (i := 3) rfl)) rfl ?_
          refine O (r_move (v := .int .i64 i5) rfl) rfl ?_
          refine O (r_conv Try.underlying3 Try.underlying5 rfl) rfl ?_
          obtain ⟨rv58, hrv58, hM⟩ := bindS hM
          refine C [encV .u64 a1, .int .u8 (IntKind.u8.wrap i5)] cf14 rfl (ref07_Has_ok hrv58 hs.imm) rfl ?_
          rintro v58 wv73 ⟨gg83, hvv58, hegg83⟩
          have hlegg83 := hegg83.le hs.imm
          replace hs := hs.call hegg83
          replace hlegg58 := hlegg58.trans hlegg83
          replace hagg58 := hagg58.trans hlegg83
          obtain ⟨cs58, rfl, hcs58⟩ := hvv58
          have hcs58 : cs58 = _ := hcs58; subst hcs58
          refine O (r_move (v := .bool rv58) rfl) rfl ?_
          rcases condS hM with ⟨hg24, hM⟩ | ⟨hg24, hM⟩
          · refine OK rfl rfl rfl (by rw [hg24]; rfl) rfl ?_
            refine OK rfl rfl rfl (by rw [hg24]; rfl) rfl ?_
            refine OK rfl rfl rfl (by rw [hg24]; rfl) rfl ?_
            refine OK rfl rfl rfl (by rw [hg24]; rfl) rfl ?_
            refine O (r_pickT (v := .bool true) rfl hg24 rfl) rfl ?_
            refine OW_nil ?_
            obtain rfl := Option.some.inj hM
            exact ⟨gg83, rfl, rfl, rfl, rfl, rfl, rfl, hagg58, hs⟩
          · refine OG rfl rfl rfl (by rw [hg24]; rfl) (r_loadN (cs := b1.1.map (.int .u64)) ti25 rfl (by simp [b1.2]) (hs.cells (i := 2) rfl)) rfl ?_
            refine OG rfl rfl rfl (by rw [hg24]; rfl) (r_move (v := .int .i64 i5) rfl) rfl ?_
            refine OG rfl rfl rfl (by rw [hg24]; rfl) (r_conv Try.underlying3 Try.underlying5 rfl) rfl ?_
            obtain ⟨rv59, hrv59, hM⟩ := bindS hM
            refine CG rfl rfl rfl (by rw [hg24]; rfl) [encV .u64 b1, .int .u8 (IntKind.u8.wrap i5)] cf14 rfl (ref07_Has_ok hrv59 hs.imm) rfl ?_
            rintro v59 wv74 ⟨gg84, hvv59, hegg84⟩
            have hlegg84 := hegg84.le hs.imm
            replace hs := hs.call hegg84
            replace hlegg58 := hlegg58.trans hlegg84
            replace hagg58 := hagg58.trans hlegg84
            obtain ⟨cs59, rfl, hcs59⟩ := hvv59
            have hcs59 : cs59 = _ := hcs59; subst hcs59
            refine O (r_pickF (v := .bool rv59) rfl hg24 rfl) rfl ?_
            refine OW_nil ?_
            obtain rfl := Option.some.inj hM
            exact ⟨gg84, rfl, rfl, rfl, rfl, rfl, rfl, hagg58, hs⟩
        · clear hs
          rintro E w ⟨gg82, hE2, hE3, hE4, hE5, hE6, hE20, hlegg82, hs⟩
          have hM := hKhx19
          obtain ⟨E, rfl⟩ := open1 (E := E) hE2
          obtain ⟨E, rfl⟩ := open1 (E := E) hE3
          obtain ⟨E, rfl⟩ := open1 (E := E) hE4
          obtain ⟨E, rfl⟩ := open1 (E := E) hE5
          obtain ⟨E, rfl⟩ := open1 (E := E) hE6
          obtain ⟨E, rfl⟩ := open1 (E := E) hE20
          replace hlegg58 := hlegg58.trans hlegg82
          replace hagg58 := hagg58.trans hlegg82
          rcases condS hM with ⟨hc18, hM⟩ | ⟨hc18, hM⟩
          · refine WP_true rfl hc18 ?_
            refine WP_region ?_
            refine O (r_loadN (cs := s10.1.map (.int .u64)) ti25 rfl (by simp [s10.2]) (hs.cells (i := 0) rfl)) rfl ?_
            refine O (r_move (v := .int .i64 i5) rfl) rfl ?_
            refine O (r_conv Try.underlying3 Try.underlying5 rfl) rfl ?_
            obtain ⟨rv60, hrv60, hM⟩ := bindS hM
            refine C [encV .u64 s10, .int .u8 (IntKind.u8.wrap i5)] cf26 rfl (ref07_with_ok hrv60 hs.imm) rfl ?_
            rintro v60 wv75 ⟨gg85, hvv60, hegg85⟩
            have hlegg85 := hegg85.le hs.imm
            replace hs := hs.call hegg85
            replace hlegg58 := hlegg58.trans hlegg85
            replace hagg58 := hagg58.trans hlegg85
            obtain ⟨cs60, rfl, hcs60⟩ := hvv60
            have hcs60 : cs60 = _ := hcs60; subst hcs60
            refine OW_storeAll ti25 hs (i := 0) rfl rfl (v := encV .u64 rv60) rfl (vs := rv60.1.map (.int .u64)) rfl vec_one (by simp [rv60.2]) (by simp [rv60.2, s10.2]) ?_
            intro wv76 hs
            refine OW_nil ?_
            obtain rfl := Option.some.inj hM
            exact ⟨gg85, rfl, rfl, rfl, rfl, rfl, hagg58, hs⟩
          · refine WP_false rfl hc18 ?_
            refine WP_skip ?_
            obtain rfl := Option.some.inj hM
            exact ⟨gg82, rfl, rfl, rfl, rfl, rfl, hagg58, hs⟩
      · clear hs
        rintro E w ⟨gg79, hE2, hE3, hE4, hE5, hE6, hlegg79, hs⟩
        have hM := hKhx18
        obtain ⟨E, rfl⟩ := open1 (E := E) hE2
        obtain ⟨E, rfl⟩ := open1 (E := E) hE3
        obtain ⟨E, rfl⟩ := open1 (E := E) hE4
        obtain ⟨E, rfl⟩ := open1 (E := E) hE5
        obtain ⟨E, rfl⟩ := open1 (E := E) hE6
        replace hlegg58 := hlegg58.trans hlegg79
        replace hagg58 := hagg58.trans hlegg79
        refine WP_region ?_
        refine O (r_move (v := .int .i64 i5) rfl) rfl ?_
        obtain ⟨t6, ht6, hM⟩ := bindS hM
        refine O (r_addM rfl rfl ht6) rfl ?_
        refine O (r_assign (v := .int .i64 t6) rfl) rfl ?_
        refine OW_nil ?_
        obtain rfl := Option.some.inj hM
        exact ⟨gg79, rfl, rfl, rfl, rfl, rfl, hlegg58, hs⟩
    · refine WP_false rfl hc16 ?_
      refine WP_exit ?_
      obtain rfl := Option.some.inj hM
      refine fun hr => ?_
      have hM := congrArg some hr
      obtain rfl := Option.some.inj hM
      exact ⟨gg58, rfl, rfl, hlegg58, (hs.sub (.cons_cons _ (.cons_cons _ (.cons _ (.cons _ .slnil)))))⟩
  · clear hs
    rintro E w ⟨gg43, hE4, hE5, hlegg43, hs⟩
    have hM := hKhx10
    obtain ⟨E, rfl⟩ := open1 (E := E) hE4
    obtain ⟨E, rfl⟩ := open1 (E := E) hE5
    refine WP_seq ?_
    refine WP_region ?_
    refine O (r_loadN (cs := s7.1.map (.int .u64)) ti25 rfl (by simp [s7.2]) (hs.cells (i := 0) rfl)) rfl ?_
    refine OW_storeAll ti25 hs (i := 1) rfl rfl (v := encV .u64 s7) rfl (vs := s7.1.map (.int .u64)) rfl vec_one (by simp [s7.2]) (by simp [s7.2, (Vec.zero 4).2]) ?_
    intro wv77 hs
    refine OW_nil ?_
    refine WP_ret ?_
    obtain rfl := Option.some.inj hM
    exact ⟨_, res1 Try.results19 (rv_cells (vs := s7.1.map (.int .u64)) ti25 rfl (by simp [s7.2]) (hs.cells (i := 1) rfl)), gg43, ⟨s7.1.map (.int .u64), rfl, rfl⟩, hs.ext⟩

set_option maxRecDepth 100000 in
theorem ref07_Intersect_ok {a1 : (Vec 4)} {b1 : (Vec 4)} {r : (Vec 4)} (hM : M.ref07_Intersect a1 b1 = some r) {g0 : Hp} {w0 : World} (hi : Imm g0 w0) :
    CallsV Try.prog 21 #[encV .u64 a1, encV .u64 b1] w0 (fun v w' => ∃ g', (VRd (tVec 4 .u64) true g' v r) ∧ Ext g0 w0 g' w') := by
  unfold M.ref07_Intersect at hM
  have hs := Sep.start hi
  refine calls_of_WP (args := [encV .u64 a1, encV .u64 b1]) Try.func21 rfl Try.ntmps21 rfl ?_
  refine WP_seq ?_
  refine WP_region ?_
  refine OW_box (v := encV .u64 a1) rfl hs (zs := a1.1.map (.int .u64)) rfl rfl ?_
  intro b2 wv1 hs
  refine OW_box (v := encV .u64 b1) rfl hs (zs := b1.1.map (.int .u64)) rfl rfl ?_
  intro b3 wv2 hs
  refine OW_alloc ti25 hs (zs := (Vec.zero 4).1.map (.int .u64)) rfl rfl ?_
  intro b4 wv3 hs
  refine OW_nil ?_
  refine WP_seq ?_
  refine WP_region ?_
  refine OW_alloc ti25 hs (zs := (Vec.zero 4).1.map (.int .u64)) rfl rfl ?_
  intro b5 wv4 hs
  refine OW_nil ?_
  obtain ⟨s7, hx10, hKhx10⟩ := bindS hM
  refine WP_cut (fun E w => ∃ (gg43 : Hp), E 4 = .pointer (some ⟨b4, 0, none⟩) ∧ E 5 = .pointer (some ⟨b5, 0, none⟩) ∧ Hle g0 gg43 ∧ Go.Lx.Sep g0 w0 gg43 w [Go.Lx.box b5 25 (s7.1.map (.int .u64)), Go.Lx.box b4 25 ((Vec.zero 4).1.map (.int .u64))]) ?_ ?_
  · have hM := hx10
    have hag0 := Hle.refl g0
    refine WP_seq ?_
    refine WP_region ?_
    refine O (r_assign (v := .int .i64 0) rfl) rfl ?_
    refine OW_nil ?_
    refine WP_block ?_
    refine WP_loop (fun (st9 : (Vec 4) × Int) E w => match st9 with | (s10, i5) => ∃ (gg58 : Hp), E 2 = .pointer (some ⟨b2, 0, none⟩) ∧ E 3 = .pointer (some ⟨b3, 0, none⟩) ∧ E 4 = .pointer (some ⟨b4, 0, none⟩) ∧ E 5 = .pointer (some ⟨b5, 0, none⟩) ∧ E 6 = .int .i64 i5 ∧ Hle g0 gg58 ∧ Go.Lx.Sep g0 w0 gg58 w [Go.Lx.box b5 25 (s10.1.map (.int .u64)), Go.Lx.box b4 25 ((Vec.zero 4).1.map (.int .u64)), Go.Lx.box b3 25 (b1.1.map (.int .u64)), Go.Lx.box b2 25 (a1.1.map (.int .u64))]) hM ⟨g0, rfl, rfl, rfl, rfl, rfl, (Hle.refl _), hs⟩ ?_
    clear hs hM
    rintro ⟨s10, i5⟩ o2 E w hM ⟨gg58, hE2, hE3, hE4, hE5, hE6, hlegg58, hs⟩
    obtain ⟨E, rfl⟩ := open1 (E := E) hE2
    obtain ⟨E, rfl⟩ := open1 (E := E) hE3
    obtain ⟨E, rfl⟩ := open1 (E := E) hE4
    obtain ⟨E, rfl⟩ := open1 (E := E) hE5
    obtain ⟨E, rfl⟩ := open1 (E := E) hE6
    replace hag0 := hag0.trans hlegg58
    have hagg58 := Hle.refl gg58
    refine WP_seq ?_
    refine WP_seq ?_
    refine WP_region ?_
    refine O (r_move (v := .int .i64 i5) rfl) rfl ?_
    refine O (r_lss rfl rfl) rfl ?_
    refine OW_nil ?_
    rcases condS hM with ⟨hc16, hM⟩ | ⟨hc16, hM⟩
    · refine WP_true rfl hc16 ?_
      refine WP_skip ?_
      obtain ⟨s13, hx18, hKhx18⟩ := bindS hM
      refine WP_cut (fun E w => ∃ (gg79 : Hp), E 2 = .pointer (some ⟨b2, 0, none⟩) ∧ E 3 = .pointer (some ⟨b3, 0, none⟩) ∧ E 4 = .pointer (some ⟨b4, 0, none⟩) ∧ E 5 = .pointer (some ⟨b5, 0, none⟩) ∧ E 6 = .int .i64 i5 ∧ Hle gg58 gg79 ∧ Go.Lx.Sep g0 w0 gg79 w [Go.Lx.box b5 25 (s13.1.map (.int .u64)), Go.Lx.box b4 25 ((Vec.zero 4).1.map (.int .u64)), Go.Lx.box b3 25 (b1.1.map (.int .u64)), Go.Lx.box b2 25 (a1.1.map (.int .u64))]) ?_ ?_
      · have hM := hx18
        refine WP_block ?_
        obtain ⟨rv69, hx19, hKhx19⟩ := bindS hM
        refine WP_cut (fun E w => ∃ (gg82 : Hp), E 2 = .pointer (some ⟨b2, 0, none⟩) ∧ E 3 = .pointer (some ⟨b3, 0, none⟩) ∧ E 4 = .pointer (some ⟨b4, 0, none⟩) ∧ E 5 = .pointer (some ⟨b5, 0, none⟩) ∧ E 6 = .int .i64 i5 ∧ E 20 = .bool rv69 ∧ Hle gg58 gg82 ∧ Go.Lx.Sep g0 w0 gg82 w [Go.Lx.box b5 25 (s10.1.map (.int .u64)), Go.Lx.box b4 25 ((Vec.zero 4).1.map (.int .u64)), Go.Lx.box b3 25 (b1.1.map (.int .u64)), Go.Lx.box b2 25 (a1.1.map (.int .u64))]) ?_ ?_
        · have hM := hx19
          refine WP_region ?_
          refine O (r_loadN (cs := a1.1.map (.int .u64)) ti25 rfl (by simp [a1.2]) (hs.cells (i := 3) rfl)) rfl ?_
          refine O (r_move (v := .int .i64 i5) rfl) rfl ?_
          refine O (r_conv Try.underlying3 Try.underlying5 rfl) rfl ?_
          obtain ⟨rv70, hrv70, hM⟩ := bindS hM
          refine C [encV .u64 a1, .int .u8 (IntKind.u8.wrap i5)] cf14 rfl (ref07_Has_ok hrv70 hs.imm) rfl ?_
          rintro v58 wv73 ⟨gg83, hvv58, hegg83⟩
          have hlegg83 := hegg83.le hs.imm
          replace hs := hs.call hegg83
          replace hlegg58 := hlegg58.trans hlegg83
          replace hagg58 := hagg58.trans hlegg83
          obtain ⟨cs58, rfl, hcs58⟩ := hvv58
          have hcs58 : cs58 = _ := hcs58; subst hcs58
          refine O (r_move (v := .bool rv70) rfl) rfl ?_
          rcases condS hM with ⟨hg24, hM⟩ | ⟨hg24, hM⟩
          · refine OG rfl rfl rfl (by rw [hg24]; rfl) (r_loadN (cs := b1.1.map (.int .u64)) ti25 rfl (by simp [b1.2]) (hs.cells (i := 2) rfl)) rfl ?_
            refine OG rfl rfl rfl (by rw [hg24]; rfl) (r_move (v := .int .i64 i5) rfl) rfl ?_
            refine OG rfl rfl rfl (by rw [hg24]; rfl) (r_conv Try.underlying3 Try.underlying5 rfl) rfl ?_
            obtain ⟨rv71, hrv71, hM⟩ := bindS hM
            refine CG rfl rfl rfl (by rw [hg24]; rfl) [encV .u64 b1, .int .u8 (IntKind.u8.wrap i5)] cf14 rfl (ref07_Has_ok hrv71 hs.imm) rfl ?_
            rintro v59 wv74 ⟨gg84, hvv59, hegg84⟩
            have hlegg84 := hegg84.le hs.imm
            replace hs := hs.call hegg84
            replace hlegg58 := hlegg58.trans hlegg84
            replace hagg58 := hagg58.trans hlegg84
            obtain ⟨cs59, rfl, hcs59⟩ := hvv59
            have hcs59 : cs59 = _ := hcs59; subst hcs59
            refine O (r_pickT (v := .bool rv71) rfl hg24 rfl) rfl ?_
            refine OW_nil ?_
            obtain rfl := Option.some.inj hM
            exact ⟨gg84, rfl, rfl, rfl, rfl, rfl, rfl, hagg58, hs⟩
          · refine OK rfl rfl rfl (by rw [hg24]; rfl) rfl ?_
            refine OK rfl rfl rfl (by rw [hg24]; rfl) rfl ?_
            refine OK rfl rfl rfl (by rw [hg24]; rfl) rfl ?_
            refine OK rfl rfl rfl (by rw [hg24]; rfl) rfl ?_
            refine O (r_pickF (v := .bool false) rfl hg24 rfl) rfl ?_
            refine OW_nil ?_
            obtain rfl := Option.some.inj hM
            exact ⟨gg83, rfl, rfl, rfl, rfl, rfl, rfl, hagg58, hs⟩
        · clear hs
          rintro E w ⟨gg82, hE2, hE3, hE4, hE5, hE6, hE20, hlegg82, hs⟩
          have hM := hKhx19
          obtain ⟨E, rfl⟩ := open1 (E := E) hE2
          obtain ⟨E, rfl⟩ := open1 (E := E) hE3
          obtain ⟨E, rfl⟩ := open1 (E := E) hE4
          obtain ⟨E, rfl⟩ := open1 (E := E) hE5
          obtain ⟨E, rfl⟩ := open1 (E := E) hE6
          obtain ⟨E, rfl⟩ := open1 (E := E) hE20
          replace hlegg58 := hlegg58.trans hlegg82
          replace hagg58 := hagg58.trans hlegg82
          rcases condS hM with ⟨hc18, hM⟩ | ⟨hc18, hM⟩
          · refine WP_true rfl hc18 ?_
            refine WP_region ?_
            refine O (r_loadN (cs := s10.1.map (.int .u64)) ti25 rfl (by simp [s10.2]) (hs.cells (i := 0) rfl)) rfl ?_
            refine O (r_move (v := .int .i64 i5) rfl) rfl ?_
            refine O (r_conv Try.underlying3 Try.underlying5 rfl) rfl ?_
            obtain ⟨rv72, hrv72, hM⟩ := bindS hM
            refine C [encV .u64 s10, .int .u8 (IntKind.u8.wrap i5)] cf26 rfl (ref07_with_ok hrv72 hs.imm) rfl ?_
            rintro v60 wv75 ⟨gg85, hvv60, hegg85⟩
            have hlegg85 := hegg85.le hs.imm
            replace hs := hs.call hegg85
            replace hlegg58 := hlegg58.trans hlegg85
            replace hagg58 := hagg58.trans hlegg85
            obtain ⟨cs60, rfl, hcs60⟩ := hvv60
            have hcs60 : cs60 = _ := hcs60; subst hcs60
            refine OW_storeAll ti25 hs (i := 0) rfl rfl (v := encV .u64 rv72) rfl (vs := rv72.1.map (.int .u64)) rfl vec_one (by simp [rv72.2]) (by simp [rv72.2, s10.2]) ?_
            intro wv76 hs
            refine OW_nil ?_
            obtain rfl := Option.some.inj hM
            exact ⟨gg85, rfl, rfl, rfl, rfl, rfl, hagg58, hs⟩
          · refine WP_false rfl hc18 ?_
            refine WP_skip ?_
            obtain rfl := Option.some.inj hM
            exact ⟨gg82, rfl, rfl, rfl, rfl, rfl, hagg58, hs⟩
      · clear hs
        rintro E w ⟨gg79, hE2, hE3, hE4, hE5, hE6, hlegg79, hs⟩
        have hM := hKhx18
        obtain ⟨E, rfl⟩ := open1 (E := E) hE2
        obtain ⟨E, rfl⟩ := open1 (E := E) hE3
        obtain ⟨E, rfl⟩ := open1 (E := E) hE4
        obtain ⟨E, rfl⟩ := open1 (E := E) hE5
        obtain ⟨E, rfl⟩ := open1 (E := E) hE6
        replace hlegg58 := hlegg58.trans hlegg79
        replace hagg58 := hagg58.trans hlegg79
        refine WP_region ?_
        refine O (r_move (v := .int .i64 i5) rfl) rfl ?_
        obtain ⟨t6, ht6, hM⟩ := bindS hM
        refine O (r_addM rfl rfl ht6) rfl ?_
        refine O (r_assign (v := .int .i64 t6) rfl) rfl ?_
        refine OW_nil ?_
        obtain rfl := Option.some.inj hM
        exact ⟨gg79, rfl, rfl, rfl, rfl, rfl, hlegg58, hs⟩
    · refine WP_false rfl hc16 ?_
      refine WP_exit ?_
      obtain rfl := Option.some.inj hM
      refine fun hr => ?_
      have hM := congrArg some hr
      obtain rfl := Option.some.inj hM
      exact ⟨gg58, rfl, rfl, hlegg58, (hs.sub (.cons_cons _ (.cons_cons _ (.cons _ (.cons _ .slnil)))))⟩
  · clear hs
    rintro E w ⟨gg43, hE4, hE5, hlegg43, hs⟩
    have hM := hKhx10
    obtain ⟨E, rfl⟩ := open1 (E := E) hE4
    obtain ⟨E, rfl⟩ := open1 (E := E) hE5
    refine WP_seq ?_
    refine WP_region ?_
    refine O (r_loadN (cs := s7.1.map (.int .u64)) ti25 rfl (by simp [s7.2]) (hs.cells (i := 0) rfl)) rfl ?_
    refine OW_storeAll ti25 hs (i := 1) rfl rfl (v := encV .u64 s7) rfl (vs := s7.1.map (.int .u64)) rfl vec_one (by simp [s7.2]) (by simp [s7.2, (Vec.zero 4).2]) ?_
    intro wv77 hs
    refine OW_nil ?_
    refine WP_ret ?_
    obtain rfl := Option.some.inj hM
    exact ⟨_, res1 Try.results21 (rv_cells (vs := s7.1.map (.int .u64)) ti25 rfl (by simp [s7.2]) (hs.cells (i := 1) rfl)), gg43, ⟨s7.1.map (.int .u64), rfl, rfl⟩, hs.ext⟩

set_option maxRecDepth 100000 in
theorem ref07_Complement_ok {a1 : (Vec 4)} {r : (Vec 4)} (hM : M.ref07_Complement a1 = some r) {g0 : Hp} {w0 : World} (hi : Imm g0 w0) :
    CallsV Try.prog 23 #[encV .u64 a1] w0 (fun v w' => ∃ g', (VRd (tVec 4 .u64) true g' v r) ∧ Ext g0 w0 g' w') := by
  unfold M.ref07_Complement at hM
  have hs := Sep.start hi
  refine calls_of_WP (args := [encV .u64 a1]) Try.func23 rfl Try.ntmps23 rfl ?_
  refine WP_seq ?_
  refine WP_region ?_
  refine OW_box (v := encV .u64 a1) rfl hs (zs := a1.1.map (.int .u64)) rfl rfl ?_
  intro b1 wv1 hs
  refine OW_alloc ti25 hs (zs := (Vec.zero 4).1.map (.int .u64)) rfl rfl ?_
  intro b2 wv2 hs
  refine OW_nil ?_
  refine WP_seq ?_
  refine WP_region ?_
  refine OW_alloc ti25 hs (zs := (Vec.zero 4).1.map (.int .u64)) rfl rfl ?_
  intro b3 wv3 hs
  refine OW_nil ?_
  obtain ⟨s7, hx4, hKhx4⟩ := bindS hM
  refine WP_cut (fun E w => ∃ (gg19 : Hp), E 2 = .pointer (some ⟨b2, 0, none⟩) ∧ E 3 = .pointer (some ⟨b3, 0, none⟩) ∧ Hle g0 gg19 ∧ Go.Lx.Sep g0 w0 gg19 w [Go.Lx.box b3 25 (s7.1.map (.int .u64)), Go.Lx.box b2 25 ((Vec.zero 4).1.map (.int .u64))]) ?_ ?_
  · have hM := hx4
    have hag0 := Hle.refl g0
    refine WP_seq ?_
    refine WP_region ?_
    refine O (r_assign (v := .int .i64 0) rfl) rfl ?_
    refine OW_nil ?_
    refine WP_block ?_
    refine WP_loop (fun (st9 : (Vec 4) × Int) E w => match st9 with | (s10, i5) => ∃ (gg26 : Hp), E 1 = .pointer (some ⟨b1, 0, none⟩) ∧ E 2 = .pointer (some ⟨b2, 0, none⟩) ∧ E 3 = .pointer (some ⟨b3, 0, none⟩) ∧ E 4 = .int .i64 i5 ∧ Hle g0 gg26 ∧ Go.Lx.Sep g0 w0 gg26 w [Go.Lx.box b3 25 (s10.1.map (.int .u64)), Go.Lx.box b2 25 ((Vec.zero 4).1.map (.int .u64)), Go.Lx.box b1 25 (a1.1.map (.int .u64))]) hM ⟨g0, rfl, rfl, rfl, rfl, (Hle.refl _), hs⟩ ?_
    clear hs hM
    rintro ⟨s10, i5⟩ o2 E w hM ⟨gg26, hE1, hE2, hE3, hE4, hlegg26, hs⟩
    obtain ⟨E, rfl⟩ := open1 (E := E) hE1
    obtain ⟨E, rfl⟩ := open1 (E := E) hE2
    obtain ⟨E, rfl⟩ := open1 (E := E) hE3
    obtain ⟨E, rfl⟩ := open1 (E := E) hE4
    replace hag0 := hag0.trans hlegg26
    have hagg26 := Hle.refl gg26
    refine WP_seq ?_
    refine WP_seq ?_
    refine WP_region ?_
    refine O (r_move (v := .int .i64 i5) rfl) rfl ?_
    refine O (r_lss rfl rfl) rfl ?_
    refine OW_nil ?_
    rcases condS hM with ⟨hc16, hM⟩ | ⟨hc16, hM⟩
    · refine WP_true rfl hc16 ?_
      refine WP_skip ?_
      obtain ⟨s13, hx7, hKhx7⟩ := bindS hM
      refine WP_cut (fun E w => ∃ (gg35 : Hp), E 1 = .pointer (some ⟨b1, 0, none⟩) ∧ E 2 = .pointer (some ⟨b2, 0, none⟩) ∧ E 3 = .pointer (some ⟨b3, 0, none⟩) ∧ E 4 = .int .i64 i5 ∧ Hle gg26 gg35 ∧ Go.Lx.Sep g0 w0 gg35 w [Go.Lx.box b3 25 (s13.1.map (.int .u64)), Go.Lx.box b2 25 ((Vec.zero 4).1.map (.int .u64)), Go.Lx.box b1 25 (a1.1.map (.int .u64))]) ?_ ?_
      · have hM := hx7
        refine WP_block ?_
        refine WP_seq ?_
        refine WP_region ?_
        refine O (r_loadN (cs := a1.1.map (.int .u64)) ti25 rfl (by simp [a1.2]) (hs.cells (i := 2) rfl)) rfl ?_
        refine O (r_move (v := .int .i64 i5) rfl) rfl ?_
        refine O (r_conv Try.underlying3 Try.underlying5 rfl) rfl ?_
        obtain ⟨rv23, hrv23, hM⟩ := bindS hM
        refine C [encV .u64 a1, .int .u8 (IntKind.u8.wrap i5)] cf14 rfl (ref07_Has_ok hrv23 hs.imm) rfl ?_
        rintro v23 wv37 ⟨gg36, hvv23, hegg36⟩
        have hlegg36 := hegg36.le hs.imm
        replace hs := hs.call hegg36
        replace hlegg26 := hlegg26.trans hlegg36
        replace hagg26 := hagg26.trans hlegg36
        obtain ⟨cs23, rfl, hcs23⟩ := hvv23
        have hcs23 : cs23 = _ := hcs23; subst hcs23
        refine O (r_not rfl) rfl ?_
        refine OW_nil ?_
        rcases condS hM with ⟨hc18, hM⟩ | ⟨hc18, hM⟩
        · refine WP_true rfl hc18 ?_
          refine WP_region ?_
          refine O (r_loadN (cs := s10.1.map (.int .u64)) ti25 rfl (by simp [s10.2]) (hs.cells (i := 0) rfl)) rfl ?_
          refine O (r_move (v := .int .i64 i5) rfl) rfl ?_
          refine O (r_conv Try.underlying3 Try.underlying5 rfl) rfl ?_
          obtain ⟨rv24, hrv24, hM⟩ := bindS hM
          refine C [encV .u64 s10, .int .u8 (IntKind.u8.wrap i5)] cf26 rfl (ref07_with_ok hrv24 hs.imm) rfl ?_
          rintro v24 wv38 ⟨gg37, hvv24, hegg37⟩
          have hlegg37 := hegg37.le hs.imm
          replace hs := hs.call hegg37
          replace hlegg26 := hlegg26.trans hlegg37
          replace hagg26 := hagg26.trans hlegg37
          obtain ⟨cs24, rfl, hcs24⟩ := hvv24
          have hcs24 : cs24 = _ := hcs24; subst hcs24
          refine OW_storeAll ti25 hs (i := 0) rfl rfl (v := encV .u64 rv24) rfl (vs := rv24.1.map (.int .u64)) rfl vec_one (by simp [rv24.2]) (by simp [rv24.2, s10.2]) ?_
          intro wv39 hs
          refine OW_nil ?_
          obtain rfl := Option.some.inj hM
          exact ⟨gg37, rfl, rfl, rfl, rfl, hagg26, hs⟩
        · refine WP_false rfl hc18 ?_
          refine WP_skip ?_
          obtain rfl := Option.some.inj hM
          exact ⟨gg36, rfl, rfl, rfl, rfl, hagg26, hs⟩
      · clear hs
        rintro E w ⟨gg35, hE1, hE2, hE3, hE4, hlegg35, hs⟩
        have hM := hKhx7
        obtain ⟨E, rfl⟩ := open1 (E := E) hE1
        obtain ⟨E, rfl⟩ := open1 (E := E) hE2
        obtain ⟨E, rfl⟩ := open1 (E := E) hE3
        obtain ⟨E, rfl⟩ := open1 (E := E) hE4
        replace hlegg26 := hlegg26.trans hlegg35
        replace hagg26 := hagg26.trans hlegg35
        refine WP_region ?_
        refine O (r_move (v := .int .i64 i5) rfl) rfl ?_
        obtain ⟨t6, ht6, hM⟩ := bindS hM
        refine O (r_addM rfl rfl ht6) rfl ?_
        refine O (r_assign (v := .int .i64 t6) rfl) rfl ?_
        refine OW_nil ?_
        obtain rfl := Option.some.inj hM
        exact ⟨gg35, rfl, rfl, rfl, rfl, hlegg26, hs⟩
    · refine WP_false rfl hc16 ?_
      refine WP_exit ?_
      obtain rfl := Option.some.inj hM
      refine fun hr => ?_
      have hM := congrArg some hr
      obtain rfl := Option.some.inj hM
      exact ⟨gg26, rfl, rfl, hlegg26, (hs.sub (.cons_cons _ (.cons_cons _ (.cons _ .slnil))))⟩
  · clear hs
    rintro E w ⟨gg19, hE2, hE3, hlegg19, hs⟩
    have hM := hKhx4
    obtain ⟨E, rfl⟩ := open1 (E := E) hE2
    obtain ⟨E, rfl⟩ := open1 (E := E) hE3
    refine WP_seq ?_
    refine WP_region ?_
    refine O (r_loadN (cs := s7.1.map (.int .u64)) ti25 rfl (by simp [s7.2]) (hs.cells (i := 0) rfl)) rfl ?_
    refine OW_storeAll ti25 hs (i := 1) rfl rfl (v := encV .u64 s7) rfl (vs := s7.1.map (.int .u64)) rfl vec_one (by simp [s7.2]) (by simp [s7.2, (Vec.zero 4).2]) ?_
    intro wv40 hs
    refine OW_nil ?_
    refine WP_ret ?_
    obtain rfl := Option.some.inj hM
    exact ⟨_, res1 Try.results23 (rv_cells (vs := s7.1.map (.int .u64)) ti25 rfl (by simp [s7.2]) (hs.cells (i := 1) rfl)), gg19, ⟨s7.1.map (.int .u64), rfl, rfl⟩, hs.ext⟩

set_option maxRecDepth 100000 in
theorem ref07_List_ok {s1 : (Vec 4)} {r : (List Int)} (hM : M.ref07_List s1 = some r) {g0 : Hp} {w0 : World} (hi : Imm g0 w0) :
    CallsV Try.prog 29 #[encV .u64 s1] w0 (fun v w' => ∃ g', (VRd (tSl (tInt .u8)) false g' v r) ∧ Ext g0 w0 g' w') := by
  unfold M.ref07_List at hM
  have hs := Sep.start hi
  refine calls_of_WP (args := [encV .u64 s1]) Try.func29 rfl Try.ntmps29 rfl ?_
  refine WP_seq ?_
  refine WP_region ?_
  refine OW_box (v := encV .u64 s1) rfl hs (zs := s1.1.map (.int .u64)) rfl rfl ?_
  intro b1 wv1 hs
  refine O (r_assign (v := .slice none 0 0) rfl) rfl ?_
  refine OW_nil ?_
  refine WP_seq ?_
  refine WP_region ?_
  refine O (r_assign (v := .slice none 0 0) rfl) rfl ?_
  refine OW_nil ?_
  obtain ⟨xv4, hx4, hKhx4⟩ := bindS hM
  refine WP_cut (fun E w => ∃ (gg13 : Hp) (v25 : Value) (xs21 : List Value), E 3 = v25 ∧ Hle g0 gg13 ∧ RowRel (tInt .u8) gg13 xs21 xv4 ∧ Go.Lx.Sep g0 w0 gg13 w [.row v25 5 (tInt .u8).sz xv4.length xs21]) ?_ ?_
  · have hM := hx4
    have hag0 := Hle.refl g0
    refine WP_seq ?_
    refine WP_region ?_
    refine O (r_assign (v := .int .i64 0) rfl) rfl ?_
    refine OW_nil ?_
    refine WP_block ?_
    have hs := hs.nilRow 5 (tInt .u8).sz
    refine WP_loop (fun (st9 : (List Int) × Int) E w => match st9 with | (xv6, i5) => ∃ (gg18 : Hp) (v34 : Value) (xs30 : List Value), E 1 = .pointer (some ⟨b1, 0, none⟩) ∧ E 3 = v34 ∧ E 4 = .int .i64 i5 ∧ Hle g0 gg18 ∧ RowRel (tInt .u8) gg18 xs30 xv6 ∧ Go.Lx.Sep g0 w0 gg18 w [.row v34 5 (tInt .u8).sz xv6.length xs30, Go.Lx.box b1 25 (s1.1.map (.int .u64))]) hM ⟨g0, (.slice none 0 0), [], rfl, rfl, rfl, (Hle.refl _), RowRel.nil, hs⟩ ?_
    clear hs hM
    rintro ⟨xv6, i5⟩ o2 E w hM ⟨gg18, v34, xs30, hE1, hE3, hE4, hlegg18, hrelxs30, hs⟩
    obtain ⟨E, rfl⟩ := open1 (E := E) hE1
    obtain ⟨E, rfl⟩ := open1 (E := E) hE3
    obtain ⟨E, rfl⟩ := open1 (E := E) hE4
    replace hag0 := hag0.trans hlegg18
    have hagg18 := Hle.refl gg18
    refine WP_seq ?_
    refine WP_seq ?_
    refine WP_region ?_
    refine O (r_move (v := .int .i64 i5) rfl) rfl ?_
    refine O (r_lss rfl rfl) rfl ?_
    refine OW_nil ?_
    rcases condS hM with ⟨hc16, hM⟩ | ⟨hc16, hM⟩
    · refine WP_true rfl hc16 ?_
      refine WP_skip ?_
      obtain ⟨l11, hx7, hKhx7⟩ := bindS hM
      refine WP_cut (fun E w => ∃ (gg24 : Hp) (v46 : Value) (xs39 : List Value), E 1 = .pointer (some ⟨b1, 0, none⟩) ∧ E 3 = v46 ∧ E 4 = .int .i64 i5 ∧ Hle gg18 gg24 ∧ RowRel (tInt .u8) gg24 xs39 l11 ∧ Go.Lx.Sep g0 w0 gg24 w [.row v46 5 (tInt .u8).sz l11.length xs39, Go.Lx.box b1 25 (s1.1.map (.int .u64))]) ?_ ?_
      · have hM := hx7
        refine WP_block ?_
        refine WP_seq ?_
        refine WP_region ?_
        refine O (r_loadN (cs := s1.1.map (.int .u64)) ti25 rfl (by simp [s1.2]) (hs.cells (i := 1) rfl)) rfl ?_
        refine O (r_move (v := .int .i64 i5) rfl) rfl ?_
        refine O (r_conv Try.underlying3 Try.underlying5 rfl) rfl ?_
        obtain ⟨rv12, hrv12, hM⟩ := bindS hM
        refine C [encV .u64 s1, .int .u8 (IntKind.u8.wrap i5)] cf14 rfl (ref07_Has_ok hrv12 hs.imm) rfl ?_
        rintro v47 wv35 ⟨gg25, hvv47, hegg25⟩
        have hlegg25 := hegg25.le hs.imm
        replace hs := hs.call hegg25
        replace hrelxs30 := hrelxs30.mono hlegg25
        replace hlegg18 := hlegg18.trans hlegg25
        replace hagg18 := hagg18.trans hlegg25
        obtain ⟨cs12, rfl, hcs12⟩ := hvv47
        have hcs12 : cs12 = _ := hcs12; subst hcs12
        refine OW_nil ?_
        rcases condS hM with ⟨hc18, hM⟩ | ⟨hc18, hM⟩
        · refine WP_true rfl hc18 ?_
          refine WP_region ?_
          refine O (r_move (v := v34) rfl) rfl ?_
          refine O (r_move (v := .int .i64 i5) rfl) rfl ?_
          refine O (r_conv Try.underlying3 Try.underlying5 rfl) rfl ?_
          refine OW_lit (τ := (tInt .u8)) [.int .u8 (IntKind.u8.wrap i5)] [(IntKind.u8.wrap i5)] Try.underlying44 ti5 (by decide) hs rfl rfl rfl ⟨rfl, trivial⟩ rfl ?_
          intro v48 wv36 xs40 hrelxs40 hs
          obtain ⟨l12, hl12, hM⟩ := bindS hM
          refine OW_append Try.underlying44 ti5 rfl (by decide) (by decide) hs (i := 1) rfl hrelxs30 (v := v34) rfl (u := v48) rfl (hs.rowSrc (i := 0) rfl) hrelxs40 hl12 rfl ?_
          intro v49 wv37 xs41 hrelxs41 hs
          refine O (r_assign (v := v49) rfl) rfl ?_
          refine OW_nil ?_
          obtain rfl := Option.some.inj hM
          exact ⟨gg25, v49, xs41, rfl, rfl, rfl, hagg18, hrelxs41, (hs.sub (.cons _ (.cons_cons _ (.cons_cons _ .slnil))))⟩
        · refine WP_false rfl hc18 ?_
          refine WP_skip ?_
          obtain rfl := Option.some.inj hM
          exact ⟨gg25, v34, xs30, rfl, rfl, rfl, hagg18, hrelxs30, hs⟩
      · clear hs
        rintro E w ⟨gg24, v46, xs39, hE1, hE3, hE4, hlegg24, hrelxs39, hs⟩
        have hM := hKhx7
        obtain ⟨E, rfl⟩ := open1 (E := E) hE1
        obtain ⟨E, rfl⟩ := open1 (E := E) hE3
        obtain ⟨E, rfl⟩ := open1 (E := E) hE4
        replace hlegg18 := hlegg18.trans hlegg24
        replace hagg18 := hagg18.trans hlegg24
        refine WP_region ?_
        refine O (r_move (v := .int .i64 i5) rfl) rfl ?_
        obtain ⟨t6, ht6, hM⟩ := bindS hM
        refine O (r_addM rfl rfl ht6) rfl ?_
        refine O (r_assign (v := .int .i64 t6) rfl) rfl ?_
        refine OW_nil ?_
        obtain rfl := Option.some.inj hM
        exact ⟨gg24, v46, xs39, rfl, rfl, rfl, hlegg18, hrelxs39, hs⟩
    · refine WP_false rfl hc16 ?_
      refine WP_exit ?_
      obtain rfl := Option.some.inj hM
      refine fun hr => ?_
      have hM := congrArg some hr
      obtain rfl := Option.some.inj hM
      exact ⟨gg18, v34, xs30, rfl, hlegg18, hrelxs30, (hs.sub (.cons_cons _ (.cons _ .slnil)))⟩
  · clear hs
    rintro E w ⟨gg13, v25, xs21, hE3, hlegg13, hrelxs21, hs⟩
    have hM := hKhx4
    obtain ⟨E, rfl⟩ := open1 (E := E) hE3
    refine WP_seq ?_
    refine WP_region ?_
    refine O (r_move (v := v25) rfl) rfl ?_
    refine O (r_assign (v := v25) rfl) rfl ?_
    refine OW_nil ?_
    refine WP_ret ?_
    obtain ⟨gg26, hlegg26, hRgg26, hs⟩ := hs.relRow (i := 0) rfl hrelxs21
    obtain rfl := Option.some.inj hM
    exact ⟨_, res1 Try.results29 (rv_tmp (v := v25) rfl), gg26, ⟨[v25], rfl, ⟨_, rfl, hRgg26⟩⟩, hs.ext⟩

set_option maxRecDepth 100000 in
theorem ref07_Len_ok {s1 : (Vec 4)} {r : Int} (hM : M.ref07_Len s1 = some r) {g0 : Hp} {w0 : World} (hi : Imm g0 w0) :
    CallsV Try.prog 25 #[encV .u64 s1] w0 (fun v w' => ∃ g', (VRd (tInt .i64) false g' v r) ∧ Ext g0 w0 g' w') := by
  unfold M.ref07_Len at hM
  have hs := Sep.start hi
  refine calls_of_WP (args := [encV .u64 s1]) Try.func25 rfl Try.ntmps25 rfl ?_
  refine WP_seq ?_
  refine WP_region ?_
  refine OW_box (v := encV .u64 s1) rfl hs (zs := s1.1.map (.int .u64)) rfl rfl ?_
  intro b1 wv1 hs
  refine O (r_assign (v := .int .i64 0) rfl) rfl ?_
  refine OW_nil ?_
  refine WP_seq ?_
  refine WP_region ?_
  refine O (r_loadN (cs := s1.1.map (.int .u64)) ti25 rfl (by simp [s1.2]) (hs.cells (i := 0) rfl)) rfl ?_
  obtain ⟨rv1, hrv1, hM⟩ := bindS hM
  refine C [encV .u64 s1] cf29 rfl (ref07_List_ok hrv1 hs.imm) rfl ?_
  rintro v1 wv2 ⟨gg1, hvv1, hegg1⟩
  have hlegg1 := hegg1.le hs.imm
  replace hs := hs.call hegg1
  obtain ⟨cs1, rfl, hcs1⟩ := hvv1
  obtain ⟨v2, rfl, hRv2⟩ := hcs1
  obtain ⟨a1, ca1, hva1⟩ := hRv2.shape
  refine O (r_lenSl (v := v2) Try.underlying44 rfl hva1) rfl ?_
  refine O (r_assign (v := .int .i64 (rv1.length : Int)) rfl) rfl ?_
  refine OW_nil ?_
  refine WP_ret ?_
  obtain rfl := Option.some.inj hM
  exact ⟨_, res1 Try.results25 (rv_tmp (v := .int .i64 (rv1.length : Int)) rfl), gg1, ⟨[.int .i64 (rv1.length : Int)], rfl, rfl⟩, hs.ext⟩

set_option maxRecDepth 100000 in
theorem ref07_equivalent_ok {l1 : (List (Vec 4))} {a1 : Int} {b1 : Int} {r : Bool} (hM : M.ref07_equivalent l1 a1 b1 = some r) {g0 : Hp} {w0 : World} (hi : Imm g0 w0) {v1 : Value} (hRv1 : RdS (tVec 4 .u64) g0 v1 l1) :
    CallsV Try.prog 27 #[v1, .int .u8 a1, .int .u8 b1] w0 (fun v w' => ∃ g', (VRd tBool false g' v r) ∧ Ext g0 w0 g' w') := by
  unfold M.ref07_equivalent at hM
  have hs := Sep.start hi
  refine calls_of_WP (args := [v1, .int .u8 a1, .int .u8 b1]) Try.func27 rfl Try.ntmps27 rfl ?_
  refine WP_seq ?_
  refine WP_region ?_
  refine O (r_assign (v := .bool false) rfl) rfl ?_
  refine OW_nil ?_
  obtain ⟨o3, hx1, hKhx1⟩ := stepS hM
  refine WP_cut (fun E w => ∃ u9 : Unit, o3 = .next u9 ∧ ∃ (gg10 : Hp), Hle g0 gg10 ∧ Go.Lx.Sep g0 w0 gg10 w []) ?_ ?_
  · have hM := hx1
    have hag0 := Hle.refl g0
    refine WP_seq ?_
    refine WP_region ?_
    refine O (r_assign (v := .int .i64 0) rfl) rfl ?_
    refine OW_nil ?_
    refine WP_block ?_
    refine WP_loop (fun (i5 : Int) E w => ∃ (gg14 : Hp), E 0 = v1 ∧ E 1 = .int .u8 a1 ∧ E 2 = .int .u8 b1 ∧ E 7 = .int .i64 i5 ∧ Hle g0 gg14 ∧ Go.Lx.Sep g0 w0 gg14 w []) hM ⟨g0, rfl, rfl, rfl, rfl, (Hle.refl _), hs⟩ ?_
    clear hs hM
    rintro i5 o2 E w hM ⟨gg14, hE0, hE1, hE2, hE7, hlegg14, hs⟩
    obtain ⟨E, rfl⟩ := open1 (E := E) hE0
    obtain ⟨E, rfl⟩ := open1 (E := E) hE1
    obtain ⟨E, rfl⟩ := open1 (E := E) hE2
    obtain ⟨E, rfl⟩ := open1 (E := E) hE7
    replace hRv1 := hRv1.mono hlegg14
    replace hag0 := hag0.trans hlegg14
    have hagg14 := Hle.refl gg14
    refine WP_seq ?_
    refine WP_seq ?_
    refine WP_region ?_
    refine O (r_move (v := .int .i64 i5) rfl) rfl ?_
    refine O (r_move (v := v1) rfl) rfl ?_
    obtain ⟨a7, ca7, hva7⟩ := hRv1.shape
    refine O (r_lenSl (v := v1) Try.underlying30 rfl hva7) rfl ?_
    refine O (r_lss rfl rfl) rfl ?_
    refine OW_nil ?_
    rcases condS hM with ⟨hc11, hM⟩ | ⟨hc11, hM⟩
    · refine WP_true rfl hc11 ?_
      refine WP_skip ?_
      refine WP_seq ?_
      refine WP_block ?_
      refine WP_seq ?_
      refine WP_any (.q 0 (.q 1 (.q 2 (.q 3 (.q 4 (.q 6 (.q 7 (.q 8 (.q 9 (.q 10 (.s 5 (.s 11 (.q 12 (.leaf)))))))))))))) (SS g0 w0 gg14 []) mo (by decide +kernel) (fun _ _ _ h => h) ?_
      have hs := hs.drew
      have hRv1b := hRv1
      have hS : SS g0 w0 gg14 [] _ := ⟨gg14, Hle.refl _, hs⟩
      refine A rfl hS (fun w9 h9 => by obtain ⟨g9, hle9, hs⟩ := h9; exact r_move (v := v1) rfl) rfl ?_
      refine A rfl hS (fun w9 h9 => by obtain ⟨g9, hle9, hs⟩ := h9; exact r_move (v := .int .i64 i5) rfl) rfl ?_
      obtain ⟨e6, he6, hM⟩ := bindS hM
      obtain ⟨b12, ob12, cb12, hvb12, cs21, hcs21, hcb12⟩ := hRv1b.at he6
      have hcs21 : cs21 = _ := hcs21; subst hcs21
      refine A rfl hS (fun w9 h9 => by obtain ⟨g9, hle9, hs⟩ := h9; exact r_idxSl Try.underlying30 ti25 (v := v1) rfl hvb12 rfl (idxL_some he6).1 (idxL_some he6).2.1) rfl ?_
      refine A rfl hS (fun w9 h9 => by obtain ⟨g9, hle9, hs⟩ := h9; exact r_loadEl (cs := e6.1.map (.int .u64)) ti25 rfl (by simp [e6.2]) (.inl rfl) (hcb12 _ (hs.imm.of_le hle9)) (v := encV .u64 e6) rfl) rfl ?_
      refine A rfl hS (fun w9 h9 => by obtain ⟨g9, hle9, hs⟩ := h9; exact r_move (v := .int .u8 a1) rfl) rfl ?_
      refine A rfl hS (fun w9 h9 => by obtain ⟨g9, hle9, hs⟩ := h9; exact r_move (v := v1) rfl) rfl ?_
      refine A rfl hS (fun w9 h9 => by obtain ⟨g9, hle9, hs⟩ := h9; exact r_move (v := .int .i64 i5) rfl) rfl ?_
      obtain ⟨b13, ob13, cb13, hvb13, cs22, hcs22, hcb13⟩ := hRv1b.at he6
      have hcs22 : cs22 = _ := hcs22; subst hcs22
      refine A rfl hS (fun w9 h9 => by obtain ⟨g9, hle9, hs⟩ := h9; exact r_idxSl Try.underlying30 ti25 (v := v1) rfl hvb13 rfl (idxL_some he6).1 (idxL_some he6).2.1) rfl ?_
      refine A rfl hS (fun w9 h9 => by obtain ⟨g9, hle9, hs⟩ := h9; exact r_loadEl (cs := e6.1.map (.int .u64)) ti25 rfl (by simp [e6.2]) (.inl rfl) (hcb13 _ (hs.imm.of_le hle9)) (v := encV .u64 e6) rfl) rfl ?_
      refine A rfl hS (fun w9 h9 => by obtain ⟨g9, hle9, hs⟩ := h9; exact r_move (v := .int .u8 b1) rfl) rfl ?_
      refine A1 rfl ?_
      obtain ⟨rv11, hrv11, hM⟩ := bindS hM
      refine C [encV .u64 e6, .int .u8 a1] cf14 rfl (ref07_Has_ok hrv11 hs.imm) rfl ?_
      rintro v12 wv11 ⟨gg18, hvv12, hegg18⟩
      have hlegg18 := hegg18.le hs.imm
      replace hs := hs.call hegg18
      replace hRv1 := hRv1.mono hlegg18
      replace hlegg14 := hlegg14.trans hlegg18
      replace hagg14 := hagg14.trans hlegg18
      obtain ⟨cs23, rfl, hcs23⟩ := hvv12
      have hcs23 : cs23 = _ := hcs23; subst hcs23
      refine OW_nil ?_
      have hS : SS g0 w0 gg14 [] _ := ⟨gg18, hagg14, hs⟩
      refine ⟨hS, ?_⟩
      refine A1 rfl ?_
      obtain ⟨rv12, hrv12, hM⟩ := bindS hM
      refine C [encV .u64 e6, .int .u8 b1] cf14 rfl (ref07_Has_ok hrv12 hs.imm) rfl ?_
      rintro v13 wv12 ⟨gg19, hvv13, hegg19⟩
      have hlegg19 := hegg19.le hs.imm
      replace hs := hs.call hegg19
      replace hRv1 := hRv1.mono hlegg19
      replace hlegg14 := hlegg14.trans hlegg19
      replace hagg14 := hagg14.trans hlegg19
      obtain ⟨cs24, rfl, hcs24⟩ := hvv13
      have hcs24 : cs24 = _ := hcs24; subst hcs24
      refine OW_nil ?_
      have hS : SS g0 w0 gg14 [] _ := ⟨gg19, hagg14, hs⟩
      refine ⟨hS, ?_⟩
      refine A rfl hS (fun w9 h9 => by obtain ⟨g9, hle9, hs⟩ := h9; exact r_neqB Try.underlying4 rfl rfl) rfl ?_
      refine AN ?_
      rcases condS hM with ⟨hc12, hM⟩ | ⟨hc12, hM⟩
      · refine WP_true rfl hc12 ?_
        refine WP_seq ?_
        refine WP_region ?_
        refine O (r_assign (v := .bool false) rfl) rfl ?_
        refine OW_nil ?_
        refine WP_ret ?_
        obtain rfl := Option.some.inj hM
        refine fun hr => ?_
        have hM := congrArg some hr
        obtain rfl := Option.some.inj hM
        have hM := hKhx1
        obtain rfl := Option.some.inj hM
        exact ⟨_, res1 Try.results27 (rv_tmp (v := .bool false) rfl), gg19, ⟨[.bool false], rfl, rfl⟩, hs.ext⟩
      · refine WP_false rfl hc12 ?_
        refine WP_skip ?_
        refine WP_region ?_
        refine O (r_move (v := .int .i64 i5) rfl) rfl ?_
        obtain ⟨t6, ht6, hM⟩ := bindS hM
        refine O (r_addM rfl rfl ht6) rfl ?_
        refine O (r_assign (v := .int .i64 t6) rfl) rfl ?_
        refine OW_nil ?_
        obtain rfl := Option.some.inj hM
        exact ⟨gg19, rfl, rfl, rfl, rfl, hlegg14, hs⟩
    · refine WP_false rfl hc11 ?_
      refine WP_exit ?_
      obtain rfl := Option.some.inj hM
      refine fun hr => ?_
      have hM := congrArg some hr
      obtain rfl := Option.some.inj hM
      exact ⟨(), rfl, gg14, hlegg14, hs⟩
  · clear hs
    rintro E w ⟨_, rfl, gg10, hlegg10, hs⟩
    have hM := hKhx1
    refine WP_seq ?_
    refine WP_region ?_
    refine O (r_assign (v := .bool true) rfl) rfl ?_
    refine OW_nil ?_
    refine WP_ret ?_
    obtain rfl := Option.some.inj hM
    exact ⟨_, res1 Try.results27 (rv_tmp (v := .bool true) rfl), gg10, ⟨[.bool true], rfl, rfl⟩, hs.ext⟩

set_option maxRecDepth 100000 in
theorem ref07_Ints_ok {a1 : (List Int)} {b1 : (List Int)} {r : Bool} (hM : M.ref07_Ints a1 b1 = some r) {g0 : Hp} {w0 : World} (hi : Imm g0 w0) {v1 : Value} (hRv1 : RdS (tInt .i64) g0 v1 a1) {v2 : Value} (hRv2 : RdS (tInt .i64) g0 v2 b1) :
    CallsV Try.prog 15 #[v1, v2] w0 (fun v w' => ∃ g', (VRd tBool false g' v r) ∧ Ext g0 w0 g' w') := by
  unfold M.ref07_Ints at hM
  have hs := Sep.start hi
  refine calls_of_WP (args := [v1, v2]) Try.func15 rfl Try.ntmps15 rfl ?_
  refine WP_seq ?_
  refine WP_region ?_
  refine O (r_assign (v := .bool false) rfl) rfl ?_
  refine OW_nil ?_
  refine WP_seq ?_
  refine WP_seq ?_
  refine WP_region ?_
  refine O (r_move (v := v1) rfl) rfl ?_
  obtain ⟨a2, ca2, hva2⟩ := hRv1.shape
  refine O (r_lenSl (v := v1) Try.underlying32 rfl hva2) rfl ?_
  refine O (r_move (v := v2) rfl) rfl ?_
  obtain ⟨a3, ca3, hva3⟩ := hRv2.shape
  refine O (r_lenSl (v := v2) Try.underlying32 rfl hva3) rfl ?_
  refine O (r_neq rfl rfl) rfl ?_
  refine OW_nil ?_
  rcases condS hM with ⟨hc1, hM⟩ | ⟨hc1, hM⟩
  · refine WP_true rfl hc1 ?_
    refine WP_seq ?_
    refine WP_region ?_
    refine O (r_assign (v := .bool false) rfl) rfl ?_
    refine OW_nil ?_
    refine WP_ret ?_
    obtain rfl := Option.some.inj hM
    exact ⟨_, res1 Try.results15 (rv_tmp (v := .bool false) rfl), g0, ⟨[.bool false], rfl, rfl⟩, hs.ext⟩
  · refine WP_false rfl hc1 ?_
    refine WP_skip ?_
    obtain ⟨o3, hx1, hKhx1⟩ := stepS hM
    refine WP_cut (fun E w => ∃ u9 : Unit, o3 = .next u9 ∧ Go.Lx.Sep g0 w0 g0 w []) ?_ ?_
    · have hM := hx1
      have hag0 := Hle.refl g0
      refine WP_seq ?_
      refine WP_region ?_
      refine O (r_assign (v := .int .i64 0) rfl) rfl ?_
      refine OW_nil ?_
      refine WP_block ?_
      refine WP_loop (fun (i5 : Int) E w => E 0 = v1 ∧ E 1 = v2 ∧ E 5 = .int .i64 i5 ∧ Go.Lx.Sep g0 w0 g0 w []) hM ⟨rfl, rfl, rfl, hs⟩ ?_
      clear hs hM
      rintro i5 o2 E w hM ⟨hE0, hE1, hE5, hs⟩
      obtain ⟨E, rfl⟩ := open1 (E := E) hE0
      obtain ⟨E, rfl⟩ := open1 (E := E) hE1
      obtain ⟨E, rfl⟩ := open1 (E := E) hE5
      refine WP_seq ?_
      refine WP_seq ?_
      refine WP_region ?_
      refine O (r_move (v := .int .i64 i5) rfl) rfl ?_
      refine O (r_move (v := v1) rfl) rfl ?_
      obtain ⟨a9, ca9, hva9⟩ := hRv1.shape
      refine O (r_lenSl (v := v1) Try.underlying32 rfl hva9) rfl ?_
      refine O (r_lss rfl rfl) rfl ?_
      refine OW_nil ?_
      rcases condS hM with ⟨hc12, hM⟩ | ⟨hc12, hM⟩
      · refine WP_true rfl hc12 ?_
        refine WP_skip ?_
        refine WP_seq ?_
        refine WP_block ?_
        refine WP_seq ?_
        refine WP_draw mo (by decide +kernel) ?_
        have hs := hs.drew
        refine S (r_move (v := v1) rfl) rfl ?_
        refine S (r_move (v := .int .i64 i5) rfl) rfl ?_
        obtain ⟨e11, he11, hM⟩ := bindS hM
        obtain ⟨b12, ob12, cb12, hvb12, cs11, hcs11, hcb12⟩ := hRv1.at he11
        have hcs11 : cs11 = _ := hcs11; subst hcs11
        refine S (r_idxSl Try.underlying32 ti3 (v := v1) rfl hvb12 rfl (idxL_some he11).1 (idxL_some he11).2.1) rfl ?_
        refine S (r_loadEl (cs := [.int .i64 e11]) ti3 rfl rfl (.inr rfl) (hcb12 _ hs.imm) (v := .int .i64 e11) rfl) rfl ?_
        refine S (r_move (v := v2) rfl) rfl ?_
        refine S (r_move (v := .int .i64 i5) rfl) rfl ?_
        obtain ⟨e12, he12, hM⟩ := bindS hM
        obtain ⟨b13, ob13, cb13, hvb13, cs12, hcs12, hcb13⟩ := hRv2.at he12
        have hcs12 : cs12 = _ := hcs12; subst hcs12
        refine S (r_idxSl Try.underlying32 ti3 (v := v2) rfl hvb13 rfl (idxL_some he12).1 (idxL_some he12).2.1) rfl ?_
        refine S (r_loadEl (cs := [.int .i64 e12]) ti3 rfl rfl (.inr rfl) (hcb13 _ hs.imm) (v := .int .i64 e12) rfl) rfl ?_
        refine S (r_neq rfl rfl) rfl ?_
        refine SW_nil ?_
        rcases condS hM with ⟨hc13, hM⟩ | ⟨hc13, hM⟩
        · refine WP_true rfl hc13 ?_
          refine WP_seq ?_
          refine WP_region ?_
          refine O (r_assign (v := .bool false) rfl) rfl ?_
          refine OW_nil ?_
          refine WP_ret ?_
          obtain rfl := Option.some.inj hM
          refine fun hr => ?_
          have hM := congrArg some hr
          obtain rfl := Option.some.inj hM
          have hM := hKhx1
          obtain rfl := Option.some.inj hM
          exact ⟨_, res1 Try.results15 (rv_tmp (v := .bool false) rfl), g0, ⟨[.bool false], rfl, rfl⟩, hs.ext⟩
        · refine WP_false rfl hc13 ?_
          refine WP_skip ?_
          refine WP_region ?_
          refine O (r_move (v := .int .i64 i5) rfl) rfl ?_
          obtain ⟨t6, ht6, hM⟩ := bindS hM
          refine O (r_addM rfl rfl ht6) rfl ?_
          refine O (r_assign (v := .int .i64 t6) rfl) rfl ?_
          refine OW_nil ?_
          obtain rfl := Option.some.inj hM
          exact ⟨rfl, rfl, rfl, hs⟩
      · refine WP_false rfl hc12 ?_
        refine WP_exit ?_
        obtain rfl := Option.some.inj hM
        refine fun hr => ?_
        have hM := congrArg some hr
        obtain rfl := Option.some.inj hM
        exact ⟨(), rfl, hs⟩
    · clear hs
      rintro E w ⟨_, rfl, hs⟩
      have hM := hKhx1
      refine WP_seq ?_
      refine WP_region ?_
      refine O (r_assign (v := .bool true) rfl) rfl ?_
      refine OW_nil ?_
      refine WP_ret ?_
      obtain rfl := Option.some.inj hM
      exact ⟨_, res1 Try.results15 (rv_tmp (v := .bool true) rfl), g0, ⟨[.bool true], rfl, rfl⟩, hs.ext⟩

set_option maxRecDepth 100000 in
theorem ref07_Classes_ok {l1 : (List (Vec 4))} {r : (List Int)} (hM : M.ref07_Classes l1 = some r) {g0 : Hp} {w0 : World} (hi : Imm g0 w0) {v1 : Value} (hRv1 : RdS (tVec 4 .u64) g0 v1 l1) :
    CallsV Try.prog 17 #[v1] w0 (fun v w' => ∃ g', (VRd (tSl (tInt .i64)) false g' v r) ∧ Ext g0 w0 g' w') := by
  unfold M.ref07_Classes at hM
  have hs := Sep.start hi
  refine calls_of_WP (args := [v1]) Try.func17 rfl Try.ntmps17 rfl ?_
  refine WP_seq ?_
  refine WP_region ?_
  refine O (r_assign (v := .slice none 0 0) rfl) rfl ?_
  refine OW_nil ?_
  refine WP_seq ?_
  refine WP_region ?_
  obtain ⟨out1, hout1, hM⟩ := bindS hM
  refine OW_make (τ := (tInt .i64)) (zc := [.int .i64 0]) (zx := 0) Try.underlying32 ti3 rfl rfl (by decide) hs rfl rfl hout1 rfl ?_
  intro v2 wv1 xs1 hrelxs1 hs
  refine O (r_assign (v := v2) rfl) rfl ?_
  refine OW_nil ?_
  refine WP_seq ?_
  refine WP_region ?_
  refine O (r_assign (v := .int .i64 0) rfl) rfl ?_
  refine OW_nil ?_
  obtain ⟨out56, hx10, hKhx10⟩ := bindS hM
  refine WP_cut (fun E w => ∃ (gg85 : Hp) (v51 : Value) (xs56 : List Value), E 3 = v51 ∧ Hle g0 gg85 ∧ RowRel (tInt .i64) gg85 xs56 out56 ∧ Go.Lx.Sep g0 w0 gg85 w [.row v51 3 (tInt .i64).sz out56.length xs56]) ?_ ?_
  · have hM := hx10
    have hag0 := Hle.refl g0
    refine WP_seq ?_
    refine WP_region ?_
    refine O (r_assign (v := .int .i64 0) rfl) rfl ?_
    refine OW_nil ?_
    refine WP_block ?_
    refine WP_loop (fun (st9 : (List Int) × Int × Int) E w => match st9 with | (out75, nv9, b117) => ∃ (gg114 : Hp) (v68 : Value) (xs75 : List Value), E 0 = v1 ∧ E 3 = v68 ∧ E 4 = .int .i64 nv9 ∧ E 5 = .int .i64 b117 ∧ Hle g0 gg114 ∧ RowRel (tInt .i64) gg114 xs75 out75 ∧ Go.Lx.Sep g0 w0 gg114 w [.row v68 3 (tInt .i64).sz out75.length xs75]) hM ⟨g0, v2, xs1, rfl, rfl, rfl, rfl, (Hle.refl _), hrelxs1, hs⟩ ?_
    clear hs hM
    rintro ⟨out75, nv9, b117⟩ o22 E w hM ⟨gg114, v68, xs75, hE0, hE3, hE4, hE5, hlegg114, hrelxs75, hs⟩
    obtain ⟨E, rfl⟩ := open1 (E := E) hE0
    obtain ⟨E, rfl⟩ := open1 (E := E) hE3
    obtain ⟨E, rfl⟩ := open1 (E := E) hE4
    obtain ⟨E, rfl⟩ := open1 (E := E) hE5
    replace hRv1 := hRv1.mono hlegg114
    replace hag0 := hag0.trans hlegg114
    have hagg114 := Hle.refl gg114
    refine WP_seq ?_
    refine WP_seq ?_
    refine WP_region ?_
    refine O (r_move (v := .int .i64 b117) rfl) rfl ?_
    refine O (r_lss rfl rfl) rfl ?_
    refine OW_nil ?_
    rcases condS hM with ⟨hc136, hM⟩ | ⟨hc136, hM⟩
    · refine WP_true rfl hc136 ?_
      refine WP_skip ?_
      obtain ⟨⟨out102, nv12⟩, hx18, hKhx18⟩ := bindS hM
      refine WP_cut (fun E w => ∃ (gg156 : Hp) (v92 : Value) (xs102 : List Value), E 0 = v1 ∧ E 3 = v92 ∧ E 4 = .int .i64 nv12 ∧ E 5 = .int .i64 b117 ∧ Hle gg114 gg156 ∧ RowRel (tInt .i64) gg156 xs102 out102 ∧ Go.Lx.Sep g0 w0 gg156 w [.row v92 3 (tInt .i64).sz out102.length xs102]) ?_ ?_
      · have hM := hx18
        refine WP_block ?_
        refine WP_seq ?_
        refine WP_region ?_
        refine O (r_move (v := v68) rfl) rfl ?_
        refine O (r_move (v := .int .i64 b117) rfl) rfl ?_
        refine O (r_move (v := .int .i64 nv9) rfl) rfl ?_
        obtain ⟨out103, hout103, hM⟩ := bindS hM
        obtain ⟨b161, cb161, hvb161, wv145, xs103, hstb161, hrelb161, hsb161⟩ := hs.rowPut (i := 0) rfl hrelxs75 hout103 (cs := [.int .i64 nv9]) rfl
        refine O (r_idxSl Try.underlying32 ti3 (v := v68) rfl hvb161 rfl (setL_some hout103).1 (setL_some hout103).2.1) rfl ?_
        refine O0 (r_store ti3 rfl (v := .int .i64 nv9) rfl rfl hstb161) ?_
        have hs := hsb161
        refine OW_nil ?_
        obtain ⟨out107, hx19, hKhx19⟩ := bindS hM
        refine WP_cut (fun E w => ∃ (gg163 : Hp) (v96 : Value) (xs107 : List Value), E 0 = v1 ∧ E 3 = v96 ∧ E 4 = .int .i64 nv9 ∧ E 5 = .int .i64 b117 ∧ Hle gg114 gg163 ∧ RowRel (tInt .i64) gg163 xs107 out107 ∧ Go.Lx.Sep g0 w0 gg163 w [.row v96 3 (tInt .i64).sz out107.length xs107]) ?_ ?_
        · have hM := hx19
          refine WP_seq ?_
          refine WP_region ?_
          refine O (r_assign (v := .int .i64 0) rfl) rfl ?_
          refine OW_nil ?_
          refine WP_block ?_
          refine WP_loop (fun (a71 : Int) E w => ∃ (gg166 : Hp), E 0 = v1 ∧ E 3 = v68 ∧ E 4 = .int .i64 nv9 ∧ E 5 = .int .i64 b117 ∧ E 6 = .int .i64 a71 ∧ Hle gg114 gg166 ∧ Go.Lx.Sep g0 w0 gg166 w [.row v68 3 (tInt .i64).sz out103.length xs103]) hM ⟨gg114, rfl, rfl, rfl, rfl, rfl, (Hle.refl _), hs⟩ ?_
          clear hs hM
          rintro a71 o26 E w hM ⟨gg166, hE0, hE3, hE4, hE5, hE6, hlegg166, hs⟩
          obtain ⟨E, rfl⟩ := open1 (E := E) hE0
          obtain ⟨E, rfl⟩ := open1 (E := E) hE3
          obtain ⟨E, rfl⟩ := open1 (E := E) hE4
          obtain ⟨E, rfl⟩ := open1 (E := E) hE5
          obtain ⟨E, rfl⟩ := open1 (E := E) hE6
          replace hRv1 := hRv1.mono hlegg166
          replace hrelb161 := hrelb161.mono hlegg166
          replace hlegg114 := hlegg114.trans hlegg166
          replace hagg114 := hagg114.trans hlegg166
          have hagg166 := Hle.refl gg166
          refine WP_seq ?_
          refine WP_seq ?_
          refine WP_region ?_
          refine O (r_move (v := .int .i64 a71) rfl) rfl ?_
          refine O (r_move (v := .int .i64 b117) rfl) rfl ?_
          refine O (r_lss rfl rfl) rfl ?_
          refine OW_nil ?_
          rcases condS hM with ⟨hc160, hM⟩ | ⟨hc160, hM⟩
          · refine WP_true rfl hc160 ?_
            refine WP_skip ?_
            refine WP_seq ?_
            refine WP_block ?_
            refine WP_seq ?_
            refine WP_region ?_
            refine O (r_move (v := v1) rfl) rfl ?_
            refine O (r_move (v := .int .i64 a71) rfl) rfl ?_
            refine O (r_conv Try.underlying3 Try.underlying5 rfl) rfl ?_
            refine O (r_move (v := .int .i64 b117) rfl) rfl ?_
            refine O (r_conv Try.underlying3 Try.underlying5 rfl) rfl ?_
            obtain ⟨rv72, hrv72, hM⟩ := bindS hM
            refine C [v1, .int .u8 (IntKind.u8.wrap a71), .int .u8 (IntKind.u8.wrap b117)] cf27 rfl (ref07_equivalent_ok hrv72 hs.imm hRv1) rfl ?_
            rintro v99 wv156 ⟨gg169, hvv99, hegg169⟩
            have hlegg169 := hegg169.le hs.imm
            replace hs := hs.call hegg169
            replace hRv1 := hRv1.mono hlegg169
            replace hrelb161 := hrelb161.mono hlegg169
            replace hlegg114 := hlegg114.trans hlegg169
            replace hlegg166 := hlegg166.trans hlegg169
            replace hagg166 := hagg166.trans hlegg169
            obtain ⟨cs154, rfl, hcs154⟩ := hvv99
            have hcs154 : cs154 = _ := hcs154; subst hcs154
            refine OW_nil ?_
            rcases condS hM with ⟨hc161, hM⟩ | ⟨hc161, hM⟩
            · refine WP_true rfl hc161 ?_
              refine WP_seq ?_
              refine WP_region ?_
              refine O (r_move (v := v68) rfl) rfl ?_
              refine O (r_move (v := .int .i64 b117) rfl) rfl ?_
              refine O (r_move (v := v68) rfl) rfl ?_
              refine O (r_move (v := .int .i64 a71) rfl) rfl ?_
              obtain ⟨e83, he83, hM⟩ := bindS hM
              obtain ⟨b172, cb172, hvb172, cs155, hcs155, hcb172⟩ := hs.rowEl (i := 0) rfl hrelb161 he83
              have hcs155 : cs155 = _ := hcs155; subst hcs155
              refine O (r_idxSl Try.underlying32 ti3 (v := v68) rfl hvb172 rfl (idxL_some he83).1 (idxL_some he83).2.1) rfl ?_
              refine O (r_loadEl (cs := [.int .i64 e83]) ti3 rfl rfl (.inr rfl) (hcb172 _ (hs.at (i := 0) rfl)) (v := .int .i64 e83) rfl) rfl ?_
              obtain ⟨out110, hout110, hM⟩ := bindS hM
              obtain ⟨b173, cb173, hvb173, wv157, xs110, hstb173, hrelb173, hsb173⟩ := hs.rowPut (i := 0) rfl hrelb161 hout110 (cs := [.int .i64 e83]) rfl
              refine O (r_idxSl Try.underlying32 ti3 (v := v68) rfl hvb173 rfl (setL_some hout110).1 (setL_some hout110).2.1) rfl ?_
              refine O0 (r_store ti3 rfl (v := .int .i64 e83) rfl rfl hstb173) ?_
              have hs := hsb173
              refine OW_nil ?_
              refine WP_exit ?_
              obtain rfl := Option.some.inj hM
              refine fun hr => ?_
              have hM := congrArg some hr
              obtain rfl := Option.some.inj hM
              exact ⟨gg169, v68, xs110, rfl, rfl, rfl, rfl, hlegg166, hrelb173, hs⟩
            · refine WP_false rfl hc161 ?_
              refine WP_skip ?_
              refine WP_region ?_
              refine O (r_move (v := .int .i64 a71) rfl) rfl ?_
              obtain ⟨t88, ht88, hM⟩ := bindS hM
              refine O (r_addM rfl rfl ht88) rfl ?_
              refine O (r_assign (v := .int .i64 t88) rfl) rfl ?_
              refine OW_nil ?_
              obtain rfl := Option.some.inj hM
              exact ⟨gg169, rfl, rfl, rfl, rfl, rfl, hlegg166, hs⟩
          · refine WP_false rfl hc160 ?_
            refine WP_exit ?_
            obtain rfl := Option.some.inj hM
            refine fun hr => ?_
            have hM := congrArg some hr
            obtain rfl := Option.some.inj hM
            exact ⟨gg166, v68, xs103, rfl, rfl, rfl, rfl, hlegg166, hrelb161, hs⟩
        · clear hs
          rintro E w ⟨gg163, v96, xs107, hE0, hE3, hE4, hE5, hlegg163, hrelxs107, hs⟩
          have hM := hKhx19
          obtain ⟨E, rfl⟩ := open1 (E := E) hE0
          obtain ⟨E, rfl⟩ := open1 (E := E) hE3
          obtain ⟨E, rfl⟩ := open1 (E := E) hE4
          obtain ⟨E, rfl⟩ := open1 (E := E) hE5
          replace hRv1 := hRv1.mono hlegg163
          replace hlegg114 := hlegg114.trans hlegg163
          replace hagg114 := hagg114.trans hlegg163
          refine WP_seq ?_
          refine WP_region ?_
          refine O (r_move (v := v96) rfl) rfl ?_
          refine O (r_move (v := .int .i64 b117) rfl) rfl ?_
          obtain ⟨e84, he84, hM⟩ := bindS hM
          obtain ⟨b174, cb174, hvb174, cs156, hcs156, hcb174⟩ := hs.rowEl (i := 0) rfl hrelxs107 he84
          have hcs156 : cs156 = _ := hcs156; subst hcs156
          refine O (r_idxSl Try.underlying32 ti3 (v := v96) rfl hvb174 rfl (idxL_some he84).1 (idxL_some he84).2.1) rfl ?_
          refine O (r_loadEl (cs := [.int .i64 e84]) ti3 rfl rfl (.inr rfl) (hcb174 _ (hs.at (i := 0) rfl)) (v := .int .i64 e84) rfl) rfl ?_
          refine O (r_move (v := .int .i64 nv9) rfl) rfl ?_
          refine O (r_eql rfl rfl) rfl ?_
          refine OW_nil ?_
          rcases condS hM with ⟨hc162, hM⟩ | ⟨hc162, hM⟩
          · refine WP_true rfl hc162 ?_
            refine WP_region ?_
            refine O (r_move (v := .int .i64 nv9) rfl) rfl ?_
            obtain ⟨t89, ht89, hM⟩ := bindS hM
            refine O (r_addM rfl rfl ht89) rfl ?_
            refine O (r_assign (v := .int .i64 t89) rfl) rfl ?_
            refine OW_nil ?_
            simp only [Option.some.injEq, Prod.mk.injEq] at hM
            obtain ⟨rfl, rfl⟩ := hM
            exact ⟨gg163, v96, xs107, rfl, rfl, rfl, rfl, hagg114, hrelxs107, hs⟩
          · refine WP_false rfl hc162 ?_
            refine WP_skip ?_
            simp only [Option.some.injEq, Prod.mk.injEq] at hM
            obtain ⟨rfl, rfl⟩ := hM
            exact ⟨gg163, v96, xs107, rfl, rfl, rfl, rfl, hagg114, hrelxs107, hs⟩
      · clear hs
        rintro E w ⟨gg156, v92, xs102, hE0, hE3, hE4, hE5, hlegg156, hrelxs102, hs⟩
        have hM := hKhx18
        obtain ⟨E, rfl⟩ := open1 (E := E) hE0
        obtain ⟨E, rfl⟩ := open1 (E := E) hE3
        obtain ⟨E, rfl⟩ := open1 (E := E) hE4
        obtain ⟨E, rfl⟩ := open1 (E := E) hE5
        replace hRv1 := hRv1.mono hlegg156
        replace hlegg114 := hlegg114.trans hlegg156
        replace hagg114 := hagg114.trans hlegg156
        refine WP_region ?_
        refine O (r_move (v := .int .i64 b117) rfl) rfl ?_
        obtain ⟨t90, ht90, hM⟩ := bindS hM
        refine O (r_addM rfl rfl ht90) rfl ?_
        refine O (r_assign (v := .int .i64 t90) rfl) rfl ?_
        refine OW_nil ?_
        obtain rfl := Option.some.inj hM
        exact ⟨gg156, v92, xs102, rfl, rfl, rfl, rfl, hlegg114, hrelxs102, hs⟩
    · refine WP_false rfl hc136 ?_
      refine WP_exit ?_
      obtain rfl := Option.some.inj hM
      refine fun hr => ?_
      have hM := congrArg some hr
      obtain rfl := Option.some.inj hM
      exact ⟨gg114, v68, xs75, rfl, hlegg114, hrelxs75, hs⟩
  · clear hs
    rintro E w ⟨gg85, v51, xs56, hE3, hlegg85, hrelxs56, hs⟩
    have hM := hKhx10
    obtain ⟨E, rfl⟩ := open1 (E := E) hE3
    refine WP_seq ?_
    refine WP_region ?_
    refine O (r_move (v := v51) rfl) rfl ?_
    refine O (r_assign (v := v51) rfl) rfl ?_
    refine OW_nil ?_
    refine WP_ret ?_
    obtain ⟨gg170, hlegg170, hRgg170, hs⟩ := hs.relRow (i := 0) rfl hrelxs56
    obtain rfl := Option.some.inj hM
    exact ⟨_, res1 Try.results17 (rv_tmp (v := v51) rfl), gg170, ⟨[v51], rfl, ⟨_, rfl, hRgg170⟩⟩, hs.ext⟩

set_option maxRecDepth 100000 in
theorem byteset_Classes_ok {l1 : (List (Vec 4))} {r : (List Int)} (hM : M.byteset_Classes l1 = some r) {g0 : Hp} {w0 : World} (hi : Imm g0 w0) {v1 : Value} (hRv1 : RdS (tVec 4 .u64) g0 v1 l1) :
    CallsV Try.prog 16 #[v1] w0 (fun v w' => ∃ g', (VRd (tSl (tInt .i64)) false g' v r) ∧ Ext g0 w0 g' w') := by
  unfold M.byteset_Classes at hM
  have hs := Sep.start hi
  refine calls_of_WP (args := [v1]) Try.func16 rfl Try.ntmps16 rfl ?_
  refine WP_seq ?_
  refine WP_region ?_
  refine O (r_assign (v := .slice none 0 0) rfl) rfl ?_
  refine OW_nil ?_
  refine WP_seq ?_
  refine WP_region ?_
  obtain ⟨out1, hout1, hM⟩ := bindS hM
  refine OW_make (τ := (tInt .i64)) (zc := [.int .i64 0]) (zx := 0) Try.underlying32 ti3 rfl rfl (by decide) hs rfl rfl hout1 rfl ?_
  intro v2 wv1 xs1 hrelxs1 hs
  refine O (r_assign (v := v2) rfl) rfl ?_
  refine OW_nil ?_
  refine WP_seq ?_
  refine WP_region ?_
  refine OW_makeMap hs rfl ?_
  intro b1 wv2 hs
  have hmb1 : MRel encS (Value.int .i64) #[] [] := mrel_nil
  refine O (r_assign (v := .map (some b1)) rfl) rfl ?_
  refine OW_nil ?_
  obtain ⟨out14, hx52, hKhx52⟩ := bindS hM
  refine WP_cut (fun E w => ∃ (gg157 : Hp) (v171 : Value) (xs176 : List Value), E 3 = v171 ∧ Hle g0 gg157 ∧ RowRel (tInt .i64) gg157 xs176 out14 ∧ Go.Lx.Sep g0 w0 gg157 w [.row v171 3 (tInt .i64).sz out14.length xs176]) ?_ ?_
  · have hM := hx52
    have hag0 := Hle.refl g0
    refine WP_seq ?_
    refine WP_region ?_
    refine O (r_move (v := v2) rfl) rfl ?_
    obtain ⟨a20, ca20, hva20⟩ := hs.rowShape (i := 1) rfl
    refine O (r_lenSl (v := v2) Try.underlying32 rfl hva20) rfl ?_
    refine O (r_move (v := .int .i64 0) rfl) rfl ?_
    refine OW_nil ?_
    refine WP_block ?_
    refine WP_loop (fun (st9 : (List Int) × (List (Str × Int)) × Int) E w => match st9 with | (out19, m17, xv53) => ∃ (gg210 : Hp) (es33 : Array MapEntry) (ck33 : Nat) (v228 : Value) (xs235 : List Value), E 0 = v1 ∧ E 3 = v228 ∧ E 4 = .map (some b1) ∧ E 14 = .int .i64 (out1.length : Int) ∧ E 15 = .int .i64 xv53 ∧ Hle g0 gg210 ∧ MRel encS (Value.int .i64) es33 m17 ∧ RowRel (tInt .i64) gg210 xs235 out19 ∧ Go.Lx.Sep g0 w0 gg210 w [.obj b1 (.map es33 ck33), .row v228 3 (tInt .i64).sz out19.length xs235]) hM ⟨g0, #[], 0, v2, xs1, rfl, rfl, rfl, rfl, rfl, (Hle.refl _), hmb1, hrelxs1, hs⟩ ?_
    clear hs hM
    rintro ⟨out19, m17, xv53⟩ o22 E w hM ⟨gg210, es33, ck33, v228, xs235, hE0, hE3, hE4, hE14, hE15, hlegg210, hmes33, hrelxs235, hs⟩
    obtain ⟨E, rfl⟩ := open1 (E := E) hE0
    obtain ⟨E, rfl⟩ := open1 (E := E) hE3
    obtain ⟨E, rfl⟩ := open1 (E := E) hE4
    obtain ⟨E, rfl⟩ := open1 (E := E) hE14
    obtain ⟨E, rfl⟩ := open1 (E := E) hE15
    replace hRv1 := hRv1.mono hlegg210
    replace hag0 := hag0.trans hlegg210
    have hagg210 := Hle.refl gg210
    refine WP_seq ?_
    refine WP_region ?_
    refine O (r_lss rfl rfl) rfl ?_
    refine OW_nil ?_
    refine WP_seq ?_
    rcases condS hM with ⟨hc206, hM⟩ | ⟨hc206, hM⟩
    · refine WP_true rfl hc206 ?_
      refine WP_skip ?_
      obtain ⟨⟨out25, m23⟩, hx95, hKhx95⟩ := bindS hM
      refine WP_cut (fun E w => ∃ (gg288 : Hp) (es45 : Array MapEntry) (ck45 : Nat) (v312 : Value) (xs322 : List Value), E 0 = v1 ∧ E 3 = v312 ∧ E 4 = .map (some b1) ∧ E 14 = .int .i64 (out1.length : Int) ∧ E 15 = .int .i64 xv53 ∧ Hle gg210 gg288 ∧ MRel encS (Value.int .i64) es45 m23 ∧ RowRel (tInt .i64) gg288 xs322 out25 ∧ Go.Lx.Sep g0 w0 gg288 w [.obj b1 (.map es45 ck45), .row v312 3 (tInt .i64).sz out25.length xs322]) ?_ ?_
      · have hM := hx95
        refine WP_block ?_
        refine WP_seq ?_
        refine WP_region ?_
        refine O (r_move (v := .int .i64 xv53) rfl) rfl ?_
        refine O (r_assign (v := .int .i64 xv53) rfl) rfl ?_
        refine OW_nil ?_
        refine WP_seq ?_
        refine WP_region ?_
        refine O (r_move (v := v1) rfl) rfl ?_
        obtain ⟨a36, ca36, hva36⟩ := hRv1.shape
        refine O (r_lenSl (v := v1) Try.underlying30 rfl hva36) rfl ?_
        obtain ⟨key287, hkey287, hM⟩ := bindS hM
        refine OW_make (τ := (tInt .u8)) (zc := [.int .u8 0]) (zx := 0) Try.underlying44 ti5 rfl rfl (by decide) hs rfl rfl hkey287 rfl ?_
        intro v313 wv575 xs323 hrelxs323 hs
        refine O (r_assign (v := v313) rfl) rfl ?_
        refine OW_nil ?_
        obtain ⟨key300, hx99, hKhx99⟩ := bindS hM
        refine WP_cut (fun E w => ∃ (gg301 : Hp) (v327 : Value) (xs337 : List Value) (v326 : Value) (xs336 : List Value), E 0 = v1 ∧ E 3 = v326 ∧ E 4 = .map (some b1) ∧ E 5 = .int .i64 xv53 ∧ E 6 = v327 ∧ E 14 = .int .i64 (out1.length : Int) ∧ E 15 = .int .i64 xv53 ∧ Hle gg210 gg301 ∧ RowRel (tInt .u8) gg301 xs337 key300 ∧ RowRel (tInt .i64) gg301 xs336 out19 ∧ Go.Lx.Sep g0 w0 gg301 w [.row v327 5 (tInt .u8).sz key300.length xs337, .obj b1 (.map es33 ck33), .row v326 3 (tInt .i64).sz out19.length xs336]) ?_ ?_
        · have hM := hx99
          refine WP_seq ?_
          refine WP_region ?_
          refine O (r_move (v := v1) rfl) rfl ?_
          obtain ⟨a38, ca38, hva38⟩ := hRv1.shape
          refine O (r_lenSl (v := v1) Try.underlying30 rfl hva38) rfl ?_
          refine O (r_move (v := .int .i64 0) rfl) rfl ?_
          refine OW_nil ?_
          refine WP_block ?_
          refine WP_loop (fun (st9 : (List Int) × Int) E w => match st9 with | (key305, xv77) => ∃ (gg306 : Hp) (v332 : Value) (xs342 : List Value), E 0 = v1 ∧ E 3 = v228 ∧ E 4 = .map (some b1) ∧ E 5 = .int .i64 xv53 ∧ E 6 = v332 ∧ E 14 = .int .i64 (out1.length : Int) ∧ E 15 = .int .i64 xv53 ∧ E 21 = v1 ∧ E 22 = .int .i64 (l1.length : Int) ∧ E 23 = .int .i64 xv77 ∧ Hle gg210 gg306 ∧ RowRel (tInt .u8) gg306 xs342 key305 ∧ Go.Lx.Sep g0 w0 gg306 w [.row v332 5 (tInt .u8).sz key305.length xs342, .obj b1 (.map es33 ck33), .row v228 3 (tInt .i64).sz out19.length xs235]) hM ⟨gg210, v313, xs323, rfl, rfl, rfl, rfl, rfl, rfl, rfl, rfl, rfl, rfl, (Hle.refl _), hrelxs323, hs⟩ ?_
          clear hs hM
          rintro ⟨key305, xv77⟩ o26 E w hM ⟨gg306, v332, xs342, hE0, hE3, hE4, hE5, hE6, hE14, hE15, hE21, hE22, hE23, hlegg306, hrelxs342, hs⟩
          obtain ⟨E, rfl⟩ := open1 (E := E) hE0
          obtain ⟨E, rfl⟩ := open1 (E := E) hE3
          obtain ⟨E, rfl⟩ := open1 (E := E) hE4
          obtain ⟨E, rfl⟩ := open1 (E := E) hE5
          obtain ⟨E, rfl⟩ := open1 (E := E) hE6
          obtain ⟨E, rfl⟩ := open1 (E := E) hE14
          obtain ⟨E, rfl⟩ := open1 (E := E) hE15
          obtain ⟨E, rfl⟩ := open1 (E := E) hE21
          obtain ⟨E, rfl⟩ := open1 (E := E) hE22
          obtain ⟨E, rfl⟩ := open1 (E := E) hE23
          replace hRv1 := hRv1.mono hlegg306
          replace hrelxs235 := hrelxs235.mono hlegg306
          replace hlegg210 := hlegg210.trans hlegg306
          replace hagg210 := hagg210.trans hlegg306
          have hagg306 := Hle.refl gg306
          refine WP_seq ?_
          refine WP_region ?_
          refine O (r_lss rfl rfl) rfl ?_
          refine OW_nil ?_
          refine WP_seq ?_
          rcases condS hM with ⟨hc242, hM⟩ | ⟨hc242, hM⟩
          · refine WP_true rfl hc242 ?_
            refine WP_skip ?_
            obtain ⟨key311, hx102, hKhx102⟩ := bindS hM
            refine WP_cut (fun E w => ∃ (gg312 : Hp) (v338 : Value) (xs348 : List Value), E 0 = v1 ∧ E 3 = v228 ∧ E 4 = .map (some b1) ∧ E 5 = .int .i64 xv53 ∧ E 6 = v338 ∧ E 14 = .int .i64 (out1.length : Int) ∧ E 15 = .int .i64 xv53 ∧ E 21 = v1 ∧ E 22 = .int .i64 (l1.length : Int) ∧ E 23 = .int .i64 xv77 ∧ Hle gg306 gg312 ∧ RowRel (tInt .u8) gg312 xs348 key311 ∧ Go.Lx.Sep g0 w0 gg312 w [.row v338 5 (tInt .u8).sz key311.length xs348, .obj b1 (.map es33 ck33), .row v228 3 (tInt .i64).sz out19.length xs235]) ?_ ?_
            · have hM := hx102
              refine WP_block ?_
              refine WP_seq ?_
              refine WP_region ?_
              refine O (r_move (v := .int .i64 xv77) rfl) rfl ?_
              obtain ⟨e144, he144, hM⟩ := bindS hM
              obtain ⟨b442, ob442, cb442, hvb442, cs287, hcs287, hcb442⟩ := hRv1.at he144
              have hcs287 : cs287 = _ := hcs287; subst hcs287
              refine O (r_idxSl Try.underlying30 ti25 (v := v1) rfl hvb442 rfl (idxL_some he144).1 (idxL_some he144).2.1) rfl ?_
              refine O (r_loadEl (cs := e144.1.map (.int .u64)) ti25 rfl (by simp [e144.2]) (.inl rfl) (hcb442 _ hs.imm) (v := encV .u64 e144) rfl) rfl ?_
              refine OW_alloc ti25 hs (zs := (Vec.zero 4).1.map (.int .u64)) rfl rfl ?_
              intro b443 wv620 hs
              refine O (r_assign (v := .int .i64 xv77) rfl) rfl ?_
              refine OW_storeAll ti25 hs (i := 0) rfl rfl (v := encV .u64 e144) rfl (vs := e144.1.map (.int .u64)) rfl vec_one (by simp [e144.2]) (by simp [e144.2, (Vec.zero 4).2]) ?_
              intro wv621 hs
              refine OW_nil ?_
              refine WP_seq ?_
              refine WP_region ?_
              refine O (r_loadN (cs := e144.1.map (.int .u64)) ti25 rfl (by simp [e144.2]) (hs.cells (i := 0) rfl)) rfl ?_
              refine O (r_move (v := .int .i64 xv53) rfl) rfl ?_
              refine O (r_conv Try.underlying3 Try.underlying5 rfl) rfl ?_
              obtain ⟨rv144, hrv144, hM⟩ := bindS hM
              refine C [encV .u64 e144, .int .u8 (IntKind.u8.wrap xv53)] cf13 rfl (byteset_Has_ok hrv144 hs.imm) rfl ?_
              rintro v339 wv622 ⟨gg313, hvv339, hegg313⟩
              have hlegg313 := hegg313.le hs.imm
              replace hs := hs.call hegg313
              replace hRv1 := hRv1.mono hlegg313
              replace hrelxs342 := hrelxs342.mono hlegg313
              replace hrelxs235 := hrelxs235.mono hlegg313
              replace hlegg210 := hlegg210.trans hlegg313
              replace hlegg306 := hlegg306.trans hlegg313
              replace hagg306 := hagg306.trans hlegg313
              obtain ⟨cs288, rfl, hcs288⟩ := hvv339
              have hcs288 : cs288 = _ := hcs288; subst hcs288
              refine OW_nil ?_
              rcases condS hM with ⟨hc244, hM⟩ | ⟨hc244, hM⟩
              · refine WP_true rfl hc244 ?_
                refine WP_region ?_
                refine O (r_move (v := v332) rfl) rfl ?_
                refine O (r_move (v := .int .i64 xv77) rfl) rfl ?_
                obtain ⟨key312, hkey312, hM⟩ := bindS hM
                obtain ⟨b444, cb444, hvb444, wv623, xs349, hstb444, hrelb444, hsb444⟩ := hs.rowPut (i := 1) rfl hrelxs342 hkey312 (cs := [.int .u8 1]) rfl
                refine O (r_idxSl Try.underlying44 ti5 (v := v332) rfl hvb444 rfl (setL_some hkey312).1 (setL_some hkey312).2.1) rfl ?_
                refine O0 (r_store ti5 rfl (v := .int .u8 1) rfl rfl hstb444) ?_
                have hs := hsb444
                refine OW_nil ?_
                obtain rfl := Option.some.inj hM
                exact ⟨gg313, v332, xs349, rfl, rfl, rfl, rfl, rfl, rfl, rfl, rfl, rfl, rfl, hagg306, hrelb444, (hs.sub (.cons _ (.cons_cons _ (.cons_cons _ (.cons_cons _ .slnil)))))⟩
              · refine WP_false rfl hc244 ?_
                refine WP_skip ?_
                obtain rfl := Option.some.inj hM
                exact ⟨gg313, v332, xs342, rfl, rfl, rfl, rfl, rfl, rfl, rfl, rfl, rfl, rfl, hagg306, hrelxs342, (hs.sub (.cons _ (.cons_cons _ (.cons_cons _ (.cons_cons _ .slnil)))))⟩
            · clear hs
              rintro E w ⟨gg312, v338, xs348, hE0, hE3, hE4, hE5, hE6, hE14, hE15, hE21, hE22, hE23, hlegg312, hrelxs348, hs⟩
              have hM := hKhx102
              obtain ⟨E, rfl⟩ := open1 (E := E) hE0
              obtain ⟨E, rfl⟩ := open1 (E := E) hE3
              obtain ⟨E, rfl⟩ := open1 (E := E) hE4
              obtain ⟨E, rfl⟩ := open1 (E := E) hE5
              obtain ⟨E, rfl⟩ := open1 (E := E) hE6
              obtain ⟨E, rfl⟩ := open1 (E := E) hE14
              obtain ⟨E, rfl⟩ := open1 (E := E) hE15
              obtain ⟨E, rfl⟩ := open1 (E := E) hE21
              obtain ⟨E, rfl⟩ := open1 (E := E) hE22
              obtain ⟨E, rfl⟩ := open1 (E := E) hE23
              replace hRv1 := hRv1.mono hlegg312
              replace hrelxs235 := hrelxs235.mono hlegg312
              replace hlegg210 := hlegg210.trans hlegg312
              replace hlegg306 := hlegg306.trans hlegg312
              replace hagg306 := hagg306.trans hlegg312
              refine WP_region ?_
              obtain ⟨t77, ht77, hM⟩ := bindS hM
              refine O (r_addM rfl rfl ht77) rfl ?_
              refine O (r_move (v := .int .i64 t77) rfl) rfl ?_
              refine OW_nil ?_
              obtain rfl := Option.some.inj hM
              exact ⟨gg312, v338, xs348, rfl, rfl, rfl, rfl, rfl, rfl, rfl, rfl, rfl, rfl, hlegg306, hrelxs348, hs⟩
          · refine WP_false rfl hc242 ?_
            refine WP_exit ?_
            obtain rfl := Option.some.inj hM
            refine fun hr => ?_
            have hM := congrArg some hr
            obtain rfl := Option.some.inj hM
            exact ⟨gg306, v332, xs342, v228, xs235, rfl, rfl, rfl, rfl, rfl, rfl, rfl, hlegg306, hrelxs342, hrelxs235, hs⟩
        · clear hs
          rintro E w ⟨gg301, v327, xs337, v326, xs336, hE0, hE3, hE4, hE5, hE6, hE14, hE15, hlegg301, hrelxs337, hrelxs336, hs⟩
          have hM := hKhx99
          obtain ⟨E, rfl⟩ := open1 (E := E) hE0
          obtain ⟨E, rfl⟩ := open1 (E := E) hE3
          obtain ⟨E, rfl⟩ := open1 (E := E) hE4
          obtain ⟨E, rfl⟩ := open1 (E := E) hE5
          obtain ⟨E, rfl⟩ := open1 (E := E) hE6
          obtain ⟨E, rfl⟩ := open1 (E := E) hE14
          obtain ⟨E, rfl⟩ := open1 (E := E) hE15
          replace hRv1 := hRv1.mono hlegg301
          replace hlegg210 := hlegg210.trans hlegg301
          replace hagg210 := hagg210.trans hlegg301
          refine WP_seq ?_
          refine WP_region ?_
          refine O (r_move (v := .map (some b1)) rfl) rfl ?_
          refine O (r_move (v := v327) rfl) rfl ?_
          refine O (r_toStr (l := key300) Try.underlying44 Try.underlying5 Try.underlying9 (v := v327) rfl (hs.rowSrc (i := 0) rfl) hrelxs337) rfl ?_
          refine O (r_lookup (z := 0) Try.underlying43 ti3 (keyLaw_str Try.underlying9) hs (i := 1) rfl hmes33 rfl rfl) rfl ?_
          refine O (r_move (v := .tuple #[.int .i64 ((mget m17 (toStr key300)).getD 0), .bool ((mget m17 (toStr key300)).isSome)]) rfl) rfl ?_
          refine O (r_extract (vs := [.int .i64 ((mget m17 (toStr key300)).getD 0), .bool ((mget m17 (toStr key300)).isSome)]) (v := .int .i64 ((mget m17 (toStr key300)).getD 0)) rfl rfl) rfl ?_
          refine O (r_extract (vs := [.int .i64 ((mget m17 (toStr key300)).getD 0), .bool ((mget m17 (toStr key300)).isSome)]) (v := .bool ((mget m17 (toStr key300)).isSome)) rfl rfl) rfl ?_
          refine O (r_assign (v := .int .i64 ((mget m17 (toStr key300)).getD 0)) rfl) rfl ?_
          refine O (r_assign (v := .bool ((mget m17 (toStr key300)).isSome)) rfl) rfl ?_
          refine OW_nil ?_
          obtain ⟨⟨m24, nv12⟩, hx103, hKhx103⟩ := bindS hM
          refine WP_cut (fun E w => ∃ (es47 : Array MapEntry) (ck47 : Nat), E 0 = v1 ∧ E 3 = v326 ∧ E 4 = .map (some b1) ∧ E 5 = .int .i64 xv53 ∧ E 9 = .int .i64 nv12 ∧ E 14 = .int .i64 (out1.length : Int) ∧ E 15 = .int .i64 xv53 ∧ MRel encS (Value.int .i64) es47 m24 ∧ Go.Lx.Sep g0 w0 gg301 w [.obj b1 (.map es47 ck47), .row v326 3 (tInt .i64).sz out19.length xs336]) ?_ ?_
          · have hM := hx103
            have hagg301 := Hle.refl gg301
            refine WP_seq ?_
            refine WP_region ?_
            refine O (r_move (v := .bool ((mget m17 (toStr key300)).isSome)) rfl) rfl ?_
            refine O (r_not rfl) rfl ?_
            refine OW_nil ?_
            rcases condS hM with ⟨hc246, hM⟩ | ⟨hc246, hM⟩
            · refine WP_true rfl hc246 ?_
              refine WP_seq ?_
              refine WP_region ?_
              refine O (r_move (v := .map (some b1)) rfl) rfl ?_
              refine O (r_lenMap Try.underlying43 hs (i := 1) rfl hmes33 rfl) rfl ?_
              refine O (r_assign (v := .int .i64 (m17.length : Int)) rfl) rfl ?_
              refine OW_nil ?_
              refine WP_region ?_
              refine O (r_move (v := .map (some b1)) rfl) rfl ?_
              refine O (r_move (v := v327) rfl) rfl ?_
              refine O (r_toStr (l := key300) Try.underlying44 Try.underlying5 Try.underlying9 (v := v327) rfl (hs.rowSrc (i := 0) rfl) hrelxs337) rfl ?_
              refine O (r_move (v := .int .i64 (m17.length : Int)) rfl) rfl ?_
              refine OW_mapSet (kk := (toStr key300)) (vv := (m17.length : Int)) Try.underlying43 (keyLaw_str Try.underlying9) hs (i := 1) rfl hmes33 rfl rfl rfl ?_
              intro es48 ck48 wv625 hmes48 hs
              refine OW_nil ?_
              simp only [Option.some.injEq, Prod.mk.injEq] at hM
              obtain ⟨rfl, rfl⟩ := hM
              exact ⟨es48, ck48, rfl, rfl, rfl, rfl, rfl, rfl, rfl, hmes48, (hs.sub (.cons _ (.cons_cons _ (.cons_cons _ .slnil))))⟩
            · refine WP_false rfl hc246 ?_
              refine WP_skip ?_
              simp only [Option.some.injEq, Prod.mk.injEq] at hM
              obtain ⟨rfl, rfl⟩ := hM
              exact ⟨es33, ck33, rfl, rfl, rfl, rfl, rfl, rfl, rfl, hmes33, (hs.sub (.cons _ (.cons_cons _ (.cons_cons _ .slnil))))⟩
          · clear hs
            rintro E w ⟨es47, ck47, hE0, hE3, hE4, hE5, hE9, hE14, hE15, hmes47, hs⟩
            have hM := hKhx103
            obtain ⟨E, rfl⟩ := open1 (E := E) hE0
            obtain ⟨E, rfl⟩ := open1 (E := E) hE3
            obtain ⟨E, rfl⟩ := open1 (E := E) hE4
            obtain ⟨E, rfl⟩ := open1 (E := E) hE5
            obtain ⟨E, rfl⟩ := open1 (E := E) hE9
            obtain ⟨E, rfl⟩ := open1 (E := E) hE14
            obtain ⟨E, rfl⟩ := open1 (E := E) hE15
            refine WP_region ?_
            refine O (r_move (v := v326) rfl) rfl ?_
            refine O (r_move (v := .int .i64 xv53) rfl) rfl ?_
            refine O (r_move (v := .int .i64 nv12) rfl) rfl ?_
            obtain ⟨out26, hout26, hM⟩ := bindS hM
            obtain ⟨b445, cb445, hvb445, wv626, xs350, hstb445, hrelb445, hsb445⟩ := hs.rowPut (i := 1) rfl hrelxs336 hout26 (cs := [.int .i64 nv12]) rfl
            refine O (r_idxSl Try.underlying32 ti3 (v := v326) rfl hvb445 rfl (setL_some hout26).1 (setL_some hout26).2.1) rfl ?_
            refine O0 (r_store ti3 rfl (v := .int .i64 nv12) rfl rfl hstb445) ?_
            have hs := hsb445
            refine OW_nil ?_
            simp only [Option.some.injEq, Prod.mk.injEq] at hM
            obtain ⟨rfl, rfl⟩ := hM
            exact ⟨gg301, es47, ck47, v326, xs350, rfl, rfl, rfl, rfl, rfl, hagg210, hmes47, hrelb445, hs⟩
      · clear hs
        rintro E w ⟨gg288, es45, ck45, v312, xs322, hE0, hE3, hE4, hE14, hE15, hlegg288, hmes45, hrelxs322, hs⟩
        have hM := hKhx95
        obtain ⟨E, rfl⟩ := open1 (E := E) hE0
        obtain ⟨E, rfl⟩ := open1 (E := E) hE3
        obtain ⟨E, rfl⟩ := open1 (E := E) hE4
        obtain ⟨E, rfl⟩ := open1 (E := E) hE14
        obtain ⟨E, rfl⟩ := open1 (E := E) hE15
        replace hRv1 := hRv1.mono hlegg288
        replace hlegg210 := hlegg210.trans hlegg288
        replace hagg210 := hagg210.trans hlegg288
        refine WP_region ?_
        obtain ⟨t78, ht78, hM⟩ := bindS hM
        refine O (r_addM rfl rfl ht78) rfl ?_
        refine O (r_move (v := .int .i64 t78) rfl) rfl ?_
        refine OW_nil ?_
        obtain rfl := Option.some.inj hM
        exact ⟨gg288, es45, ck45, v312, xs322, rfl, rfl, rfl, rfl, rfl, hlegg210, hmes45, hrelxs322, hs⟩
    · refine WP_false rfl hc206 ?_
      refine WP_exit ?_
      obtain rfl := Option.some.inj hM
      refine fun hr => ?_
      have hM := congrArg some hr
      obtain rfl := Option.some.inj hM
      exact ⟨gg210, v228, xs235, rfl, hlegg210, hrelxs235, (hs.sub (.cons _ (.cons_cons _ .slnil)))⟩
  · clear hs
    rintro E w ⟨gg157, v171, xs176, hE3, hlegg157, hrelxs176, hs⟩
    have hM := hKhx52
    obtain ⟨E, rfl⟩ := open1 (E := E) hE3
    refine WP_seq ?_
    refine WP_region ?_
    refine O (r_move (v := v171) rfl) rfl ?_
    refine O (r_assign (v := v171) rfl) rfl ?_
    refine OW_nil ?_
    refine WP_ret ?_
    obtain ⟨gg314, hlegg314, hRgg314, hs⟩ := hs.relRow (i := 0) rfl hrelxs176
    obtain rfl := Option.some.inj hM
    exact ⟨_, res1 Try.results16 (rv_tmp (v := v171) rfl), gg314, ⟨[v171], rfl, ⟨_, rfl, hRgg314⟩⟩, hs.ext⟩

set_option maxRecDepth 100000 in
theorem math_bits_OnesCount64_ok {xv1 : Int} {r : Int} (hM : M.math_bits_OnesCount64 xv1 = some r) {g0 : Hp} {w0 : World} (hi : Imm g0 w0) :
    CallsV Try.prog 28 #[.int .u64 xv1] w0 (fun v w' => ∃ g', (VRd (tInt .i64) false g' v r) ∧ Ext g0 w0 g' w') := by
  unfold M.math_bits_OnesCount64 at hM
  have hs := Sep.start hi
  refine calls_of_WP (args := [.int .u64 xv1]) Try.func28 rfl Try.ntmps28 rfl ?_
  refine WP_seq ?_
  refine WP_region ?_
  refine O (r_assign (v := .int .i64 0) rfl) rfl ?_
  refine OW_nil ?_
  refine WP_seq ?_
  refine WP_region ?_
  refine O (r_move (v := .int .u64 xv1) rfl) rfl ?_
  obtain ⟨t1, ht1, hM⟩ := bindS hM
  refine O (r_shrM rfl rfl ht1) rfl ?_
  refine O (r_and rfl rfl) rfl ?_
  refine O (r_move (v := .int .u64 xv1) rfl) rfl ?_
  refine O (r_and rfl rfl) rfl ?_
  refine O (r_addW rfl rfl) rfl ?_
  refine O (r_assign (v := .int .u64 (IntKind.u64.wrap ((bits .and .u64 t1 6148914691236517205) + (bits .and .u64 xv1 6148914691236517205)))) rfl) rfl ?_
  refine OW_nil ?_
  refine WP_seq ?_
  refine WP_region ?_
  refine O (r_move (v := .int .u64 (IntKind.u64.wrap ((bits .and .u64 t1 6148914691236517205) + (bits .and .u64 xv1 6148914691236517205)))) rfl) rfl ?_
  obtain ⟨t2, ht2, hM⟩ := bindS hM
  refine O (r_shrM rfl rfl ht2) rfl ?_
  refine O (r_and rfl rfl) rfl ?_
  refine O (r_move (v := .int .u64 (IntKind.u64.wrap ((bits .and .u64 t1 6148914691236517205) + (bits .and .u64 xv1 6148914691236517205)))) rfl) rfl ?_
  obtain ⟨t3, ht3, hM⟩ := bindS hM
  refine O (Runs.cast (r_and rfl rfl) (congrArg (Value.int .u64) (Option.some.inj ht3))) rfl ?_
  refine O (r_addW rfl rfl) rfl ?_
  refine O (r_assign (v := .int .u64 (IntKind.u64.wrap ((bits .and .u64 t2 3689348814741910323) + t3))) rfl) rfl ?_
  refine OW_nil ?_
  refine WP_seq ?_
  refine WP_region ?_
  refine O (r_move (v := .int .u64 (IntKind.u64.wrap ((bits .and .u64 t2 3689348814741910323) + t3))) rfl) rfl ?_
  obtain ⟨t4, ht4, hM⟩ := bindS hM
  refine O (r_shrM rfl rfl ht4) rfl ?_
  refine O (r_move (v := .int .u64 (IntKind.u64.wrap ((bits .and .u64 t2 3689348814741910323) + t3))) rfl) rfl ?_
  refine O (r_addW rfl rfl) rfl ?_
  obtain ⟨t5, ht5, hM⟩ := bindS hM
  refine O (Runs.cast (r_and rfl rfl) (congrArg (Value.int .u64) (Option.some.inj ht5))) rfl ?_
  refine O (r_assign (v := .int .u64 t5) rfl) rfl ?_
  refine OW_nil ?_
  refine WP_seq ?_
  refine WP_region ?_
  refine O (r_move (v := .int .u64 t5) rfl) rfl ?_
  refine O (r_move (v := .int .u64 t5) rfl) rfl ?_
  obtain ⟨t6, ht6, hM⟩ := bindS hM
  refine O (r_shrM rfl rfl ht6) rfl ?_
  refine O (r_addW rfl rfl) rfl ?_
  refine O (r_assign (v := .int .u64 (IntKind.u64.wrap (t5 + t6))) rfl) rfl ?_
  refine OW_nil ?_
  refine WP_seq ?_
  refine WP_region ?_
  refine O (r_move (v := .int .u64 (IntKind.u64.wrap (t5 + t6))) rfl) rfl ?_
  refine O (r_move (v := .int .u64 (IntKind.u64.wrap (t5 + t6))) rfl) rfl ?_
  obtain ⟨t7, ht7, hM⟩ := bindS hM
  refine O (r_shrM rfl rfl ht7) rfl ?_
  refine O (r_addW rfl rfl) rfl ?_
  refine O (r_assign (v := .int .u64 (IntKind.u64.wrap ((IntKind.u64.wrap (t5 + t6)) + t7))) rfl) rfl ?_
  refine OW_nil ?_
  refine WP_seq ?_
  refine WP_region ?_
  refine O (r_move (v := .int .u64 (IntKind.u64.wrap ((IntKind.u64.wrap (t5 + t6)) + t7))) rfl) rfl ?_
  refine O (r_move (v := .int .u64 (IntKind.u64.wrap ((IntKind.u64.wrap (t5 + t6)) + t7))) rfl) rfl ?_
  obtain ⟨t8, ht8, hM⟩ := bindS hM
  refine O (r_shrM rfl rfl ht8) rfl ?_
  refine O (r_addW rfl rfl) rfl ?_
  refine O (r_assign (v := .int .u64 (IntKind.u64.wrap ((IntKind.u64.wrap ((IntKind.u64.wrap (t5 + t6)) + t7)) + t8))) rfl) rfl ?_
  refine OW_nil ?_
  refine WP_seq ?_
  refine WP_region ?_
  refine O (r_move (v := .int .u64 (IntKind.u64.wrap ((IntKind.u64.wrap ((IntKind.u64.wrap (t5 + t6)) + t7)) + t8))) rfl) rfl ?_
  refine O (r_conv Try.underlying23 Try.underlying3 rfl) rfl ?_
  obtain ⟨t9, ht9, hM⟩ := bindS hM
  refine O (Runs.cast (r_and rfl rfl) (congrArg (Value.int .i64) (Option.some.inj ht9))) rfl ?_
  refine O (r_assign (v := .int .i64 t9) rfl) rfl ?_
  refine OW_nil ?_
  refine WP_ret ?_
  obtain rfl := Option.some.inj hM
  exact ⟨_, res1 Try.results28 (rv_tmp (v := .int .i64 t9) rfl), g0, ⟨[.int .i64 t9], rfl, rfl⟩, hs.ext⟩

set_option maxRecDepth 100000 in
theorem byteset_Len_ok {s1 : (Vec 4)} {r : Int} (hM : M.byteset_Len s1 = some r) {g0 : Hp} {w0 : World} (hi : Imm g0 w0) :
    CallsV Try.prog 24 #[encV .u64 s1] w0 (fun v w' => ∃ g', (VRd (tInt .i64) false g' v r) ∧ Ext g0 w0 g' w') := by
  unfold M.byteset_Len at hM
  have hs := Sep.start hi
  refine calls_of_WP (args := [encV .u64 s1]) Try.func24 rfl Try.ntmps24 rfl ?_
  refine WP_seq ?_
  refine WP_region ?_
  refine OW_box (v := encV .u64 s1) rfl hs (zs := s1.1.map (.int .u64)) rfl rfl ?_
  intro b1 wv1 hs
  refine O (r_assign (v := .int .i64 0) rfl) rfl ?_
  refine OW_nil ?_
  refine WP_seq ?_
  refine WP_region ?_
  refine O (r_assign (v := .int .i64 0) rfl) rfl ?_
  refine OW_nil ?_
  obtain ⟨nv4, hx1, hKhx1⟩ := bindS hM
  refine WP_cut (fun E w => ∃ (gg7 : Hp), E 3 = .int .i64 nv4 ∧ Hle g0 gg7 ∧ Go.Lx.Sep g0 w0 gg7 w []) ?_ ?_
  · have hM := hx1
    have hag0 := Hle.refl g0
    refine WP_seq ?_
    refine WP_region ?_
    refine O (r_loadN (cs := s1.1.map (.int .u64)) ti25 rfl (by simp [s1.2]) (hs.cells (i := 0) rfl)) rfl ?_
    refine O (r_move (v := .int .i64 0) rfl) rfl ?_
    refine OW_nil ?_
    refine WP_block ?_
    refine WP_loop (fun (st9 : Int × Int) E w => match st9 with | (nv6, xv5) => ∃ (gg10 : Hp), E 3 = .int .i64 nv6 ∧ E 6 = encV .u64 s1 ∧ E 7 = .int .i64 xv5 ∧ Hle g0 gg10 ∧ Go.Lx.Sep g0 w0 gg10 w []) hM ⟨g0, rfl, rfl, rfl, (Hle.refl _), (hs.sub (.cons _ .slnil))⟩ ?_
    clear hs hM
    rintro ⟨nv6, xv5⟩ o2 E w hM ⟨gg10, hE3, hE6, hE7, hlegg10, hs⟩
    obtain ⟨E, rfl⟩ := open1 (E := E) hE3
    obtain ⟨E, rfl⟩ := open1 (E := E) hE6
    obtain ⟨E, rfl⟩ := open1 (E := E) hE7
    replace hag0 := hag0.trans hlegg10
    have hagg10 := Hle.refl gg10
    refine WP_seq ?_
    refine WP_region ?_
    refine O (r_lss rfl rfl) rfl ?_
    refine OW_nil ?_
    refine WP_seq ?_
    rcases condS hM with ⟨hc6, hM⟩ | ⟨hc6, hM⟩
    · refine WP_true rfl hc6 ?_
      refine WP_skip ?_
      refine WP_seq ?_
      refine WP_block ?_
      refine WP_seq ?_
      refine WP_region ?_
      obtain ⟨c6, hc6, hM⟩ := bindS hM
      refine O (r_idxVec (v := s1) Try.underlying25 ti23 rfl rfl hc6) rfl ?_
      refine O (r_assign (v := .int .u64 c6) rfl) rfl ?_
      refine OW_nil ?_
      refine WP_region ?_
      refine O (r_move (v := .int .i64 nv6) rfl) rfl ?_
      refine O (r_move (v := .int .u64 c6) rfl) rfl ?_
      obtain ⟨rv6, hrv6, hM⟩ := bindS hM
      refine C [.int .u64 c6] cf28 rfl (math_bits_OnesCount64_ok hrv6 hs.imm) rfl ?_
      rintro v6 wv7 ⟨gg13, hvv6, hegg13⟩
      have hlegg13 := hegg13.le hs.imm
      replace hs := hs.call hegg13
      replace hlegg10 := hlegg10.trans hlegg13
      replace hagg10 := hagg10.trans hlegg13
      obtain ⟨cs6, rfl, hcs6⟩ := hvv6
      have hcs6 : cs6 = _ := hcs6; subst hcs6
      obtain ⟨t11, ht11, hM⟩ := bindS hM
      refine O (r_addM rfl rfl ht11) rfl ?_
      refine O (r_assign (v := .int .i64 t11) rfl) rfl ?_
      refine OW_nil ?_
      refine WP_region ?_
      obtain ⟨t12, ht12, hM⟩ := bindS hM
      refine O (r_addM rfl rfl ht12) rfl ?_
      refine O (r_move (v := .int .i64 t12) rfl) rfl ?_
      refine OW_nil ?_
      obtain rfl := Option.some.inj hM
      exact ⟨gg13, rfl, rfl, rfl, hlegg10, hs⟩
    · refine WP_false rfl hc6 ?_
      refine WP_exit ?_
      obtain rfl := Option.some.inj hM
      refine fun hr => ?_
      have hM := congrArg some hr
      obtain rfl := Option.some.inj hM
      exact ⟨gg10, rfl, hlegg10, hs⟩
  · clear hs
    rintro E w ⟨gg7, hE3, hlegg7, hs⟩
    have hM := hKhx1
    obtain ⟨E, rfl⟩ := open1 (E := E) hE3
    refine WP_seq ?_
    refine WP_region ?_
    refine O (r_move (v := .int .i64 nv4) rfl) rfl ?_
    refine O (r_assign (v := .int .i64 nv4) rfl) rfl ?_
    refine OW_nil ?_
    refine WP_ret ?_
    obtain rfl := Option.some.inj hM
    exact ⟨_, res1 Try.results24 (rv_tmp (v := .int .i64 nv4) rfl), gg7, ⟨[.int .i64 nv4], rfl, rfl⟩, hs.ext⟩


end Go.Proofs.Ytjjinpgjfabemaa
