/- The walks: what each function does is what its model says. Printed by a program of my own. -/
import Derived.Test.YtffienmbeifioaaDoorTyp
import Derived.Test.YtffienmbeifioaaDoorWalk9
set_option linter.unusedVariables false
set_option linter.unusedSimpArgs false
namespace Go.Proofs.YtffienmbeifioaaDoor
open Go.Lx Go.RowKit
set_option maxRecDepth 100000 in
theorem ref08_With_ok {s1 : (Vec 4)} {b1 : Int} {r : (Vec 4)} (hM : M.ref08_With s1 b1 = some r) {g0 : Hp} {w0 : World} (hi : Imm g0 w0) :
    CallsV Tryd.prog 72 #[encV .u64 s1, Value.int .i64 b1] w0 (fun v w' => ∃ g', (VRd (tVec 4 .u64) true g' v r) ∧ Ext g0 w0 g' w') := by
  unfold M.ref08_With at hM
  have hs := Sep.start hi
  refine calls_of_WP (args := [encV .u64 s1, Value.int .i64 b1]) Tryd.func72 rfl Tryd.ntmps72 rfl ?_
  have hds : (argEnv [encV .u64 s1, Value.int .i64 b1]).ds = [] := rfl
  refine WP_seq ?_
  refine WP_region ?_
  refine OW_box (v := encV .u64 s1) rfl hs (zs := s1.1.map (Value.int .u64)) rfl rfl ?_
  intro b2 wv1 hs
  refine OW_alloc ti24 hs (zs := (Vec.zero 4).1.map (Value.int .u64)) rfl rfl ?_
  intro b3 wv2 hs
  refine OW_nil ?_
  refine WP_seq ?_
  refine WP_region ?_
  refine O (r_move (v := Value.int .i64 b1) rfl) rfl ?_
  obtain ⟨t1, ht1, hM⟩ := bindS hM
  refine O (r_quoM rfl rfl ht1) rfl ?_
  refine O (r_move (v := Value.int .i64 b1) rfl) rfl ?_
  refine O (r_quoM rfl rfl ht1) rfl ?_
  obtain ⟨c1, hc1, hM⟩ := bindS hM
  refine O (r_idxArr Tryd.underlying24 ti22 rfl rfl (vget_some hc1).1 (vget_some hc1).2.1) rfl ?_
  refine O (r_load ti22 rfl (hs.cell (i := 1) rfl (vget_cell hc1))) rfl ?_
  refine O (r_move (v := Value.int .i64 b1) rfl) rfl ?_
  obtain ⟨t2, ht2, hM⟩ := bindS hM
  refine O (r_remM rfl rfl ht2) rfl ?_
  refine O (r_conv Tryd.underlying3 Tryd.underlying83 rfl) rfl ?_
  obtain ⟨t3, ht3, hM⟩ := bindS hM
  refine O (r_shlM rfl rfl ht3) rfl ?_
  refine O (r_or rfl rfl) rfl ?_
  obtain ⟨s2, hs2, hM⟩ := bindS hM
  refine O (r_idxArr Tryd.underlying24 ti22 rfl rfl (vset_some hs2).1 (vset_some hs2).2.1) rfl ?_
  refine OW_store1 ti22 hs (i := 1) rfl rfl (v := Value.int .u64 (bits .or .u64 c1 t3)) rfl rfl (vset_lt hs2) ?_
  intro wv3 hs
  replace hs : Go.Lx.Sep g0 w0 g0 wv3 [Go.Lx.box b3 24 ((Vec.zero 4).1.map (Value.int .u64)), Go.Lx.box b2 24 (s2.1.map (Value.int .u64))] := by have h9 := hs; simp only [List.set] at h9; rw [vset_cells hs2] at h9; exact h9
  refine OW_nil ?_
  refine WP_seq ?_
  refine WP_region ?_
  refine O (r_loadN (cs := s2.1.map (Value.int .u64)) ti24 rfl (by simp [s2.2]) (hs.cells (i := 1) rfl)) rfl ?_
  refine OW_storeAll ti24 hs (i := 0) rfl rfl (v := encV .u64 s2) rfl (vs := s2.1.map (Value.int .u64)) rfl vec_one (by simp [s2.2]) (by simp [s2.2, (Vec.zero 4).2]) ?_
  intro wv4 hs
  refine OW_nil ?_
  refine WP_ret ?_
  obtain rfl := Option.some.inj hM
  refine FL_nil hds ?_
  exact ⟨_, res1 Tryd.results72 (rv_cells (vs := s2.1.map (Value.int .u64)) ti24 rfl (by simp [s2.2]) (hs.cells (i := 0) rfl)), g0, ⟨s2.1.map (Value.int .u64), rfl, rfl⟩, hs.ext⟩

set_option maxRecDepth 100000 in
theorem ref08_Dot_ok {r : (Vec 4)} (hM : M.ref08_Dot = some r) {g0 : Hp} {w0 : World} (hi : Imm g0 w0) :
    CallsV Tryd.prog 61 #[] w0 (fun v w' => ∃ g', (VRd (tVec 4 .u64) true g' v r) ∧ Ext g0 w0 g' w') := by
  unfold M.ref08_Dot at hM
  have hs := Sep.start hi
  refine calls_of_WP (args := []) Tryd.func61 rfl Tryd.ntmps61 rfl ?_
  have hds : (argEnv []).ds = [] := rfl
  refine WP_seq ?_
  refine WP_region ?_
  refine OW_alloc ti24 hs (zs := (Vec.zero 4).1.map (Value.int .u64)) rfl rfl ?_
  intro b1 wv1 hs
  refine OW_nil ?_
  refine WP_seq ?_
  refine WP_region ?_
  refine O (r_build (vs := []) (cs := (Vec.zero 4).1.map (Value.int .u64)) rfl (by kernel_rfl)) rfl ?_
  obtain ⟨rv1, hrv1, hM⟩ := bindS hM
  refine C [encV .u64 (Vec.zero 4), Value.int .i64 10] cf72 rfl (ref08_With_ok hrv1 hs.imm) rfl ?_
  rintro v1 wv2 ⟨gg1, hvv1, hegg1⟩
  have hlegg1 := hegg1.le hs.imm
  replace hs := hs.call hegg1
  obtain ⟨cs1, rfl, hcs1⟩ := hvv1
  have hcs1 : cs1 = _ := hcs1; subst hcs1
  obtain ⟨rv2, hrv2, hM⟩ := bindS hM
  refine C [encV .u64 rv1] cf37 rfl (ref08_Not_ok hrv2 hs.imm) rfl ?_
  rintro v2 wv3 ⟨gg2, hvv2, hegg2⟩
  have hlegg2 := hegg2.le hs.imm
  replace hs := hs.call hegg2
  obtain ⟨cs2, rfl, hcs2⟩ := hvv2
  have hcs2 : cs2 = _ := hcs2; subst hcs2
  refine OW_storeAll ti24 hs (i := 0) rfl rfl (v := encV .u64 rv2) rfl (vs := rv2.1.map (Value.int .u64)) rfl vec_one (by simp [rv2.2]) (by simp [rv2.2, (Vec.zero 4).2]) ?_
  intro wv4 hs
  refine OW_nil ?_
  refine WP_ret ?_
  obtain rfl := Option.some.inj hM
  refine FL_nil hds ?_
  exact ⟨_, res1 Tryd.results61 (rv_cells (vs := rv2.1.map (Value.int .u64)) ti24 rfl (by simp [rv2.2]) (hs.cells (i := 0) rfl)), gg2, ⟨rv2.1.map (Value.int .u64), rfl, rfl⟩, hs.ext⟩

set_option maxRecDepth 100000 in
theorem ref08_plain_ok {b1 : Int} {brackets1 : Bool} {r : Bool} (hM : M.ref08_plain b1 brackets1 = some r) {g0 : Hp} {w0 : World} (hi : Imm g0 w0) :
    CallsV Tryd.prog 73 #[Value.int .i64 b1, Value.bool brackets1] w0 (fun v w' => ∃ g', (VRd tBool false g' v r) ∧ Ext g0 w0 g' w') := by
  unfold M.ref08_plain at hM
  have hs := Sep.start hi
  refine calls_of_WP (args := [Value.int .i64 b1, Value.bool brackets1]) Tryd.func73 rfl Tryd.ntmps73 rfl ?_
  have hds : (argEnv [Value.int .i64 b1, Value.bool brackets1]).ds = [] := rfl
  refine WP_seq ?_
  refine WP_region ?_
  refine O (r_assign (v := Value.bool false) rfl) rfl ?_
  refine OW_nil ?_
  refine WP_seq ?_
  obtain ⟨xv1, hx1, hKhx1⟩ := bindS hM
  refine WP_cut (fun E w => E 0 = Value.int .i64 b1 ∧ E 1 = Value.bool brackets1 ∧ E 12 = Value.bool xv1 ∧ E.ds = [] ∧ Go.Lx.Sep g0 w0 g0 w []) ?_ ?_
  · have hM := hx1
    have hag0 := Hle.refl g0
    refine WP_region ?_
    refine O (r_move (v := Value.int .i64 b1) rfl) rfl ?_
    refine O (r_lss rfl rfl) rfl ?_
    refine O (r_move (v := Value.bool (decide (b1 < 32))) rfl) rfl ?_
    rcases condS hM with ⟨hg2, hM⟩ | ⟨hg2, hM⟩
    · refine OK rfl rfl rfl (by rw [hg2]; rfl) rfl ?_
      refine OK rfl rfl rfl (by rw [hg2]; rfl) rfl ?_
      refine O (r_pickT (v := Value.bool true) rfl hg2 rfl) rfl ?_
      refine OW_nil ?_
      obtain rfl := Option.some.inj hM
      exact ⟨rfl, rfl, rfl, hds, hs⟩
    · refine OG rfl rfl rfl (by rw [hg2]; rfl) (r_move (v := Value.int .i64 b1) rfl) rfl ?_
      refine OG rfl rfl rfl (by rw [hg2]; rfl) (r_gtr rfl rfl) rfl ?_
      refine O (r_pickF (v := Value.bool (decide (126 < b1))) rfl hg2 rfl) rfl ?_
      refine OW_nil ?_
      obtain rfl := Option.some.inj hM
      exact ⟨rfl, rfl, rfl, hds, hs⟩
  · clear hs
    rintro E w ⟨hE0, hE1, hE12, hds, hs⟩
    have hM := hKhx1
    obtain ⟨E, rfl⟩ := open1 (E := E) hE0
    obtain ⟨E, rfl⟩ := open1 (E := E) hE1
    obtain ⟨E, rfl⟩ := open1 (E := E) hE12
    rcases condS hM with ⟨hc1, hM⟩ | ⟨hc1, hM⟩
    · refine WP_true rfl hc1 ?_
      refine WP_seq ?_
      refine WP_region ?_
      refine O (r_assign (v := Value.bool false) rfl) rfl ?_
      refine OW_nil ?_
      refine WP_ret ?_
      obtain rfl := Option.some.inj hM
      refine FL_nil hds ?_
      exact ⟨_, res1 Tryd.results73 (rv_tmp (v := Value.bool false) rfl), g0, ⟨[Value.bool false], rfl, rfl⟩, hs.ext⟩
    · refine WP_false rfl hc1 ?_
      refine WP_skip ?_
      refine WP_seq ?_
      refine WP_region ?_
      refine O (r_assign (v := encS [40, 41, 91, 93, 124, 42, 43, 63, 46, 92]) rfl) rfl ?_
      refine OW_nil ?_
      obtain ⟨special1, hx2, hKhx2⟩ := bindS hM
      refine WP_cut (fun E w => E 0 = Value.int .i64 b1 ∧ E 5 = encS special1 ∧ E.ds = [] ∧ Go.Lx.Sep g0 w0 g0 w []) ?_ ?_
      · have hM := hx2
        have hag0 := Hle.refl g0
        refine WP_seq ?_
        refine WP_region ?_
        refine O (r_move (v := Value.bool brackets1) rfl) rfl ?_
        refine OW_nil ?_
        rcases condS hM with ⟨hc3, hM⟩ | ⟨hc3, hM⟩
        · refine WP_true rfl hc3 ?_
          refine WP_region ?_
          refine O (r_assign (v := encS [93, 92, 45]) rfl) rfl ?_
          refine OW_nil ?_
          obtain rfl := Option.some.inj hM
          exact ⟨rfl, rfl, hds, hs⟩
        · refine WP_false rfl hc3 ?_
          refine WP_skip ?_
          obtain rfl := Option.some.inj hM
          exact ⟨rfl, rfl, hds, hs⟩
      · clear hs
        rintro E w ⟨hE0, hE5, hds, hs⟩
        have hM := hKhx2
        obtain ⟨E, rfl⟩ := open1 (E := E) hE0
        obtain ⟨E, rfl⟩ := open1 (E := E) hE5
        obtain ⟨o3, hx3, hKhx3⟩ := stepS hM
        refine WP_cut (fun E w => ∃ u9 : Unit, o3 = .next u9 ∧ E.ds = [] ∧ Go.Lx.Sep g0 w0 g0 w []) ?_ ?_
        · have hM := hx3
          have hag0 := Hle.refl g0
          refine WP_seq ?_
          refine WP_region ?_
          refine O (r_assign (v := Value.int .i64 0) rfl) rfl ?_
          refine OW_nil ?_
          refine WP_block ?_
          refine WP_loop (fun (i5 : Int) E w => E 0 = Value.int .i64 b1 ∧ E 5 = encS special1 ∧ E 6 = Value.int .i64 i5 ∧ E.ds = [] ∧ Go.Lx.Sep g0 w0 g0 w []) hM ⟨rfl, rfl, rfl, hds, hs⟩ ?_
          clear hs hM
          rintro i5 o2 E w hM ⟨hE0, hE5, hE6, hds, hs⟩
          obtain ⟨E, rfl⟩ := open1 (E := E) hE0
          obtain ⟨E, rfl⟩ := open1 (E := E) hE5
          obtain ⟨E, rfl⟩ := open1 (E := E) hE6
          refine WP_seq ?_
          refine WP_seq ?_
          refine WP_region ?_
          refine O (r_move (v := Value.int .i64 i5) rfl) rfl ?_
          refine O (r_move (v := encS special1) rfl) rfl ?_
          refine O (r_lenStr Tryd.underlying9 rfl) rfl ?_
          refine O (r_lss rfl rfl) rfl ?_
          refine OW_nil ?_
          rcases condS hM with ⟨hc14, hM⟩ | ⟨hc14, hM⟩
          · refine WP_true rfl hc14 ?_
            refine WP_skip ?_
            refine WP_seq ?_
            refine WP_block ?_
            refine WP_seq ?_
            refine WP_region ?_
            refine O (r_move (v := encS special1) rfl) rfl ?_
            refine O (r_move (v := Value.int .i64 i5) rfl) rfl ?_
            obtain ⟨c6, hc6, hM⟩ := bindS hM
            refine O (r_idxStr Tryd.underlying9 rfl rfl hc6) rfl ?_
            refine O (r_conv Tryd.underlying5 Tryd.underlying3 rfl) rfl ?_
            refine O (r_move (v := Value.int .i64 b1) rfl) rfl ?_
            refine O (r_eql rfl rfl) rfl ?_
            refine OW_nil ?_
            rcases condS hM with ⟨hc15, hM⟩ | ⟨hc15, hM⟩
            · refine WP_true rfl hc15 ?_
              refine WP_seq ?_
              refine WP_region ?_
              refine O (r_assign (v := Value.bool false) rfl) rfl ?_
              refine OW_nil ?_
              refine WP_ret ?_
              obtain rfl := Option.some.inj hM
              refine fun hr => ?_
              have hM := congrArg some hr
              obtain rfl := Option.some.inj hM
              have hM := hKhx3
              obtain rfl := Option.some.inj hM
              refine FL_nil hds ?_
              exact ⟨_, res1 Tryd.results73 (rv_tmp (v := Value.bool false) rfl), g0, ⟨[Value.bool false], rfl, rfl⟩, hs.ext⟩
            · refine WP_false rfl hc15 ?_
              refine WP_skip ?_
              refine WP_region ?_
              refine O (r_move (v := Value.int .i64 i5) rfl) rfl ?_
              obtain ⟨t6, ht6, hM⟩ := bindS hM
              refine O (r_addM rfl rfl ht6) rfl ?_
              refine O (r_assign (v := Value.int .i64 t6) rfl) rfl ?_
              refine OW_nil ?_
              obtain rfl := Option.some.inj hM
              exact ⟨rfl, rfl, rfl, hds, hs⟩
          · refine WP_false rfl hc14 ?_
            refine WP_exit ?_
            obtain rfl := Option.some.inj hM
            refine fun hr => ?_
            have hM := congrArg some hr
            obtain rfl := Option.some.inj hM
            exact ⟨(), rfl, hds, hs⟩
        · clear hs
          rintro E w ⟨_, rfl, hds, hs⟩
          have hM := hKhx3
          dsimp only [onStep] at hM
          refine WP_seq ?_
          refine WP_region ?_
          refine O (r_assign (v := Value.bool true) rfl) rfl ?_
          refine OW_nil ?_
          refine WP_ret ?_
          obtain rfl := Option.some.inj hM
          refine FL_nil hds ?_
          exact ⟨_, res1 Tryd.results73 (rv_tmp (v := Value.bool true) rfl), g0, ⟨[Value.bool true], rfl, rfl⟩, hs.ext⟩


end Go.Proofs.YtffienmbeifioaaDoor
