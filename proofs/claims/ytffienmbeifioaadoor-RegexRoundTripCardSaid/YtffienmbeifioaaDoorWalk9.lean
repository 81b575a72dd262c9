/- The walks: what each function does is what its model says. Printed by a program of my own. -/
import Derived.Test.YtffienmbeifioaaDoorTyp
set_option linter.unusedVariables false
set_option linter.unusedSimpArgs false
namespace Go.Proofs.YtffienmbeifioaaDoor
open Go.Lx Go.RowKit
set_option maxRecDepth 100000 in
theorem ref08_Not_ok {s1 : (Vec 4)} {r : (Vec 4)} (hM : M.ref08_Not s1 = some r) {g0 : Hp} {w0 : World} (hi : Imm g0 w0) :
    CallsV Tryd.prog 37 #[encV .u64 s1] w0 (fun v w' => ∃ g', (VRd (tVec 4 .u64) true g' v r) ∧ Ext g0 w0 g' w') := by
  unfold M.ref08_Not at hM
  have hs := Sep.start hi
  refine calls_of_WP (args := [encV .u64 s1]) Tryd.func37 rfl Tryd.ntmps37 rfl ?_
  have hds : (argEnv [encV .u64 s1]).ds = [] := rfl
  refine WP_seq ?_
  refine WP_region ?_
  refine OW_box (v := encV .u64 s1) rfl hs (zs := s1.1.map (Value.int .u64)) rfl rfl ?_
  intro b1 wv1 hs
  refine OW_alloc ti24 hs (zs := (Vec.zero 4).1.map (Value.int .u64)) rfl rfl ?_
  intro b2 wv2 hs
  refine OW_nil ?_
  obtain ⟨s8, hx1, hKhx1⟩ := bindS hM
  refine WP_cut (fun E w => E 1 = Value.pointer (some ⟨b1, 0, none⟩) ∧ E 2 = Value.pointer (some ⟨b2, 0, none⟩) ∧ E.ds = [] ∧ Go.Lx.Sep g0 w0 g0 w [Go.Lx.box b2 24 ((Vec.zero 4).1.map (Value.int .u64)), Go.Lx.box b1 24 (s8.1.map (Value.int .u64))]) ?_ ?_
  · have hM := hx1
    have hag0 := Hle.refl g0
    refine WP_seq ?_
    refine WP_region ?_
    refine O (r_assign (v := Value.int .i64 0) rfl) rfl ?_
    refine OW_nil ?_
    refine WP_block ?_
    refine WP_loop (fun (st9 : (Vec 4) × Int) E w => match st9 with | (s11, i5) => E 1 = Value.pointer (some ⟨b1, 0, none⟩) ∧ E 2 = Value.pointer (some ⟨b2, 0, none⟩) ∧ E 3 = Value.int .i64 i5 ∧ E.ds = [] ∧ Go.Lx.Sep g0 w0 g0 w [Go.Lx.box b2 24 ((Vec.zero 4).1.map (Value.int .u64)), Go.Lx.box b1 24 (s11.1.map (Value.int .u64))]) hM ⟨rfl, rfl, rfl, hds, hs⟩ ?_
    clear hs hM
    rintro ⟨s11, i5⟩ o2 E w hM ⟨hE1, hE2, hE3, hds, hs⟩
    obtain ⟨E, rfl⟩ := open1 (E := E) hE1
    obtain ⟨E, rfl⟩ := open1 (E := E) hE2
    obtain ⟨E, rfl⟩ := open1 (E := E) hE3
    refine WP_seq ?_
    refine WP_seq ?_
    refine WP_region ?_
    refine O (r_move (v := Value.int .i64 i5) rfl) rfl ?_
    refine O (r_lss rfl rfl) rfl ?_
    refine OW_nil ?_
    rcases condS hM with ⟨hc6, hM⟩ | ⟨hc6, hM⟩
    · refine WP_true rfl hc6 ?_
      refine WP_skip ?_
      refine WP_seq ?_
      refine WP_block ?_
      refine WP_region ?_
      refine O (r_move (v := Value.int .i64 i5) rfl) rfl ?_
      refine O (r_move (v := Value.int .i64 i5) rfl) rfl ?_
      obtain ⟨c6, hc6, hM⟩ := bindS hM
      refine O (r_idxArr Tryd.underlying24 ti22 rfl rfl (vget_some hc6).1 (vget_some hc6).2.1) rfl ?_
      refine O (r_load ti22 rfl (hs.cell (i := 1) rfl (vget_cell hc6))) rfl ?_
      refine O (r_compl rfl) rfl ?_
      obtain ⟨s14, hs14, hM⟩ := bindS hM
      refine O (r_idxArr Tryd.underlying24 ti22 rfl rfl (vset_some hs14).1 (vset_some hs14).2.1) rfl ?_
      refine OW_store1 ti22 hs (i := 1) rfl rfl (v := Value.int .u64 (complM .u64 c6)) rfl rfl (vset_lt hs14) ?_
      intro wv8 hs
      replace hs : Go.Lx.Sep g0 w0 g0 wv8 [Go.Lx.box b2 24 ((Vec.zero 4).1.map (Value.int .u64)), Go.Lx.box b1 24 (s14.1.map (Value.int .u64))] := by have h9 := hs; simp only [List.set] at h9; rw [vset_cells hs14] at h9; exact h9
      refine OW_nil ?_
      refine WP_region ?_
      refine O (r_move (v := Value.int .i64 i5) rfl) rfl ?_
      obtain ⟨t6, ht6, hM⟩ := bindS hM
      refine O (r_addM rfl rfl ht6) rfl ?_
      refine O (r_assign (v := Value.int .i64 t6) rfl) rfl ?_
      refine OW_nil ?_
      obtain rfl := Option.some.inj hM
      exact ⟨rfl, rfl, rfl, hds, hs⟩
    · refine WP_false rfl hc6 ?_
      refine WP_exit ?_
      obtain rfl := Option.some.inj hM
      refine fun hr => ?_
      have hM := congrArg some hr
      obtain rfl := Option.some.inj hM
      exact ⟨rfl, rfl, hds, hs⟩
  · clear hs
    rintro E w ⟨hE1, hE2, hds, hs⟩
    have hM := hKhx1
    obtain ⟨E, rfl⟩ := open1 (E := E) hE1
    obtain ⟨E, rfl⟩ := open1 (E := E) hE2
    refine WP_seq ?_
    refine WP_region ?_
    refine O (r_loadN (cs := s8.1.map (Value.int .u64)) ti24 rfl (by simp [s8.2]) (hs.cells (i := 1) rfl)) rfl ?_
    refine OW_storeAll ti24 hs (i := 0) rfl rfl (v := encV .u64 s8) rfl (vs := s8.1.map (Value.int .u64)) rfl vec_one (by simp [s8.2]) (by simp [s8.2, (Vec.zero 4).2]) ?_
    intro wv9 hs
    refine OW_nil ?_
    refine WP_ret ?_
    obtain rfl := Option.some.inj hM
    refine FL_nil hds ?_
    exact ⟨_, res1 Tryd.results37 (rv_cells (vs := s8.1.map (Value.int .u64)) ti24 rfl (by simp [s8.2]) (hs.cells (i := 0) rfl)), g0, ⟨s8.1.map (Value.int .u64), rfl, rfl⟩, hs.ext⟩


end Go.Proofs.YtffienmbeifioaaDoor
