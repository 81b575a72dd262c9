/- The walks: what each function does is what its model says. Printed by a program of my own. -/
import Derived.Test.YtffienmbeifioaaDoorTyp
import Derived.Test.YtffienmbeifioaaDoorWalk8
import Derived.Test.YtffienmbeifioaaDoorWalk9
import Derived.Test.YtffienmbeifioaaDoorWalk11
import Derived.Test.YtffienmbeifioaaDoorWalk12
set_option linter.unusedVariables false
set_option linter.unusedSimpArgs false
namespace Go.Proofs.YtffienmbeifioaaDoor
open Go.Lx Go.RowKit
set_option maxRecDepth 100000 in
theorem ref08_written_ok {b1 : Int} {brackets1 : Bool} {r : Str} (hM : M.ref08_written b1 brackets1 = some r) {g0 : Hp} {w0 : World} (hi : Imm g0 w0) :
    CallsV Tryd.prog 62 #[Value.int .i64 b1, Value.bool brackets1] w0 (fun v w' => ∃ g', (VRd tStr false g' v r) ∧ Ext g0 w0 g' w') := by
  unfold M.ref08_written at hM
  have hs := Sep.start hi
  refine calls_of_WP (args := [Value.int .i64 b1, Value.bool brackets1]) Tryd.func62 rfl Tryd.ntmps62 rfl ?_
  have hds : (argEnv [Value.int .i64 b1, Value.bool brackets1]).ds = [] := rfl
  refine WP_seq ?_
  refine WP_region ?_
  refine O (r_assign (v := encS []) rfl) rfl ?_
  refine OW_nil ?_
  refine WP_seq ?_
  refine WP_block ?_
  refine WP_seq ?_
  refine WP_region ?_
  refine O (r_move (v := Value.int .i64 b1) rfl) rfl ?_
  refine O (r_eql rfl rfl) rfl ?_
  refine O (r_assign (v := Value.bool (b1 == 10)) rfl) rfl ?_
  refine OW_nil ?_
  rcases condS hM with ⟨hc1, hM⟩ | ⟨hc1, hM⟩
  · refine WP_true rfl hc1 ?_
    refine WP_seq ?_
    refine WP_region ?_
    refine O (r_assign (v := encS [92, 110]) rfl) rfl ?_
    refine OW_nil ?_
    refine WP_ret ?_
    obtain rfl := Option.some.inj hM
    refine FL_nil hds ?_
    exact ⟨_, res1 Tryd.results62 (rv_tmp (v := encS [92, 110]) rfl), g0, ⟨[encS [92, 110]], rfl, rfl⟩, hs.ext⟩
  · refine WP_false rfl hc1 ?_
    refine WP_seq ?_
    refine WP_region ?_
    refine O (r_move (v := Value.int .i64 b1) rfl) rfl ?_
    refine O (r_eql rfl rfl) rfl ?_
    refine O (r_assign (v := Value.bool (b1 == 9)) rfl) rfl ?_
    refine OW_nil ?_
    rcases condS hM with ⟨hc2, hM⟩ | ⟨hc2, hM⟩
    · refine WP_true rfl hc2 ?_
      refine WP_seq ?_
      refine WP_region ?_
      refine O (r_assign (v := encS [92, 116]) rfl) rfl ?_
      refine OW_nil ?_
      refine WP_ret ?_
      obtain rfl := Option.some.inj hM
      refine FL_nil hds ?_
      exact ⟨_, res1 Tryd.results62 (rv_tmp (v := encS [92, 116]) rfl), g0, ⟨[encS [92, 116]], rfl, rfl⟩, hs.ext⟩
    · refine WP_false rfl hc2 ?_
      obtain ⟨xv1, hx1, hKhx1⟩ := bindS hM
      refine WP_cut (fun E w => ∃ (gg2 : Hp), E 0 = Value.int .i64 b1 ∧ E 11 = Value.bool xv1 ∧ E.ds = [] ∧ Hle g0 gg2 ∧ Go.Lx.Sep g0 w0 gg2 w []) ?_ ?_
      · have hM := hx1
        have hag0 := Hle.refl g0
        refine WP_region ?_
        refine O (r_move (v := Value.int .i64 b1) rfl) rfl ?_
        refine O (r_move (v := Value.bool brackets1) rfl) rfl ?_
        obtain ⟨rv2, hrv2, hM⟩ := bindS hM
        refine C [Value.int .i64 b1, Value.bool brackets1] cf73 rfl (ref08_plain_ok hrv2 hs.imm) rfl ?_
        rintro v2 wv2 ⟨gg3, hvv2, hegg3⟩
        have hlegg3 := hegg3.le hs.imm
        replace hs := hs.call hegg3
        replace hag0 := hag0.trans hlegg3
        obtain ⟨cs2, rfl, hcs2⟩ := hvv2
        have hcs2 : cs2 = _ := hcs2; subst hcs2
        refine O (r_not rfl) rfl ?_
        refine O (r_move (v := Value.bool (!rv2)) rfl) rfl ?_
        rcases condS hM with ⟨hg3, hM⟩ | ⟨hg3, hM⟩
        · refine OK rfl rfl rfl (by rw [hg3]; rfl) rfl ?_
          refine OK rfl rfl rfl (by rw [hg3]; rfl) rfl ?_
          refine OKU rfl rfl rfl rfl ?_
          refine OKU rfl rfl rfl rfl ?_
          refine OK rfl rfl rfl (by rw [hg3]; rfl) rfl ?_
          refine O (r_pickT (v := Value.bool true) rfl hg3 rfl) rfl ?_
          refine O (r_assign (v := Value.bool true) rfl) rfl ?_
          refine OW_nil ?_
          obtain rfl := Option.some.inj hM
          exact ⟨gg3, rfl, rfl, hds, hag0, hs⟩
        · refine OG rfl rfl rfl (by rw [hg3]; rfl) (r_move (v := Value.bool brackets1) rfl) rfl ?_
          refine OG rfl rfl rfl (by rw [hg3]; rfl) (r_move (v := Value.bool brackets1) rfl) rfl ?_
          rcases condS hM with ⟨hg4, hM⟩ | ⟨hg4, hM⟩
          · refine OG rfl rfl rfl (by rw [hg4]; rfl) (r_move (v := Value.int .i64 b1) rfl) rfl ?_
            refine OG rfl rfl rfl (by rw [hg4]; rfl) (r_eql rfl rfl) rfl ?_
            refine OG rfl rfl rfl (by rw [hg3]; rfl) (r_pickT (v := Value.bool (b1 == 94)) rfl hg4 rfl) rfl ?_
            refine O (r_pickF (v := Value.bool (b1 == 94)) rfl hg3 rfl) rfl ?_
            refine O (r_assign (v := Value.bool (b1 == 94)) rfl) rfl ?_
            refine OW_nil ?_
            obtain rfl := Option.some.inj hM
            exact ⟨gg3, rfl, rfl, hds, hag0, hs⟩
          · refine OK rfl rfl rfl (by rw [hg4]; rfl) rfl ?_
            refine OK rfl rfl rfl (by rw [hg4]; rfl) rfl ?_
            refine OG rfl rfl rfl (by rw [hg3]; rfl) (r_pickF (v := Value.bool false) rfl hg4 rfl) rfl ?_
            refine O (r_pickF (v := Value.bool false) rfl hg3 rfl) rfl ?_
            refine O (r_assign (v := Value.bool false) rfl) rfl ?_
            refine OW_nil ?_
            obtain rfl := Option.some.inj hM
            exact ⟨gg3, rfl, rfl, hds, hag0, hs⟩
      · clear hs
        rintro E w ⟨gg2, hE0, hE11, hds, hlegg2, hs⟩
        have hM := hKhx1
        obtain ⟨E, rfl⟩ := open1 (E := E) hE0
        obtain ⟨E, rfl⟩ := open1 (E := E) hE11
        rcases condS hM with ⟨hc3, hM⟩ | ⟨hc3, hM⟩
        · refine WP_true rfl hc3 ?_
          refine WP_seq ?_
          refine WP_region ?_
          refine O (r_move (v := Value.int .i64 b1) rfl) rfl ?_
          refine O (r_conv Tryd.underlying3 Tryd.underlying5 rfl) rfl ?_
          refine OW_lit (τ := (tInt .u8)) [Value.int .u8 (IntKind.u8.wrap b1)] [(IntKind.u8.wrap b1)] Tryd.underlying39 ti5 (by decide) hs rfl rfl rfl ⟨rfl, trivial⟩ rfl ?_
          intro v3 wv3 xs1 hrelxs1 hs
          refine O (r_toStr (l := [(IntKind.u8.wrap b1)]) Tryd.underlying39 Tryd.underlying5 Tryd.underlying9 (v := v3) rfl (hs.rowSrc (i := 0) rfl) hrelxs1) rfl ?_
          obtain ⟨s1, hs1, hM⟩ := bindS hM
          refine O (r_catS rfl rfl hs1) rfl ?_
          refine O (r_assign (v := encS s1) rfl) rfl ?_
          refine OW_nil ?_
          refine WP_ret ?_
          obtain rfl := Option.some.inj hM
          refine FL_nil hds ?_
          exact ⟨_, res1 Tryd.results62 (rv_tmp (v := encS s1) rfl), gg2, ⟨[encS s1], rfl, rfl⟩, hs.ext⟩
        · refine WP_false rfl hc3 ?_
          refine WP_skip ?_
          refine WP_seq ?_
          refine WP_region ?_
          refine O (r_move (v := Value.int .i64 b1) rfl) rfl ?_
          refine O (r_conv Tryd.underlying3 Tryd.underlying5 rfl) rfl ?_
          refine OW_lit (τ := (tInt .u8)) [Value.int .u8 (IntKind.u8.wrap b1)] [(IntKind.u8.wrap b1)] Tryd.underlying39 ti5 (by decide) hs rfl rfl rfl ⟨rfl, trivial⟩ rfl ?_
          intro v4 wv4 xs2 hrelxs2 hs
          refine O (r_toStr (l := [(IntKind.u8.wrap b1)]) Tryd.underlying39 Tryd.underlying5 Tryd.underlying9 (v := v4) rfl (hs.rowSrc (i := 0) rfl) hrelxs2) rfl ?_
          refine O (r_assign (v := encS (toStr [(IntKind.u8.wrap b1)])) rfl) rfl ?_
          refine OW_nil ?_
          refine WP_ret ?_
          obtain rfl := Option.some.inj hM
          refine FL_nil hds ?_
          exact ⟨_, res1 Tryd.results62 (rv_tmp (v := encS (toStr [(IntKind.u8.wrap b1)])) rfl), gg2, ⟨[encS (toStr [(IntKind.u8.wrap b1)])], rfl, rfl⟩, hs.ext⟩

set_option maxRecDepth 100000 in
theorem ref08_elements_ok {s1 : (Vec 4)} {r : Str} (hM : M.ref08_elements s1 = some r) {g0 : Hp} {w0 : World} (hi : Imm g0 w0) :
    CallsV Tryd.prog 63 #[encV .u64 s1] w0 (fun v w' => ∃ g', (VRd tStr false g' v r) ∧ Ext g0 w0 g' w') := by
  unfold M.ref08_elements at hM
  have hs := Sep.start hi
  refine calls_of_WP (args := [encV .u64 s1]) Tryd.func63 rfl Tryd.ntmps63 rfl ?_
  have hds : (argEnv [encV .u64 s1]).ds = [] := rfl
  refine WP_seq ?_
  refine WP_region ?_
  refine OW_box (v := encV .u64 s1) rfl hs (zs := s1.1.map (Value.int .u64)) rfl rfl ?_
  intro b1 wv1 hs
  refine O (r_assign (v := encS []) rfl) rfl ?_
  refine OW_nil ?_
  refine WP_seq ?_
  refine WP_region ?_
  refine O (r_assign (v := encS []) rfl) rfl ?_
  refine OW_nil ?_
  obtain ⟨out7, hx46, hKhx46⟩ := bindS hM
  refine WP_cut (fun E w => ∃ (gg181 : Hp), E 3 = encS out7 ∧ E.ds = [] ∧ Hle g0 gg181 ∧ Go.Lx.Sep g0 w0 gg181 w []) ?_ ?_
  · have hM := hx46
    have hag0 := Hle.refl g0
    refine WP_seq ?_
    refine WP_region ?_
    refine O (r_assign (v := Value.int .i64 0) rfl) rfl ?_
    refine OW_nil ?_
    refine WP_block ?_
    refine WP_loop (fun (st9 : Str × Int) E w => match st9 with | (out10, b10) => ∃ (gg242 : Hp), E 1 = Value.pointer (some ⟨b1, 0, none⟩) ∧ E 3 = encS out10 ∧ E 4 = Value.int .i64 b10 ∧ E.ds = [] ∧ Hle g0 gg242 ∧ Go.Lx.Sep g0 w0 gg242 w [Go.Lx.box b1 24 (s1.1.map (Value.int .u64))]) hM ⟨g0, rfl, rfl, rfl, hds, (Hle.refl _), hs⟩ ?_
    clear hs hM
    rintro ⟨out10, b10⟩ o22 E w hM ⟨gg242, hE1, hE3, hE4, hds, hlegg242, hs⟩
    obtain ⟨E, rfl⟩ := open1 (E := E) hE1
    obtain ⟨E, rfl⟩ := open1 (E := E) hE3
    obtain ⟨E, rfl⟩ := open1 (E := E) hE4
    replace hag0 := hag0.trans hlegg242
    have hagg242 := Hle.refl gg242
    refine WP_seq ?_
    refine WP_seq ?_
    refine WP_region ?_
    refine O (r_move (v := Value.int .i64 b10) rfl) rfl ?_
    refine O (r_lss rfl rfl) rfl ?_
    refine OW_nil ?_
    rcases condS hM with ⟨hc86, hM⟩ | ⟨hc86, hM⟩
    · refine WP_true rfl hc86 ?_
      refine WP_skip ?_
      obtain ⟨⟨out13, b13⟩, hx84, hKhx84⟩ := bindS hM
      refine WP_cut (fun E w => ∃ (gg332 : Hp), E 1 = Value.pointer (some ⟨b1, 0, none⟩) ∧ E 3 = encS out13 ∧ E 4 = Value.int .i64 b13 ∧ E.ds = [] ∧ Hle gg242 gg332 ∧ Go.Lx.Sep g0 w0 gg332 w [Go.Lx.box b1 24 (s1.1.map (Value.int .u64))]) ?_ ?_
      · have hM := hx84
        refine WP_block ?_
        refine WP_seq ?_
        refine WP_seq ?_
        refine WP_region ?_
        refine O (r_loadN (cs := s1.1.map (Value.int .u64)) ti24 rfl (by simp [s1.2]) (hs.cells (i := 0) rfl)) rfl ?_
        refine O (r_move (v := Value.int .i64 b10) rfl) rfl ?_
        obtain ⟨rv243, hrv243, hM⟩ := bindS hM
        refine C [encV .u64 s1, Value.int .i64 b10] cf52 rfl (ref08_Has_ok hrv243 hs.imm) rfl ?_
        rintro v177 wv178 ⟨gg333, hvv177, hegg333⟩
        have hlegg333 := hegg333.le hs.imm
        replace hs := hs.call hegg333
        replace hlegg242 := hlegg242.trans hlegg333
        replace hagg242 := hagg242.trans hlegg333
        obtain ⟨cs177, rfl, hcs177⟩ := hvv177
        have hcs177 : cs177 = _ := hcs177; subst hcs177
        refine O (r_not rfl) rfl ?_
        refine OW_nil ?_
        rcases condS hM with ⟨hc95, hM⟩ | ⟨hc95, hM⟩
        · refine WP_true rfl hc95 ?_
          refine WP_exit ?_
          simp only [Option.some.injEq, Prod.mk.injEq] at hM
          obtain ⟨rfl, rfl⟩ := hM
          exact ⟨gg333, rfl, rfl, rfl, hds, hagg242, hs⟩
        · refine WP_false rfl hc95 ?_
          refine WP_skip ?_
          refine WP_seq ?_
          refine WP_region ?_
          refine O (r_move (v := Value.int .i64 b10) rfl) rfl ?_
          refine O (r_assign (v := Value.int .i64 b10) rfl) rfl ?_
          refine OW_nil ?_
          obtain ⟨last81, hx88, hKhx88⟩ := bindS hM
          refine WP_cut (fun E w => ∃ (gg346 : Hp), E 1 = Value.pointer (some ⟨b1, 0, none⟩) ∧ E 3 = encS out10 ∧ E 4 = Value.int .i64 b10 ∧ E 5 = Value.int .i64 last81 ∧ E.ds = [] ∧ Hle gg333 gg346 ∧ Go.Lx.Sep g0 w0 gg346 w [Go.Lx.box b1 24 (s1.1.map (Value.int .u64))]) ?_ ?_
          · have hM := hx88
            have hagg333 := Hle.refl gg333
            refine WP_block ?_
            refine WP_loop (fun (last83 : Int) E w => ∃ (gg351 : Hp), E 1 = Value.pointer (some ⟨b1, 0, none⟩) ∧ E 3 = encS out10 ∧ E 4 = Value.int .i64 b10 ∧ E 5 = Value.int .i64 last83 ∧ E.ds = [] ∧ Hle gg333 gg351 ∧ Go.Lx.Sep g0 w0 gg351 w [Go.Lx.box b1 24 (s1.1.map (Value.int .u64))]) hM ⟨gg333, rfl, rfl, rfl, rfl, hds, (Hle.refl _), hs⟩ ?_
            clear hs hM
            rintro last83 o26 E w hM ⟨gg351, hE1, hE3, hE4, hE5, hds, hlegg351, hs⟩
            obtain ⟨E, rfl⟩ := open1 (E := E) hE1
            obtain ⟨E, rfl⟩ := open1 (E := E) hE3
            obtain ⟨E, rfl⟩ := open1 (E := E) hE4
            obtain ⟨E, rfl⟩ := open1 (E := E) hE5
            replace hlegg242 := hlegg242.trans hlegg351
            replace hagg242 := hagg242.trans hlegg351
            replace hagg333 := hagg333.trans hlegg351
            have hagg351 := Hle.refl gg351
            refine WP_seq ?_
            obtain ⟨rv260, hx91, hKhx91⟩ := bindS hM
            refine WP_cut (fun E w => ∃ (gg357 : Hp), E 1 = Value.pointer (some ⟨b1, 0, none⟩) ∧ E 3 = encS out10 ∧ E 4 = Value.int .i64 b10 ∧ E 5 = Value.int .i64 last83 ∧ E 26 = Value.bool rv260 ∧ E.ds = [] ∧ Hle gg351 gg357 ∧ Go.Lx.Sep g0 w0 gg357 w [Go.Lx.box b1 24 (s1.1.map (Value.int .u64))]) ?_ ?_
            · have hM := hx91
              refine WP_region ?_
              refine O (r_move (v := Value.int .i64 b10) rfl) rfl ?_
              refine O (r_geq rfl rfl) rfl ?_
              refine O (r_move (v := Value.bool (decide (32 ≤ b10))) rfl) rfl ?_
              rcases condS hM with ⟨hg287, hM⟩ | ⟨hg287, hM⟩
              · refine OG rfl rfl rfl (by rw [hg287]; rfl) (r_move (v := Value.int .i64 last83) rfl) rfl ?_
                refine OG rfl rfl rfl (by rw [hg287]; rfl) (r_lss rfl rfl) rfl ?_
                refine O (r_pickT (v := Value.bool (decide (last83 < 126))) rfl hg287 rfl) rfl ?_
                refine O (r_move (v := Value.bool (decide (last83 < 126))) rfl) rfl ?_
                rcases condS hM with ⟨hg288, hM⟩ | ⟨hg288, hM⟩
                · refine OG rfl rfl rfl (by rw [hg288]; rfl) (r_loadN (cs := s1.1.map (Value.int .u64)) ti24 rfl (by simp [s1.2]) (hs.cells (i := 0) rfl)) rfl ?_
                  refine OG rfl rfl rfl (by rw [hg288]; rfl) (r_move (v := Value.int .i64 last83) rfl) rfl ?_
                  obtain ⟨t231, ht231, hM⟩ := bindS hM
                  refine OG rfl rfl rfl (by rw [hg288]; rfl) (r_addM rfl rfl ht231) rfl ?_
                  obtain ⟨rv261, hrv261, hM⟩ := bindS hM
                  refine CG rfl rfl rfl (by rw [hg288]; rfl) [encV .u64 s1, Value.int .i64 t231] cf52 rfl (ref08_Has_ok hrv261 hs.imm) rfl ?_
                  rintro v189 wv190 ⟨gg358, hvv189, hegg358⟩
                  have hlegg358 := hegg358.le hs.imm
                  replace hs := hs.call hegg358
                  replace hlegg242 := hlegg242.trans hlegg358
                  replace hagg242 := hagg242.trans hlegg358
                  replace hlegg351 := hlegg351.trans hlegg358
                  replace hagg351 := hagg351.trans hlegg358
                  obtain ⟨cs189, rfl, hcs189⟩ := hvv189
                  have hcs189 : cs189 = _ := hcs189; subst hcs189
                  refine O (r_pickT (v := Value.bool rv261) rfl hg288 rfl) rfl ?_
                  refine OW_nil ?_
                  obtain rfl := Option.some.inj hM
                  exact ⟨gg358, rfl, rfl, rfl, rfl, rfl, hds, hagg351, hs⟩
                · refine OK rfl rfl rfl (by rw [hg288]; rfl) rfl ?_
                  refine OK rfl rfl rfl (by rw [hg288]; rfl) rfl ?_
                  refine OK rfl rfl rfl (by rw [hg288]; rfl) rfl ?_
                  refine OK rfl rfl rfl (by rw [hg288]; rfl) rfl ?_
                  refine O (r_pickF (v := Value.bool false) rfl hg288 rfl) rfl ?_
                  refine OW_nil ?_
                  obtain rfl := Option.some.inj hM
                  exact ⟨gg351, rfl, rfl, rfl, rfl, rfl, hds, (Hle.refl _), hs⟩
              · refine OK rfl rfl rfl (by rw [hg287]; rfl) rfl ?_
                refine OK rfl rfl rfl (by rw [hg287]; rfl) rfl ?_
                refine O (r_pickF (v := Value.bool false) rfl hg287 rfl) rfl ?_
                refine O (r_move (v := Value.bool false) rfl) rfl ?_
                refine OK rfl rfl rfl rfl rfl ?_
                refine OK rfl rfl rfl rfl rfl ?_
                refine OK rfl rfl rfl rfl rfl ?_
                refine OK rfl rfl rfl rfl rfl ?_
                refine O (r_pickF (v := Value.bool false) rfl rfl rfl) rfl ?_
                refine OW_nil ?_
                obtain rfl := Option.some.inj hM
                exact ⟨gg351, rfl, rfl, rfl, rfl, rfl, hds, (Hle.refl _), hs⟩
            · clear hs
              rintro E w ⟨gg357, hE1, hE3, hE4, hE5, hE26, hds, hlegg357, hs⟩
              have hM := hKhx91
              obtain ⟨E, rfl⟩ := open1 (E := E) hE1
              obtain ⟨E, rfl⟩ := open1 (E := E) hE3
              obtain ⟨E, rfl⟩ := open1 (E := E) hE4
              obtain ⟨E, rfl⟩ := open1 (E := E) hE5
              obtain ⟨E, rfl⟩ := open1 (E := E) hE26
              replace hlegg242 := hlegg242.trans hlegg357
              replace hagg242 := hagg242.trans hlegg357
              replace hlegg351 := hlegg351.trans hlegg357
              replace hagg351 := hagg351.trans hlegg357
              rcases condS hM with ⟨hc101, hM⟩ | ⟨hc101, hM⟩
              · refine WP_true rfl hc101 ?_
                refine WP_skip ?_
                refine WP_block ?_
                refine WP_region ?_
                refine O (r_move (v := Value.int .i64 last83) rfl) rfl ?_
                obtain ⟨t232, ht232, hM⟩ := bindS hM
                refine O (r_addM rfl rfl ht232) rfl ?_
                refine O (r_assign (v := Value.int .i64 t232) rfl) rfl ?_
                refine OW_nil ?_
                obtain rfl := Option.some.inj hM
                exact ⟨gg357, rfl, rfl, rfl, rfl, hds, hlegg351, hs⟩
              · refine WP_false rfl hc101 ?_
                refine WP_exit ?_
                obtain rfl := Option.some.inj hM
                refine fun hr => ?_
                have hM := congrArg some hr
                obtain rfl := Option.some.inj hM
                exact ⟨gg357, rfl, rfl, rfl, rfl, hds, hlegg351, hs⟩
          · clear hs
            rintro E w ⟨gg346, hE1, hE3, hE4, hE5, hds, hlegg346, hs⟩
            have hM := hKhx88
            obtain ⟨E, rfl⟩ := open1 (E := E) hE1
            obtain ⟨E, rfl⟩ := open1 (E := E) hE3
            obtain ⟨E, rfl⟩ := open1 (E := E) hE4
            obtain ⟨E, rfl⟩ := open1 (E := E) hE5
            replace hlegg242 := hlegg242.trans hlegg346
            replace hagg242 := hagg242.trans hlegg346
            refine WP_seq ?_
            refine WP_seq ?_
            refine WP_region ?_
            refine O (r_move (v := Value.int .i64 last81) rfl) rfl ?_
            refine O (r_move (v := Value.int .i64 b10) rfl) rfl ?_
            obtain ⟨t233, ht233, hM⟩ := bindS hM
            refine O (r_subM rfl rfl ht233) rfl ?_
            refine O (r_geq rfl rfl) rfl ?_
            refine OW_nil ?_
            rcases condS hM with ⟨hc102, hM⟩ | ⟨hc102, hM⟩
            · refine WP_true rfl hc102 ?_
              refine WP_seq ?_
              refine WP_region ?_
              refine O (r_move (v := encS out10) rfl) rfl ?_
              refine O (r_move (v := Value.int .i64 b10) rfl) rfl ?_
              obtain ⟨rv262, hrv262, hM⟩ := bindS hM
              refine C [Value.int .i64 b10, Value.bool true] cf62 rfl (ref08_written_ok hrv262 hs.imm) rfl ?_
              rintro v190 wv191 ⟨gg359, hvv190, hegg359⟩
              have hlegg359 := hegg359.le hs.imm
              replace hs := hs.call hegg359
              replace hlegg242 := hlegg242.trans hlegg359
              replace hagg242 := hagg242.trans hlegg359
              obtain ⟨cs190, rfl, hcs190⟩ := hvv190
              have hcs190 : cs190 = _ := hcs190; subst hcs190
              obtain ⟨s46, hs46, hM⟩ := bindS hM
              refine O (r_catS rfl rfl hs46) rfl ?_
              obtain ⟨s47, hs47, hM⟩ := bindS hM
              refine O (r_catS rfl rfl hs47) rfl ?_
              refine O (r_move (v := Value.int .i64 last81) rfl) rfl ?_
              obtain ⟨rv263, hrv263, hM⟩ := bindS hM
              refine C [Value.int .i64 last81, Value.bool true] cf62 rfl (ref08_written_ok hrv263 hs.imm) rfl ?_
              rintro v191 wv192 ⟨gg360, hvv191, hegg360⟩
              have hlegg360 := hegg360.le hs.imm
              replace hs := hs.call hegg360
              replace hlegg242 := hlegg242.trans hlegg360
              replace hagg242 := hagg242.trans hlegg360
              obtain ⟨cs191, rfl, hcs191⟩ := hvv191
              have hcs191 : cs191 = _ := hcs191; subst hcs191
              obtain ⟨s48, hs48, hM⟩ := bindS hM
              refine O (r_catS rfl rfl hs48) rfl ?_
              refine O (r_assign (v := encS s48) rfl) rfl ?_
              refine OW_nil ?_
              refine WP_seq ?_
              refine WP_region ?_
              refine O (r_move (v := Value.int .i64 last81) rfl) rfl ?_
              refine O (r_assign (v := Value.int .i64 last81) rfl) rfl ?_
              refine OW_nil ?_
              refine WP_exit ?_
              simp only [Option.some.injEq, Prod.mk.injEq] at hM
              obtain ⟨rfl, rfl⟩ := hM
              exact ⟨gg360, rfl, rfl, rfl, hds, hagg242, hs⟩
            · refine WP_false rfl hc102 ?_
              refine WP_skip ?_
              refine WP_region ?_
              refine O (r_move (v := encS out10) rfl) rfl ?_
              refine O (r_move (v := Value.int .i64 b10) rfl) rfl ?_
              obtain ⟨rv264, hrv264, hM⟩ := bindS hM
              refine C [Value.int .i64 b10, Value.bool true] cf62 rfl (ref08_written_ok hrv264 hs.imm) rfl ?_
              rintro v192 wv193 ⟨gg361, hvv192, hegg361⟩
              have hlegg361 := hegg361.le hs.imm
              replace hs := hs.call hegg361
              replace hlegg242 := hlegg242.trans hlegg361
              replace hagg242 := hagg242.trans hlegg361
              obtain ⟨cs192, rfl, hcs192⟩ := hvv192
              have hcs192 : cs192 = _ := hcs192; subst hcs192
              obtain ⟨s49, hs49, hM⟩ := bindS hM
              refine O (r_catS rfl rfl hs49) rfl ?_
              refine O (r_assign (v := encS s49) rfl) rfl ?_
              refine OW_nil ?_
              simp only [Option.some.injEq, Prod.mk.injEq] at hM
              obtain ⟨rfl, rfl⟩ := hM
              exact ⟨gg361, rfl, rfl, rfl, hds, hagg242, hs⟩
      · clear hs
        rintro E w ⟨gg332, hE1, hE3, hE4, hds, hlegg332, hs⟩
        have hM := hKhx84
        obtain ⟨E, rfl⟩ := open1 (E := E) hE1
        obtain ⟨E, rfl⟩ := open1 (E := E) hE3
        obtain ⟨E, rfl⟩ := open1 (E := E) hE4
        replace hlegg242 := hlegg242.trans hlegg332
        replace hagg242 := hagg242.trans hlegg332
        refine WP_region ?_
        refine O (r_move (v := Value.int .i64 b13) rfl) rfl ?_
        obtain ⟨t234, ht234, hM⟩ := bindS hM
        refine O (r_addM rfl rfl ht234) rfl ?_
        refine O (r_assign (v := Value.int .i64 t234) rfl) rfl ?_
        refine OW_nil ?_
        obtain rfl := Option.some.inj hM
        exact ⟨gg332, rfl, rfl, rfl, hds, hlegg242, hs⟩
    · refine WP_false rfl hc86 ?_
      refine WP_exit ?_
      obtain rfl := Option.some.inj hM
      refine fun hr => ?_
      have hM := congrArg some hr
      obtain rfl := Option.some.inj hM
      exact ⟨gg242, rfl, hds, hlegg242, (hs.sub (.cons _ .slnil))⟩
  · clear hs
    rintro E w ⟨gg181, hE3, hds, hlegg181, hs⟩
    have hM := hKhx46
    obtain ⟨E, rfl⟩ := open1 (E := E) hE3
    refine WP_seq ?_
    refine WP_region ?_
    refine O (r_move (v := encS out7) rfl) rfl ?_
    refine O (r_assign (v := encS out7) rfl) rfl ?_
    refine OW_nil ?_
    refine WP_ret ?_
    obtain rfl := Option.some.inj hM
    refine FL_nil hds ?_
    exact ⟨_, res1 Tryd.results63 (rv_tmp (v := encS out7) rfl), gg181, ⟨[encS out7], rfl, rfl⟩, hs.ext⟩

set_option maxRecDepth 100000 in
theorem ref08_set_ok {s1 : (Vec 4)} {r : Str} (hM : M.ref08_set s1 = some r) {g0 : Hp} {w0 : World} (hi : Imm g0 w0) :
    CallsV Tryd.prog 41 #[encV .u64 s1] w0 (fun v w' => ∃ g', (VRd tStr false g' v r) ∧ Ext g0 w0 g' w') := by
  unfold M.ref08_set at hM
  have hs := Sep.start hi
  refine calls_of_WP (args := [encV .u64 s1]) Tryd.func41 rfl Tryd.ntmps41 rfl ?_
  have hds : (argEnv [encV .u64 s1]).ds = [] := rfl
  refine WP_seq ?_
  refine WP_region ?_
  refine OW_box (v := encV .u64 s1) rfl hs (zs := s1.1.map (Value.int .u64)) rfl rfl ?_
  intro b1 wv1 hs
  refine O (r_assign (v := encS []) rfl) rfl ?_
  refine OW_nil ?_
  refine WP_seq ?_
  refine WP_seq ?_
  refine WP_any (.q 0 (.s 1 (.q 2 (.leaf)))) (SS g0 w0 g0 [Go.Lx.box b1 24 (s1.1.map (Value.int .u64))]) mo (by decide +kernel) ?_
  have hs := hs.drew
  have hag0 := Hle.refl g0
  have hS : SS g0 w0 g0 [Go.Lx.box b1 24 (s1.1.map (Value.int .u64))] _ := ⟨g0, Hle.refl _, hs⟩
  refine A rfl hS (fun w9 h9 => by obtain ⟨g9, hle9, hs⟩ := h9; exact r_loadN (cs := s1.1.map (Value.int .u64)) ti24 rfl (by simp [s1.2]) (hs.cells (i := 0) rfl)) rfl ?_
  refine A1 rfl ?_
  obtain ⟨rv1, hrv1, hM⟩ := bindS hM
  refine C [] cf61 rfl (ref08_Dot_ok hrv1 hs.imm) rfl ?_
  rintro v1 wv2 ⟨gg1, hvv1, hegg1⟩
  have hlegg1 := hegg1.le hs.imm
  replace hs := hs.call hegg1
  replace hag0 := hag0.trans hlegg1
  obtain ⟨cs1, rfl, hcs1⟩ := hvv1
  have hcs1 : cs1 = _ := hcs1; subst hcs1
  refine OW_nil ?_
  have hS : SS g0 w0 g0 [Go.Lx.box b1 24 (s1.1.map (Value.int .u64))] _ := ⟨gg1, hag0, hs⟩
  refine ⟨fun _ => hS, ?_⟩
  refine A rfl hS (fun w9 h9 => by obtain ⟨g9, hle9, hs⟩ := h9; exact r_eqlV Tryd.underlying24 Tryd.underlying22 ti22 rfl rfl eg24) rfl ?_
  refine AN ?_
  rcases condS hM with ⟨hc1, hM⟩ | ⟨hc1, hM⟩
  · refine WP_true rfl hc1 ?_
    refine WP_seq ?_
    refine WP_region ?_
    refine O (r_assign (v := encS [46]) rfl) rfl ?_
    refine OW_nil ?_
    refine WP_ret ?_
    obtain rfl := Option.some.inj hM
    refine FL_nil hds ?_
    exact ⟨_, res1 Tryd.results41 (rv_tmp (v := encS [46]) rfl), gg1, ⟨[encS [46]], rfl, rfl⟩, hs.ext⟩
  · refine WP_false rfl hc1 ?_
    refine WP_skip ?_
    refine WP_seq ?_
    refine WP_region ?_
    refine O (r_assign (v := Value.int .i64 0) rfl) rfl ?_
    refine O (r_assign (v := Value.int .i64 0) rfl) rfl ?_
    refine OW_nil ?_
    obtain ⟨⟨nv10, only7⟩, hx5, hKhx5⟩ := bindS hM
    refine WP_cut (fun E w => ∃ (gg19 : Hp), E 1 = Value.pointer (some ⟨b1, 0, none⟩) ∧ E 3 = Value.int .i64 nv10 ∧ E 4 = Value.int .i64 only7 ∧ E.ds = [] ∧ Hle gg1 gg19 ∧ Go.Lx.Sep g0 w0 gg19 w [Go.Lx.box b1 24 (s1.1.map (Value.int .u64))]) ?_ ?_
    · have hM := hx5
      have hagg1 := Hle.refl gg1
      refine WP_seq ?_
      refine WP_region ?_
      refine O (r_assign (v := Value.int .i64 0) rfl) rfl ?_
      refine OW_nil ?_
      refine WP_block ?_
      refine WP_loop (fun (st9 : Int × Int × Int) E w => match st9 with | (nv16, only10, b10) => ∃ (gg29 : Hp), E 1 = Value.pointer (some ⟨b1, 0, none⟩) ∧ E 3 = Value.int .i64 nv16 ∧ E 4 = Value.int .i64 only10 ∧ E 5 = Value.int .i64 b10 ∧ E.ds = [] ∧ Hle gg1 gg29 ∧ Go.Lx.Sep g0 w0 gg29 w [Go.Lx.box b1 24 (s1.1.map (Value.int .u64))]) hM ⟨gg1, rfl, rfl, rfl, rfl, hds, (Hle.refl _), hs⟩ ?_
      clear hs hM
      rintro ⟨nv16, only10, b10⟩ o2 E w hM ⟨gg29, hE1, hE3, hE4, hE5, hds, hlegg29, hs⟩
      obtain ⟨E, rfl⟩ := open1 (E := E) hE1
      obtain ⟨E, rfl⟩ := open1 (E := E) hE3
      obtain ⟨E, rfl⟩ := open1 (E := E) hE4
      obtain ⟨E, rfl⟩ := open1 (E := E) hE5
      replace hag0 := hag0.trans hlegg29
      replace hagg1 := hagg1.trans hlegg29
      have hagg29 := Hle.refl gg29
      refine WP_seq ?_
      refine WP_seq ?_
      refine WP_region ?_
      refine O (r_move (v := Value.int .i64 b10) rfl) rfl ?_
      refine O (r_lss rfl rfl) rfl ?_
      refine OW_nil ?_
      rcases condS hM with ⟨hc23, hM⟩ | ⟨hc23, hM⟩
      · refine WP_true rfl hc23 ?_
        refine WP_skip ?_
        obtain ⟨⟨nv19, only13⟩, hx9, hKhx9⟩ := bindS hM
        refine WP_cut (fun E w => ∃ (gg35 : Hp), E 1 = Value.pointer (some ⟨b1, 0, none⟩) ∧ E 3 = Value.int .i64 nv19 ∧ E 4 = Value.int .i64 only13 ∧ E 5 = Value.int .i64 b10 ∧ E.ds = [] ∧ Hle gg29 gg35 ∧ Go.Lx.Sep g0 w0 gg35 w [Go.Lx.box b1 24 (s1.1.map (Value.int .u64))]) ?_ ?_
        · have hM := hx9
          refine WP_block ?_
          refine WP_seq ?_
          refine WP_region ?_
          refine O (r_loadN (cs := s1.1.map (Value.int .u64)) ti24 rfl (by simp [s1.2]) (hs.cells (i := 0) rfl)) rfl ?_
          refine O (r_move (v := Value.int .i64 b10) rfl) rfl ?_
          obtain ⟨rv17, hrv17, hM⟩ := bindS hM
          refine C [encV .u64 s1, Value.int .i64 b10] cf52 rfl (ref08_Has_ok hrv17 hs.imm) rfl ?_
          rintro v17 wv18 ⟨gg36, hvv17, hegg36⟩
          have hlegg36 := hegg36.le hs.imm
          replace hs := hs.call hegg36
          replace hag0 := hag0.trans hlegg36
          replace hlegg29 := hlegg29.trans hlegg36
          replace hagg29 := hagg29.trans hlegg36
          obtain ⟨cs17, rfl, hcs17⟩ := hvv17
          have hcs17 : cs17 = _ := hcs17; subst hcs17
          refine OW_nil ?_
          rcases condS hM with ⟨hc25, hM⟩ | ⟨hc25, hM⟩
          · refine WP_true rfl hc25 ?_
            refine WP_region ?_
            refine O (r_move (v := Value.int .i64 nv16) rfl) rfl ?_
            obtain ⟨t23, ht23, hM⟩ := bindS hM
            refine O (r_addM rfl rfl ht23) rfl ?_
            refine O (r_move (v := Value.int .i64 b10) rfl) rfl ?_
            refine O (r_assign (v := Value.int .i64 t23) rfl) rfl ?_
            refine O (r_assign (v := Value.int .i64 b10) rfl) rfl ?_
            refine OW_nil ?_
            simp only [Option.some.injEq, Prod.mk.injEq] at hM
            obtain ⟨rfl, rfl⟩ := hM
            exact ⟨gg36, rfl, rfl, rfl, rfl, hds, hagg29, hs⟩
          · refine WP_false rfl hc25 ?_
            refine WP_skip ?_
            simp only [Option.some.injEq, Prod.mk.injEq] at hM
            obtain ⟨rfl, rfl⟩ := hM
            exact ⟨gg36, rfl, rfl, rfl, rfl, hds, hagg29, hs⟩
        · clear hs
          rintro E w ⟨gg35, hE1, hE3, hE4, hE5, hds, hlegg35, hs⟩
          have hM := hKhx9
          obtain ⟨E, rfl⟩ := open1 (E := E) hE1
          obtain ⟨E, rfl⟩ := open1 (E := E) hE3
          obtain ⟨E, rfl⟩ := open1 (E := E) hE4
          obtain ⟨E, rfl⟩ := open1 (E := E) hE5
          replace hag0 := hag0.trans hlegg35
          replace hlegg29 := hlegg29.trans hlegg35
          replace hagg29 := hagg29.trans hlegg35
          refine WP_region ?_
          refine O (r_move (v := Value.int .i64 b10) rfl) rfl ?_
          obtain ⟨t24, ht24, hM⟩ := bindS hM
          refine O (r_addM rfl rfl ht24) rfl ?_
          refine O (r_assign (v := Value.int .i64 t24) rfl) rfl ?_
          refine OW_nil ?_
          obtain rfl := Option.some.inj hM
          exact ⟨gg35, rfl, rfl, rfl, rfl, hds, hlegg29, hs⟩
      · refine WP_false rfl hc23 ?_
        refine WP_exit ?_
        obtain rfl := Option.some.inj hM
        refine fun hr => ?_
        have hM := congrArg some hr
        simp only [Option.some.injEq, Prod.mk.injEq] at hM
        obtain ⟨rfl, rfl⟩ := hM
        exact ⟨gg29, rfl, rfl, rfl, hds, hlegg29, hs⟩
    · clear hs
      rintro E w ⟨gg19, hE1, hE3, hE4, hds, hlegg19, hs⟩
      have hM := hKhx5
      obtain ⟨E, rfl⟩ := open1 (E := E) hE1
      obtain ⟨E, rfl⟩ := open1 (E := E) hE3
      obtain ⟨E, rfl⟩ := open1 (E := E) hE4
      replace hag0 := hag0.trans hlegg19
      refine WP_seq ?_
      obtain ⟨rv19, hx10, hKhx10⟩ := bindS hM
      refine WP_cut (fun E w => ∃ (gg38 : Hp), E 1 = Value.pointer (some ⟨b1, 0, none⟩) ∧ E 4 = Value.int .i64 only7 ∧ E 24 = Value.bool rv19 ∧ E.ds = [] ∧ Hle gg19 gg38 ∧ Go.Lx.Sep g0 w0 gg38 w [Go.Lx.box b1 24 (s1.1.map (Value.int .u64))]) ?_ ?_
      · have hM := hx10
        have hagg19 := Hle.refl gg19
        refine WP_region ?_
        refine O (r_move (v := Value.int .i64 nv10) rfl) rfl ?_
        refine O (r_eql rfl rfl) rfl ?_
        refine O (r_move (v := Value.bool (nv10 == 1)) rfl) rfl ?_
        rcases condS hM with ⟨hg2, hM⟩ | ⟨hg2, hM⟩
        · refine OG rfl rfl rfl (by rw [hg2]; rfl) (r_loadN (cs := s1.1.map (Value.int .u64)) ti24 rfl (by simp [s1.2]) (hs.cells (i := 0) rfl)) rfl ?_
          obtain ⟨rv20, hrv20, hM⟩ := bindS hM
          refine CG rfl rfl rfl (by rw [hg2]; rfl) [encV .u64 s1] cf36 rfl (ref08_writable_ok hrv20 hs.imm) rfl ?_
          rintro v19 wv20 ⟨gg39, hvv19, hegg39⟩
          have hlegg39 := hegg39.le hs.imm
          replace hs := hs.call hegg39
          replace hag0 := hag0.trans hlegg39
          replace hagg19 := hagg19.trans hlegg39
          obtain ⟨cs19, rfl, hcs19⟩ := hvv19
          have hcs19 : cs19 = _ := hcs19; subst hcs19
          refine O (r_pickT (v := Value.bool rv20) rfl hg2 rfl) rfl ?_
          refine OW_nil ?_
          obtain rfl := Option.some.inj hM
          exact ⟨gg39, rfl, rfl, rfl, hds, hagg19, hs⟩
        · refine OK rfl rfl rfl (by rw [hg2]; rfl) rfl ?_
          refine OK rfl rfl rfl (by rw [hg2]; rfl) rfl ?_
          refine O (r_pickF (v := Value.bool false) rfl hg2 rfl) rfl ?_
          refine OW_nil ?_
          obtain rfl := Option.some.inj hM
          exact ⟨gg19, rfl, rfl, rfl, hds, (Hle.refl _), hs⟩
      · clear hs
        rintro E w ⟨gg38, hE1, hE4, hE24, hds, hlegg38, hs⟩
        have hM := hKhx10
        obtain ⟨E, rfl⟩ := open1 (E := E) hE1
        obtain ⟨E, rfl⟩ := open1 (E := E) hE4
        obtain ⟨E, rfl⟩ := open1 (E := E) hE24
        replace hag0 := hag0.trans hlegg38
        rcases condS hM with ⟨hc26, hM⟩ | ⟨hc26, hM⟩
        · refine WP_true rfl hc26 ?_
          refine WP_seq ?_
          refine WP_region ?_
          refine O (r_move (v := Value.int .i64 only7) rfl) rfl ?_
          obtain ⟨rv21, hrv21, hM⟩ := bindS hM
          refine C [Value.int .i64 only7, Value.bool false] cf62 rfl (ref08_written_ok hrv21 hs.imm) rfl ?_
          rintro v20 wv21 ⟨gg40, hvv20, hegg40⟩
          have hlegg40 := hegg40.le hs.imm
          replace hs := hs.call hegg40
          replace hag0 := hag0.trans hlegg40
          obtain ⟨cs20, rfl, hcs20⟩ := hvv20
          have hcs20 : cs20 = _ := hcs20; subst hcs20
          refine O (r_assign (v := encS rv21) rfl) rfl ?_
          refine OW_nil ?_
          refine WP_ret ?_
          obtain rfl := Option.some.inj hM
          refine FL_nil hds ?_
          exact ⟨_, res1 Tryd.results41 (rv_tmp (v := encS rv21) rfl), gg40, ⟨[encS rv21], rfl, rfl⟩, hs.ext⟩
        · refine WP_false rfl hc26 ?_
          refine WP_skip ?_
          refine WP_seq ?_
          refine WP_seq ?_
          refine WP_region ?_
          refine O (r_loadN (cs := s1.1.map (Value.int .u64)) ti24 rfl (by simp [s1.2]) (hs.cells (i := 0) rfl)) rfl ?_
          obtain ⟨rv22, hrv22, hM⟩ := bindS hM
          refine C [encV .u64 s1] cf36 rfl (ref08_writable_ok hrv22 hs.imm) rfl ?_
          rintro v21 wv22 ⟨gg41, hvv21, hegg41⟩
          have hlegg41 := hegg41.le hs.imm
          replace hs := hs.call hegg41
          replace hag0 := hag0.trans hlegg41
          obtain ⟨cs21, rfl, hcs21⟩ := hvv21
          have hcs21 : cs21 = _ := hcs21; subst hcs21
          refine OW_nil ?_
          rcases condS hM with ⟨hc27, hM⟩ | ⟨hc27, hM⟩
          · refine WP_true rfl hc27 ?_
            refine WP_seq ?_
            refine WP_region ?_
            refine O (r_loadN (cs := s1.1.map (Value.int .u64)) ti24 rfl (by simp [s1.2]) (hs.cells (i := 0) rfl)) rfl ?_
            obtain ⟨rv23, hrv23, hM⟩ := bindS hM
            refine C [encV .u64 s1] cf63 rfl (ref08_elements_ok hrv23 hs.imm) rfl ?_
            rintro v22 wv23 ⟨gg42, hvv22, hegg42⟩
            have hlegg42 := hegg42.le hs.imm
            replace hs := hs.call hegg42
            replace hag0 := hag0.trans hlegg42
            obtain ⟨cs22, rfl, hcs22⟩ := hvv22
            have hcs22 : cs22 = _ := hcs22; subst hcs22
            obtain ⟨s2, hs2, hM⟩ := bindS hM
            refine O (r_catS rfl rfl hs2) rfl ?_
            obtain ⟨s3, hs3, hM⟩ := bindS hM
            refine O (r_catS rfl rfl hs3) rfl ?_
            refine O (r_assign (v := encS s3) rfl) rfl ?_
            refine OW_nil ?_
            refine WP_ret ?_
            obtain rfl := Option.some.inj hM
            refine FL_nil hds ?_
            exact ⟨_, res1 Tryd.results41 (rv_tmp (v := encS s3) rfl), gg42, ⟨[encS s3], rfl, rfl⟩, hs.ext⟩
          · refine WP_false rfl hc27 ?_
            refine WP_skip ?_
            refine WP_seq ?_
            refine WP_region ?_
            refine O (r_loadN (cs := s1.1.map (Value.int .u64)) ti24 rfl (by simp [s1.2]) (hs.cells (i := 0) rfl)) rfl ?_
            obtain ⟨rv24, hrv24, hM⟩ := bindS hM
            refine C [encV .u64 s1] cf37 rfl (ref08_Not_ok hrv24 hs.imm) rfl ?_
            rintro v23 wv24 ⟨gg43, hvv23, hegg43⟩
            have hlegg43 := hegg43.le hs.imm
            replace hs := hs.call hegg43
            replace hag0 := hag0.trans hlegg43
            obtain ⟨cs23, rfl, hcs23⟩ := hvv23
            have hcs23 : cs23 = _ := hcs23; subst hcs23
            obtain ⟨rv25, hrv25, hM⟩ := bindS hM
            refine C [encV .u64 rv24] cf63 rfl (ref08_elements_ok hrv25 hs.imm) rfl ?_
            rintro v24 wv25 ⟨gg44, hvv24, hegg44⟩
            have hlegg44 := hegg44.le hs.imm
            replace hs := hs.call hegg44
            replace hag0 := hag0.trans hlegg44
            obtain ⟨cs24, rfl, hcs24⟩ := hvv24
            have hcs24 : cs24 = _ := hcs24; subst hcs24
            obtain ⟨s4, hs4, hM⟩ := bindS hM
            refine O (r_catS rfl rfl hs4) rfl ?_
            obtain ⟨s5, hs5, hM⟩ := bindS hM
            refine O (r_catS rfl rfl hs5) rfl ?_
            refine O (r_assign (v := encS s5) rfl) rfl ?_
            refine OW_nil ?_
            refine WP_ret ?_
            obtain rfl := Option.some.inj hM
            refine FL_nil hds ?_
            exact ⟨_, res1 Tryd.results41 (rv_tmp (v := encS s5) rfl), gg44, ⟨[encS s5], rfl, rfl⟩, hs.ext⟩

def C.ref08_group (fl : Nat) : Prop := ∀ {rv1 : T_Regex} {required1 : Bool} {r : Str} (_ : M.ref08_group fl rv1 required1 = some r) {g0 : Hp} {w0 : World} (hi : Imm g0 w0) {cs1 : List Value} (hcs1 : tT_Regex.rel g0 cs1 rv1),
    CallsV Tryd.prog 42 #[Value.agg cs1.toArray, Value.bool required1] w0 (fun v w' => ∃ g', (VRd tStr false g' v r) ∧ Ext g0 w0 g' w')
def C.ref08_Format (fl : Nat) : Prop := ∀ {p1 : T_Regex} {r : Str} (_ : M.ref08_Format fl p1 = some r) {g0 : Hp} {w0 : World} (hi : Imm g0 w0) {cs1 : List Value} (hcs1 : tT_Regex.rel g0 cs1 p1),
    CallsV Tryd.prog 22 #[Value.agg cs1.toArray] w0 (fun v w' => ∃ g', (VRd tStr false g' v r) ∧ Ext g0 w0 g' w')
set_option maxRecDepth 100000 in
theorem ref08_group_step {fl : Nat} (ih_ref08_Format : C.ref08_Format fl) : C.ref08_group (fl + 1) := by
  intro rv1 required1 r hM g0 w0 hi cs1 hcs1
  unfold M.ref08_group at hM
  obtain ⟨cs2, cs3, cs4, rfl, hcs2, hcs3, hcs4⟩ := tT_Regex_iff.1 hcs1
  have hcs2 : cs2 = _ := hcs2; subst hcs2
  have hcs3 : cs3 = _ := hcs3; subst hcs3
  obtain ⟨v1, rfl, hRv1⟩ := hcs4
  have hs := Sep.start hi
  refine calls_of_WP (args := [Value.agg (List.toArray (α := Value) (([Value.int .i64 rv1.Kind]) ++ ((rv1.Set.1.map (Value.int .u64)) ++ ([v1])))), Value.bool required1]) Tryd.func42 rfl Tryd.ntmps42 rfl ?_
  have hds : (argEnv [Value.agg (List.toArray (α := Value) (([Value.int .i64 rv1.Kind]) ++ ((rv1.Set.1.map (Value.int .u64)) ++ ([v1])))), Value.bool required1]).ds = [] := rfl
  refine WP_seq ?_
  refine WP_region ?_
  refine OW_box (v := Value.agg (List.toArray (α := Value) (([Value.int .i64 rv1.Kind]) ++ ((rv1.Set.1.map (Value.int .u64)) ++ ([v1]))))) rfl hs (zs := ([Value.int .i64 rv1.Kind]) ++ ((rv1.Set.1.map (Value.int .u64)) ++ ([v1]))) rfl rfl ?_
  intro b1 wv1 hs
  refine O (r_assign (v := encS []) rfl) rfl ?_
  refine OW_nil ?_
  refine WP_seq ?_
  refine WP_seq ?_
  refine WP_region ?_
  refine O (r_move (v := Value.bool required1) rfl) rfl ?_
  refine OW_nil ?_
  rcases condS hM with ⟨hc1, hM⟩ | ⟨hc1, hM⟩
  · refine WP_true rfl hc1 ?_
    refine WP_seq ?_
    refine WP_region ?_
    refine O (r_loadN (cs := ([Value.int .i64 rv1.Kind]) ++ ((rv1.Set.1.map (Value.int .u64)) ++ ([v1]))) ti27 rfl (by simp [rv1.Set.2]) (hs.cells (i := 0) rfl)) rfl ?_
    obtain ⟨rv2, hrv2, hM⟩ := bindS hM
    refine C [Value.agg (List.toArray (α := Value) (([Value.int .i64 rv1.Kind]) ++ ((rv1.Set.1.map (Value.int .u64)) ++ ([v1]))))] cf22 rfl (ih_ref08_Format hrv2 hs.imm (tT_Regex_iff.2 ⟨[Value.int .i64 rv1.Kind], rv1.Set.1.map (Value.int .u64), [v1], rfl, rfl, rfl, ⟨_, rfl, hRv1⟩⟩)) rfl ?_
    rintro v2 wv2 ⟨gg1, hvv2, hegg1⟩
    have hlegg1 := hegg1.le hs.imm
    replace hs := hs.call hegg1
    replace hRv1 := hRv1.mono hlegg1
    obtain ⟨cs5, rfl, hcs5⟩ := hvv2
    have hcs5 : cs5 = _ := hcs5; subst hcs5
    obtain ⟨s1, hs1, hM⟩ := bindS hM
    refine O (r_catS rfl rfl hs1) rfl ?_
    obtain ⟨s2, hs2, hM⟩ := bindS hM
    refine O (r_catS rfl rfl hs2) rfl ?_
    refine O (r_assign (v := encS s2) rfl) rfl ?_
    refine OW_nil ?_
    refine WP_ret ?_
    obtain rfl := Option.some.inj hM
    refine FL_nil hds ?_
    exact ⟨_, res1 Tryd.results42 (rv_tmp (v := encS s2) rfl), gg1, ⟨[encS s2], rfl, rfl⟩, hs.ext⟩
  · refine WP_false rfl hc1 ?_
    refine WP_skip ?_
    refine WP_seq ?_
    refine WP_region ?_
    refine O (r_loadN (cs := ([Value.int .i64 rv1.Kind]) ++ ((rv1.Set.1.map (Value.int .u64)) ++ ([v1]))) ti27 rfl (by simp [rv1.Set.2]) (hs.cells (i := 0) rfl)) rfl ?_
    obtain ⟨rv3, hrv3, hM⟩ := bindS hM
    refine C [Value.agg (List.toArray (α := Value) (([Value.int .i64 rv1.Kind]) ++ ((rv1.Set.1.map (Value.int .u64)) ++ ([v1]))))] cf22 rfl (ih_ref08_Format hrv3 hs.imm (tT_Regex_iff.2 ⟨[Value.int .i64 rv1.Kind], rv1.Set.1.map (Value.int .u64), [v1], rfl, rfl, rfl, ⟨_, rfl, hRv1⟩⟩)) rfl ?_
    rintro v3 wv3 ⟨gg2, hvv3, hegg2⟩
    have hlegg2 := hegg2.le hs.imm
    replace hs := hs.call hegg2
    replace hRv1 := hRv1.mono hlegg2
    obtain ⟨cs6, rfl, hcs6⟩ := hvv3
    have hcs6 : cs6 = _ := hcs6; subst hcs6
    refine O (r_assign (v := encS rv3) rfl) rfl ?_
    refine OW_nil ?_
    refine WP_ret ?_
    obtain rfl := Option.some.inj hM
    refine FL_nil hds ?_
    exact ⟨_, res1 Tryd.results42 (rv_tmp (v := encS rv3) rfl), gg2, ⟨[encS rv3], rfl, rfl⟩, hs.ext⟩

set_option maxRecDepth 100000 in
theorem ref08_Format_step {fl : Nat} (ih_ref08_group : C.ref08_group fl) : C.ref08_Format (fl + 1) := by
  intro p1 r hM g0 w0 hi cs1 hcs1
  unfold M.ref08_Format at hM
  obtain ⟨cs2, cs3, cs4, rfl, hcs2, hcs3, hcs4⟩ := tT_Regex_iff.1 hcs1
  have hcs2 : cs2 = _ := hcs2; subst hcs2
  have hcs3 : cs3 = _ := hcs3; subst hcs3
  obtain ⟨v1, rfl, hRv1⟩ := hcs4
  have hs := Sep.start hi
  refine calls_of_WP (args := [Value.agg (List.toArray (α := Value) (([Value.int .i64 p1.Kind]) ++ ((p1.Set.1.map (Value.int .u64)) ++ ([v1]))))]) Tryd.func22 rfl Tryd.ntmps22 rfl ?_
  have hds : (argEnv [Value.agg (List.toArray (α := Value) (([Value.int .i64 p1.Kind]) ++ ((p1.Set.1.map (Value.int .u64)) ++ ([v1]))))]).ds = [] := rfl
  refine WP_seq ?_
  refine WP_region ?_
  refine OW_box (v := Value.agg (List.toArray (α := Value) (([Value.int .i64 p1.Kind]) ++ ((p1.Set.1.map (Value.int .u64)) ++ ([v1]))))) rfl hs (zs := ([Value.int .i64 p1.Kind]) ++ ((p1.Set.1.map (Value.int .u64)) ++ ([v1]))) rfl rfl ?_
  intro b1 wv1 hs
  refine O (r_assign (v := encS []) rfl) rfl ?_
  refine OW_nil ?_
  refine WP_seq ?_
  refine WP_seq ?_
  refine WP_region ?_
  refine O (r_fieldAddr Tryd.underlying27 ti3 rfl rfl (by decide) rfl rfl) rfl ?_
  refine O (r_load (v := Value.int .i64 p1.Kind) ti3 rfl (hs.cell (i := 0) (o := 0) rfl (by simp [p1.Set.2]))) rfl ?_
  refine OW_nil ?_
  refine WP_block ?_
  refine WP_seq ?_
  refine WP_region ?_
  refine O (r_eql rfl rfl) rfl ?_
  refine O (r_assign (v := Value.bool (p1.Kind == 2)) rfl) rfl ?_
  refine OW_nil ?_
  rcases condS hM with ⟨hc1, hM⟩ | ⟨hc1, hM⟩
  · refine WP_true rfl hc1 ?_
    refine WP_seq ?_
    refine WP_region ?_
    refine O (r_assign (v := encS [40, 41]) rfl) rfl ?_
    refine OW_nil ?_
    refine WP_ret ?_
    obtain rfl := Option.some.inj hM
    refine FL_nil hds ?_
    exact ⟨_, res1 Tryd.results22 (rv_tmp (v := encS [40, 41]) rfl), g0, ⟨[encS [40, 41]], rfl, rfl⟩, hs.ext⟩
  · refine WP_false rfl hc1 ?_
    refine WP_seq ?_
    refine WP_region ?_
    refine O (r_eql rfl rfl) rfl ?_
    refine O (r_assign (v := Value.bool (p1.Kind == 3)) rfl) rfl ?_
    refine OW_nil ?_
    rcases condS hM with ⟨hc2, hM⟩ | ⟨hc2, hM⟩
    · refine WP_true rfl hc2 ?_
      refine WP_seq ?_
      refine WP_region ?_
      refine O (r_fieldAddr Tryd.underlying27 ti24 rfl rfl (by decide) rfl rfl) rfl ?_
      refine O (r_loadN (cs := p1.Set.1.map (Value.int .u64)) ti24 rfl (by simp [p1.Set.2]) (hs.cellsAt (i := 0) (o := 1) rfl (by intro j u hj; exact sub_at (pre := [Value.int .i64 p1.Kind]) (ds := p1.Set.1.map (Value.int .u64)) (post := [v1]) rfl ((by simp)) hj))) rfl ?_
      obtain ⟨rv1, hrv1, hM⟩ := bindS hM
      refine C [encV .u64 p1.Set] cf41 rfl (ref08_set_ok hrv1 hs.imm) rfl ?_
      rintro v2 wv2 ⟨gg1, hvv2, hegg1⟩
      have hlegg1 := hegg1.le hs.imm
      replace hs := hs.call hegg1
      replace hRv1 := hRv1.mono hlegg1
      obtain ⟨cs5, rfl, hcs5⟩ := hvv2
      have hcs5 : cs5 = _ := hcs5; subst hcs5
      refine O (r_assign (v := encS rv1) rfl) rfl ?_
      refine OW_nil ?_
      refine WP_ret ?_
      obtain rfl := Option.some.inj hM
      refine FL_nil hds ?_
      exact ⟨_, res1 Tryd.results22 (rv_tmp (v := encS rv1) rfl), gg1, ⟨[encS rv1], rfl, rfl⟩, hs.ext⟩
    · refine WP_false rfl hc2 ?_
      refine WP_seq ?_
      refine WP_region ?_
      refine O (r_eql rfl rfl) rfl ?_
      refine O (r_assign (v := Value.bool (p1.Kind == 6)) rfl) rfl ?_
      refine OW_nil ?_
      rcases condS hM with ⟨hc3, hM⟩ | ⟨hc3, hM⟩
      · refine WP_true rfl hc3 ?_
        refine WP_seq ?_
        refine WP_drawTail 10 mo (by decide +kernel) ?_
        have hs := hs.drew
        refine S (r_fieldAddr Tryd.underlying27 ti25 rfl rfl (by decide) rfl rfl) rfl ?_
        refine S (r_load (v := v1) ti25 rfl (hs.cell (i := 0) (o := 5) rfl (by simp [p1.Set.2]))) rfl ?_
        obtain ⟨e1, he1, hM⟩ := bindS hM
        obtain ⟨b2, ob2, cb2, hvb2, cs6, hcs6, hcb2⟩ := hRv1.at he1
        obtain ⟨cs7, cs8, cs9, rfl, hcs7, hcs8, hcs9⟩ := tT_Regex_iff.1 hcs6
        have hcs7 : cs7 = _ := hcs7; subst hcs7
        have hcs8 : cs8 = _ := hcs8; subst hcs8
        obtain ⟨v3, rfl, hRv3⟩ := hcs9
        refine S (r_idxSl Tryd.underlying25 ti27 (v := v1) rfl hvb2 rfl (idxL_some he1).1 (idxL_some he1).2.1) rfl ?_
        refine S (r_loadEl (cs := ([Value.int .i64 e1.Kind]) ++ ((e1.Set.1.map (Value.int .u64)) ++ ([v3]))) ti27 rfl (by simp [e1.Set.2]) (.inl rfl) (hcb2 _ hs.imm) (v := Value.agg (List.toArray (α := Value) (([Value.int .i64 e1.Kind]) ++ ((e1.Set.1.map (Value.int .u64)) ++ ([v3]))))) rfl) rfl ?_
        refine S (r_fieldAddr Tryd.underlying27 ti25 rfl rfl (by decide) rfl rfl) rfl ?_
        refine S (r_load (v := v1) ti25 rfl (hs.cell (i := 0) (o := 5) rfl (by simp [p1.Set.2]))) rfl ?_
        obtain ⟨b3, ob3, cb3, hvb3, cs10, hcs10, hcb3⟩ := hRv1.at he1
        obtain ⟨cs11, cs12, cs13, rfl, hcs11, hcs12, hcs13⟩ := tT_Regex_iff.1 hcs10
        have hcs11 : cs11 = _ := hcs11; subst hcs11
        have hcs12 : cs12 = _ := hcs12; subst hcs12
        obtain ⟨v4, rfl, hRv4⟩ := hcs13
        refine S (r_idxSl Tryd.underlying25 ti27 (v := v1) rfl hvb3 rfl (idxL_some he1).1 (idxL_some he1).2.1) rfl ?_
        refine S (r_fieldAddr Tryd.underlying27 ti3 rfl rfl (by decide) rfl rfl) rfl ?_
        refine S (r_loadEl (cs := [Value.int .i64 e1.Kind]) ti3 rfl rfl (.inr rfl) (elemField (cs := ([Value.int .i64 e1.Kind]) ++ ((e1.Set.1.map (Value.int .u64)) ++ ([v4]))) (hcb3 _ hs.imm) ([]) ([Value.int .i64 e1.Kind]) ((e1.Set.1.map (Value.int .u64)) ++ ([v4])) (by simp) rfl) (v := Value.int .i64 e1.Kind) rfl) rfl ?_
        refine S (r_neq rfl rfl) rfl ?_
        refine SW_nil ?_
        obtain ⟨rv2, hrv2, hM⟩ := bindS hM
        refine C [Value.agg (List.toArray (α := Value) (([Value.int .i64 e1.Kind]) ++ ((e1.Set.1.map (Value.int .u64)) ++ ([v3])))), Value.bool (e1.Kind != 3)] cf42 rfl (ih_ref08_group hrv2 hs.imm (tT_Regex_iff.2 ⟨[Value.int .i64 e1.Kind], e1.Set.1.map (Value.int .u64), [v3], rfl, rfl, rfl, ⟨_, rfl, hRv3⟩⟩)) rfl ?_
        rintro v5 wv3 ⟨gg2, hvv5, hegg2⟩
        have hlegg2 := hegg2.le hs.imm
        replace hs := hs.call hegg2
        replace hRv1 := hRv1.mono hlegg2
        replace hRv3 := hRv3.mono hlegg2
        replace hRv4 := hRv4.mono hlegg2
        obtain ⟨cs14, rfl, hcs14⟩ := hvv5
        have hcs14 : cs14 = _ := hcs14; subst hcs14
        obtain ⟨s1, hs1, hM⟩ := bindS hM
        refine O (r_catS rfl rfl hs1) rfl ?_
        refine O (r_assign (v := encS s1) rfl) rfl ?_
        refine OW_nil ?_
        refine WP_ret ?_
        obtain rfl := Option.some.inj hM
        refine FL_nil hds ?_
        exact ⟨_, res1 Tryd.results22 (rv_tmp (v := encS s1) rfl), gg2, ⟨[encS s1], rfl, rfl⟩, hs.ext⟩
      · refine WP_false rfl hc3 ?_
        refine WP_skip ?_
        refine WP_seq ?_
        refine WP_region ?_
        refine O (r_assign (v := encS []) rfl) rfl ?_
        refine OW_nil ?_
        obtain ⟨xv7, hx10, hKhx10⟩ := bindS hM
        refine WP_cut (fun E w => ∃ (gg27 : Hp), E 3 = encS xv7 ∧ E.ds = [] ∧ Hle g0 gg27 ∧ Go.Lx.Sep g0 w0 gg27 w []) ?_ ?_
        · have hM := hx10
          have hag0 := Hle.refl g0
          refine WP_seq ?_
          refine WP_region ?_
          refine O (r_assign (v := Value.int .i64 0) rfl) rfl ?_
          refine OW_nil ?_
          refine WP_block ?_
          refine WP_loop (fun (st9 : Str × Int) E w => match st9 with | (xv10, xv11) => ∃ (gg36 : Hp), E 1 = Value.pointer (some ⟨b1, 0, none⟩) ∧ E 3 = encS xv10 ∧ E 4 = Value.int .i64 xv11 ∧ E.ds = [] ∧ Hle g0 gg36 ∧ Go.Lx.Sep g0 w0 gg36 w [Go.Lx.box b1 27 (([Value.int .i64 p1.Kind]) ++ ((p1.Set.1.map (Value.int .u64)) ++ ([v1])))]) hM ⟨g0, rfl, rfl, rfl, hds, (Hle.refl _), hs⟩ ?_
          clear hs hM
          rintro ⟨xv10, xv11⟩ o2 E w hM ⟨gg36, hE1, hE3, hE4, hds, hlegg36, hs⟩
          obtain ⟨E, rfl⟩ := open1 (E := E) hE1
          obtain ⟨E, rfl⟩ := open1 (E := E) hE3
          obtain ⟨E, rfl⟩ := open1 (E := E) hE4
          replace hRv1 := hRv1.mono hlegg36
          replace hag0 := hag0.trans hlegg36
          have hagg36 := Hle.refl gg36
          refine WP_seq ?_
          refine WP_seq ?_
          refine WP_region ?_
          refine O (r_move (v := Value.int .i64 xv11) rfl) rfl ?_
          refine O (r_fieldAddr Tryd.underlying27 ti25 rfl rfl (by decide) rfl rfl) rfl ?_
          refine O (r_load (v := v1) ti25 rfl (hs.cell (i := 0) (o := 5) rfl (by simp [p1.Set.2]))) rfl ?_
          obtain ⟨a6, ca6, hva6⟩ := hRv1.shape
          refine O (r_lenSl (v := v1) Tryd.underlying25 rfl hva6) rfl ?_
          refine O (r_lss rfl rfl) rfl ?_
          refine OW_nil ?_
          rcases condS hM with ⟨hc39, hM⟩ | ⟨hc39, hM⟩
          · refine WP_true rfl hc39 ?_
            refine WP_skip ?_
            obtain ⟨s73, hx18, hKhx18⟩ := bindS hM
            refine WP_cut (fun E w => ∃ (gg48 : Hp), E 1 = Value.pointer (some ⟨b1, 0, none⟩) ∧ E 3 = encS s73 ∧ E 4 = Value.int .i64 xv11 ∧ E.ds = [] ∧ Hle gg36 gg48 ∧ Go.Lx.Sep g0 w0 gg48 w [Go.Lx.box b1 27 (([Value.int .i64 p1.Kind]) ++ ((p1.Set.1.map (Value.int .u64)) ++ ([v1])))]) ?_ ?_
            · have hM := hx18
              refine WP_block ?_
              refine WP_seq ?_
              refine WP_region ?_
              refine O (r_fieldAddr Tryd.underlying27 ti25 rfl rfl (by decide) rfl rfl) rfl ?_
              refine O (r_load (v := v1) ti25 rfl (hs.cell (i := 0) (o := 5) rfl (by simp [p1.Set.2]))) rfl ?_
              refine O (r_move (v := Value.int .i64 xv11) rfl) rfl ?_
              obtain ⟨e13, he13, hM⟩ := bindS hM
              obtain ⟨b37, ob37, cb37, hvb37, cs180, hcs180, hcb37⟩ := hRv1.at he13
              obtain ⟨cs181, cs182, cs183, rfl, hcs181, hcs182, hcs183⟩ := tT_Regex_iff.1 hcs180
              have hcs181 : cs181 = _ := hcs181; subst hcs181
              have hcs182 : cs182 = _ := hcs182; subst hcs182
              obtain ⟨v72, rfl, hRv72⟩ := hcs183
              refine O (r_idxSl Tryd.underlying25 ti27 (v := v1) rfl hvb37 rfl (idxL_some he13).1 (idxL_some he13).2.1) rfl ?_
              refine O (r_fieldAddr Tryd.underlying27 ti3 rfl rfl (by decide) rfl rfl) rfl ?_
              refine O (r_loadEl (cs := [Value.int .i64 e13.Kind]) ti3 rfl rfl (.inr rfl) (elemField (cs := ([Value.int .i64 e13.Kind]) ++ ((e13.Set.1.map (Value.int .u64)) ++ ([v72]))) (hcb37 _ hs.imm) ([]) ([Value.int .i64 e13.Kind]) ((e13.Set.1.map (Value.int .u64)) ++ ([v72])) (by simp) rfl) (v := Value.int .i64 e13.Kind) rfl) rfl ?_
              refine O (r_assign (v := Value.int .i64 e13.Kind) rfl) rfl ?_
              refine OW_nil ?_
              refine WP_seq ?_
              refine WP_region ?_
              refine O (r_fieldAddr Tryd.underlying27 ti3 rfl rfl (by decide) rfl rfl) rfl ?_
              refine O (r_load (v := Value.int .i64 p1.Kind) ti3 rfl (hs.cell (i := 0) (o := 0) rfl (by simp [p1.Set.2]))) rfl ?_
              refine O (r_eql rfl rfl) rfl ?_
              refine OW_nil ?_
              rcases condS hM with ⟨hc43, hM⟩ | ⟨hc43, hM⟩
              · refine WP_true rfl hc43 ?_
                obtain ⟨s75, hx19, hKhx19⟩ := bindS hM
                refine WP_cut (fun E w => E 1 = Value.pointer (some ⟨b1, 0, none⟩) ∧ E 3 = encS s75 ∧ E 4 = Value.int .i64 xv11 ∧ E 5 = Value.int .i64 e13.Kind ∧ E.ds = [] ∧ Go.Lx.Sep g0 w0 gg36 w [Go.Lx.box b1 27 (([Value.int .i64 p1.Kind]) ++ ((p1.Set.1.map (Value.int .u64)) ++ ([v1])))]) ?_ ?_
                · have hM := hx19
                  refine WP_seq ?_
                  refine WP_region ?_
                  refine O (r_move (v := Value.int .i64 xv11) rfl) rfl ?_
                  refine O (r_gtr rfl rfl) rfl ?_
                  refine OW_nil ?_
                  rcases condS hM with ⟨hc45, hM⟩ | ⟨hc45, hM⟩
                  · refine WP_true rfl hc45 ?_
                    refine WP_region ?_
                    refine O (r_move (v := encS xv10) rfl) rfl ?_
                    obtain ⟨s76, hs76, hM⟩ := bindS hM
                    refine O (r_catS rfl rfl hs76) rfl ?_
                    refine O (r_assign (v := encS s76) rfl) rfl ?_
                    refine OW_nil ?_
                    obtain rfl := Option.some.inj hM
                    exact ⟨rfl, rfl, rfl, rfl, hds, hs⟩
                  · refine WP_false rfl hc45 ?_
                    refine WP_skip ?_
                    obtain rfl := Option.some.inj hM
                    exact ⟨rfl, rfl, rfl, rfl, hds, hs⟩
                · clear hs
                  rintro E w ⟨hE1, hE3, hE4, hE5, hds, hs⟩
                  have hM := hKhx19
                  obtain ⟨E, rfl⟩ := open1 (E := E) hE1
                  obtain ⟨E, rfl⟩ := open1 (E := E) hE3
                  obtain ⟨E, rfl⟩ := open1 (E := E) hE4
                  obtain ⟨E, rfl⟩ := open1 (E := E) hE5
                  refine WP_region ?_
                  refine O (r_move (v := encS s75) rfl) rfl ?_
                  refine O (r_fieldAddr Tryd.underlying27 ti25 rfl rfl (by decide) rfl rfl) rfl ?_
                  refine O (r_load (v := v1) ti25 rfl (hs.cell (i := 0) (o := 5) rfl (by simp [p1.Set.2]))) rfl ?_
                  refine O (r_move (v := Value.int .i64 xv11) rfl) rfl ?_
                  obtain ⟨b38, ob38, cb38, hvb38, cs184, hcs184, hcb38⟩ := hRv1.at he13
                  obtain ⟨cs185, cs186, cs187, rfl, hcs185, hcs186, hcs187⟩ := tT_Regex_iff.1 hcs184
                  have hcs185 : cs185 = _ := hcs185; subst hcs185
                  have hcs186 : cs186 = _ := hcs186; subst hcs186
                  obtain ⟨v73, rfl, hRv73⟩ := hcs187
                  refine O (r_idxSl Tryd.underlying25 ti27 (v := v1) rfl hvb38 rfl (idxL_some he13).1 (idxL_some he13).2.1) rfl ?_
                  refine O (r_loadEl (cs := ([Value.int .i64 e13.Kind]) ++ ((e13.Set.1.map (Value.int .u64)) ++ ([v73]))) ti27 rfl (by simp [e13.Set.2]) (.inl rfl) (hcb38 _ hs.imm) (v := Value.agg (List.toArray (α := Value) (([Value.int .i64 e13.Kind]) ++ ((e13.Set.1.map (Value.int .u64)) ++ ([v73]))))) rfl) rfl ?_
                  refine O (r_move (v := Value.int .i64 e13.Kind) rfl) rfl ?_
                  refine O (r_eql rfl rfl) rfl ?_
                  obtain ⟨rv36, hrv36, hM⟩ := bindS hM
                  refine C [Value.agg (List.toArray (α := Value) (([Value.int .i64 e13.Kind]) ++ ((e13.Set.1.map (Value.int .u64)) ++ ([v73])))), Value.bool (e13.Kind == 5)] cf42 rfl (ih_ref08_group hrv36 hs.imm (tT_Regex_iff.2 ⟨[Value.int .i64 e13.Kind], e13.Set.1.map (Value.int .u64), [v73], rfl, rfl, rfl, ⟨_, rfl, hRv73⟩⟩)) rfl ?_
                  rintro v74 wv37 ⟨gg49, hvv74, hegg49⟩
                  have hlegg49 := hegg49.le hs.imm
                  replace hs := hs.call hegg49
                  replace hRv1 := hRv1.mono hlegg49
                  replace hRv73 := hRv73.mono hlegg49
                  replace hlegg36 := hlegg36.trans hlegg49
                  replace hagg36 := hagg36.trans hlegg49
                  obtain ⟨cs188, rfl, hcs188⟩ := hvv74
                  have hcs188 : cs188 = _ := hcs188; subst hcs188
                  obtain ⟨s77, hs77, hM⟩ := bindS hM
                  refine O (r_catS rfl rfl hs77) rfl ?_
                  refine O (r_assign (v := encS s77) rfl) rfl ?_
                  refine OW_nil ?_
                  obtain rfl := Option.some.inj hM
                  exact ⟨gg49, rfl, rfl, rfl, hds, hagg36, hs⟩
              · refine WP_false rfl hc43 ?_
                refine WP_region ?_
                refine O (r_move (v := encS xv10) rfl) rfl ?_
                refine O (r_fieldAddr Tryd.underlying27 ti25 rfl rfl (by decide) rfl rfl) rfl ?_
                refine O (r_load (v := v1) ti25 rfl (hs.cell (i := 0) (o := 5) rfl (by simp [p1.Set.2]))) rfl ?_
                refine O (r_move (v := Value.int .i64 xv11) rfl) rfl ?_
                obtain ⟨b39, ob39, cb39, hvb39, cs189, hcs189, hcb39⟩ := hRv1.at he13
                obtain ⟨cs190, cs191, cs192, rfl, hcs190, hcs191, hcs192⟩ := tT_Regex_iff.1 hcs189
                have hcs190 : cs190 = _ := hcs190; subst hcs190
                have hcs191 : cs191 = _ := hcs191; subst hcs191
                obtain ⟨v75, rfl, hRv75⟩ := hcs192
                refine O (r_idxSl Tryd.underlying25 ti27 (v := v1) rfl hvb39 rfl (idxL_some he13).1 (idxL_some he13).2.1) rfl ?_
                refine O (r_loadEl (cs := ([Value.int .i64 e13.Kind]) ++ ((e13.Set.1.map (Value.int .u64)) ++ ([v75]))) ti27 rfl (by simp [e13.Set.2]) (.inl rfl) (hcb39 _ hs.imm) (v := Value.agg (List.toArray (α := Value) (([Value.int .i64 e13.Kind]) ++ ((e13.Set.1.map (Value.int .u64)) ++ ([v75]))))) rfl) rfl ?_
                refine O (r_move (v := Value.int .i64 e13.Kind) rfl) rfl ?_
                refine O (r_eql rfl rfl) rfl ?_
                refine O (r_move (v := Value.bool (e13.Kind == 5)) rfl) rfl ?_
                rcases condS hM with ⟨hg12, hM⟩ | ⟨hg12, hM⟩
                · refine OK rfl rfl rfl (by rw [hg12]; rfl) rfl ?_
                  refine OK rfl rfl rfl (by rw [hg12]; rfl) rfl ?_
                  refine O (r_pickT (v := Value.bool true) rfl hg12 rfl) rfl ?_
                  obtain ⟨rv37, hrv37, hM⟩ := bindS hM
                  refine C [Value.agg (List.toArray (α := Value) (([Value.int .i64 e13.Kind]) ++ ((e13.Set.1.map (Value.int .u64)) ++ ([v75])))), Value.bool true] cf42 rfl (ih_ref08_group hrv37 hs.imm (tT_Regex_iff.2 ⟨[Value.int .i64 e13.Kind], e13.Set.1.map (Value.int .u64), [v75], rfl, rfl, rfl, ⟨_, rfl, hRv75⟩⟩)) rfl ?_
                  rintro v76 wv38 ⟨gg50, hvv76, hegg50⟩
                  have hlegg50 := hegg50.le hs.imm
                  replace hs := hs.call hegg50
                  replace hRv1 := hRv1.mono hlegg50
                  replace hRv72 := hRv72.mono hlegg50
                  replace hRv75 := hRv75.mono hlegg50
                  replace hlegg36 := hlegg36.trans hlegg50
                  replace hagg36 := hagg36.trans hlegg50
                  obtain ⟨cs193, rfl, hcs193⟩ := hvv76
                  have hcs193 : cs193 = _ := hcs193; subst hcs193
                  obtain ⟨s78, hs78, hM⟩ := bindS hM
                  refine O (r_catS rfl rfl hs78) rfl ?_
                  refine O (r_assign (v := encS s78) rfl) rfl ?_
                  refine OW_nil ?_
                  obtain rfl := Option.some.inj hM
                  exact ⟨gg50, rfl, rfl, rfl, hds, hagg36, hs⟩
                · refine OG rfl rfl rfl (by rw [hg12]; rfl) (r_move (v := Value.int .i64 e13.Kind) rfl) rfl ?_
                  refine OG rfl rfl rfl (by rw [hg12]; rfl) (r_eql rfl rfl) rfl ?_
                  refine O (r_pickF (v := Value.bool (e13.Kind == 4)) rfl hg12 rfl) rfl ?_
                  obtain ⟨rv38, hrv38, hM⟩ := bindS hM
                  refine C [Value.agg (List.toArray (α := Value) (([Value.int .i64 e13.Kind]) ++ ((e13.Set.1.map (Value.int .u64)) ++ ([v75])))), Value.bool (e13.Kind == 4)] cf42 rfl (ih_ref08_group hrv38 hs.imm (tT_Regex_iff.2 ⟨[Value.int .i64 e13.Kind], e13.Set.1.map (Value.int .u64), [v75], rfl, rfl, rfl, ⟨_, rfl, hRv75⟩⟩)) rfl ?_
                  rintro v77 wv39 ⟨gg51, hvv77, hegg51⟩
                  have hlegg51 := hegg51.le hs.imm
                  replace hs := hs.call hegg51
                  replace hRv1 := hRv1.mono hlegg51
                  replace hRv72 := hRv72.mono hlegg51
                  replace hRv75 := hRv75.mono hlegg51
                  replace hlegg36 := hlegg36.trans hlegg51
                  replace hagg36 := hagg36.trans hlegg51
                  obtain ⟨cs194, rfl, hcs194⟩ := hvv77
                  have hcs194 : cs194 = _ := hcs194; subst hcs194
                  obtain ⟨s79, hs79, hM⟩ := bindS hM
                  refine O (r_catS rfl rfl hs79) rfl ?_
                  refine O (r_assign (v := encS s79) rfl) rfl ?_
                  refine OW_nil ?_
                  obtain rfl := Option.some.inj hM
                  exact ⟨gg51, rfl, rfl, rfl, hds, hagg36, hs⟩
            · clear hs
              rintro E w ⟨gg48, hE1, hE3, hE4, hds, hlegg48, hs⟩
              have hM := hKhx18
              obtain ⟨E, rfl⟩ := open1 (E := E) hE1
              obtain ⟨E, rfl⟩ := open1 (E := E) hE3
              obtain ⟨E, rfl⟩ := open1 (E := E) hE4
              replace hRv1 := hRv1.mono hlegg48
              replace hlegg36 := hlegg36.trans hlegg48
              replace hagg36 := hagg36.trans hlegg48
              refine WP_region ?_
              refine O (r_move (v := Value.int .i64 xv11) rfl) rfl ?_
              obtain ⟨t6, ht6, hM⟩ := bindS hM
              refine O (r_addM rfl rfl ht6) rfl ?_
              refine O (r_assign (v := Value.int .i64 t6) rfl) rfl ?_
              refine OW_nil ?_
              obtain rfl := Option.some.inj hM
              exact ⟨gg48, rfl, rfl, rfl, hds, hlegg36, hs⟩
          · refine WP_false rfl hc39 ?_
            refine WP_exit ?_
            obtain rfl := Option.some.inj hM
            refine fun hr => ?_
            have hM := congrArg some hr
            obtain rfl := Option.some.inj hM
            exact ⟨gg36, rfl, hds, hlegg36, (hs.sub (.cons _ .slnil))⟩
        · clear hs
          rintro E w ⟨gg27, hE3, hds, hlegg27, hs⟩
          have hM := hKhx10
          obtain ⟨E, rfl⟩ := open1 (E := E) hE3
          refine WP_seq ?_
          refine WP_region ?_
          refine O (r_move (v := encS xv7) rfl) rfl ?_
          refine O (r_assign (v := encS xv7) rfl) rfl ?_
          refine OW_nil ?_
          refine WP_ret ?_
          obtain rfl := Option.some.inj hM
          refine FL_nil hds ?_
          exact ⟨_, res1 Tryd.results22 (rv_tmp (v := encS xv7) rfl), gg27, ⟨[encS xv7], rfl, rfl⟩, hs.ext⟩
theorem ref08_group_zero : C.ref08_group 0 := by
  unfold C.ref08_group
  intros
  simp_all only [M.ref08_group, reduceCtorEq]
theorem ref08_Format_zero : C.ref08_Format 0 := by
  unfold C.ref08_Format
  intros
  simp_all only [M.ref08_Format, reduceCtorEq]
theorem ref08_group_all : ∀ fl, C.ref08_group fl ∧ C.ref08_Format fl := by
  intro fl
  induction fl with
  | zero => exact ⟨ref08_group_zero, ref08_Format_zero⟩
  | succ fl ih =>
    obtain ⟨ih_ref08_group, ih_ref08_Format⟩ := ih
    exact ⟨ref08_group_step ih_ref08_Format, ref08_Format_step ih_ref08_group⟩
theorem ref08_group_ok {fl : Nat} : C.ref08_group fl := (ref08_group_all fl).1
theorem ref08_Format_ok {fl : Nat} : C.ref08_Format fl := (ref08_group_all fl).2


end Go.Proofs.YtffienmbeifioaaDoor
