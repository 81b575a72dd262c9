/- The walks: what each function does is what its model says. Printed by a program of my own. -/
import Derived.Test.YtffienmbeifioaaDoorWalk6
set_option linter.unusedVariables false
set_option linter.unusedSimpArgs false
namespace Go.Proofs.YtffienmbeifioaaDoor
open Go.Lx Go.RowKit
set_option maxRecDepth 100000 in
theorem ref08_elements_ok {s1 : (Vec 4)} {r : Str} (hM : M.ref08_elements s1 = some r) {g0 : Hp} {w0 : World} (hi : Imm g0 w0) :
    CallsV Tryd.prog 63 #[encV .u64 s1] w0 (fun v w' => ∃ g', (VRd tStr false g' v r) ∧ Ext g0 w0 g' w') := by
  unfold M.ref08_elements at hM
  have hs := Sep.start hi
  refine calls_of_WP (args := [encV .u64 s1]) Tryd.func63 rfl Tryd.ntmps63 rfl ?_
  have hds : (argEnv [encV .u64 s1]).ds = [] := rfl
  refine WP_seq ?_
  refine WP_region ?_
  refine OW_box (v := encV .u64 s1) rfl hs (zs := s1.1.map (Value.int .u64)) rfl rfl ?_
  intro b1 wv1 hs
  refine O (r_assign (v := encS []) rfl) rfl ?_
  refine OW_nil ?_
  refine WP_seq ?_
  refine WP_region ?_
  refine O (r_assign (v := encS []) rfl) rfl ?_
  refine OW_nil ?_
  obtain ⟨out7, hx46, hKhx46⟩ := bindS hM
  refine WP_cut (fun E w => ∃ (gg181 : Hp), E 3 = encS out7 ∧ E.ds = [] ∧ Hle g0 gg181 ∧ Go.Lx.Sep g0 w0 gg181 w []) ?_ ?_
  · have hM := hx46
    have hag0 := Hle.refl g0
    refine WP_seq ?_
    refine WP_region ?_
    refine O (r_assign (v := Value.int .i64 0) rfl) rfl ?_
    refine OW_nil ?_
    refine WP_block ?_
    refine WP_loop (fun (st9 : Str × Int) E w => match st9 with | (out10, b10) => ∃ (gg242 : Hp), E 1 = Value.pointer (some ⟨b1, 0, none⟩) ∧ E 3 = encS out10 ∧ E 4 = Value.int .i64 b10 ∧ E.ds = [] ∧ Hle g0 gg242 ∧ Go.Lx.Sep g0 w0 gg242 w [Go.Lx.box b1 24 (s1.1.map (Value.int .u64))]) hM ⟨g0, rfl, rfl, rfl, hds, (Hle.refl _), hs⟩ ?_
    clear hs hM
    rintro ⟨out10, b10⟩ o22 E w hM ⟨gg242, hE1, hE3, hE4, hds, hlegg242, hs⟩
    obtain ⟨E, rfl⟩ := open1 (E := E) hE1
    obtain ⟨E, rfl⟩ := open1 (E := E) hE3
    obtain ⟨E, rfl⟩ := open1 (E := E) hE4
    replace hag0 := hag0.trans hlegg242
    have hagg242 := Hle.refl gg242
    refine WP_seq ?_
    refine WP_seq ?_
    refine WP_region ?_
    refine O (r_move (v := Value.int .i64 b10) rfl) rfl ?_
    refine O (r_lss rfl rfl) rfl ?_
    refine OW_nil ?_
    rcases condS hM with ⟨hc86, hM⟩ | ⟨hc86, hM⟩
    · refine WP_true rfl hc86 ?_
      refine WP_skip ?_
      obtain ⟨⟨out13, b13⟩, hx84, hKhx84⟩ := bindS hM
      refine WP_cut (fun E w => ∃ (gg332 : Hp), E 1 = Value.pointer (some ⟨b1, 0, none⟩) ∧ E 3 = encS out13 ∧ E 4 = Value.int .i64 b13 ∧ E.ds = [] ∧ Hle gg242 gg332 ∧ Go.Lx.Sep g0 w0 gg332 w [Go.Lx.box b1 24 (s1.1.map (Value.int .u64))]) ?_ ?_
      · have hM := hx84
        refine WP_block ?_
        refine WP_seq ?_
        refine WP_seq ?_
        refine WP_region ?_
        refine O (r_loadN (cs := s1.1.map (Value.int .u64)) ti24 rfl (by simp [s1.2]) (hs.cells (i := 0) rfl)) rfl ?_
        refine O (r_move (v := Value.int .i64 b10) rfl) rfl ?_
        obtain ⟨rv243, hrv243, hM⟩ := bindS hM
        refine C [encV .u64 s1, Value.int .i64 b10] cf52 rfl (ref08_Has_ok hrv243 hs.imm) rfl ?_
        rintro v177 wv178 ⟨gg333, hvv177, hegg333⟩
        have hlegg333 := hegg333.le hs.imm
        replace hs := hs.call hegg333
        replace hlegg242 := hlegg242.trans hlegg333
        replace hagg242 := hagg242.trans hlegg333
        obtain ⟨cs177, rfl, hcs177⟩ := hvv177
        have hcs177 : cs177 = _ := hcs177; subst hcs177
        refine O (r_not rfl) rfl ?_
        refine OW_nil ?_
        rcases condS hM with ⟨hc95, hM⟩ | ⟨hc95, hM⟩
        · refine WP_true rfl hc95 ?_
          refine WP_exit ?_
          simp only [Option.some.injEq, Prod.mk.injEq] at hM
          obtain ⟨rfl, rfl⟩ := hM
          exact ⟨gg333, rfl, rfl, rfl, hds, hagg242, hs⟩
        · refine WP_false rfl hc95 ?_
          refine WP_skip ?_
          refine WP_seq ?_
          refine WP_region ?_
          refine O (r_move (v := Value.int .i64 b10) rfl) rfl ?_
          refine O (r_assign (v := Value.int .i64 b10) rfl) rfl ?_
          refine OW_nil ?_
          obtain ⟨last81, hx88, hKhx88⟩ := bindS hM
          refine WP_cut (fun E w => ∃ (gg346 : Hp), E 1 = Value.pointer (some ⟨b1, 0, none⟩) ∧ E 3 = encS out10 ∧ E 4 = Value.int .i64 b10 ∧ E 5 = Value.int .i64 last81 ∧ E.ds = [] ∧ Hle gg333 gg346 ∧ Go.Lx.Sep g0 w0 gg346 w [Go.Lx.box b1 24 (s1.1.map (Value.int .u64))]) ?_ ?_
          · have hM := hx88
            have hagg333 := Hle.refl gg333
            refine WP_block ?_
            refine WP_loop (fun (last83 : Int) E w => ∃ (gg351 : Hp), E 1 = Value.pointer (some ⟨b1, 0, none⟩) ∧ E 3 = encS out10 ∧ E 4 = Value.int .i64 b10 ∧ E 5 = Value.int .i64 last83 ∧ E.ds = [] ∧ Hle gg333 gg351 ∧ Go.Lx.Sep g0 w0 gg351 w [Go.Lx.box b1 24 (s1.1.map (Value.int .u64))]) hM ⟨gg333, rfl, rfl, rfl, rfl, hds, (Hle.refl _), hs⟩ ?_
            clear hs hM
            rintro last83 o26 E w hM ⟨gg351, hE1, hE3, hE4, hE5, hds, hlegg351, hs⟩
            obtain ⟨E, rfl⟩ := open1 (E := E) hE1
            obtain ⟨E, rfl⟩ := open1 (E := E) hE3
            obtain ⟨E, rfl⟩ := open1 (E := E) hE4
            obtain ⟨E, rfl⟩ := open1 (E := E) hE5
            replace hlegg242 := hlegg242.trans hlegg351
            replace hagg242 := hagg242.trans hlegg351
            replace hagg333 := hagg333.trans hlegg351
            have hagg351 := Hle.refl gg351
            refine WP_seq ?_
            obtain ⟨rv260, hx91, hKhx91⟩ := bindS hM
            refine WP_cut (fun E w => ∃ (gg357 : Hp), E 1 = Value.pointer (some ⟨b1, 0, none⟩) ∧ E 3 = encS out10 ∧ E 4 = Value.int .i64 b10 ∧ E 5 = Value.int .i64 last83 ∧ E 26 = Value.bool rv260 ∧ E.ds = [] ∧ Hle gg351 gg357 ∧ Go.Lx.Sep g0 w0 gg357 w [Go.Lx.box b1 24 (s1.1.map (Value.int .u64))]) ?_ ?_
            · have hM := hx91
              refine WP_region ?_
              refine O (r_move (v := Value.int .i64 b10) rfl) rfl ?_
              refine O (r_geq rfl rfl) rfl ?_
              refine O (r_move (v := Value.bool (decide (32 ≤ b10))) rfl) rfl ?_
              rcases condS hM with ⟨hg287, hM⟩ | ⟨hg287, hM⟩
              · refine OG rfl rfl rfl (by rw [hg287]; rfl) (r_move (v := Value.int .i64 last83) rfl) rfl ?_
                refine OG rfl rfl rfl (by rw [hg287]; rfl) (r_lss rfl rfl) rfl ?_
                refine O (r_pickT (v := Value.bool (decide (last83 < 126))) rfl hg287 rfl) rfl ?_
                refine O (r_move (v := Value.bool (decide (last83 < 126))) rfl) rfl ?_
                rcases condS hM with ⟨hg288, hM⟩ | ⟨hg288, hM⟩
                · refine OG rfl rfl rfl (by rw [hg288]; rfl) (r_loadN (cs := s1.1.map (Value.int .u64)) ti24 rfl (by simp [s1.2]) (hs.cells (i := 0) rfl)) rfl ?_
                  refine OG rfl rfl rfl (by rw [hg288]; rfl) (r_move (v := Value.int .i64 last83) rfl) rfl ?_
                  obtain ⟨t231, ht231, hM⟩ := bindS hM
                  refine OG rfl rfl rfl (by rw [hg288]; rfl) (r_addM rfl rfl ht231) rfl ?_
                  obtain ⟨rv261, hrv261, hM⟩ := bindS hM
                  refine CG rfl rfl rfl (by rw [hg288]; rfl) [encV .u64 s1, Value.int .i64 t231] cf52 rfl (ref08_Has_ok hrv261 hs.imm) rfl ?_
                  rintro v189 wv190 ⟨gg358, hvv189, hegg358⟩
                  have hlegg358 := hegg358.le hs.imm
                  replace hs := hs.call hegg358
                  replace hlegg242 := hlegg242.trans hlegg358
                  replace hagg242 := hagg242.trans hlegg358
                  replace hlegg351 := hlegg351.trans hlegg358
                  replace hagg351 := hagg351.trans hlegg358
                  obtain ⟨cs189, rfl, hcs189⟩ := hvv189
                  have hcs189 : cs189 = _ := hcs189; subst hcs189
                  refine O (r_pickT (v := Value.bool rv261) rfl hg288 rfl) rfl ?_
                  refine OW_nil ?_
                  obtain rfl := Option.some.inj hM
                  exact ⟨gg358, rfl, rfl, rfl, rfl, rfl, hds, hagg351, hs⟩
                · refine OK rfl rfl rfl (by rw [hg288]; rfl) rfl ?_
                  refine OK rfl rfl rfl (by rw [hg288]; rfl) rfl ?_
                  refine OK rfl rfl rfl (by rw [hg288]; rfl) rfl ?_
                  refine OK rfl rfl rfl (by rw [hg288]; rfl) rfl ?_
                  refine O (r_pickF (v := Value.bool false) rfl hg288 rfl) rfl ?_
                  refine OW_nil ?_
                  obtain rfl := Option.some.inj hM
                  exact ⟨gg351, rfl, rfl, rfl, rfl, rfl, hds, (Hle.refl _), hs⟩
              · refine OK rfl rfl rfl (by rw [hg287]; rfl) rfl ?_
                refine OK rfl rfl rfl (by rw [hg287]; rfl) rfl ?_
                refine O (r_pickF (v := Value.bool false) rfl hg287 rfl) rfl ?_
                refine O (r_move (v := Value.bool false) rfl) rfl ?_
                refine OK rfl rfl rfl rfl rfl ?_
                refine OK rfl rfl rfl rfl rfl ?_
                refine OK rfl rfl rfl rfl rfl ?_
                refine OK rfl rfl rfl rfl rfl ?_
                refine O (r_pickF (v := Value.bool false) rfl rfl rfl) rfl ?_
                refine OW_nil ?_
                obtain rfl := Option.some.inj hM
                exact ⟨gg351, rfl, rfl, rfl, rfl, rfl, hds, (Hle.refl _), hs⟩
            · clear hs
              rintro E w ⟨gg357, hE1, hE3, hE4, hE5, hE26, hds, hlegg357, hs⟩
              have hM := hKhx91
              obtain ⟨E, rfl⟩ := open1 (E := E) hE1
              obtain ⟨E, rfl⟩ := open1 (E := E) hE3
              obtain ⟨E, rfl⟩ := open1 (E := E) hE4
              obtain ⟨E, rfl⟩ := open1 (E := E) hE5
              obtain ⟨E, rfl⟩ := open1 (E := E) hE26
              replace hlegg242 := hlegg242.trans hlegg357
              replace hagg242 := hagg242.trans hlegg357
              replace hlegg351 := hlegg351.trans hlegg357
              replace hagg351 := hagg351.trans hlegg357
              rcases condS hM with ⟨hc101, hM⟩ | ⟨hc101, hM⟩
              · refine WP_true rfl hc101 ?_
                refine WP_skip ?_
                refine WP_block ?_
                refine WP_region ?_
                refine O (r_move (v := Value.int .i64 last83) rfl) rfl ?_
                obtain ⟨t232, ht232, hM⟩ := bindS hM
                refine O (r_addM rfl rfl ht232) rfl ?_
                refine O (r_assign (v := Value.int .i64 t232) rfl) rfl ?_
                refine OW_nil ?_
                obtain rfl := Option.some.inj hM
                exact ⟨gg357, rfl, rfl, rfl, rfl, hds, hlegg351, hs⟩
              · refine WP_false rfl hc101 ?_
                refine WP_exit ?_
                obtain rfl := Option.some.inj hM
                refine fun hr => ?_
                have hM := congrArg some hr
                obtain rfl := Option.some.inj hM
                exact ⟨gg357, rfl, rfl, rfl, rfl, hds, hlegg351, hs⟩
          · clear hs
            rintro E w ⟨gg346, hE1, hE3, hE4, hE5, hds, hlegg346, hs⟩
            have hM := hKhx88
            obtain ⟨E, rfl⟩ := open1 (E := E) hE1
            obtain ⟨E, rfl⟩ := open1 (E := E) hE3
            obtain ⟨E, rfl⟩ := open1 (E := E) hE4
            obtain ⟨E, rfl⟩ := open1 (E := E) hE5
            replace hlegg242 := hlegg242.trans hlegg346
            replace hagg242 := hagg242.trans hlegg346
            refine WP_seq ?_
            refine WP_seq ?_
            refine WP_region ?_
            refine O (r_move (v := Value.int .i64 last81) rfl) rfl ?_
            refine O (r_move (v := Value.int .i64 b10) rfl) rfl ?_
            obtain ⟨t233, ht233, hM⟩ := bindS hM
            refine O (r_subM rfl rfl ht233) rfl ?_
            refine O (r_geq rfl rfl) rfl ?_
            refine OW_nil ?_
            rcases condS hM with ⟨hc102, hM⟩ | ⟨hc102, hM⟩
            · refine WP_true rfl hc102 ?_
              refine WP_seq ?_
              refine WP_region ?_
              refine O (r_move (v := encS out10) rfl) rfl ?_
              refine O (r_move (v := Value.int .i64 b10) rfl) rfl ?_
              obtain ⟨rv262, hrv262, hM⟩ := bindS hM
              refine C [Value.int .i64 b10, Value.bool true] cf62 rfl (ref08_written_ok hrv262 hs.imm) rfl ?_
              rintro v190 wv191 ⟨gg359, hvv190, hegg359⟩
              have hlegg359 := hegg359.le hs.imm
              replace hs := hs.call hegg359
              replace hlegg242 := hlegg242.trans hlegg359
              replace hagg242 := hagg242.trans hlegg359
              obtain ⟨cs190, rfl, hcs190⟩ := hvv190
              have hcs190 : cs190 = _ := hcs190; subst hcs190
              obtain ⟨s46, hs46, hM⟩ := bindS hM
              refine O (r_catS rfl rfl hs46) rfl ?_
              obtain ⟨s47, hs47, hM⟩ := bindS hM
              refine O (r_catS rfl rfl hs47) rfl ?_
              refine O (r_move (v := Value.int .i64 last81) rfl) rfl ?_
              obtain ⟨rv263, hrv263, hM⟩ := bindS hM
              refine C [Value.int .i64 last81, Value.bool true] cf62 rfl (ref08_written_ok hrv263 hs.imm) rfl ?_
              rintro v191 wv192 ⟨gg360, hvv191, hegg360⟩
              have hlegg360 := hegg360.le hs.imm
              replace hs := hs.call hegg360
              replace hlegg242 := hlegg242.trans hlegg360
              replace hagg242 := hagg242.trans hlegg360
              obtain ⟨cs191, rfl, hcs191⟩ := hvv191
              have hcs191 : cs191 = _ := hcs191; subst hcs191
              obtain ⟨s48, hs48, hM⟩ := bindS hM
              refine O (r_catS rfl rfl hs48) rfl ?_
              refine O (r_assign (v := encS s48) rfl) rfl ?_
              refine OW_nil ?_
              refine WP_seq ?_
              refine WP_region ?_
              refine O (r_move (v := Value.int .i64 last81) rfl) rfl ?_
              refine O (r_assign (v := Value.int .i64 last81) rfl) rfl ?_
              refine OW_nil ?_
              refine WP_exit ?_
              simp only [Option.some.injEq, Prod.mk.injEq] at hM
              obtain ⟨rfl, rfl⟩ := hM
              exact ⟨gg360, rfl, rfl, rfl, hds, hagg242, hs⟩
            · refine WP_false rfl hc102 ?_
              refine WP_skip ?_
              refine WP_region ?_
              refine O (r_move (v := encS out10) rfl) rfl ?_
              refine O (r_move (v := Value.int .i64 b10) rfl) rfl ?_
              obtain ⟨rv264, hrv264, hM⟩ := bindS hM
              refine C [Value.int .i64 b10, Value.bool true] cf62 rfl (ref08_written_ok hrv264 hs.imm) rfl ?_
              rintro v192 wv193 ⟨gg361, hvv192, hegg361⟩
              have hlegg361 := hegg361.le hs.imm
              replace hs := hs.call hegg361
              replace hlegg242 := hlegg242.trans hlegg361
              replace hagg242 := hagg242.trans hlegg361
              obtain ⟨cs192, rfl, hcs192⟩ := hvv192
              have hcs192 : cs192 = _ := hcs192; subst hcs192
              obtain ⟨s49, hs49, hM⟩ := bindS hM
              refine O (r_catS rfl rfl hs49) rfl ?_
              refine O (r_assign (v := encS s49) rfl) rfl ?_
              refine OW_nil ?_
              simp only [Option.some.injEq, Prod.mk.injEq] at hM
              obtain ⟨rfl, rfl⟩ := hM
              exact ⟨gg361, rfl, rfl, rfl, hds, hagg242, hs⟩
      · clear hs
        rintro E w ⟨gg332, hE1, hE3, hE4, hds, hlegg332, hs⟩
        have hM := hKhx84
        obtain ⟨E, rfl⟩ := open1 (E := E) hE1
        obtain ⟨E, rfl⟩ := open1 (E := E) hE3
        obtain ⟨E, rfl⟩ := open1 (E := E) hE4
        replace hlegg242 := hlegg242.trans hlegg332
        replace hagg242 := hagg242.trans hlegg332
        refine WP_region ?_
        refine O (r_move (v := Value.int .i64 b13) rfl) rfl ?_
        obtain ⟨t234, ht234, hM⟩ := bindS hM
        refine O (r_addM rfl rfl ht234) rfl ?_
        refine O (r_assign (v := Value.int .i64 t234) rfl) rfl ?_
        refine OW_nil ?_
        obtain rfl := Option.some.inj hM
        exact ⟨gg332, rfl, rfl, rfl, hds, hlegg242, hs⟩
    · refine WP_false rfl hc86 ?_
      refine WP_exit ?_
      obtain rfl := Option.some.inj hM
      refine fun hr => ?_
      have hM := congrArg some hr
      obtain rfl := Option.some.inj hM
      exact ⟨gg242, rfl, hds, hlegg242, (hs.sub (.cons _ .slnil))⟩
  · clear hs
    rintro E w ⟨gg181, hE3, hds, hlegg181, hs⟩
    have hM := hKhx46
    obtain ⟨E, rfl⟩ := open1 (E := E) hE3
    refine WP_seq ?_
    refine WP_region ?_
    refine O (r_move (v := encS out7) rfl) rfl ?_
    refine O (r_assign (v := encS out7) rfl) rfl ?_
    refine OW_nil ?_
    refine WP_ret ?_
    obtain rfl := Option.some.inj hM
    refine FL_nil hds ?_
    exact ⟨_, res1 Tryd.results63 (rv_tmp (v := encS out7) rfl), gg181, ⟨[encS out7], rfl, rfl⟩, hs.ext⟩

set_option maxRecDepth 100000 in
theorem ref08_set_ok {s1 : (Vec 4)} {r : Str} (hM : M.ref08_set s1 = some r) {g0 : Hp} {w0 : World} (hi : Imm g0 w0) :
    CallsV Tryd.prog 41 #[encV .u64 s1] w0 (fun v w' => ∃ g', (VRd tStr false g' v r) ∧ Ext g0 w0 g' w') := by
  unfold M.ref08_set at hM
  have hs := Sep.start hi
  refine calls_of_WP (args := [encV .u64 s1]) Tryd.func41 rfl Tryd.ntmps41 rfl ?_
  have hds : (argEnv [encV .u64 s1]).ds = [] := rfl
  refine WP_seq ?_
  refine WP_region ?_
  refine OW_box (v := encV .u64 s1) rfl hs (zs := s1.1.map (Value.int .u64)) rfl rfl ?_
  intro b1 wv1 hs
  refine O (r_assign (v := encS []) rfl) rfl ?_
  refine OW_nil ?_
  refine WP_seq ?_
  refine WP_seq ?_
  refine WP_any (.q 0 (.s 1 (.q 2 (.leaf)))) (SS g0 w0 g0 [Go.Lx.box b1 24 (s1.1.map (Value.int .u64))]) mo (by decide +kernel) ?_
  have hs := hs.drew
  have hag0 := Hle.refl g0
  have hS : SS g0 w0 g0 [Go.Lx.box b1 24 (s1.1.map (Value.int .u64))] _ := ⟨g0, Hle.refl _, hs⟩
  refine A rfl hS (fun w9 h9 => by obtain ⟨g9, hle9, hs⟩ := h9; exact r_loadN (cs := s1.1.map (Value.int .u64)) ti24 rfl (by simp [s1.2]) (hs.cells (i := 0) rfl)) rfl ?_
  refine A1 rfl ?_
  obtain ⟨rv1, hrv1, hM⟩ := bindS hM
  refine C [] cf61 rfl (ref08_Dot_ok hrv1 hs.imm) rfl ?_
  rintro v1 wv2 ⟨gg1, hvv1, hegg1⟩
  have hlegg1 := hegg1.le hs.imm
  replace hs := hs.call hegg1
  replace hag0 := hag0.trans hlegg1
  obtain ⟨cs1, rfl, hcs1⟩ := hvv1
  have hcs1 : cs1 = _ := hcs1; subst hcs1
  refine OW_nil ?_
  have hS : SS g0 w0 g0 [Go.Lx.box b1 24 (s1.1.map (Value.int .u64))] _ := ⟨gg1, hag0, hs⟩
  refine ⟨fun _ => hS, ?_⟩
  refine A rfl hS (fun w9 h9 => by obtain ⟨g9, hle9, hs⟩ := h9; exact r_eqlV Tryd.underlying24 Tryd.underlying22 ti22 rfl rfl eg24) rfl ?_
  refine AN ?_
  rcases condS hM with ⟨hc1, hM⟩ | ⟨hc1, hM⟩
  · refine WP_true rfl hc1 ?_
    refine WP_seq ?_
    refine WP_region ?_
    refine O (r_assign (v := encS [46]) rfl) rfl ?_
    refine OW_nil ?_
    refine WP_ret ?_
    obtain rfl := Option.some.inj hM
    refine FL_nil hds ?_
    exact ⟨_, res1 Tryd.results41 (rv_tmp (v := encS [46]) rfl), gg1, ⟨[encS [46]], rfl, rfl⟩, hs.ext⟩
  · refine WP_false rfl hc1 ?_
    refine WP_skip ?_
    refine WP_seq ?_
    refine WP_region ?_
    refine O (r_assign (v := Value.int .i64 0) rfl) rfl ?_
    refine O (r_assign (v := Value.int .i64 0) rfl) rfl ?_
    refine OW_nil ?_
    obtain ⟨⟨nv10, only7⟩, hx5, hKhx5⟩ := bindS hM
    refine WP_cut (fun E w => ∃ (gg19 : Hp), E 1 = Value.pointer (some ⟨b1, 0, none⟩) ∧ E 3 = Value.int .i64 nv10 ∧ E 4 = Value.int .i64 only7 ∧ E.ds = [] ∧ Hle gg1 gg19 ∧ Go.Lx.Sep g0 w0 gg19 w [Go.Lx.box b1 24 (s1.1.map (Value.int .u64))]) ?_ ?_
    · have hM := hx5
      have hagg1 := Hle.refl gg1
      refine WP_seq ?_
      refine WP_region ?_
      refine O (r_assign (v := Value.int .i64 0) rfl) rfl ?_
      refine OW_nil ?_
      refine WP_block ?_
      refine WP_loop (fun (st9 : Int × Int × Int) E w => match st9 with | (nv16, only10, b10) => ∃ (gg29 : Hp), E 1 = Value.pointer (some ⟨b1, 0, none⟩) ∧ E 3 = Value.int .i64 nv16 ∧ E 4 = Value.int .i64 only10 ∧ E 5 = Value.int .i64 b10 ∧ E.ds = [] ∧ Hle gg1 gg29 ∧ Go.Lx.Sep g0 w0 gg29 w [Go.Lx.box b1 24 (s1.1.map (Value.int .u64))]) hM ⟨gg1, rfl, rfl, rfl, rfl, hds, (Hle.refl _), hs⟩ ?_
      clear hs hM
      rintro ⟨nv16, only10, b10⟩ o2 E w hM ⟨gg29, hE1, hE3, hE4, hE5, hds, hlegg29, hs⟩
      obtain ⟨E, rfl⟩ := open1 (E := E) hE1
      obtain ⟨E, rfl⟩ := open1 (E := E) hE3
      obtain ⟨E, rfl⟩ := open1 (E := E) hE4
      obtain ⟨E, rfl⟩ := open1 (E := E) hE5
      replace hag0 := hag0.trans hlegg29
      replace hagg1 := hagg1.trans hlegg29
      have hagg29 := Hle.refl gg29
      refine WP_seq ?_
      refine WP_seq ?_
      refine WP_region ?_
      refine O (r_move (v := Value.int .i64 b10) rfl) rfl ?_
      refine O (r_lss rfl rfl) rfl ?_
      refine OW_nil ?_
      rcases condS hM with ⟨hc23, hM⟩ | ⟨hc23, hM⟩
      · refine WP_true rfl hc23 ?_
        refine WP_skip ?_
        obtain ⟨⟨nv19, only13⟩, hx9, hKhx9⟩ := bindS hM
        refine WP_cut (fun E w => ∃ (gg35 : Hp), E 1 = Value.pointer (some ⟨b1, 0, none⟩) ∧ E 3 = Value.int .i64 nv19 ∧ E 4 = Value.int .i64 only13 ∧ E 5 = Value.int .i64 b10 ∧ E.ds = [] ∧ Hle gg29 gg35 ∧ Go.Lx.Sep g0 w0 gg35 w [Go.Lx.box b1 24 (s1.1.map (Value.int .u64))]) ?_ ?_
        · have hM := hx9
          refine WP_block ?_
          refine WP_seq ?_
          refine WP_region ?_
          refine O (r_loadN (cs := s1.1.map (Value.int .u64)) ti24 rfl (by simp [s1.2]) (hs.cells (i := 0) rfl)) rfl ?_
          refine O (r_move (v := Value.int .i64 b10) rfl) rfl ?_
          obtain ⟨rv17, hrv17, hM⟩ := bindS hM
          refine C [encV .u64 s1, Value.int .i64 b10] cf52 rfl (ref08_Has_ok hrv17 hs.imm) rfl ?_
          rintro v17 wv18 ⟨gg36, hvv17, hegg36⟩
          have hlegg36 := hegg36.le hs.imm
          replace hs := hs.call hegg36
          replace hag0 := hag0.trans hlegg36
          replace hlegg29 := hlegg29.trans hlegg36
          replace hagg29 := hagg29.trans hlegg36
          obtain ⟨cs17, rfl, hcs17⟩ := hvv17
          have hcs17 : cs17 = _ := hcs17; subst hcs17
          refine OW_nil ?_
          rcases condS hM with ⟨hc25, hM⟩ | ⟨hc25, hM⟩
          · refine WP_true rfl hc25 ?_
            refine WP_region ?_
            refine O (r_move (v := Value.int .i64 nv16) rfl) rfl ?_
            obtain ⟨t23, ht23, hM⟩ := bindS hM
            refine O (r_addM rfl rfl ht23) rfl ?_
            refine O (r_move (v := Value.int .i64 b10) rfl) rfl ?_
            refine O (r_assign (v := Value.int .i64 t23) rfl) rfl ?_
            refine O (r_assign (v := Value.int .i64 b10) rfl) rfl ?_
            refine OW_nil ?_
            simp only [Option.some.injEq, Prod.mk.injEq] at hM
            obtain ⟨rfl, rfl⟩ := hM
            exact ⟨gg36, rfl, rfl, rfl, rfl, hds, hagg29, hs⟩
          · refine WP_false rfl hc25 ?_
            refine WP_skip ?_
            simp only [Option.some.injEq, Prod.mk.injEq] at hM
            obtain ⟨rfl, rfl⟩ := hM
            exact ⟨gg36, rfl, rfl, rfl, rfl, hds, hagg29, hs⟩
        · clear hs
          rintro E w ⟨gg35, hE1, hE3, hE4, hE5, hds, hlegg35, hs⟩
          have hM := hKhx9
          obtain ⟨E, rfl⟩ := open1 (E := E) hE1
          obtain ⟨E, rfl⟩ := open1 (E := E) hE3
          obtain ⟨E, rfl⟩ := open1 (E := E) hE4
          obtain ⟨E, rfl⟩ := open1 (E := E) hE5
          replace hag0 := hag0.trans hlegg35
          replace hlegg29 := hlegg29.trans hlegg35
          replace hagg29 := hagg29.trans hlegg35
          refine WP_region ?_
          refine O (r_move (v := Value.int .i64 b10) rfl) rfl ?_
          obtain ⟨t24, ht24, hM⟩ := bindS hM
          refine O (r_addM rfl rfl ht24) rfl ?_
          refine O (r_assign (v := Value.int .i64 t24) rfl) rfl ?_
          refine OW_nil ?_
          obtain rfl := Option.some.inj hM
          exact ⟨gg35, rfl, rfl, rfl, rfl, hds, hlegg29, hs⟩
      · refine WP_false rfl hc23 ?_
        refine WP_exit ?_
        obtain rfl := Option.some.inj hM
        refine fun hr => ?_
        have hM := congrArg some hr
        simp only [Option.some.injEq, Prod.mk.injEq] at hM
        obtain ⟨rfl, rfl⟩ := hM
        exact ⟨gg29, rfl, rfl, rfl, hds, hlegg29, hs⟩
    · clear hs
      rintro E w ⟨gg19, hE1, hE3, hE4, hds, hlegg19, hs⟩
      have hM := hKhx5
      obtain ⟨E, rfl⟩ := open1 (E := E) hE1
      obtain ⟨E, rfl⟩ := open1 (E := E) hE3
      obtain ⟨E, rfl⟩ := open1 (E := E) hE4
      replace hag0 := hag0.trans hlegg19
      refine WP_seq ?_
      obtain ⟨rv19, hx10, hKhx10⟩ := bindS hM
      refine WP_cut (fun E w => ∃ (gg38 : Hp), E 1 = Value.pointer (some ⟨b1, 0, none⟩) ∧ E 4 = Value.int .i64 only7 ∧ E 24 = Value.bool rv19 ∧ E.ds = [] ∧ Hle gg19 gg38 ∧ Go.Lx.Sep g0 w0 gg38 w [Go.Lx.box b1 24 (s1.1.map (Value.int .u64))]) ?_ ?_
      · have hM := hx10
        have hagg19 := Hle.refl gg19
        refine WP_region ?_
        refine O (r_move (v := Value.int .i64 nv10) rfl) rfl ?_
        refine O (r_eql rfl rfl) rfl ?_
        refine O (r_move (v := Value.bool (nv10 == 1)) rfl) rfl ?_
        rcases condS hM with ⟨hg2, hM⟩ | ⟨hg2, hM⟩
        · refine OG rfl rfl rfl (by rw [hg2]; rfl) (r_loadN (cs := s1.1.map (Value.int .u64)) ti24 rfl (by simp [s1.2]) (hs.cells (i := 0) rfl)) rfl ?_
          obtain ⟨rv20, hrv20, hM⟩ := bindS hM
          refine CG rfl rfl rfl (by rw [hg2]; rfl) [encV .u64 s1] cf36 rfl (ref08_writable_ok hrv20 hs.imm) rfl ?_
          rintro v19 wv20 ⟨gg39, hvv19, hegg39⟩
          have hlegg39 := hegg39.le hs.imm
          replace hs := hs.call hegg39
          replace hag0 := hag0.trans hlegg39
          replace hagg19 := hagg19.trans hlegg39
          obtain ⟨cs19, rfl, hcs19⟩ := hvv19
          have hcs19 : cs19 = _ := hcs19; subst hcs19
          refine O (r_pickT (v := Value.bool rv20) rfl hg2 rfl) rfl ?_
          refine OW_nil ?_
          obtain rfl := Option.some.inj hM
          exact ⟨gg39, rfl, rfl, rfl, hds, hagg19, hs⟩
        · refine OK rfl rfl rfl (by rw [hg2]; rfl) rfl ?_
          refine OK rfl rfl rfl (by rw [hg2]; rfl) rfl ?_
          refine O (r_pickF (v := Value.bool false) rfl hg2 rfl) rfl ?_
          refine OW_nil ?_
          obtain rfl := Option.some.inj hM
          exact ⟨gg19, rfl, rfl, rfl, hds, (Hle.refl _), hs⟩
      · clear hs
        rintro E w ⟨gg38, hE1, hE4, hE24, hds, hlegg38, hs⟩
        have hM := hKhx10
        obtain ⟨E, rfl⟩ := open1 (E := E) hE1
        obtain ⟨E, rfl⟩ := open1 (E := E) hE4
        obtain ⟨E, rfl⟩ := open1 (E := E) hE24
        replace hag0 := hag0.trans hlegg38
        rcases condS hM with ⟨hc26, hM⟩ | ⟨hc26, hM⟩
        · refine WP_true rfl hc26 ?_
          refine WP_seq ?_
          refine WP_region ?_
          refine O (r_move (v := Value.int .i64 only7) rfl) rfl ?_
          obtain ⟨rv21, hrv21, hM⟩ := bindS hM
          refine C [Value.int .i64 only7, Value.bool false] cf62 rfl (ref08_written_ok hrv21 hs.imm) rfl ?_
          rintro v20 wv21 ⟨gg40, hvv20, hegg40⟩
          have hlegg40 := hegg40.le hs.imm
          replace hs := hs.call hegg40
          replace hag0 := hag0.trans hlegg40
          obtain ⟨cs20, rfl, hcs20⟩ := hvv20
          have hcs20 : cs20 = _ := hcs20; subst hcs20
          refine O (r_assign (v := encS rv21) rfl) rfl ?_
          refine OW_nil ?_
          refine WP_ret ?_
          obtain rfl := Option.some.inj hM
          refine FL_nil hds ?_
          exact ⟨_, res1 Tryd.results41 (rv_tmp (v := encS rv21) rfl), gg40, ⟨[encS rv21], rfl, rfl⟩, hs.ext⟩
        · refine WP_false rfl hc26 ?_
          refine WP_skip ?_
          refine WP_seq ?_
          refine WP_seq ?_
          refine WP_region ?_
          refine O (r_loadN (cs := s1.1.map (Value.int .u64)) ti24 rfl (by simp [s1.2]) (hs.cells (i := 0) rfl)) rfl ?_
          obtain ⟨rv22, hrv22, hM⟩ := bindS hM
          refine C [encV .u64 s1] cf36 rfl (ref08_writable_ok hrv22 hs.imm) rfl ?_
          rintro v21 wv22 ⟨gg41, hvv21, hegg41⟩
          have hlegg41 := hegg41.le hs.imm
          replace hs := hs.call hegg41
          replace hag0 := hag0.trans hlegg41
          obtain ⟨cs21, rfl, hcs21⟩ := hvv21
          have hcs21 : cs21 = _ := hcs21; subst hcs21
          refine OW_nil ?_
          rcases condS hM with ⟨hc27, hM⟩ | ⟨hc27, hM⟩
          · refine WP_true rfl hc27 ?_
            refine WP_seq ?_
            refine WP_region ?_
            refine O (r_loadN (cs := s1.1.map (Value.int .u64)) ti24 rfl (by simp [s1.2]) (hs.cells (i := 0) rfl)) rfl ?_
            obtain ⟨rv23, hrv23, hM⟩ := bindS hM
            refine C [encV .u64 s1] cf63 rfl (ref08_elements_ok hrv23 hs.imm) rfl ?_
            rintro v22 wv23 ⟨gg42, hvv22, hegg42⟩
            have hlegg42 := hegg42.le hs.imm
            replace hs := hs.call hegg42
            replace hag0 := hag0.trans hlegg42
            obtain ⟨cs22, rfl, hcs22⟩ := hvv22
            have hcs22 : cs22 = _ := hcs22; subst hcs22
            obtain ⟨s2, hs2, hM⟩ := bindS hM
            refine O (r_catS rfl rfl hs2) rfl ?_
            obtain ⟨s3, hs3, hM⟩ := bindS hM
            refine O (r_catS rfl rfl hs3) rfl ?_
            refine O (r_assign (v := encS s3) rfl) rfl ?_
            refine OW_nil ?_
            refine WP_ret ?_
            obtain rfl := Option.some.inj hM
            refine FL_nil hds ?_
            exact ⟨_, res1 Tryd.results41 (rv_tmp (v := encS s3) rfl), gg42, ⟨[encS s3], rfl, rfl⟩, hs.ext⟩
          · refine WP_false rfl hc27 ?_
            refine WP_skip ?_
            refine WP_seq ?_
            refine WP_region ?_
            refine O (r_loadN (cs := s1.1.map (Value.int .u64)) ti24 rfl (by simp [s1.2]) (hs.cells (i := 0) rfl)) rfl ?_
            obtain ⟨rv24, hrv24, hM⟩ := bindS hM
            refine C [encV .u64 s1] cf37 rfl (ref08_Not_ok hrv24 hs.imm) rfl ?_
            rintro v23 wv24 ⟨gg43, hvv23, hegg43⟩
            have hlegg43 := hegg43.le hs.imm
            replace hs := hs.call hegg43
            replace hag0 := hag0.trans hlegg43
            obtain ⟨cs23, rfl, hcs23⟩ := hvv23
            have hcs23 : cs23 = _ := hcs23; subst hcs23
            obtain ⟨rv25, hrv25, hM⟩ := bindS hM
            refine C [encV .u64 rv24] cf63 rfl (ref08_elements_ok hrv25 hs.imm) rfl ?_
            rintro v24 wv25 ⟨gg44, hvv24, hegg44⟩
            have hlegg44 := hegg44.le hs.imm
            replace hs := hs.call hegg44
            replace hag0 := hag0.trans hlegg44
            obtain ⟨cs24, rfl, hcs24⟩ := hvv24
            have hcs24 : cs24 = _ := hcs24; subst hcs24
            obtain ⟨s4, hs4, hM⟩ := bindS hM
            refine O (r_catS rfl rfl hs4) rfl ?_
            obtain ⟨s5, hs5, hM⟩ := bindS hM
            refine O (r_catS rfl rfl hs5) rfl ?_
            refine O (r_assign (v := encS s5) rfl) rfl ?_
            refine OW_nil ?_
            refine WP_ret ?_
            obtain rfl := Option.some.inj hM
            refine FL_nil hds ?_
            exact ⟨_, res1 Tryd.results41 (rv_tmp (v := encS s5) rfl), gg44, ⟨[encS s5], rfl, rfl⟩, hs.ext⟩

def C.ref08_group (fl : Nat) : Prop := ∀ {rv1 : T_Regex} {required1 : Bool} {r : Str} (_ : M.ref08_group fl rv1 required1 = some r) {g0 : Hp} {w0 : World} (hi : Imm g0 w0) {cs1 : List Value} (hcs1 : tT_Regex.rel g0 cs1 rv1),
    CallsV Tryd.prog 42 #[Value.agg cs1.toArray, Value.bool required1] w0 (fun v w' => ∃ g', (VRd tStr false g' v r) ∧ Ext g0 w0 g' w')
def C.ref08_Format (fl : Nat) : Prop := ∀ {p1 : T_Regex} {r : Str} (_ : M.ref08_Format fl p1 = some r) {g0 : Hp} {w0 : World} (hi : Imm g0 w0) {cs1 : List Value} (hcs1 : tT_Regex.rel g0 cs1 p1),
    CallsV Tryd.prog 22 #[Value.agg cs1.toArray] w0 (fun v w' => ∃ g', (VRd tStr false g' v r) ∧ Ext g0 w0 g' w')
set_option maxRecDepth 100000 in
theorem ref08_group_step {fl : Nat} (ih_ref08_Format : C.ref08_Format fl) : C.ref08_group (fl + 1) := by
  intro rv1 required1 r hM g0 w0 hi cs1 hcs1
  unfold M.ref08_group at hM
  obtain ⟨cs2, cs3, cs4, rfl, hcs2, hcs3, hcs4⟩ := tT_Regex_iff.1 hcs1
  have hcs2 : cs2 = _ := hcs2; subst hcs2
  have hcs3 : cs3 = _ := hcs3; subst hcs3
  obtain ⟨v1, rfl, hRv1⟩ := hcs4
  have hs := Sep.start hi
  refine calls_of_WP (args := [Value.agg (List.toArray (α := Value) (([Value.int .i64 rv1.Kind]) ++ ((rv1.Set.1.map (Value.int .u64)) ++ ([v1])))), Value.bool required1]) Tryd.func42 rfl Tryd.ntmps42 rfl ?_
  have hds : (argEnv [Value.agg (List.toArray (α := Value) (([Value.int .i64 rv1.Kind]) ++ ((rv1.Set.1.map (Value.int .u64)) ++ ([v1])))), Value.bool required1]).ds = [] := rfl
  refine WP_seq ?_
  refine WP_region ?_
  refine OW_box (v := Value.agg (List.toArray (α := Value) (([Value.int .i64 rv1.Kind]) ++ ((rv1.Set.1.map (Value.int .u64)) ++ ([v1]))))) rfl hs (zs := ([Value.int .i64 rv1.Kind]) ++ ((rv1.Set.1.map (Value.int .u64)) ++ ([v1]))) rfl rfl ?_
  intro b1 wv1 hs
  refine O (r_assign (v := encS []) rfl) rfl ?_
  refine OW_nil ?_
  refine WP_seq ?_
  refine WP_seq ?_
  refine WP_region ?_
  refine O (r_move (v := Value.bool required1) rfl) rfl ?_
  refine OW_nil ?_
  rcases condS hM with ⟨hc1, hM⟩ | ⟨hc1, hM⟩
  · refine WP_true rfl hc1 ?_
    refine WP_seq ?_
    refine WP_region ?_
    refine O (r_loadN (cs := ([Value.int .i64 rv1.Kind]) ++ ((rv1.Set.1.map (Value.int .u64)) ++ ([v1]))) ti27 rfl (by simp [rv1.Set.2]) (hs.cells (i := 0) rfl)) rfl ?_
    obtain ⟨rv2, hrv2, hM⟩ := bindS hM
    refine C [Value.agg (List.toArray (α := Value) (([Value.int .i64 rv1.Kind]) ++ ((rv1.Set.1.map (Value.int .u64)) ++ ([v1]))))] cf22 rfl (ih_ref08_Format hrv2 hs.imm (tT_Regex_iff.2 ⟨[Value.int .i64 rv1.Kind], rv1.Set.1.map (Value.int .u64), [v1], rfl, rfl, rfl, ⟨_, rfl, hRv1⟩⟩)) rfl ?_
    rintro v2 wv2 ⟨gg1, hvv2, hegg1⟩
    have hlegg1 := hegg1.le hs.imm
    replace hs := hs.call hegg1
    replace hRv1 := hRv1.mono hlegg1
    obtain ⟨cs5, rfl, hcs5⟩ := hvv2
    have hcs5 : cs5 = _ := hcs5; subst hcs5
    obtain ⟨s1, hs1, hM⟩ := bindS hM
    refine O (r_catS rfl rfl hs1) rfl ?_
    obtain ⟨s2, hs2, hM⟩ := bindS hM
    refine O (r_catS rfl rfl hs2) rfl ?_
    refine O (r_assign (v := encS s2) rfl) rfl ?_
    refine OW_nil ?_
    refine WP_ret ?_
    obtain rfl := Option.some.inj hM
    refine FL_nil hds ?_
    exact ⟨_, res1 Tryd.results42 (rv_tmp (v := encS s2) rfl), gg1, ⟨[encS s2], rfl, rfl⟩, hs.ext⟩
  · refine WP_false rfl hc1 ?_
    refine WP_skip ?_
    refine WP_seq ?_
    refine WP_region ?_
    refine O (r_loadN (cs := ([Value.int .i64 rv1.Kind]) ++ ((rv1.Set.1.map (Value.int .u64)) ++ ([v1]))) ti27 rfl (by simp [rv1.Set.2]) (hs.cells (i := 0) rfl)) rfl ?_
    obtain ⟨rv3, hrv3, hM⟩ := bindS hM
    refine C [Value.agg (List.toArray (α := Value) (([Value.int .i64 rv1.Kind]) ++ ((rv1.Set.1.map (Value.int .u64)) ++ ([v1]))))] cf22 rfl (ih_ref08_Format hrv3 hs.imm (tT_Regex_iff.2 ⟨[Value.int .i64 rv1.Kind], rv1.Set.1.map (Value.int .u64), [v1], rfl, rfl, rfl, ⟨_, rfl, hRv1⟩⟩)) rfl ?_
    rintro v3 wv3 ⟨gg2, hvv3, hegg2⟩
    have hlegg2 := hegg2.le hs.imm
    replace hs := hs.call hegg2
    replace hRv1 := hRv1.mono hlegg2
    obtain ⟨cs6, rfl, hcs6⟩ := hvv3
    have hcs6 : cs6 = _ := hcs6; subst hcs6
    refine O (r_assign (v := encS rv3) rfl) rfl ?_
    refine OW_nil ?_
    refine WP_ret ?_
    obtain rfl := Option.some.inj hM
    refine FL_nil hds ?_
    exact ⟨_, res1 Tryd.results42 (rv_tmp (v := encS rv3) rfl), gg2, ⟨[encS rv3], rfl, rfl⟩, hs.ext⟩

set_option maxRecDepth 100000 in
theorem ref08_Format_step {fl : Nat} (ih_ref08_group : C.ref08_group fl) : C.ref08_Format (fl + 1) := by
  intro p1 r hM g0 w0 hi cs1 hcs1
  unfold M.ref08_Format at hM
  obtain ⟨cs2, cs3, cs4, rfl, hcs2, hcs3, hcs4⟩ := tT_Regex_iff.1 hcs1
  have hcs2 : cs2 = _ := hcs2; subst hcs2
  have hcs3 : cs3 = _ := hcs3; subst hcs3
  obtain ⟨v1, rfl, hRv1⟩ := hcs4
  have hs := Sep.start hi
  refine calls_of_WP (args := [Value.agg (List.toArray (α := Value) (([Value.int .i64 p1.Kind]) ++ ((p1.Set.1.map (Value.int .u64)) ++ ([v1]))))]) Tryd.func22 rfl Tryd.ntmps22 rfl ?_
  have hds : (argEnv [Value.agg (List.toArray (α := Value) (([Value.int .i64 p1.Kind]) ++ ((p1.Set.1.map (Value.int .u64)) ++ ([v1]))))]).ds = [] := rfl
  refine WP_seq ?_
  refine WP_region ?_
  refine OW_box (v := Value.agg (List.toArray (α := Value) (([Value.int .i64 p1.Kind]) ++ ((p1.Set.1.map (Value.int .u64)) ++ ([v1]))))) rfl hs (zs := ([Value.int .i64 p1.Kind]) ++ ((p1.Set.1.map (Value.int .u64)) ++ ([v1]))) rfl rfl ?_
  intro b1 wv1 hs
  refine O (r_assign (v := encS []) rfl) rfl ?_
  refine OW_nil ?_
  refine WP_seq ?_
  refine WP_seq ?_
  refine WP_region ?_
  refine O (r_fieldAddr Tryd.underlying27 ti3 rfl rfl (by decide) rfl rfl) rfl ?_
  refine O (r_load (v := Value.int .i64 p1.Kind) ti3 rfl (hs.cell (i := 0) (o := 0) rfl (by simp [p1.Set.2]))) rfl ?_
  refine OW_nil ?_
  refine WP_block ?_
  refine WP_seq ?_
  refine WP_region ?_
  refine O (r_eql rfl rfl) rfl ?_
  refine O (r_assign (v := Value.bool (p1.Kind == 2)) rfl) rfl ?_
  refine OW_nil ?_
  rcases condS hM with ⟨hc1, hM⟩ | ⟨hc1, hM⟩
  · refine WP_true rfl hc1 ?_
    refine WP_seq ?_
    refine WP_region ?_
    refine O (r_assign (v := encS [40, 41]) rfl) rfl ?_
    refine OW_nil ?_
    refine WP_ret ?_
    obtain rfl := Option.some.inj hM
    refine FL_nil hds ?_
    exact ⟨_, res1 Tryd.results22 (rv_tmp (v := encS [40, 41]) rfl), g0, ⟨[encS [40, 41]], rfl, rfl⟩, hs.ext⟩
  · refine WP_false rfl hc1 ?_
    refine WP_seq ?_
    refine WP_region ?_
    refine O (r_eql rfl rfl) rfl ?_
    refine O (r_assign (v := Value.bool (p1.Kind == 3)) rfl) rfl ?_
    refine OW_nil ?_
    rcases condS hM with ⟨hc2, hM⟩ | ⟨hc2, hM⟩
    · refine WP_true rfl hc2 ?_
      refine WP_seq ?_
      refine WP_region ?_
      refine O (r_fieldAddr Tryd.underlying27 ti24 rfl rfl (by decide) rfl rfl) rfl ?_
      refine O (r_loadN (cs := p1.Set.1.map (Value.int .u64)) ti24 rfl (by simp [p1.Set.2]) (hs.cellsAt (i := 0) (o := 1) rfl (by intro j u hj; exact sub_at (pre := [Value.int .i64 p1.Kind]) (ds := p1.Set.1.map (Value.int .u64)) (post := [v1]) rfl ((by simp)) hj))) rfl ?_
      obtain ⟨rv1, hrv1, hM⟩ := bindS hM
      refine C [encV .u64 p1.Set] cf41 rfl (ref08_set_ok hrv1 hs.imm) rfl ?_
      rintro v2 wv2 ⟨gg1, hvv2, hegg1⟩
      have hlegg1 := hegg1.le hs.imm
      replace hs := hs.call hegg1
      replace hRv1 := hRv1.mono hlegg1
      obtain ⟨cs5, rfl, hcs5⟩ := hvv2
      have hcs5 : cs5 = _ := hcs5; subst hcs5
      refine O (r_assign (v := encS rv1) rfl) rfl ?_
      refine OW_nil ?_
      refine WP_ret ?_
      obtain rfl := Option.some.inj hM
      refine FL_nil hds ?_
      exact ⟨_, res1 Tryd.results22 (rv_tmp (v := encS rv1) rfl), gg1, ⟨[encS rv1], rfl, rfl⟩, hs.ext⟩
    · refine WP_false rfl hc2 ?_
      refine WP_seq ?_
      refine WP_region ?_
      refine O (r_eql rfl rfl) rfl ?_
      refine O (r_assign (v := Value.bool (p1.Kind == 6)) rfl) rfl ?_
      refine OW_nil ?_
      rcases condS hM with ⟨hc3, hM⟩ | ⟨hc3, hM⟩
      · refine WP_true rfl hc3 ?_
        refine WP_seq ?_
        refine WP_drawTail 10 mo (by decide +kernel) ?_
        have hs := hs.drew
        refine S (r_fieldAddr Tryd.underlying27 ti25 rfl rfl (by decide) rfl rfl) rfl ?_
        refine S (r_load (v := v1) ti25 rfl (hs.cell (i := 0) (o := 5) rfl (by simp [p1.Set.2]))) rfl ?_
        obtain ⟨e1, he1, hM⟩ := bindS hM
        obtain ⟨b2, ob2, cb2, hvb2, cs6, hcs6, hcb2⟩ := hRv1.at he1
        obtain ⟨cs7, cs8, cs9, rfl, hcs7, hcs8, hcs9⟩ := tT_Regex_iff.1 hcs6
        have hcs7 : cs7 = _ := hcs7; subst hcs7
        have hcs8 : cs8 = _ := hcs8; subst hcs8
        obtain ⟨v3, rfl, hRv3⟩ := hcs9
        refine S (r_idxSl Tryd.underlying25 ti27 (v := v1) rfl hvb2 rfl (idxL_some he1).1 (idxL_some he1).2.1) rfl ?_
        refine S (r_loadEl (cs := ([Value.int .i64 e1.Kind]) ++ ((e1.Set.1.map (Value.int .u64)) ++ ([v3]))) ti27 rfl (by simp [e1.Set.2]) (.inl rfl) (hcb2 _ hs.imm) (v := Value.agg (List.toArray (α := Value) (([Value.int .i64 e1.Kind]) ++ ((e1.Set.1.map (Value.int .u64)) ++ ([v3]))))) rfl) rfl ?_
        refine S (r_fieldAddr Tryd.underlying27 ti25 rfl rfl (by decide) rfl rfl) rfl ?_
        refine S (r_load (v := v1) ti25 rfl (hs.cell (i := 0) (o := 5) rfl (by simp [p1.Set.2]))) rfl ?_
        obtain ⟨b3, ob3, cb3, hvb3, cs10, hcs10, hcb3⟩ := hRv1.at he1
        obtain ⟨cs11, cs12, cs13, rfl, hcs11, hcs12, hcs13⟩ := tT_Regex_iff.1 hcs10
        have hcs11 : cs11 = _ := hcs11; subst hcs11
        have hcs12 : cs12 = _ := hcs12; subst hcs12
        obtain ⟨v4, rfl, hRv4⟩ := hcs13
        refine S (r_idxSl Tryd.underlying25 ti27 (v := v1) rfl hvb3 rfl (idxL_some he1).1 (idxL_some he1).2.1) rfl ?_
        refine S (r_fieldAddr Tryd.underlying27 ti3 rfl rfl (by decide) rfl rfl) rfl ?_
        refine S (r_loadEl (cs := [Value.int .i64 e1.Kind]) ti3 rfl rfl (.inr rfl) (elemField (cs := ([Value.int .i64 e1.Kind]) ++ ((e1.Set.1.map (Value.int .u64)) ++ ([v4]))) (hcb3 _ hs.imm) ([]) ([Value.int .i64 e1.Kind]) ((e1.Set.1.map (Value.int .u64)) ++ ([v4])) (by simp) rfl) (v := Value.int .i64 e1.Kind) rfl) rfl ?_
        refine S (r_neq rfl rfl) rfl ?_
        refine SW_nil ?_
        obtain ⟨rv2, hrv2, hM⟩ := bindS hM
        refine C [Value.agg (List.toArray (α := Value) (([Value.int .i64 e1.Kind]) ++ ((e1.Set.1.map (Value.int .u64)) ++ ([v3])))), Value.bool (e1.Kind != 3)] cf42 rfl (ih_ref08_group hrv2 hs.imm (tT_Regex_iff.2 ⟨[Value.int .i64 e1.Kind], e1.Set.1.map (Value.int .u64), [v3], rfl, rfl, rfl, ⟨_, rfl, hRv3⟩⟩)) rfl ?_
        rintro v5 wv3 ⟨gg2, hvv5, hegg2⟩
        have hlegg2 := hegg2.le hs.imm
        replace hs := hs.call hegg2
        replace hRv1 := hRv1.mono hlegg2
        replace hRv3 := hRv3.mono hlegg2
        replace hRv4 := hRv4.mono hlegg2
        obtain ⟨cs14, rfl, hcs14⟩ := hvv5
        have hcs14 : cs14 = _ := hcs14; subst hcs14
        obtain ⟨s1, hs1, hM⟩ := bindS hM
        refine O (r_catS rfl rfl hs1) rfl ?_
        refine O (r_assign (v := encS s1) rfl) rfl ?_
        refine OW_nil ?_
        refine WP_ret ?_
        obtain rfl := Option.some.inj hM
        refine FL_nil hds ?_
        exact ⟨_, res1 Tryd.results22 (rv_tmp (v := encS s1) rfl), gg2, ⟨[encS s1], rfl, rfl⟩, hs.ext⟩
      · refine WP_false rfl hc3 ?_
        refine WP_skip ?_
        refine WP_seq ?_
        refine WP_region ?_
        refine O (r_assign (v := encS []) rfl) rfl ?_
        refine OW_nil ?_
        obtain ⟨xv7, hx10, hKhx10⟩ := bindS hM
        refine WP_cut (fun E w => ∃ (gg27 : Hp), E 3 = encS xv7 ∧ E.ds = [] ∧ Hle g0 gg27 ∧ Go.Lx.Sep g0 w0 gg27 w []) ?_ ?_
        · have hM := hx10
          have hag0 := Hle.refl g0
          refine WP_seq ?_
          refine WP_region ?_
          refine O (r_assign (v := Value.int .i64 0) rfl) rfl ?_
          refine OW_nil ?_
          refine WP_block ?_
          refine WP_loop (fun (st9 : Str × Int) E w => match st9 with | (xv10, xv11) => ∃ (gg36 : Hp), E 1 = Value.pointer (some ⟨b1, 0, none⟩) ∧ E 3 = encS xv10 ∧ E 4 = Value.int .i64 xv11 ∧ E.ds = [] ∧ Hle g0 gg36 ∧ Go.Lx.Sep g0 w0 gg36 w [Go.Lx.box b1 27 (([Value.int .i64 p1.Kind]) ++ ((p1.Set.1.map (Value.int .u64)) ++ ([v1])))]) hM ⟨g0, rfl, rfl, rfl, hds, (Hle.refl _), hs⟩ ?_
          clear hs hM
          rintro ⟨xv10, xv11⟩ o2 E w hM ⟨gg36, hE1, hE3, hE4, hds, hlegg36, hs⟩
          obtain ⟨E, rfl⟩ := open1 (E := E) hE1
          obtain ⟨E, rfl⟩ := open1 (E := E) hE3
          obtain ⟨E, rfl⟩ := open1 (E := E) hE4
          replace hRv1 := hRv1.mono hlegg36
          replace hag0 := hag0.trans hlegg36
          have hagg36 := Hle.refl gg36
          refine WP_seq ?_
          refine WP_seq ?_
          refine WP_region ?_
          refine O (r_move (v := Value.int .i64 xv11) rfl) rfl ?_
          refine O (r_fieldAddr Tryd.underlying27 ti25 rfl rfl (by decide) rfl rfl) rfl ?_
          refine O (r_load (v := v1) ti25 rfl (hs.cell (i := 0) (o := 5) rfl (by simp [p1.Set.2]))) rfl ?_
          obtain ⟨a6, ca6, hva6⟩ := hRv1.shape
          refine O (r_lenSl (v := v1) Tryd.underlying25 rfl hva6) rfl ?_
          refine O (r_lss rfl rfl) rfl ?_
          refine OW_nil ?_
          rcases condS hM with ⟨hc39, hM⟩ | ⟨hc39, hM⟩
          · refine WP_true rfl hc39 ?_
            refine WP_skip ?_
            obtain ⟨s73, hx18, hKhx18⟩ := bindS hM
            refine WP_cut (fun E w => ∃ (gg48 : Hp), E 1 = Value.pointer (some ⟨b1, 0, none⟩) ∧ E 3 = encS s73 ∧ E 4 = Value.int .i64 xv11 ∧ E.ds = [] ∧ Hle gg36 gg48 ∧ Go.Lx.Sep g0 w0 gg48 w [Go.Lx.box b1 27 (([Value.int .i64 p1.Kind]) ++ ((p1.Set.1.map (Value.int .u64)) ++ ([v1])))]) ?_ ?_
            · have hM := hx18
              refine WP_block ?_
              refine WP_seq ?_
              refine WP_region ?_
              refine O (r_fieldAddr Tryd.underlying27 ti25 rfl rfl (by decide) rfl rfl) rfl ?_
              refine O (r_load (v := v1) ti25 rfl (hs.cell (i := 0) (o := 5) rfl (by simp [p1.Set.2]))) rfl ?_
              refine O (r_move (v := Value.int .i64 xv11) rfl) rfl ?_
              obtain ⟨e13, he13, hM⟩ := bindS hM
              obtain ⟨b37, ob37, cb37, hvb37, cs180, hcs180, hcb37⟩ := hRv1.at he13
              obtain ⟨cs181, cs182, cs183, rfl, hcs181, hcs182, hcs183⟩ := tT_Regex_iff.1 hcs180
              have hcs181 : cs181 = _ := hcs181; subst hcs181
              have hcs182 : cs182 = _ := hcs182; subst hcs182
              obtain ⟨v72, rfl, hRv72⟩ := hcs183
              refine O (r_idxSl Tryd.underlying25 ti27 (v := v1) rfl hvb37 rfl (idxL_some he13).1 (idxL_some he13).2.1) rfl ?_
              refine O (r_fieldAddr Tryd.underlying27 ti3 rfl rfl (by decide) rfl rfl) rfl ?_
              refine O (r_loadEl (cs := [Value.int .i64 e13.Kind]) ti3 rfl rfl (.inr rfl) (elemField (cs := ([Value.int .i64 e13.Kind]) ++ ((e13.Set.1.map (Value.int .u64)) ++ ([v72]))) (hcb37 _ hs.imm) ([]) ([Value.int .i64 e13.Kind]) ((e13.Set.1.map (Value.int .u64)) ++ ([v72])) (by simp) rfl) (v := Value.int .i64 e13.Kind) rfl) rfl ?_
              refine O (r_assign (v := Value.int .i64 e13.Kind) rfl) rfl ?_
              refine OW_nil ?_
              refine WP_seq ?_
              refine WP_region ?_
              refine O (r_fieldAddr Tryd.underlying27 ti3 rfl rfl (by decide) rfl rfl) rfl ?_
              refine O (r_load (v := Value.int .i64 p1.Kind) ti3 rfl (hs.cell (i := 0) (o := 0) rfl (by simp [p1.Set.2]))) rfl ?_
              refine O (r_eql rfl rfl) rfl ?_
              refine OW_nil ?_
              rcases condS hM with ⟨hc43, hM⟩ | ⟨hc43, hM⟩
              · refine WP_true rfl hc43 ?_
                obtain ⟨s75, hx19, hKhx19⟩ := bindS hM
                refine WP_cut (fun E w => E 1 = Value.pointer (some ⟨b1, 0, none⟩) ∧ E 3 = encS s75 ∧ E 4 = Value.int .i64 xv11 ∧ E 5 = Value.int .i64 e13.Kind ∧ E.ds = [] ∧ Go.Lx.Sep g0 w0 gg36 w [Go.Lx.box b1 27 (([Value.int .i64 p1.Kind]) ++ ((p1.Set.1.map (Value.int .u64)) ++ ([v1])))]) ?_ ?_
                · have hM := hx19
                  refine WP_seq ?_
                  refine WP_region ?_
                  refine O (r_move (v := Value.int .i64 xv11) rfl) rfl ?_
                  refine O (r_gtr rfl rfl) rfl ?_
                  refine OW_nil ?_
                  rcases condS hM with ⟨hc45, hM⟩ | ⟨hc45, hM⟩
                  · refine WP_true rfl hc45 ?_
                    refine WP_region ?_
                    refine O (r_move (v := encS xv10) rfl) rfl ?_
                    obtain ⟨s76, hs76, hM⟩ := bindS hM
                    refine O (r_catS rfl rfl hs76) rfl ?_
                    refine O (r_assign (v := encS s76) rfl) rfl ?_
                    refine OW_nil ?_
                    obtain rfl := Option.some.inj hM
                    exact ⟨rfl, rfl, rfl, rfl, hds, hs⟩
                  · refine WP_false rfl hc45 ?_
                    refine WP_skip ?_
                    obtain rfl := Option.some.inj hM
                    exact ⟨rfl, rfl, rfl, rfl, hds, hs⟩
                · clear hs
                  rintro E w ⟨hE1, hE3, hE4, hE5, hds, hs⟩
                  have hM := hKhx19
                  obtain ⟨E, rfl⟩ := open1 (E := E) hE1
                  obtain ⟨E, rfl⟩ := open1 (E := E) hE3
                  obtain ⟨E, rfl⟩ := open1 (E := E) hE4
                  obtain ⟨E, rfl⟩ := open1 (E := E) hE5
                  refine WP_region ?_
                  refine O (r_move (v := encS s75) rfl) rfl ?_
                  refine O (r_fieldAddr Tryd.underlying27 ti25 rfl rfl (by decide) rfl rfl) rfl ?_
                  refine O (r_load (v := v1) ti25 rfl (hs.cell (i := 0) (o := 5) rfl (by simp [p1.Set.2]))) rfl ?_
                  refine O (r_move (v := Value.int .i64 xv11) rfl) rfl ?_
                  obtain ⟨b38, ob38, cb38, hvb38, cs184, hcs184, hcb38⟩ := hRv1.at he13
                  obtain ⟨cs185, cs186, cs187, rfl, hcs185, hcs186, hcs187⟩ := tT_Regex_iff.1 hcs184
                  have hcs185 : cs185 = _ := hcs185; subst hcs185
                  have hcs186 : cs186 = _ := hcs186; subst hcs186
                  obtain ⟨v73, rfl, hRv73⟩ := hcs187
                  refine O (r_idxSl Tryd.underlying25 ti27 (v := v1) rfl hvb38 rfl (idxL_some he13).1 (idxL_some he13).2.1) rfl ?_
                  refine O (r_loadEl (cs := ([Value.int .i64 e13.Kind]) ++ ((e13.Set.1.map (Value.int .u64)) ++ ([v73]))) ti27 rfl (by simp [e13.Set.2]) (.inl rfl) (hcb38 _ hs.imm) (v := Value.agg (List.toArray (α := Value) (([Value.int .i64 e13.Kind]) ++ ((e13.Set.1.map (Value.int .u64)) ++ ([v73]))))) rfl) rfl ?_
                  refine O (r_move (v := Value.int .i64 e13.Kind) rfl) rfl ?_
                  refine O (r_eql rfl rfl) rfl ?_
                  obtain ⟨rv36, hrv36, hM⟩ := bindS hM
                  refine C [Value.agg (List.toArray (α := Value) (([Value.int .i64 e13.Kind]) ++ ((e13.Set.1.map (Value.int .u64)) ++ ([v73])))), Value.bool (e13.Kind == 5)] cf42 rfl (ih_ref08_group hrv36 hs.imm (tT_Regex_iff.2 ⟨[Value.int .i64 e13.Kind], e13.Set.1.map (Value.int .u64), [v73], rfl, rfl, rfl, ⟨_, rfl, hRv73⟩⟩)) rfl ?_
                  rintro v74 wv37 ⟨gg49, hvv74, hegg49⟩
                  have hlegg49 := hegg49.le hs.imm
                  replace hs := hs.call hegg49
                  replace hRv1 := hRv1.mono hlegg49
                  replace hRv73 := hRv73.mono hlegg49
                  replace hlegg36 := hlegg36.trans hlegg49
                  replace hagg36 := hagg36.trans hlegg49
                  obtain ⟨cs188, rfl, hcs188⟩ := hvv74
                  have hcs188 : cs188 = _ := hcs188; subst hcs188
                  obtain ⟨s77, hs77, hM⟩ := bindS hM
                  refine O (r_catS rfl rfl hs77) rfl ?_
                  refine O (r_assign (v := encS s77) rfl) rfl ?_
                  refine OW_nil ?_
                  obtain rfl := Option.some.inj hM
                  exact ⟨gg49, rfl, rfl, rfl, hds, hagg36, hs⟩
              · refine WP_false rfl hc43 ?_
                refine WP_region ?_
                refine O (r_move (v := encS xv10) rfl) rfl ?_
                refine O (r_fieldAddr Tryd.underlying27 ti25 rfl rfl (by decide) rfl rfl) rfl ?_
                refine O (r_load (v := v1) ti25 rfl (hs.cell (i := 0) (o := 5) rfl (by simp [p1.Set.2]))) rfl ?_
                refine O (r_move (v := Value.int .i64 xv11) rfl) rfl ?_
                obtain ⟨b39, ob39, cb39, hvb39, cs189, hcs189, hcb39⟩ := hRv1.at he13
                obtain ⟨cs190, cs191, cs192, rfl, hcs190, hcs191, hcs192⟩ := tT_Regex_iff.1 hcs189
                have hcs190 : cs190 = _ := hcs190; subst hcs190
                have hcs191 : cs191 = _ := hcs191; subst hcs191
                obtain ⟨v75, rfl, hRv75⟩ := hcs192
                refine O (r_idxSl Tryd.underlying25 ti27 (v := v1) rfl hvb39 rfl (idxL_some he13).1 (idxL_some he13).2.1) rfl ?_
                refine O (r_loadEl (cs := ([Value.int .i64 e13.Kind]) ++ ((e13.Set.1.map (Value.int .u64)) ++ ([v75]))) ti27 rfl (by simp [e13.Set.2]) (.inl rfl) (hcb39 _ hs.imm) (v := Value.agg (List.toArray (α := Value) (([Value.int .i64 e13.Kind]) ++ ((e13.Set.1.map (Value.int .u64)) ++ ([v75]))))) rfl) rfl ?_
                refine O (r_move (v := Value.int .i64 e13.Kind) rfl) rfl ?_
                refine O (r_eql rfl rfl) rfl ?_
                refine O (r_move (v := Value.bool (e13.Kind == 5)) rfl) rfl ?_
                rcases condS hM with ⟨hg12, hM⟩ | ⟨hg12, hM⟩
                · refine OK rfl rfl rfl (by rw [hg12]; rfl) rfl ?_
                  refine OK rfl rfl rfl (by rw [hg12]; rfl) rfl ?_
                  refine O (r_pickT (v := Value.bool true) rfl hg12 rfl) rfl ?_
                  obtain ⟨rv37, hrv37, hM⟩ := bindS hM
                  refine C [Value.agg (List.toArray (α := Value) (([Value.int .i64 e13.Kind]) ++ ((e13.Set.1.map (Value.int .u64)) ++ ([v75])))), Value.bool true] cf42 rfl (ih_ref08_group hrv37 hs.imm (tT_Regex_iff.2 ⟨[Value.int .i64 e13.Kind], e13.Set.1.map (Value.int .u64), [v75], rfl, rfl, rfl, ⟨_, rfl, hRv75⟩⟩)) rfl ?_
                  rintro v76 wv38 ⟨gg50, hvv76, hegg50⟩
                  have hlegg50 := hegg50.le hs.imm
                  replace hs := hs.call hegg50
                  replace hRv1 := hRv1.mono hlegg50
                  replace hRv72 := hRv72.mono hlegg50
                  replace hRv75 := hRv75.mono hlegg50
                  replace hlegg36 := hlegg36.trans hlegg50
                  replace hagg36 := hagg36.trans hlegg50
                  obtain ⟨cs193, rfl, hcs193⟩ := hvv76
                  have hcs193 : cs193 = _ := hcs193; subst hcs193
                  obtain ⟨s78, hs78, hM⟩ := bindS hM
                  refine O (r_catS rfl rfl hs78) rfl ?_
                  refine O (r_assign (v := encS s78) rfl) rfl ?_
                  refine OW_nil ?_
                  obtain rfl := Option.some.inj hM
                  exact ⟨gg50, rfl, rfl, rfl, hds, hagg36, hs⟩
                · refine OG rfl rfl rfl (by rw [hg12]; rfl) (r_move (v := Value.int .i64 e13.Kind) rfl) rfl ?_
                  refine OG rfl rfl rfl (by rw [hg12]; rfl) (r_eql rfl rfl) rfl ?_
                  refine O (r_pickF (v := Value.bool (e13.Kind == 4)) rfl hg12 rfl) rfl ?_
                  obtain ⟨rv38, hrv38, hM⟩ := bindS hM
                  refine C [Value.agg (List.toArray (α := Value) (([Value.int .i64 e13.Kind]) ++ ((e13.Set.1.map (Value.int .u64)) ++ ([v75])))), Value.bool (e13.Kind == 4)] cf42 rfl (ih_ref08_group hrv38 hs.imm (tT_Regex_iff.2 ⟨[Value.int .i64 e13.Kind], e13.Set.1.map (Value.int .u64), [v75], rfl, rfl, rfl, ⟨_, rfl, hRv75⟩⟩)) rfl ?_
                  rintro v77 wv39 ⟨gg51, hvv77, hegg51⟩
                  have hlegg51 := hegg51.le hs.imm
                  replace hs := hs.call hegg51
                  replace hRv1 := hRv1.mono hlegg51
                  replace hRv72 := hRv72.mono hlegg51
                  replace hRv75 := hRv75.mono hlegg51
                  replace hlegg36 := hlegg36.trans hlegg51
                  replace hagg36 := hagg36.trans hlegg51
                  obtain ⟨cs194, rfl, hcs194⟩ := hvv77
                  have hcs194 : cs194 = _ := hcs194; subst hcs194
                  obtain ⟨s79, hs79, hM⟩ := bindS hM
                  refine O (r_catS rfl rfl hs79) rfl ?_
                  refine O (r_assign (v := encS s79) rfl) rfl ?_
                  refine OW_nil ?_
                  obtain rfl := Option.some.inj hM
                  exact ⟨gg51, rfl, rfl, rfl, hds, hagg36, hs⟩
            · clear hs
              rintro E w ⟨gg48, hE1, hE3, hE4, hds, hlegg48, hs⟩
              have hM := hKhx18
              obtain ⟨E, rfl⟩ := open1 (E := E) hE1
              obtain ⟨E, rfl⟩ := open1 (E := E) hE3
              obtain ⟨E, rfl⟩ := open1 (E := E) hE4
              replace hRv1 := hRv1.mono hlegg48
              replace hlegg36 := hlegg36.trans hlegg48
              replace hagg36 := hagg36.trans hlegg48
              refine WP_region ?_
              refine O (r_move (v := Value.int .i64 xv11) rfl) rfl ?_
              obtain ⟨t6, ht6, hM⟩ := bindS hM
              refine O (r_addM rfl rfl ht6) rfl ?_
              refine O (r_assign (v := Value.int .i64 t6) rfl) rfl ?_
              refine OW_nil ?_
              obtain rfl := Option.some.inj hM
              exact ⟨gg48, rfl, rfl, rfl, hds, hlegg36, hs⟩
          · refine WP_false rfl hc39 ?_
            refine WP_exit ?_
            obtain rfl := Option.some.inj hM
            refine fun hr => ?_
            have hM := congrArg some hr
            obtain rfl := Option.some.inj hM
            exact ⟨gg36, rfl, hds, hlegg36, (hs.sub (.cons _ .slnil))⟩
        · clear hs
          rintro E w ⟨gg27, hE3, hds, hlegg27, hs⟩
          have hM := hKhx10
          obtain ⟨E, rfl⟩ := open1 (E := E) hE3
          refine WP_seq ?_
          refine WP_region ?_
          refine O (r_move (v := encS xv7) rfl) rfl ?_
          refine O (r_assign (v := encS xv7) rfl) rfl ?_
          refine OW_nil ?_
          refine WP_ret ?_
          obtain rfl := Option.some.inj hM
          refine FL_nil hds ?_
          exact ⟨_, res1 Tryd.results22 (rv_tmp (v := encS xv7) rfl), gg27, ⟨[encS xv7], rfl, rfl⟩, hs.ext⟩
theorem ref08_group_zero : C.ref08_group 0 := by
  unfold C.ref08_group
  intros
  simp_all only [M.ref08_group, reduceCtorEq]
theorem ref08_Format_zero : C.ref08_Format 0 := by
  unfold C.ref08_Format
  intros
  simp_all only [M.ref08_Format, reduceCtorEq]
theorem ref08_group_all : ∀ fl, C.ref08_group fl ∧ C.ref08_Format fl := by
  intro fl
  induction fl with
  | zero => exact ⟨ref08_group_zero, ref08_Format_zero⟩
  | succ fl ih =>
    obtain ⟨ih_ref08_group, ih_ref08_Format⟩ := ih
    exact ⟨ref08_group_step ih_ref08_Format, ref08_Format_step ih_ref08_group⟩
theorem ref08_group_ok {fl : Nat} : C.ref08_group fl := (ref08_group_all fl).1
theorem ref08_Format_ok {fl : Nat} : C.ref08_Format fl := (ref08_group_all fl).2

def C.ref08_shallow (fl : Nat) : Prop := ∀ {rv1 : T_Regex} {level1 : Int} {left1 : Int} {r : Int} (_ : M.ref08_shallow fl rv1 level1 left1 = some r) {g0 : Hp} {w0 : World} (hi : Imm g0 w0) {cs1 : List Value} (hcs1 : tT_Regex.rel g0 cs1 rv1),
    CallsV Tryd.prog 28 #[Value.agg cs1.toArray, Value.int .i64 level1, Value.int .i64 left1] w0 (fun v w' => ∃ g', (VRd (tInt .i64) false g' v r) ∧ Ext g0 w0 g' w')
set_option maxRecDepth 100000 in
theorem ref08_shallow_step {fl : Nat} (ih_ref08_shallow : C.ref08_shallow fl) : C.ref08_shallow (fl + 1) := by
  intro rv1 level1 left1 r hM g0 w0 hi cs1 hcs1
  unfold M.ref08_shallow at hM
  obtain ⟨cs2, cs3, cs4, rfl, hcs2, hcs3, hcs4⟩ := tT_Regex_iff.1 hcs1
  have hcs2 : cs2 = _ := hcs2; subst hcs2
  have hcs3 : cs3 = _ := hcs3; subst hcs3
  obtain ⟨v1, rfl, hRv1⟩ := hcs4
  have hs := Sep.start hi
  refine calls_of_WP (args := [Value.agg (List.toArray (α := Value) (([Value.int .i64 rv1.Kind]) ++ ((rv1.Set.1.map (Value.int .u64)) ++ ([v1])))), Value.int .i64 level1, Value.int .i64 left1]) Tryd.func28 rfl Tryd.ntmps28 rfl ?_
  have hds : (argEnv [Value.agg (List.toArray (α := Value) (([Value.int .i64 rv1.Kind]) ++ ((rv1.Set.1.map (Value.int .u64)) ++ ([v1])))), Value.int .i64 level1, Value.int .i64 left1]).ds = [] := rfl
  refine WP_seq ?_
  refine WP_region ?_
  refine OW_box (v := Value.agg (List.toArray (α := Value) (([Value.int .i64 rv1.Kind]) ++ ((rv1.Set.1.map (Value.int .u64)) ++ ([v1]))))) rfl hs (zs := ([Value.int .i64 rv1.Kind]) ++ ((rv1.Set.1.map (Value.int .u64)) ++ ([v1]))) rfl rfl ?_
  intro b1 wv1 hs
  refine O (r_assign (v := Value.int .i64 0) rfl) rfl ?_
  refine OW_nil ?_
  refine WP_seq ?_
  obtain ⟨xv1, hx1, hKhx1⟩ := bindS hM
  refine WP_cut (fun E w => E 1 = Value.int .i64 level1 ∧ E 2 = Value.int .i64 left1 ∧ E 3 = Value.pointer (some ⟨b1, 0, none⟩) ∧ E 13 = Value.bool xv1 ∧ E.ds = [] ∧ Go.Lx.Sep g0 w0 g0 w [Go.Lx.box b1 27 (([Value.int .i64 rv1.Kind]) ++ ((rv1.Set.1.map (Value.int .u64)) ++ ([v1])))]) ?_ ?_
  · have hM := hx1
    have hag0 := Hle.refl g0
    refine WP_region ?_
    refine O (r_move (v := Value.int .i64 level1) rfl) rfl ?_
    refine O (r_gtr rfl rfl) rfl ?_
    refine O (r_move (v := Value.bool (decide (50 < level1))) rfl) rfl ?_
    rcases condS hM with ⟨hg2, hM⟩ | ⟨hg2, hM⟩
    · refine OK rfl rfl rfl (by rw [hg2]; rfl) rfl ?_
      refine OK rfl rfl rfl (by rw [hg2]; rfl) rfl ?_
      refine O (r_pickT (v := Value.bool true) rfl hg2 rfl) rfl ?_
      refine OW_nil ?_
      obtain rfl := Option.some.inj hM
      exact ⟨rfl, rfl, rfl, rfl, hds, hs⟩
    · refine OG rfl rfl rfl (by rw [hg2]; rfl) (r_move (v := Value.int .i64 left1) rfl) rfl ?_
      refine OG rfl rfl rfl (by rw [hg2]; rfl) (r_leq rfl rfl) rfl ?_
      refine O (r_pickF (v := Value.bool (decide (left1 ≤ 0))) rfl hg2 rfl) rfl ?_
      refine OW_nil ?_
      obtain rfl := Option.some.inj hM
      exact ⟨rfl, rfl, rfl, rfl, hds, hs⟩
  · clear hs
    rintro E w ⟨hE1, hE2, hE3, hE13, hds, hs⟩
    have hM := hKhx1
    obtain ⟨E, rfl⟩ := open1 (E := E) hE1
    obtain ⟨E, rfl⟩ := open1 (E := E) hE2
    obtain ⟨E, rfl⟩ := open1 (E := E) hE3
    obtain ⟨E, rfl⟩ := open1 (E := E) hE13
    rcases condS hM with ⟨hc1, hM⟩ | ⟨hc1, hM⟩
    · refine WP_true rfl hc1 ?_
      refine WP_seq ?_
      refine WP_region ?_
      refine O (r_assign (v := Value.int .i64 (-1)) rfl) rfl ?_
      refine OW_nil ?_
      refine WP_ret ?_
      obtain rfl := Option.some.inj hM
      refine FL_nil hds ?_
      exact ⟨_, res1 Tryd.results28 (rv_tmp (v := Value.int .i64 (-1)) rfl), g0, ⟨[Value.int .i64 (-1)], rfl, rfl⟩, hs.ext⟩
    · refine WP_false rfl hc1 ?_
      refine WP_skip ?_
      refine WP_seq ?_
      refine WP_region ?_
      refine O (r_move (v := Value.int .i64 left1) rfl) rfl ?_
      obtain ⟨t1, ht1, hM⟩ := bindS hM
      refine O (r_subM rfl rfl ht1) rfl ?_
      refine O (r_assign (v := Value.int .i64 t1) rfl) rfl ?_
      refine OW_nil ?_
      obtain ⟨left8, hx5, hKhx5⟩ := bindS hM
      refine WP_cut (fun E w => ∃ (gg7 : Hp), E 2 = Value.int .i64 left8 ∧ E.ds = [] ∧ Hle g0 gg7 ∧ Go.Lx.Sep g0 w0 gg7 w []) ?_ ?_
      · have hM := hx5
        have hag0 := Hle.refl g0
        refine WP_seq ?_
        refine WP_region ?_
        refine O (r_assign (v := Value.int .i64 0) rfl) rfl ?_
        refine OW_nil ?_
        refine WP_block ?_
        refine WP_loop (fun (st9 : Int × Int) E w => match st9 with | (left11, i5) => ∃ (gg10 : Hp), E 1 = Value.int .i64 level1 ∧ E 2 = Value.int .i64 left11 ∧ E 3 = Value.pointer (some ⟨b1, 0, none⟩) ∧ E 7 = Value.int .i64 i5 ∧ E.ds = [] ∧ Hle g0 gg10 ∧ Go.Lx.Sep g0 w0 gg10 w [Go.Lx.box b1 27 (([Value.int .i64 rv1.Kind]) ++ ((rv1.Set.1.map (Value.int .u64)) ++ ([v1])))]) hM ⟨g0, rfl, rfl, rfl, rfl, hds, (Hle.refl _), hs⟩ ?_
        clear hs hM
        rintro ⟨left11, i5⟩ o2 E w hM ⟨gg10, hE1, hE2, hE3, hE7, hds, hlegg10, hs⟩
        obtain ⟨E, rfl⟩ := open1 (E := E) hE1
        obtain ⟨E, rfl⟩ := open1 (E := E) hE2
        obtain ⟨E, rfl⟩ := open1 (E := E) hE3
        obtain ⟨E, rfl⟩ := open1 (E := E) hE7
        replace hRv1 := hRv1.mono hlegg10
        replace hag0 := hag0.trans hlegg10
        have hagg10 := Hle.refl gg10
        refine WP_seq ?_
        obtain ⟨xv7, hx8, hKhx8⟩ := bindS hM
        refine WP_cut (fun E w => E 1 = Value.int .i64 level1 ∧ E 2 = Value.int .i64 left11 ∧ E 3 = Value.pointer (some ⟨b1, 0, none⟩) ∧ E 7 = Value.int .i64 i5 ∧ E 24 = Value.bool xv7 ∧ E.ds = [] ∧ Go.Lx.Sep g0 w0 gg10 w [Go.Lx.box b1 27 (([Value.int .i64 rv1.Kind]) ++ ((rv1.Set.1.map (Value.int .u64)) ++ ([v1])))]) ?_ ?_
        · have hM := hx8
          refine WP_region ?_
          refine O (r_move (v := Value.int .i64 i5) rfl) rfl ?_
          refine O (r_fieldAddr Tryd.underlying27 ti25 rfl rfl (by decide) rfl rfl) rfl ?_
          refine O (r_load (v := v1) ti25 rfl (hs.cell (i := 0) (o := 5) rfl (by simp [rv1.Set.2]))) rfl ?_
          obtain ⟨a12, ca12, hva12⟩ := hRv1.shape
          refine O (r_lenSl (v := v1) Tryd.underlying25 rfl hva12) rfl ?_
          refine O (r_lss rfl rfl) rfl ?_
          refine O (r_move (v := Value.bool (decide (i5 < (rv1.Kids.length : Int)))) rfl) rfl ?_
          rcases condS hM with ⟨hg14, hM⟩ | ⟨hg14, hM⟩
          · refine OG rfl rfl rfl (by rw [hg14]; rfl) (r_move (v := Value.int .i64 left11) rfl) rfl ?_
            refine OG rfl rfl rfl (by rw [hg14]; rfl) (r_geq rfl rfl) rfl ?_
            refine O (r_pickT (v := Value.bool (decide (0 ≤ left11))) rfl hg14 rfl) rfl ?_
            refine OW_nil ?_
            obtain rfl := Option.some.inj hM
            exact ⟨rfl, rfl, rfl, rfl, rfl, hds, hs⟩
          · refine OK rfl rfl rfl (by rw [hg14]; rfl) rfl ?_
            refine OK rfl rfl rfl (by rw [hg14]; rfl) rfl ?_
            refine O (r_pickF (v := Value.bool false) rfl hg14 rfl) rfl ?_
            refine OW_nil ?_
            obtain rfl := Option.some.inj hM
            exact ⟨rfl, rfl, rfl, rfl, rfl, hds, hs⟩
        · clear hs
          rintro E w ⟨hE1, hE2, hE3, hE7, hE24, hds, hs⟩
          have hM := hKhx8
          obtain ⟨E, rfl⟩ := open1 (E := E) hE1
          obtain ⟨E, rfl⟩ := open1 (E := E) hE2
          obtain ⟨E, rfl⟩ := open1 (E := E) hE3
          obtain ⟨E, rfl⟩ := open1 (E := E) hE7
          obtain ⟨E, rfl⟩ := open1 (E := E) hE24
          rcases condS hM with ⟨hc7, hM⟩ | ⟨hc7, hM⟩
          · refine WP_true rfl hc7 ?_
            refine WP_skip ?_
            refine WP_seq ?_
            refine WP_block ?_
            refine WP_region ?_
            refine O (r_fieldAddr Tryd.underlying27 ti25 rfl rfl (by decide) rfl rfl) rfl ?_
            refine O (r_load (v := v1) ti25 rfl (hs.cell (i := 0) (o := 5) rfl (by simp [rv1.Set.2]))) rfl ?_
            refine O (r_move (v := Value.int .i64 i5) rfl) rfl ?_
            obtain ⟨e6, he6, hM⟩ := bindS hM
            obtain ⟨b7, ob7, cb7, hvb7, cs30, hcs30, hcb7⟩ := hRv1.at he6
            obtain ⟨cs31, cs32, cs33, rfl, hcs31, hcs32, hcs33⟩ := tT_Regex_iff.1 hcs30
            have hcs31 : cs31 = _ := hcs31; subst hcs31
            have hcs32 : cs32 = _ := hcs32; subst hcs32
            obtain ⟨v12, rfl, hRv12⟩ := hcs33
            refine O (r_idxSl Tryd.underlying25 ti27 (v := v1) rfl hvb7 rfl (idxL_some he6).1 (idxL_some he6).2.1) rfl ?_
            refine O (r_loadEl (cs := ([Value.int .i64 e6.Kind]) ++ ((e6.Set.1.map (Value.int .u64)) ++ ([v12]))) ti27 rfl (by simp [e6.Set.2]) (.inl rfl) (hcb7 _ hs.imm) (v := Value.agg (List.toArray (α := Value) (([Value.int .i64 e6.Kind]) ++ ((e6.Set.1.map (Value.int .u64)) ++ ([v12]))))) rfl) rfl ?_
            refine O (r_move (v := Value.int .i64 level1) rfl) rfl ?_
            obtain ⟨t12, ht12, hM⟩ := bindS hM
            refine O (r_addM rfl rfl ht12) rfl ?_
            refine O (r_move (v := Value.int .i64 left11) rfl) rfl ?_
            obtain ⟨left14, hleft14, hM⟩ := bindS hM
            refine C [Value.agg (List.toArray (α := Value) (([Value.int .i64 e6.Kind]) ++ ((e6.Set.1.map (Value.int .u64)) ++ ([v12])))), Value.int .i64 t12, Value.int .i64 left11] cf28 rfl (ih_ref08_shallow hleft14 hs.imm (tT_Regex_iff.2 ⟨[Value.int .i64 e6.Kind], e6.Set.1.map (Value.int .u64), [v12], rfl, rfl, rfl, ⟨_, rfl, hRv12⟩⟩)) rfl ?_
            rintro v13 wv7 ⟨gg13, hvv13, hegg13⟩
            have hlegg13 := hegg13.le hs.imm
            replace hs := hs.call hegg13
            replace hRv1 := hRv1.mono hlegg13
            replace hRv12 := hRv12.mono hlegg13
            replace hlegg10 := hlegg10.trans hlegg13
            replace hagg10 := hagg10.trans hlegg13
            obtain ⟨cs34, rfl, hcs34⟩ := hvv13
            have hcs34 : cs34 = _ := hcs34; subst hcs34
            refine O (r_assign (v := Value.int .i64 left14) rfl) rfl ?_
            refine OW_nil ?_
            refine WP_region ?_
            refine O (r_move (v := Value.int .i64 i5) rfl) rfl ?_
            obtain ⟨t13, ht13, hM⟩ := bindS hM
            refine O (r_addM rfl rfl ht13) rfl ?_
            refine O (r_assign (v := Value.int .i64 t13) rfl) rfl ?_
            refine OW_nil ?_
            obtain rfl := Option.some.inj hM
            exact ⟨gg13, rfl, rfl, rfl, rfl, hds, hlegg10, hs⟩
          · refine WP_false rfl hc7 ?_
            refine WP_exit ?_
            obtain rfl := Option.some.inj hM
            refine fun hr => ?_
            have hM := congrArg some hr
            obtain rfl := Option.some.inj hM
            exact ⟨gg10, rfl, hds, hlegg10, (hs.sub (.cons _ .slnil))⟩
      · clear hs
        rintro E w ⟨gg7, hE2, hds, hlegg7, hs⟩
        have hM := hKhx5
        obtain ⟨E, rfl⟩ := open1 (E := E) hE2
        refine WP_seq ?_
        refine WP_region ?_
        refine O (r_move (v := Value.int .i64 left8) rfl) rfl ?_
        refine O (r_assign (v := Value.int .i64 left8) rfl) rfl ?_
        refine OW_nil ?_
        refine WP_ret ?_
        obtain rfl := Option.some.inj hM
        refine FL_nil hds ?_
        exact ⟨_, res1 Tryd.results28 (rv_tmp (v := Value.int .i64 left8) rfl), gg7, ⟨[Value.int .i64 left8], rfl, rfl⟩, hs.ext⟩
theorem ref08_shallow_zero : C.ref08_shallow 0 := by
  unfold C.ref08_shallow
  intros
  simp_all only [M.ref08_shallow, reduceCtorEq]
theorem ref08_shallow_all : ∀ fl, C.ref08_shallow fl := by
  intro fl
  induction fl with
  | zero => exact ref08_shallow_zero
  | succ fl ih =>
    exact ref08_shallow_step ih
theorem ref08_shallow_ok {fl : Nat} : C.ref08_shallow fl := (ref08_shallow_all fl)

def C.ref08_Depth (fl : Nat) : Prop := ∀ {rv1 : T_Regex} {r : Int} (_ : M.ref08_Depth fl rv1 = some r) {g0 : Hp} {w0 : World} (hi : Imm g0 w0) {cs1 : List Value} (hcs1 : tT_Regex.rel g0 cs1 rv1),
    CallsV Tryd.prog 35 #[Value.agg cs1.toArray] w0 (fun v w' => ∃ g', (VRd (tInt .i64) false g' v r) ∧ Ext g0 w0 g' w')
set_option maxRecDepth 100000 in
theorem ref08_Depth_step {fl : Nat} (ih_ref08_Depth : C.ref08_Depth fl) : C.ref08_Depth (fl + 1) := by
  intro rv1 r hM g0 w0 hi cs1 hcs1
  unfold M.ref08_Depth at hM
  obtain ⟨cs2, cs3, cs4, rfl, hcs2, hcs3, hcs4⟩ := tT_Regex_iff.1 hcs1
  have hcs2 : cs2 = _ := hcs2; subst hcs2
  have hcs3 : cs3 = _ := hcs3; subst hcs3
  obtain ⟨v1, rfl, hRv1⟩ := hcs4
  have hs := Sep.start hi
  refine calls_of_WP (args := [Value.agg (List.toArray (α := Value) (([Value.int .i64 rv1.Kind]) ++ ((rv1.Set.1.map (Value.int .u64)) ++ ([v1]))))]) Tryd.func35 rfl Tryd.ntmps35 rfl ?_
  have hds : (argEnv [Value.agg (List.toArray (α := Value) (([Value.int .i64 rv1.Kind]) ++ ((rv1.Set.1.map (Value.int .u64)) ++ ([v1]))))]).ds = [] := rfl
  refine WP_seq ?_
  refine WP_region ?_
  refine OW_box (v := Value.agg (List.toArray (α := Value) (([Value.int .i64 rv1.Kind]) ++ ((rv1.Set.1.map (Value.int .u64)) ++ ([v1]))))) rfl hs (zs := ([Value.int .i64 rv1.Kind]) ++ ((rv1.Set.1.map (Value.int .u64)) ++ ([v1]))) rfl rfl ?_
  intro b1 wv1 hs
  refine O (r_assign (v := Value.int .i64 0) rfl) rfl ?_
  refine OW_nil ?_
  refine WP_seq ?_
  refine WP_region ?_
  refine O (r_assign (v := Value.int .i64 0) rfl) rfl ?_
  refine OW_nil ?_
  obtain ⟨nv4, hx1, hKhx1⟩ := bindS hM
  refine WP_cut (fun E w => ∃ (gg7 : Hp), E 3 = Value.int .i64 nv4 ∧ E.ds = [] ∧ Hle g0 gg7 ∧ Go.Lx.Sep g0 w0 gg7 w []) ?_ ?_
  · have hM := hx1
    have hag0 := Hle.refl g0
    refine WP_seq ?_
    refine WP_region ?_
    refine O (r_assign (v := Value.int .i64 0) rfl) rfl ?_
    refine OW_nil ?_
    refine WP_block ?_
    refine WP_loop (fun (st9 : Int × Int) E w => match st9 with | (nv6, i5) => ∃ (gg10 : Hp), E 1 = Value.pointer (some ⟨b1, 0, none⟩) ∧ E 3 = Value.int .i64 nv6 ∧ E 4 = Value.int .i64 i5 ∧ E.ds = [] ∧ Hle g0 gg10 ∧ Go.Lx.Sep g0 w0 gg10 w [Go.Lx.box b1 27 (([Value.int .i64 rv1.Kind]) ++ ((rv1.Set.1.map (Value.int .u64)) ++ ([v1])))]) hM ⟨g0, rfl, rfl, rfl, hds, (Hle.refl _), hs⟩ ?_
    clear hs hM
    rintro ⟨nv6, i5⟩ o2 E w hM ⟨gg10, hE1, hE3, hE4, hds, hlegg10, hs⟩
    obtain ⟨E, rfl⟩ := open1 (E := E) hE1
    obtain ⟨E, rfl⟩ := open1 (E := E) hE3
    obtain ⟨E, rfl⟩ := open1 (E := E) hE4
    replace hRv1 := hRv1.mono hlegg10
    replace hag0 := hag0.trans hlegg10
    have hagg10 := Hle.refl gg10
    refine WP_seq ?_
    refine WP_seq ?_
    refine WP_region ?_
    refine O (r_move (v := Value.int .i64 i5) rfl) rfl ?_
    refine O (r_fieldAddr Tryd.underlying27 ti25 rfl rfl (by decide) rfl rfl) rfl ?_
    refine O (r_load (v := v1) ti25 rfl (hs.cell (i := 0) (o := 5) rfl (by simp [rv1.Set.2]))) rfl ?_
    obtain ⟨a6, ca6, hva6⟩ := hRv1.shape
    refine O (r_lenSl (v := v1) Tryd.underlying25 rfl hva6) rfl ?_
    refine O (r_lss rfl rfl) rfl ?_
    refine OW_nil ?_
    rcases condS hM with ⟨hc6, hM⟩ | ⟨hc6, hM⟩
    · refine WP_true rfl hc6 ?_
      refine WP_skip ?_
      refine WP_seq ?_
      refine WP_block ?_
      refine WP_region ?_
      refine O (r_move (v := Value.int .i64 nv6) rfl) rfl ?_
      refine O (r_fieldAddr Tryd.underlying27 ti25 rfl rfl (by decide) rfl rfl) rfl ?_
      refine O (r_load (v := v1) ti25 rfl (hs.cell (i := 0) (o := 5) rfl (by simp [rv1.Set.2]))) rfl ?_
      refine O (r_move (v := Value.int .i64 i5) rfl) rfl ?_
      obtain ⟨e6, he6, hM⟩ := bindS hM
      obtain ⟨b7, ob7, cb7, hvb7, cs30, hcs30, hcb7⟩ := hRv1.at he6
      obtain ⟨cs31, cs32, cs33, rfl, hcs31, hcs32, hcs33⟩ := tT_Regex_iff.1 hcs30
      have hcs31 : cs31 = _ := hcs31; subst hcs31
      have hcs32 : cs32 = _ := hcs32; subst hcs32
      obtain ⟨v12, rfl, hRv12⟩ := hcs33
      refine O (r_idxSl Tryd.underlying25 ti27 (v := v1) rfl hvb7 rfl (idxL_some he6).1 (idxL_some he6).2.1) rfl ?_
      refine O (r_loadEl (cs := ([Value.int .i64 e6.Kind]) ++ ((e6.Set.1.map (Value.int .u64)) ++ ([v12]))) ti27 rfl (by simp [e6.Set.2]) (.inl rfl) (hcb7 _ hs.imm) (v := Value.agg (List.toArray (α := Value) (([Value.int .i64 e6.Kind]) ++ ((e6.Set.1.map (Value.int .u64)) ++ ([v12]))))) rfl) rfl ?_
      obtain ⟨rv7, hrv7, hM⟩ := bindS hM
      refine C [Value.agg (List.toArray (α := Value) (([Value.int .i64 e6.Kind]) ++ ((e6.Set.1.map (Value.int .u64)) ++ ([v12]))))] cf35 rfl (ih_ref08_Depth hrv7 hs.imm (tT_Regex_iff.2 ⟨[Value.int .i64 e6.Kind], e6.Set.1.map (Value.int .u64), [v12], rfl, rfl, rfl, ⟨_, rfl, hRv12⟩⟩)) rfl ?_
      rintro v13 wv7 ⟨gg13, hvv13, hegg13⟩
      have hlegg13 := hegg13.le hs.imm
      replace hs := hs.call hegg13
      replace hRv1 := hRv1.mono hlegg13
      replace hRv12 := hRv12.mono hlegg13
      replace hlegg10 := hlegg10.trans hlegg13
      replace hagg10 := hagg10.trans hlegg13
      obtain ⟨cs34, rfl, hcs34⟩ := hvv13
      have hcs34 : cs34 = _ := hcs34; subst hcs34
      refine O (r_max2 rfl rfl) rfl ?_
      refine O (r_assign (v := Value.int .i64 (max2 nv6 rv7)) rfl) rfl ?_
      refine OW_nil ?_
      refine WP_region ?_
      refine O (r_move (v := Value.int .i64 i5) rfl) rfl ?_
      obtain ⟨t6, ht6, hM⟩ := bindS hM
      refine O (r_addM rfl rfl ht6) rfl ?_
      refine O (r_assign (v := Value.int .i64 t6) rfl) rfl ?_
      refine OW_nil ?_
      obtain rfl := Option.some.inj hM
      exact ⟨gg13, rfl, rfl, rfl, hds, hlegg10, hs⟩
    · refine WP_false rfl hc6 ?_
      refine WP_exit ?_
      obtain rfl := Option.some.inj hM
      refine fun hr => ?_
      have hM := congrArg some hr
      obtain rfl := Option.some.inj hM
      exact ⟨gg10, rfl, hds, hlegg10, (hs.sub (.cons _ .slnil))⟩
  · clear hs
    rintro E w ⟨gg7, hE3, hds, hlegg7, hs⟩
    have hM := hKhx1
    obtain ⟨E, rfl⟩ := open1 (E := E) hE3
    refine WP_seq ?_
    refine WP_region ?_
    refine O (r_move (v := Value.int .i64 nv4) rfl) rfl ?_
    obtain ⟨t7, ht7, hM⟩ := bindS hM
    refine O (r_addM rfl rfl ht7) rfl ?_
    refine O (r_assign (v := Value.int .i64 t7) rfl) rfl ?_
    refine OW_nil ?_
    refine WP_ret ?_
    obtain rfl := Option.some.inj hM
    refine FL_nil hds ?_
    exact ⟨_, res1 Tryd.results35 (rv_tmp (v := Value.int .i64 t7) rfl), gg7, ⟨[Value.int .i64 t7], rfl, rfl⟩, hs.ext⟩
theorem ref08_Depth_zero : C.ref08_Depth 0 := by
  unfold C.ref08_Depth
  intros
  simp_all only [M.ref08_Depth, reduceCtorEq]
theorem ref08_Depth_all : ∀ fl, C.ref08_Depth fl := by
  intro fl
  induction fl with
  | zero => exact ref08_Depth_zero
  | succ fl ih =>
    exact ref08_Depth_step ih
theorem ref08_Depth_ok {fl : Nat} : C.ref08_Depth fl := (ref08_Depth_all fl)

set_option maxRecDepth 100000 in
theorem ref08_Few_ok {rv1 : T_Regex} {most1 : Int} {r : Bool} (hM : M.ref08_Few rv1 most1 = some r) {g0 : Hp} {w0 : World} (hi : Imm g0 w0) {cs1 : List Value} (hcs1 : tT_Regex.rel g0 cs1 rv1) :
    CallsV Tryd.prog 12 #[Value.agg cs1.toArray, Value.int .i64 most1] w0 (fun v w' => ∃ g', (VRd tBool false g' v r) ∧ Ext g0 w0 g' w') := by
  unfold M.ref08_Few at hM
  obtain ⟨cs2, cs3, cs4, rfl, hcs2, hcs3, hcs4⟩ := tT_Regex_iff.1 hcs1
  have hcs2 : cs2 = _ := hcs2; subst hcs2
  have hcs3 : cs3 = _ := hcs3; subst hcs3
  obtain ⟨v1, rfl, hRv1⟩ := hcs4
  have hs := Sep.start hi
  refine calls_of_WP (args := [Value.agg (List.toArray (α := Value) (([Value.int .i64 rv1.Kind]) ++ ((rv1.Set.1.map (Value.int .u64)) ++ ([v1])))), Value.int .i64 most1]) Tryd.func12 rfl Tryd.ntmps12 rfl ?_
  have hds : (argEnv [Value.agg (List.toArray (α := Value) (([Value.int .i64 rv1.Kind]) ++ ((rv1.Set.1.map (Value.int .u64)) ++ ([v1])))), Value.int .i64 most1]).ds = [] := rfl
  refine WP_seq ?_
  refine WP_region ?_
  refine OW_box (v := Value.agg (List.toArray (α := Value) (([Value.int .i64 rv1.Kind]) ++ ((rv1.Set.1.map (Value.int .u64)) ++ ([v1]))))) rfl hs (zs := ([Value.int .i64 rv1.Kind]) ++ ((rv1.Set.1.map (Value.int .u64)) ++ ([v1]))) rfl rfl ?_
  intro b1 wv1 hs
  refine O (r_assign (v := Value.bool false) rfl) rfl ?_
  refine OW_nil ?_
  refine WP_seq ?_
  refine WP_region ?_
  refine O (r_loadN (cs := ([Value.int .i64 rv1.Kind]) ++ ((rv1.Set.1.map (Value.int .u64)) ++ ([v1]))) ti27 rfl (by simp [rv1.Set.2]) (hs.cells (i := 0) rfl)) rfl ?_
  refine O (r_move (v := Value.int .i64 most1) rfl) rfl ?_
  obtain ⟨t1, ht1, hM⟩ := bindS hM
  refine O (r_addM rfl rfl ht1) rfl ?_
  obtain ⟨rv2, hrv2, hM⟩ := bindS hM
  refine C [Value.agg (List.toArray (α := Value) (([Value.int .i64 rv1.Kind]) ++ ((rv1.Set.1.map (Value.int .u64)) ++ ([v1])))), Value.int .i64 0, Value.int .i64 t1] cf28 rfl (ref08_shallow_ok hrv2 hs.imm (tT_Regex_iff.2 ⟨[Value.int .i64 rv1.Kind], rv1.Set.1.map (Value.int .u64), [v1], rfl, rfl, rfl, ⟨_, rfl, hRv1⟩⟩)) rfl ?_
  rintro v2 wv2 ⟨gg1, hvv2, hegg1⟩
  have hlegg1 := hegg1.le hs.imm
  replace hs := hs.call hegg1
  replace hRv1 := hRv1.mono hlegg1
  obtain ⟨cs5, rfl, hcs5⟩ := hvv2
  have hcs5 : cs5 = _ := hcs5; subst hcs5
  refine O (r_geq rfl rfl) rfl ?_
  refine O (r_assign (v := Value.bool (decide (0 ≤ rv2))) rfl) rfl ?_
  refine OW_nil ?_
  refine WP_ret ?_
  obtain rfl := Option.some.inj hM
  refine FL_nil hds ?_
  exact ⟨_, res1 Tryd.results12 (rv_tmp (v := Value.bool (decide (0 ≤ rv2))) rfl), gg1, ⟨[Value.bool (decide (0 ≤ rv2))], rfl, rfl⟩, hs.ext⟩

set_option maxRecDepth 100000 in
theorem law08_awake_ok {r : Bool} (hM : M.law08_awake = some r) {g0 : Hp} {w0 : World} (hi : Imm g0 w0) (hG0 : GBox 0 (M.deBruijn.1.map (Value.int .u8)) g0) :
    CallsV Tryd.prog 13 #[] w0 (fun v w' => ∃ g', (VRd tBool false g' v r) ∧ Ext g0 w0 g' w') := by
  unfold M.law08_awake at hM
  have hs := Sep.start hi
  refine calls_of_WP (args := []) Tryd.func13 rfl Tryd.ntmps13 rfl ?_
  have hds : (argEnv []).ds = [] := rfl
  refine WP_seq ?_
  refine WP_region ?_
  refine O (r_assign (v := Value.bool false) rfl) rfl ?_
  refine OW_nil ?_
  refine WP_seq ?_
  refine WP_region ?_
  obtain ⟨rv1, hrv1, hM⟩ := bindS hM
  refine C [encS [97, 40, 98, 124, 99, 41, 42]] cf16 rfl (regex_Parse_ok hrv1 hs.imm) rfl ?_
  rintro v1 wv1 ⟨gg1, hvv1, hegg1⟩
  have hlegg1 := hegg1.le hs.imm
  replace hs := hs.call hegg1
  replace hG0 := hG0.mono hlegg1
  obtain ⟨v2, v3, v4, rfl, hvv2, hvv3, hvv4⟩ := hvv1
  obtain ⟨cs1, rfl, hcs1⟩ := hvv4
  have hcs1 : cs1 = _ := hcs1; subst hcs1
  obtain ⟨cs2, rfl, hcs2⟩ := hvv3
  have hcs2 : cs2 = _ := hcs2; subst hcs2
  obtain ⟨cs3, rfl, hcs3⟩ := hvv2
  obtain ⟨cs4, cs5, cs6, rfl, hcs4, hcs5, hcs6⟩ := tT_Regex_iff.1 hcs3
  have hcs4 : cs4 = _ := hcs4; subst hcs4
  have hcs5 : cs5 = _ := hcs5; subst hcs5
  obtain ⟨v5, rfl, hRv5⟩ := hcs6
  refine O (r_move (v := Value.tuple #[Value.agg (List.toArray (α := Value) (([Value.int .i64 rv1.1.Kind]) ++ ((rv1.1.Set.1.map (Value.int .u64)) ++ ([v5])))), Value.int .i64 rv1.2.1, Value.int .i64 rv1.2.2]) rfl) rfl ?_
  refine O (r_extract (vs := [Value.agg (List.toArray (α := Value) (([Value.int .i64 rv1.1.Kind]) ++ ((rv1.1.Set.1.map (Value.int .u64)) ++ ([v5])))), Value.int .i64 rv1.2.1, Value.int .i64 rv1.2.2]) (v := Value.agg (List.toArray (α := Value) (([Value.int .i64 rv1.1.Kind]) ++ ((rv1.1.Set.1.map (Value.int .u64)) ++ ([v5]))))) rfl rfl) rfl ?_
  refine O (r_extract (vs := [Value.agg (List.toArray (α := Value) (([Value.int .i64 rv1.1.Kind]) ++ ((rv1.1.Set.1.map (Value.int .u64)) ++ ([v5])))), Value.int .i64 rv1.2.1, Value.int .i64 rv1.2.2]) (v := Value.int .i64 rv1.2.1) rfl rfl) rfl ?_
  refine O (r_extract (vs := [Value.agg (List.toArray (α := Value) (([Value.int .i64 rv1.1.Kind]) ++ ((rv1.1.Set.1.map (Value.int .u64)) ++ ([v5])))), Value.int .i64 rv1.2.1, Value.int .i64 rv1.2.2]) (v := Value.int .i64 rv1.2.2) rfl rfl) rfl ?_
  refine OW_alloc ti27 hs (zs := ([Value.int .i64 0]) ++ (((Vec.zero 4).1.map (Value.int .u64)) ++ ([Value.slice none 0 0]))) rfl rfl ?_
  intro b1 wv2 hs
  refine OW_storeAll ti27 hs (i := 0) rfl rfl (v := Value.agg (List.toArray (α := Value) (([Value.int .i64 rv1.1.Kind]) ++ ((rv1.1.Set.1.map (Value.int .u64)) ++ ([v5]))))) rfl (vs := ([Value.int .i64 rv1.1.Kind]) ++ ((rv1.1.Set.1.map (Value.int .u64)) ++ ([v5]))) rfl (one_append (one_cons rfl one_nil) (one_append vec_one (one_cons (by obtain ⟨_, _, h9⟩ := hRv5.shape; rw [h9]; rfl) one_nil))) (by simp [rv1.1.Set.2]) (by simp [rv1.1.Set.2, (Vec.zero 4).2]) ?_
  intro wv3 hs
  refine O (r_assign (v := Value.int .i64 rv1.2.1) rfl) rfl ?_
  refine O (r_assign (v := Value.int .i64 rv1.2.2) rfl) rfl ?_
  refine OW_nil ?_
  refine WP_seq ?_
  refine WP_region ?_
  obtain ⟨rv2, hrv2, hM⟩ := bindS hM
  refine C [encS [97, 43]] cf16 rfl (regex_Parse_ok hrv2 hs.imm) rfl ?_
  rintro v6 wv4 ⟨gg2, hvv6, hegg2⟩
  have hlegg2 := hegg2.le hs.imm
  replace hs := hs.call hegg2
  replace hG0 := hG0.mono hlegg2
  replace hRv5 := hRv5.mono hlegg2
  obtain ⟨v7, v8, v9, rfl, hvv7, hvv8, hvv9⟩ := hvv6
  obtain ⟨cs7, rfl, hcs7⟩ := hvv9
  have hcs7 : cs7 = _ := hcs7; subst hcs7
  obtain ⟨cs8, rfl, hcs8⟩ := hvv8
  have hcs8 : cs8 = _ := hcs8; subst hcs8
  obtain ⟨cs9, rfl, hcs9⟩ := hvv7
  obtain ⟨cs10, cs11, cs12, rfl, hcs10, hcs11, hcs12⟩ := tT_Regex_iff.1 hcs9
  have hcs10 : cs10 = _ := hcs10; subst hcs10
  have hcs11 : cs11 = _ := hcs11; subst hcs11
  obtain ⟨v10, rfl, hRv10⟩ := hcs12
  refine O (r_move (v := Value.tuple #[Value.agg (List.toArray (α := Value) (([Value.int .i64 rv2.1.Kind]) ++ ((rv2.1.Set.1.map (Value.int .u64)) ++ ([v10])))), Value.int .i64 rv2.2.1, Value.int .i64 rv2.2.2]) rfl) rfl ?_
  refine O (r_extract (vs := [Value.agg (List.toArray (α := Value) (([Value.int .i64 rv2.1.Kind]) ++ ((rv2.1.Set.1.map (Value.int .u64)) ++ ([v10])))), Value.int .i64 rv2.2.1, Value.int .i64 rv2.2.2]) (v := Value.agg (List.toArray (α := Value) (([Value.int .i64 rv2.1.Kind]) ++ ((rv2.1.Set.1.map (Value.int .u64)) ++ ([v10]))))) rfl rfl) rfl ?_
  refine O (r_extract (vs := [Value.agg (List.toArray (α := Value) (([Value.int .i64 rv2.1.Kind]) ++ ((rv2.1.Set.1.map (Value.int .u64)) ++ ([v10])))), Value.int .i64 rv2.2.1, Value.int .i64 rv2.2.2]) (v := Value.int .i64 rv2.2.1) rfl rfl) rfl ?_
  refine O (r_extract (vs := [Value.agg (List.toArray (α := Value) (([Value.int .i64 rv2.1.Kind]) ++ ((rv2.1.Set.1.map (Value.int .u64)) ++ ([v10])))), Value.int .i64 rv2.2.1, Value.int .i64 rv2.2.2]) (v := Value.int .i64 rv2.2.2) rfl rfl) rfl ?_
  refine OW_alloc ti27 hs (zs := ([Value.int .i64 0]) ++ (((Vec.zero 4).1.map (Value.int .u64)) ++ ([Value.slice none 0 0]))) rfl rfl ?_
  intro b2 wv5 hs
  refine OW_storeAll ti27 hs (i := 0) rfl rfl (v := Value.agg (List.toArray (α := Value) (([Value.int .i64 rv2.1.Kind]) ++ ((rv2.1.Set.1.map (Value.int .u64)) ++ ([v10]))))) rfl (vs := ([Value.int .i64 rv2.1.Kind]) ++ ((rv2.1.Set.1.map (Value.int .u64)) ++ ([v10]))) rfl (one_append (one_cons rfl one_nil) (one_append vec_one (one_cons (by obtain ⟨_, _, h9⟩ := hRv10.shape; rw [h9]; rfl) one_nil))) (by simp [rv2.1.Set.2]) (by simp [rv2.1.Set.2, (Vec.zero 4).2]) ?_
  intro wv6 hs
  refine O (r_assign (v := Value.int .i64 rv2.2.1) rfl) rfl ?_
  refine O (r_assign (v := Value.int .i64 rv2.2.2) rfl) rfl ?_
  refine OW_nil ?_
  refine WP_seq ?_
  refine WP_region ?_
  obtain ⟨rv3, hrv3, hM⟩ := bindS hM
  refine C [encS [91, 97, 45, 99, 120, 93, 63]] cf16 rfl (regex_Parse_ok hrv3 hs.imm) rfl ?_
  rintro v11 wv7 ⟨gg3, hvv11, hegg3⟩
  have hlegg3 := hegg3.le hs.imm
  replace hs := hs.call hegg3
  replace hG0 := hG0.mono hlegg3
  replace hRv5 := hRv5.mono hlegg3
  replace hRv10 := hRv10.mono hlegg3
  obtain ⟨v12, v13, v14, rfl, hvv12, hvv13, hvv14⟩ := hvv11
  obtain ⟨cs13, rfl, hcs13⟩ := hvv14
  have hcs13 : cs13 = _ := hcs13; subst hcs13
  obtain ⟨cs14, rfl, hcs14⟩ := hvv13
  have hcs14 : cs14 = _ := hcs14; subst hcs14
  obtain ⟨cs15, rfl, hcs15⟩ := hvv12
  obtain ⟨cs16, cs17, cs18, rfl, hcs16, hcs17, hcs18⟩ := tT_Regex_iff.1 hcs15
  have hcs16 : cs16 = _ := hcs16; subst hcs16
  have hcs17 : cs17 = _ := hcs17; subst hcs17
  obtain ⟨v15, rfl, hRv15⟩ := hcs18
  refine O (r_move (v := Value.tuple #[Value.agg (List.toArray (α := Value) (([Value.int .i64 rv3.1.Kind]) ++ ((rv3.1.Set.1.map (Value.int .u64)) ++ ([v15])))), Value.int .i64 rv3.2.1, Value.int .i64 rv3.2.2]) rfl) rfl ?_
  refine O (r_extract (vs := [Value.agg (List.toArray (α := Value) (([Value.int .i64 rv3.1.Kind]) ++ ((rv3.1.Set.1.map (Value.int .u64)) ++ ([v15])))), Value.int .i64 rv3.2.1, Value.int .i64 rv3.2.2]) (v := Value.agg (List.toArray (α := Value) (([Value.int .i64 rv3.1.Kind]) ++ ((rv3.1.Set.1.map (Value.int .u64)) ++ ([v15]))))) rfl rfl) rfl ?_
  refine O (r_extract (vs := [Value.agg (List.toArray (α := Value) (([Value.int .i64 rv3.1.Kind]) ++ ((rv3.1.Set.1.map (Value.int .u64)) ++ ([v15])))), Value.int .i64 rv3.2.1, Value.int .i64 rv3.2.2]) (v := Value.int .i64 rv3.2.1) rfl rfl) rfl ?_
  refine O (r_extract (vs := [Value.agg (List.toArray (α := Value) (([Value.int .i64 rv3.1.Kind]) ++ ((rv3.1.Set.1.map (Value.int .u64)) ++ ([v15])))), Value.int .i64 rv3.2.1, Value.int .i64 rv3.2.2]) (v := Value.int .i64 rv3.2.2) rfl rfl) rfl ?_
  refine OW_alloc ti27 hs (zs := ([Value.int .i64 0]) ++ (((Vec.zero 4).1.map (Value.int .u64)) ++ ([Value.slice none 0 0]))) rfl rfl ?_
  intro b3 wv8 hs
  refine OW_storeAll ti27 hs (i := 0) rfl rfl (v := Value.agg (List.toArray (α := Value) (([Value.int .i64 rv3.1.Kind]) ++ ((rv3.1.Set.1.map (Value.int .u64)) ++ ([v15]))))) rfl (vs := ([Value.int .i64 rv3.1.Kind]) ++ ((rv3.1.Set.1.map (Value.int .u64)) ++ ([v15]))) rfl (one_append (one_cons rfl one_nil) (one_append vec_one (one_cons (by obtain ⟨_, _, h9⟩ := hRv15.shape; rw [h9]; rfl) one_nil))) (by simp [rv3.1.Set.2]) (by simp [rv3.1.Set.2, (Vec.zero 4).2]) ?_
  intro wv9 hs
  refine O (r_assign (v := Value.int .i64 rv3.2.1) rfl) rfl ?_
  refine O (r_assign (v := Value.int .i64 rv3.2.2) rfl) rfl ?_
  refine OW_nil ?_
  refine WP_seq ?_
  refine WP_region ?_
  obtain ⟨rv4, hrv4, hM⟩ := bindS hM
  refine C [encS [97, 41]] cf16 rfl (regex_Parse_ok hrv4 hs.imm) rfl ?_
  rintro v16 wv10 ⟨gg4, hvv16, hegg4⟩
  have hlegg4 := hegg4.le hs.imm
  replace hs := hs.call hegg4
  replace hG0 := hG0.mono hlegg4
  replace hRv5 := hRv5.mono hlegg4
  replace hRv10 := hRv10.mono hlegg4
  replace hRv15 := hRv15.mono hlegg4
  obtain ⟨v17, v18, v19, rfl, hvv17, hvv18, hvv19⟩ := hvv16
  obtain ⟨cs19, rfl, hcs19⟩ := hvv19
  have hcs19 : cs19 = _ := hcs19; subst hcs19
  obtain ⟨cs20, rfl, hcs20⟩ := hvv18
  have hcs20 : cs20 = _ := hcs20; subst hcs20
  obtain ⟨cs21, rfl, hcs21⟩ := hvv17
  obtain ⟨cs22, cs23, cs24, rfl, hcs22, hcs23, hcs24⟩ := tT_Regex_iff.1 hcs21
  have hcs22 : cs22 = _ := hcs22; subst hcs22
  have hcs23 : cs23 = _ := hcs23; subst hcs23
  obtain ⟨v20, rfl, hRv20⟩ := hcs24
  refine O (r_move (v := Value.tuple #[Value.agg (List.toArray (α := Value) (([Value.int .i64 rv4.1.Kind]) ++ ((rv4.1.Set.1.map (Value.int .u64)) ++ ([v20])))), Value.int .i64 rv4.2.1, Value.int .i64 rv4.2.2]) rfl) rfl ?_
  refine O (r_extract (vs := [Value.agg (List.toArray (α := Value) (([Value.int .i64 rv4.1.Kind]) ++ ((rv4.1.Set.1.map (Value.int .u64)) ++ ([v20])))), Value.int .i64 rv4.2.1, Value.int .i64 rv4.2.2]) (v := Value.agg (List.toArray (α := Value) (([Value.int .i64 rv4.1.Kind]) ++ ((rv4.1.Set.1.map (Value.int .u64)) ++ ([v20]))))) rfl rfl) rfl ?_
  refine O (r_extract (vs := [Value.agg (List.toArray (α := Value) (([Value.int .i64 rv4.1.Kind]) ++ ((rv4.1.Set.1.map (Value.int .u64)) ++ ([v20])))), Value.int .i64 rv4.2.1, Value.int .i64 rv4.2.2]) (v := Value.int .i64 rv4.2.1) rfl rfl) rfl ?_
  refine O (r_extract (vs := [Value.agg (List.toArray (α := Value) (([Value.int .i64 rv4.1.Kind]) ++ ((rv4.1.Set.1.map (Value.int .u64)) ++ ([v20])))), Value.int .i64 rv4.2.1, Value.int .i64 rv4.2.2]) (v := Value.int .i64 rv4.2.2) rfl rfl) rfl ?_
  refine OW_alloc ti27 hs (zs := ([Value.int .i64 0]) ++ (((Vec.zero 4).1.map (Value.int .u64)) ++ ([Value.slice none 0 0]))) rfl rfl ?_
  intro b4 wv11 hs
  refine OW_storeAll ti27 hs (i := 0) rfl rfl (v := Value.agg (List.toArray (α := Value) (([Value.int .i64 rv4.1.Kind]) ++ ((rv4.1.Set.1.map (Value.int .u64)) ++ ([v20]))))) rfl (vs := ([Value.int .i64 rv4.1.Kind]) ++ ((rv4.1.Set.1.map (Value.int .u64)) ++ ([v20]))) rfl (one_append (one_cons rfl one_nil) (one_append vec_one (one_cons (by obtain ⟨_, _, h9⟩ := hRv20.shape; rw [h9]; rfl) one_nil))) (by simp [rv4.1.Set.2]) (by simp [rv4.1.Set.2, (Vec.zero 4).2]) ?_
  intro wv12 hs
  refine O (r_assign (v := Value.int .i64 rv4.2.1) rfl) rfl ?_
  refine O (r_assign (v := Value.int .i64 rv4.2.2) rfl) rfl ?_
  refine OW_nil ?_
  refine WP_seq ?_
  refine WP_region ?_
  obtain ⟨rv5, hrv5, hM⟩ := bindS hM
  refine C [encS [91, 97]] cf16 rfl (regex_Parse_ok hrv5 hs.imm) rfl ?_
  rintro v21 wv13 ⟨gg5, hvv21, hegg5⟩
  have hlegg5 := hegg5.le hs.imm
  replace hs := hs.call hegg5
  replace hG0 := hG0.mono hlegg5
  replace hRv5 := hRv5.mono hlegg5
  replace hRv10 := hRv10.mono hlegg5
  replace hRv15 := hRv15.mono hlegg5
  replace hRv20 := hRv20.mono hlegg5
  obtain ⟨v22, v23, v24, rfl, hvv22, hvv23, hvv24⟩ := hvv21
  obtain ⟨cs25, rfl, hcs25⟩ := hvv24
  have hcs25 : cs25 = _ := hcs25; subst hcs25
  obtain ⟨cs26, rfl, hcs26⟩ := hvv23
  have hcs26 : cs26 = _ := hcs26; subst hcs26
  obtain ⟨cs27, rfl, hcs27⟩ := hvv22
  obtain ⟨cs28, cs29, cs30, rfl, hcs28, hcs29, hcs30⟩ := tT_Regex_iff.1 hcs27
  have hcs28 : cs28 = _ := hcs28; subst hcs28
  have hcs29 : cs29 = _ := hcs29; subst hcs29
  obtain ⟨v25, rfl, hRv25⟩ := hcs30
  refine O (r_move (v := Value.tuple #[Value.agg (List.toArray (α := Value) (([Value.int .i64 rv5.1.Kind]) ++ ((rv5.1.Set.1.map (Value.int .u64)) ++ ([v25])))), Value.int .i64 rv5.2.1, Value.int .i64 rv5.2.2]) rfl) rfl ?_
  refine O (r_extract (vs := [Value.agg (List.toArray (α := Value) (([Value.int .i64 rv5.1.Kind]) ++ ((rv5.1.Set.1.map (Value.int .u64)) ++ ([v25])))), Value.int .i64 rv5.2.1, Value.int .i64 rv5.2.2]) (v := Value.agg (List.toArray (α := Value) (([Value.int .i64 rv5.1.Kind]) ++ ((rv5.1.Set.1.map (Value.int .u64)) ++ ([v25]))))) rfl rfl) rfl ?_
  refine O (r_extract (vs := [Value.agg (List.toArray (α := Value) (([Value.int .i64 rv5.1.Kind]) ++ ((rv5.1.Set.1.map (Value.int .u64)) ++ ([v25])))), Value.int .i64 rv5.2.1, Value.int .i64 rv5.2.2]) (v := Value.int .i64 rv5.2.1) rfl rfl) rfl ?_
  refine O (r_extract (vs := [Value.agg (List.toArray (α := Value) (([Value.int .i64 rv5.1.Kind]) ++ ((rv5.1.Set.1.map (Value.int .u64)) ++ ([v25])))), Value.int .i64 rv5.2.1, Value.int .i64 rv5.2.2]) (v := Value.int .i64 rv5.2.2) rfl rfl) rfl ?_
  refine OW_alloc ti27 hs (zs := ([Value.int .i64 0]) ++ (((Vec.zero 4).1.map (Value.int .u64)) ++ ([Value.slice none 0 0]))) rfl rfl ?_
  intro b5 wv14 hs
  refine OW_storeAll ti27 hs (i := 0) rfl rfl (v := Value.agg (List.toArray (α := Value) (([Value.int .i64 rv5.1.Kind]) ++ ((rv5.1.Set.1.map (Value.int .u64)) ++ ([v25]))))) rfl (vs := ([Value.int .i64 rv5.1.Kind]) ++ ((rv5.1.Set.1.map (Value.int .u64)) ++ ([v25]))) rfl (one_append (one_cons rfl one_nil) (one_append vec_one (one_cons (by obtain ⟨_, _, h9⟩ := hRv25.shape; rw [h9]; rfl) one_nil))) (by simp [rv5.1.Set.2]) (by simp [rv5.1.Set.2, (Vec.zero 4).2]) ?_
  intro wv15 hs
  refine O (r_assign (v := Value.int .i64 rv5.2.1) rfl) rfl ?_
  refine O (r_assign (v := Value.int .i64 rv5.2.2) rfl) rfl ?_
  refine OW_nil ?_
  refine WP_seq ?_
  obtain ⟨xv1, hx1, hKhx1⟩ := bindS hM
  refine WP_cut (fun E w => E 1 = Value.pointer (some ⟨b1, 0, none⟩) ∧ E 4 = Value.pointer (some ⟨b2, 0, none⟩) ∧ E 7 = Value.pointer (some ⟨b3, 0, none⟩) ∧ E 66 = Value.bool xv1 ∧ E.ds = [] ∧ Go.Lx.Sep g0 w0 gg5 w [Go.Lx.box b3 27 (([Value.int .i64 rv3.1.Kind]) ++ ((rv3.1.Set.1.map (Value.int .u64)) ++ ([v15]))), Go.Lx.box b2 27 (([Value.int .i64 rv2.1.Kind]) ++ ((rv2.1.Set.1.map (Value.int .u64)) ++ ([v10]))), Go.Lx.box b1 27 (([Value.int .i64 rv1.1.Kind]) ++ ((rv1.1.Set.1.map (Value.int .u64)) ++ ([v5])))]) ?_ ?_
  · have hM := hx1
    have hagg5 := Hle.refl gg5
    refine WP_region ?_
    refine O (r_move (v := Value.int .i64 rv1.2.2) rfl) rfl ?_
    refine O (r_neq rfl rfl) rfl ?_
    refine O (r_move (v := Value.bool (rv1.2.2 != 0)) rfl) rfl ?_
    rcases condS hM with ⟨hg7, hM⟩ | ⟨hg7, hM⟩
    · refine OK rfl rfl rfl (by rw [hg7]; rfl) rfl ?_
      refine OK rfl rfl rfl (by rw [hg7]; rfl) rfl ?_
      refine O (r_pickT (v := Value.bool true) rfl hg7 rfl) rfl ?_
      refine O (r_move (v := Value.bool true) rfl) rfl ?_
      refine OK rfl rfl rfl rfl rfl ?_
      refine OK rfl rfl rfl rfl rfl ?_
      refine O (r_pickT (v := Value.bool true) rfl rfl rfl) rfl ?_
      refine O (r_move (v := Value.bool true) rfl) rfl ?_
      refine OK rfl rfl rfl rfl rfl ?_
      refine OK rfl rfl rfl rfl rfl ?_
      refine O (r_pickT (v := Value.bool true) rfl rfl rfl) rfl ?_
      refine O (r_move (v := Value.bool true) rfl) rfl ?_
      refine OK rfl rfl rfl rfl rfl ?_
      refine OK rfl rfl rfl rfl rfl ?_
      refine O (r_pickT (v := Value.bool true) rfl rfl rfl) rfl ?_
      refine O (r_move (v := Value.bool true) rfl) rfl ?_
      refine OK rfl rfl rfl rfl rfl ?_
      refine OK rfl rfl rfl rfl rfl ?_
      refine O (r_pickT (v := Value.bool true) rfl rfl rfl) rfl ?_
      refine O (r_move (v := Value.bool true) rfl) rfl ?_
      refine OK rfl rfl rfl rfl rfl ?_
      refine OK rfl rfl rfl rfl rfl ?_
      refine O (r_pickT (v := Value.bool true) rfl rfl rfl) rfl ?_
      refine OW_nil ?_
      obtain rfl := Option.some.inj hM
      exact ⟨rfl, rfl, rfl, rfl, hds, (hs.sub (.cons _ (.cons _ (.cons_cons _ (.cons_cons _ (.cons_cons _ .slnil))))))⟩
    · refine OG rfl rfl rfl (by rw [hg7]; rfl) (r_move (v := Value.int .i64 rv2.2.2) rfl) rfl ?_
      refine OG rfl rfl rfl (by rw [hg7]; rfl) (r_neq rfl rfl) rfl ?_
      refine O (r_pickF (v := Value.bool (rv2.2.2 != 0)) rfl hg7 rfl) rfl ?_
      refine O (r_move (v := Value.bool (rv2.2.2 != 0)) rfl) rfl ?_
      rcases condS hM with ⟨hg8, hM⟩ | ⟨hg8, hM⟩
      · refine OK rfl rfl rfl (by rw [hg8]; rfl) rfl ?_
        refine OK rfl rfl rfl (by rw [hg8]; rfl) rfl ?_
        refine O (r_pickT (v := Value.bool true) rfl hg8 rfl) rfl ?_
        refine O (r_move (v := Value.bool true) rfl) rfl ?_
        refine OK rfl rfl rfl rfl rfl ?_
        refine OK rfl rfl rfl rfl rfl ?_
        refine O (r_pickT (v := Value.bool true) rfl rfl rfl) rfl ?_
        refine O (r_move (v := Value.bool true) rfl) rfl ?_
        refine OK rfl rfl rfl rfl rfl ?_
        refine OK rfl rfl rfl rfl rfl ?_
        refine O (r_pickT (v := Value.bool true) rfl rfl rfl) rfl ?_
        refine O (r_move (v := Value.bool true) rfl) rfl ?_
        refine OK rfl rfl rfl rfl rfl ?_
        refine OK rfl rfl rfl rfl rfl ?_
        refine O (r_pickT (v := Value.bool true) rfl rfl rfl) rfl ?_
        refine O (r_move (v := Value.bool true) rfl) rfl ?_
        refine OK rfl rfl rfl rfl rfl ?_
        refine OK rfl rfl rfl rfl rfl ?_
        refine O (r_pickT (v := Value.bool true) rfl rfl rfl) rfl ?_
        refine OW_nil ?_
        obtain rfl := Option.some.inj hM
        exact ⟨rfl, rfl, rfl, rfl, hds, (hs.sub (.cons _ (.cons _ (.cons_cons _ (.cons_cons _ (.cons_cons _ .slnil))))))⟩
      · refine OG rfl rfl rfl (by rw [hg8]; rfl) (r_move (v := Value.int .i64 rv3.2.2) rfl) rfl ?_
        refine OG rfl rfl rfl (by rw [hg8]; rfl) (r_neq rfl rfl) rfl ?_
        refine O (r_pickF (v := Value.bool (rv3.2.2 != 0)) rfl hg8 rfl) rfl ?_
        refine O (r_move (v := Value.bool (rv3.2.2 != 0)) rfl) rfl ?_
        rcases condS hM with ⟨hg9, hM⟩ | ⟨hg9, hM⟩
        · refine OK rfl rfl rfl (by rw [hg9]; rfl) rfl ?_
          refine OK rfl rfl rfl (by rw [hg9]; rfl) rfl ?_
          refine O (r_pickT (v := Value.bool true) rfl hg9 rfl) rfl ?_
          refine O (r_move (v := Value.bool true) rfl) rfl ?_
          refine OK rfl rfl rfl rfl rfl ?_
          refine OK rfl rfl rfl rfl rfl ?_
          refine O (r_pickT (v := Value.bool true) rfl rfl rfl) rfl ?_
          refine O (r_move (v := Value.bool true) rfl) rfl ?_
          refine OK rfl rfl rfl rfl rfl ?_
          refine OK rfl rfl rfl rfl rfl ?_
          refine O (r_pickT (v := Value.bool true) rfl rfl rfl) rfl ?_
          refine O (r_move (v := Value.bool true) rfl) rfl ?_
          refine OK rfl rfl rfl rfl rfl ?_
          refine OK rfl rfl rfl rfl rfl ?_
          refine O (r_pickT (v := Value.bool true) rfl rfl rfl) rfl ?_
          refine OW_nil ?_
          obtain rfl := Option.some.inj hM
          exact ⟨rfl, rfl, rfl, rfl, hds, (hs.sub (.cons _ (.cons _ (.cons_cons _ (.cons_cons _ (.cons_cons _ .slnil))))))⟩
        · refine OG rfl rfl rfl (by rw [hg9]; rfl) (r_move (v := Value.int .i64 rv4.2.2) rfl) rfl ?_
          refine OG rfl rfl rfl (by rw [hg9]; rfl) (r_neq rfl rfl) rfl ?_
          refine O (r_pickF (v := Value.bool (rv4.2.2 != 3)) rfl hg9 rfl) rfl ?_
          refine O (r_move (v := Value.bool (rv4.2.2 != 3)) rfl) rfl ?_
          rcases condS hM with ⟨hg10, hM⟩ | ⟨hg10, hM⟩
          · refine OK rfl rfl rfl (by rw [hg10]; rfl) rfl ?_
            refine OK rfl rfl rfl (by rw [hg10]; rfl) rfl ?_
            refine O (r_pickT (v := Value.bool true) rfl hg10 rfl) rfl ?_
            refine O (r_move (v := Value.bool true) rfl) rfl ?_
            refine OK rfl rfl rfl rfl rfl ?_
            refine OK rfl rfl rfl rfl rfl ?_
            refine O (r_pickT (v := Value.bool true) rfl rfl rfl) rfl ?_
            refine O (r_move (v := Value.bool true) rfl) rfl ?_
            refine OK rfl rfl rfl rfl rfl ?_
            refine OK rfl rfl rfl rfl rfl ?_
            refine O (r_pickT (v := Value.bool true) rfl rfl rfl) rfl ?_
            refine OW_nil ?_
            obtain rfl := Option.some.inj hM
            exact ⟨rfl, rfl, rfl, rfl, hds, (hs.sub (.cons _ (.cons _ (.cons_cons _ (.cons_cons _ (.cons_cons _ .slnil))))))⟩
          · refine OG rfl rfl rfl (by rw [hg10]; rfl) (r_move (v := Value.int .i64 rv4.2.1) rfl) rfl ?_
            refine OG rfl rfl rfl (by rw [hg10]; rfl) (r_neq rfl rfl) rfl ?_
            refine O (r_pickF (v := Value.bool (rv4.2.1 != 1)) rfl hg10 rfl) rfl ?_
            refine O (r_move (v := Value.bool (rv4.2.1 != 1)) rfl) rfl ?_
            rcases condS hM with ⟨hg11, hM⟩ | ⟨hg11, hM⟩
            · refine OK rfl rfl rfl (by rw [hg11]; rfl) rfl ?_
              refine OK rfl rfl rfl (by rw [hg11]; rfl) rfl ?_
              refine O (r_pickT (v := Value.bool true) rfl hg11 rfl) rfl ?_
              refine O (r_move (v := Value.bool true) rfl) rfl ?_
              refine OK rfl rfl rfl rfl rfl ?_
              refine OK rfl rfl rfl rfl rfl ?_
              refine O (r_pickT (v := Value.bool true) rfl rfl rfl) rfl ?_
              refine OW_nil ?_
              obtain rfl := Option.some.inj hM
              exact ⟨rfl, rfl, rfl, rfl, hds, (hs.sub (.cons _ (.cons _ (.cons_cons _ (.cons_cons _ (.cons_cons _ .slnil))))))⟩
            · refine OG rfl rfl rfl (by rw [hg11]; rfl) (r_move (v := Value.int .i64 rv5.2.2) rfl) rfl ?_
              refine OG rfl rfl rfl (by rw [hg11]; rfl) (r_neq rfl rfl) rfl ?_
              refine O (r_pickF (v := Value.bool (rv5.2.2 != 3)) rfl hg11 rfl) rfl ?_
              refine O (r_move (v := Value.bool (rv5.2.2 != 3)) rfl) rfl ?_
              rcases condS hM with ⟨hg12, hM⟩ | ⟨hg12, hM⟩
              · refine OK rfl rfl rfl (by rw [hg12]; rfl) rfl ?_
                refine OK rfl rfl rfl (by rw [hg12]; rfl) rfl ?_
                refine O (r_pickT (v := Value.bool true) rfl hg12 rfl) rfl ?_
                refine OW_nil ?_
                obtain rfl := Option.some.inj hM
                exact ⟨rfl, rfl, rfl, rfl, hds, (hs.sub (.cons _ (.cons _ (.cons_cons _ (.cons_cons _ (.cons_cons _ .slnil))))))⟩
              · refine OG rfl rfl rfl (by rw [hg12]; rfl) (r_move (v := Value.int .i64 rv5.2.1) rfl) rfl ?_
                refine OG rfl rfl rfl (by rw [hg12]; rfl) (r_neq rfl rfl) rfl ?_
                refine O (r_pickF (v := Value.bool (rv5.2.1 != 2)) rfl hg12 rfl) rfl ?_
                refine OW_nil ?_
                obtain rfl := Option.some.inj hM
                exact ⟨rfl, rfl, rfl, rfl, hds, (hs.sub (.cons _ (.cons _ (.cons_cons _ (.cons_cons _ (.cons_cons _ .slnil))))))⟩
  · clear hs
    rintro E w ⟨hE1, hE4, hE7, hE66, hds, hs⟩
    have hM := hKhx1
    obtain ⟨E, rfl⟩ := open1 (E := E) hE1
    obtain ⟨E, rfl⟩ := open1 (E := E) hE4
    obtain ⟨E, rfl⟩ := open1 (E := E) hE7
    obtain ⟨E, rfl⟩ := open1 (E := E) hE66
    rcases condS hM with ⟨hc1, hM⟩ | ⟨hc1, hM⟩
    · refine WP_true rfl hc1 ?_
      refine WP_seq ?_
      refine WP_region ?_
      refine O (r_assign (v := Value.bool false) rfl) rfl ?_
      refine OW_nil ?_
      refine WP_ret ?_
      obtain rfl := Option.some.inj hM
      refine FL_nil hds ?_
      exact ⟨_, res1 Tryd.results13 (rv_tmp (v := Value.bool false) rfl), gg5, ⟨[Value.bool false], rfl, rfl⟩, hs.ext⟩
    · refine WP_false rfl hc1 ?_
      refine WP_skip ?_
      obtain ⟨xv2, hx2, hKhx2⟩ := bindS hM
      refine WP_cut (fun E w => ∃ (gg16 : Hp), E 0 = Value.bool xv2 ∧ E.ds = [] ∧ Hle gg5 gg16 ∧ Go.Lx.Sep g0 w0 gg16 w []) ?_ ?_
      · have hM := hx2
        have hagg5 := Hle.refl gg5
        refine WP_region ?_
        refine O (r_fieldAddr Tryd.underlying27 ti3 rfl rfl (by decide) rfl rfl) rfl ?_
        refine O (r_load (v := Value.int .i64 rv1.1.Kind) ti3 rfl (hs.cell (i := 2) (o := 0) rfl (by simp [rv1.1.Set.2]))) rfl ?_
        refine O (r_eql rfl rfl) rfl ?_
        refine O (r_move (v := Value.bool (rv1.1.Kind == 4)) rfl) rfl ?_
        rcases condS hM with ⟨hg22, hM⟩ | ⟨hg22, hM⟩
        · refine OG rfl rfl rfl (by rw [hg22]; rfl) (r_fieldAddr Tryd.underlying27 ti25 rfl rfl (by decide) rfl rfl) rfl ?_
          refine OG rfl rfl rfl (by rw [hg22]; rfl) (r_load (v := v5) ti25 rfl (hs.cell (i := 2) (o := 5) rfl (by simp [rv1.1.Set.2]))) rfl ?_
          obtain ⟨a2, ca2, hva2⟩ := hRv5.shape
          refine OG rfl rfl rfl (by rw [hg22]; rfl) (r_lenSl (v := v5) Tryd.underlying25 rfl hva2) rfl ?_
          refine OG rfl rfl rfl (by rw [hg22]; rfl) (r_eql rfl rfl) rfl ?_
          refine O (r_pickT (v := Value.bool ((rv1.1.Kids.length : Int) == 2)) rfl hg22 rfl) rfl ?_
          refine O (r_move (v := Value.bool ((rv1.1.Kids.length : Int) == 2)) rfl) rfl ?_
          rcases condS hM with ⟨hg23, hM⟩ | ⟨hg23, hM⟩
          · refine OG rfl rfl rfl (by rw [hg23]; rfl) (r_loadN (cs := ([Value.int .i64 rv1.1.Kind]) ++ ((rv1.1.Set.1.map (Value.int .u64)) ++ ([v5]))) ti27 rfl (by simp [rv1.1.Set.2]) (hs.cells (i := 2) rfl)) rfl ?_
            obtain ⟨rv16, hrv16, hM⟩ := bindS hM
            refine CG rfl rfl rfl (by rw [hg23]; rfl) [Value.agg (List.toArray (α := Value) (([Value.int .i64 rv1.1.Kind]) ++ ((rv1.1.Set.1.map (Value.int .u64)) ++ ([v5])))), encS [97, 98, 99, 98]] cf23 rfl (regex_Match_ok hrv16 hs.imm (tT_Regex_iff.2 ⟨[Value.int .i64 rv1.1.Kind], rv1.1.Set.1.map (Value.int .u64), [v5], rfl, rfl, rfl, ⟨_, rfl, hRv5⟩⟩)) rfl ?_
            rintro v38 wv26 ⟨gg17, hvv38, hegg17⟩
            have hlegg17 := hegg17.le hs.imm
            replace hs := hs.call hegg17
            replace hRv5 := hRv5.mono hlegg17
            replace hRv10 := hRv10.mono hlegg17
            replace hRv15 := hRv15.mono hlegg17
            replace hG0 := hG0.mono hlegg17
            replace hagg5 := hagg5.trans hlegg17
            obtain ⟨cs47, rfl, hcs47⟩ := hvv38
            have hcs47 : cs47 = _ := hcs47; subst hcs47
            refine O (r_pickT (v := Value.bool rv16) rfl hg23 rfl) rfl ?_
            refine O (r_move (v := Value.bool rv16) rfl) rfl ?_
            rcases condS hM with ⟨hg24, hM⟩ | ⟨hg24, hM⟩
            · refine OG rfl rfl rfl (by rw [hg24]; rfl) (r_loadN (cs := ([Value.int .i64 rv1.1.Kind]) ++ ((rv1.1.Set.1.map (Value.int .u64)) ++ ([v5]))) ti27 rfl (by simp [rv1.1.Set.2]) (hs.cells (i := 2) rfl)) rfl ?_
              obtain ⟨rv17, hrv17, hM⟩ := bindS hM
              refine CG rfl rfl rfl (by rw [hg24]; rfl) [Value.agg (List.toArray (α := Value) (([Value.int .i64 rv1.1.Kind]) ++ ((rv1.1.Set.1.map (Value.int .u64)) ++ ([v5])))), encS [98, 97]] cf23 rfl (regex_Match_ok hrv17 hs.imm (tT_Regex_iff.2 ⟨[Value.int .i64 rv1.1.Kind], rv1.1.Set.1.map (Value.int .u64), [v5], rfl, rfl, rfl, ⟨_, rfl, hRv5⟩⟩)) rfl ?_
              rintro v39 wv27 ⟨gg18, hvv39, hegg18⟩
              have hlegg18 := hegg18.le hs.imm
              replace hs := hs.call hegg18
              replace hRv5 := hRv5.mono hlegg18
              replace hRv10 := hRv10.mono hlegg18
              replace hRv15 := hRv15.mono hlegg18
              replace hG0 := hG0.mono hlegg18
              replace hagg5 := hagg5.trans hlegg18
              obtain ⟨cs48, rfl, hcs48⟩ := hvv39
              have hcs48 : cs48 = _ := hcs48; subst hcs48
              refine OG rfl rfl rfl (by rw [hg24]; rfl) (r_not rfl) rfl ?_
              refine O (r_pickT (v := Value.bool (!rv17)) rfl hg24 rfl) rfl ?_
              refine O (r_move (v := Value.bool (!rv17)) rfl) rfl ?_
              rcases condS hM with ⟨hg25, hM⟩ | ⟨hg25, hM⟩
              · refine OG rfl rfl rfl (by rw [hg25]; rfl) (r_loadN (cs := ([Value.int .i64 rv2.1.Kind]) ++ ((rv2.1.Set.1.map (Value.int .u64)) ++ ([v10]))) ti27 rfl (by simp [rv2.1.Set.2]) (hs.cells (i := 1) rfl)) rfl ?_
                obtain ⟨rv18, hrv18, hM⟩ := bindS hM
                refine CG rfl rfl rfl (by rw [hg25]; rfl) [Value.agg (List.toArray (α := Value) (([Value.int .i64 rv2.1.Kind]) ++ ((rv2.1.Set.1.map (Value.int .u64)) ++ ([v10]))))] cf21 rfl (regex_Format_ok hrv18 hs.imm (tT_Regex_iff.2 ⟨[Value.int .i64 rv2.1.Kind], rv2.1.Set.1.map (Value.int .u64), [v10], rfl, rfl, rfl, ⟨_, rfl, hRv10⟩⟩) hG0) rfl ?_
                rintro v40 wv28 ⟨gg19, hvv40, hegg19⟩
                have hlegg19 := hegg19.le hs.imm
                replace hs := hs.call hegg19
                replace hRv5 := hRv5.mono hlegg19
                replace hRv10 := hRv10.mono hlegg19
                replace hRv15 := hRv15.mono hlegg19
                replace hG0 := hG0.mono hlegg19
                replace hagg5 := hagg5.trans hlegg19
                obtain ⟨cs49, rfl, hcs49⟩ := hvv40
                have hcs49 : cs49 = _ := hcs49; subst hcs49
                refine OG rfl rfl rfl (by rw [hg25]; rfl) (r_eqlS rfl rfl) rfl ?_
                refine O (r_pickT (v := Value.bool (rv18 == [97, 97, 42])) rfl hg25 rfl) rfl ?_
                refine O (r_move (v := Value.bool (rv18 == [97, 97, 42])) rfl) rfl ?_
                rcases condS hM with ⟨hg26, hM⟩ | ⟨hg26, hM⟩
                · refine OG rfl rfl rfl (by rw [hg26]; rfl) (r_loadN (cs := ([Value.int .i64 rv3.1.Kind]) ++ ((rv3.1.Set.1.map (Value.int .u64)) ++ ([v15]))) ti27 rfl (by simp [rv3.1.Set.2]) (hs.cells (i := 0) rfl)) rfl ?_
                  obtain ⟨rv19, hrv19, hM⟩ := bindS hM
                  refine CG rfl rfl rfl (by rw [hg26]; rfl) [Value.agg (List.toArray (α := Value) (([Value.int .i64 rv3.1.Kind]) ++ ((rv3.1.Set.1.map (Value.int .u64)) ++ ([v15]))))] cf21 rfl (regex_Format_ok hrv19 hs.imm (tT_Regex_iff.2 ⟨[Value.int .i64 rv3.1.Kind], rv3.1.Set.1.map (Value.int .u64), [v15], rfl, rfl, rfl, ⟨_, rfl, hRv15⟩⟩) hG0) rfl ?_
                  rintro v41 wv29 ⟨gg20, hvv41, hegg20⟩
                  have hlegg20 := hegg20.le hs.imm
                  replace hs := hs.call hegg20
                  replace hRv5 := hRv5.mono hlegg20
                  replace hRv10 := hRv10.mono hlegg20
                  replace hRv15 := hRv15.mono hlegg20
                  replace hG0 := hG0.mono hlegg20
                  replace hagg5 := hagg5.trans hlegg20
                  obtain ⟨cs50, rfl, hcs50⟩ := hvv41
                  have hcs50 : cs50 = _ := hcs50; subst hcs50
                  refine OG rfl rfl rfl (by rw [hg26]; rfl) (r_eqlS rfl rfl) rfl ?_
                  refine O (r_pickT (v := Value.bool (rv19 == [91, 97, 45, 99, 120, 93, 124, 40, 41])) rfl hg26 rfl) rfl ?_
                  refine O (r_move (v := Value.bool (rv19 == [91, 97, 45, 99, 120, 93, 124, 40, 41])) rfl) rfl ?_
                  rcases condS hM with ⟨hg27, hM⟩ | ⟨hg27, hM⟩
                  · refine OG rfl rfl rfl (by rw [hg27]; rfl) (r_loadN (cs := ([Value.int .i64 rv1.1.Kind]) ++ ((rv1.1.Set.1.map (Value.int .u64)) ++ ([v5]))) ti27 rfl (by simp [rv1.1.Set.2]) (hs.cells (i := 2) rfl)) rfl ?_
                    obtain ⟨rv20, hrv20, hM⟩ := bindS hM
                    refine CG rfl rfl rfl (by rw [hg27]; rfl) [Value.agg (List.toArray (α := Value) (([Value.int .i64 rv1.1.Kind]) ++ ((rv1.1.Set.1.map (Value.int .u64)) ++ ([v5]))))] cf14 rfl (regex_Valid_ok hrv20 hs.imm (tT_Regex_iff.2 ⟨[Value.int .i64 rv1.1.Kind], rv1.1.Set.1.map (Value.int .u64), [v5], rfl, rfl, rfl, ⟨_, rfl, hRv5⟩⟩)) rfl ?_
                    rintro v42 wv30 ⟨gg21, hvv42, hegg21⟩
                    have hlegg21 := hegg21.le hs.imm
                    replace hs := hs.call hegg21
                    replace hRv5 := hRv5.mono hlegg21
                    replace hRv10 := hRv10.mono hlegg21
                    replace hRv15 := hRv15.mono hlegg21
                    replace hG0 := hG0.mono hlegg21
                    replace hagg5 := hagg5.trans hlegg21
                    obtain ⟨cs51, rfl, hcs51⟩ := hvv42
                    have hcs51 : cs51 = _ := hcs51; subst hcs51
                    refine O (r_pickT (v := Value.bool rv20) rfl hg27 rfl) rfl ?_
                    refine O (r_move (v := Value.bool rv20) rfl) rfl ?_
                    rcases condS hM with ⟨hg28, hM⟩ | ⟨hg28, hM⟩
                    · refine OG rfl rfl rfl (by rw [hg28]; rfl) (r_loadN (cs := ([Value.int .i64 rv1.1.Kind]) ++ ((rv1.1.Set.1.map (Value.int .u64)) ++ ([v5]))) ti27 rfl (by simp [rv1.1.Set.2]) (hs.cells (i := 2) rfl)) rfl ?_
                      obtain ⟨rv21, hrv21, hM⟩ := bindS hM
                      refine CG rfl rfl rfl (by rw [hg28]; rfl) [Value.agg (List.toArray (α := Value) (([Value.int .i64 rv1.1.Kind]) ++ ((rv1.1.Set.1.map (Value.int .u64)) ++ ([v5]))))] cf25 rfl (regex_Nullable_ok hrv21 hs.imm (tT_Regex_iff.2 ⟨[Value.int .i64 rv1.1.Kind], rv1.1.Set.1.map (Value.int .u64), [v5], rfl, rfl, rfl, ⟨_, rfl, hRv5⟩⟩)) rfl ?_
                      rintro v43 wv31 ⟨gg22, hvv43, hegg22⟩
                      have hlegg22 := hegg22.le hs.imm
                      replace hs := hs.call hegg22
                      replace hRv5 := hRv5.mono hlegg22
                      replace hRv10 := hRv10.mono hlegg22
                      replace hRv15 := hRv15.mono hlegg22
                      replace hG0 := hG0.mono hlegg22
                      replace hagg5 := hagg5.trans hlegg22
                      obtain ⟨cs52, rfl, hcs52⟩ := hvv43
                      have hcs52 : cs52 = _ := hcs52; subst hcs52
                      refine OG rfl rfl rfl (by rw [hg28]; rfl) (r_not rfl) rfl ?_
                      refine O (r_pickT (v := Value.bool (!rv21)) rfl hg28 rfl) rfl ?_
                      refine O (r_move (v := Value.bool (!rv21)) rfl) rfl ?_
                      rcases condS hM with ⟨hg29, hM⟩ | ⟨hg29, hM⟩
                      · refine OG rfl rfl rfl (by rw [hg29]; rfl) (r_loadN (cs := ([Value.int .i64 rv1.1.Kind]) ++ ((rv1.1.Set.1.map (Value.int .u64)) ++ ([v5]))) ti27 rfl (by simp [rv1.1.Set.2]) (hs.cells (i := 2) rfl)) rfl ?_
                        obtain ⟨rv22, hrv22, hM⟩ := bindS hM
                        refine CG rfl rfl rfl (by rw [hg29]; rfl) [Value.agg (List.toArray (α := Value) (([Value.int .i64 rv1.1.Kind]) ++ ((rv1.1.Set.1.map (Value.int .u64)) ++ ([v5])))), Value.int .u8 97] cf26 rfl (regex_Derive_ok hrv22 hs.imm (tT_Regex_iff.2 ⟨[Value.int .i64 rv1.1.Kind], rv1.1.Set.1.map (Value.int .u64), [v5], rfl, rfl, rfl, ⟨_, rfl, hRv5⟩⟩)) rfl ?_
                        rintro v44 wv32 ⟨gg23, hvv44, hegg23⟩
                        have hlegg23 := hegg23.le hs.imm
                        replace hs := hs.call hegg23
                        replace hRv5 := hRv5.mono hlegg23
                        replace hRv10 := hRv10.mono hlegg23
                        replace hRv15 := hRv15.mono hlegg23
                        replace hG0 := hG0.mono hlegg23
                        replace hagg5 := hagg5.trans hlegg23
                        obtain ⟨cs53, rfl, hcs53⟩ := hvv44
                        obtain ⟨cs54, cs55, cs56, rfl, hcs54, hcs55, hcs56⟩ := tT_Regex_iff.1 hcs53
                        have hcs54 : cs54 = _ := hcs54; subst hcs54
                        have hcs55 : cs55 = _ := hcs55; subst hcs55
                        obtain ⟨v45, rfl, hRv45⟩ := hcs56
                        obtain ⟨rv23, hrv23, hM⟩ := bindS hM
                        refine CG rfl rfl rfl (by rw [hg29]; rfl) [Value.agg (List.toArray (α := Value) (([Value.int .i64 rv22.Kind]) ++ ((rv22.Set.1.map (Value.int .u64)) ++ ([v45])))), encS [99, 98]] cf23 rfl (regex_Match_ok hrv23 hs.imm (tT_Regex_iff.2 ⟨[Value.int .i64 rv22.Kind], rv22.Set.1.map (Value.int .u64), [v45], rfl, rfl, rfl, ⟨_, rfl, hRv45⟩⟩)) rfl ?_
                        rintro v46 wv33 ⟨gg24, hvv46, hegg24⟩
                        have hlegg24 := hegg24.le hs.imm
                        replace hs := hs.call hegg24
                        replace hRv5 := hRv5.mono hlegg24
                        replace hRv10 := hRv10.mono hlegg24
                        replace hRv15 := hRv15.mono hlegg24
                        replace hG0 := hG0.mono hlegg24
                        replace hRv45 := hRv45.mono hlegg24
                        replace hagg5 := hagg5.trans hlegg24
                        obtain ⟨cs57, rfl, hcs57⟩ := hvv46
                        have hcs57 : cs57 = _ := hcs57; subst hcs57
                        refine O (r_pickT (v := Value.bool rv23) rfl hg29 rfl) rfl ?_
                        refine O (r_move (v := Value.bool rv23) rfl) rfl ?_
                        rcases condS hM with ⟨hg30, hM⟩ | ⟨hg30, hM⟩
                        · refine OG rfl rfl rfl (by rw [hg30]; rfl) (r_loadN (cs := ([Value.int .i64 rv1.1.Kind]) ++ ((rv1.1.Set.1.map (Value.int .u64)) ++ ([v5]))) ti27 rfl (by simp [rv1.1.Set.2]) (hs.cells (i := 2) rfl)) rfl ?_
                          obtain ⟨rv24, hrv24, hM⟩ := bindS hM
                          refine CG rfl rfl rfl (by rw [hg30]; rfl) [Value.agg (List.toArray (α := Value) (([Value.int .i64 rv1.1.Kind]) ++ ((rv1.1.Set.1.map (Value.int .u64)) ++ ([v5])))), Value.int .u8 98] cf26 rfl (regex_Derive_ok hrv24 hs.imm (tT_Regex_iff.2 ⟨[Value.int .i64 rv1.1.Kind], rv1.1.Set.1.map (Value.int .u64), [v5], rfl, rfl, rfl, ⟨_, rfl, hRv5⟩⟩)) rfl ?_
                          rintro v47 wv34 ⟨gg25, hvv47, hegg25⟩
                          have hlegg25 := hegg25.le hs.imm
                          replace hs := hs.call hegg25
                          replace hRv5 := hRv5.mono hlegg25
                          replace hRv10 := hRv10.mono hlegg25
                          replace hRv15 := hRv15.mono hlegg25
                          replace hG0 := hG0.mono hlegg25
                          replace hRv45 := hRv45.mono hlegg25
                          replace hagg5 := hagg5.trans hlegg25
                          obtain ⟨cs58, rfl, hcs58⟩ := hvv47
                          obtain ⟨cs59, cs60, cs61, rfl, hcs59, hcs60, hcs61⟩ := tT_Regex_iff.1 hcs58
                          have hcs59 : cs59 = _ := hcs59; subst hcs59
                          have hcs60 : cs60 = _ := hcs60; subst hcs60
                          obtain ⟨v48, rfl, hRv48⟩ := hcs61
                          obtain ⟨rv25, hrv25, hM⟩ := bindS hM
                          refine CG rfl rfl rfl (by rw [hg30]; rfl) [Value.agg (List.toArray (α := Value) (([Value.int .i64 rv24.Kind]) ++ ((rv24.Set.1.map (Value.int .u64)) ++ ([v48])))), encS []] cf23 rfl (regex_Match_ok hrv25 hs.imm (tT_Regex_iff.2 ⟨[Value.int .i64 rv24.Kind], rv24.Set.1.map (Value.int .u64), [v48], rfl, rfl, rfl, ⟨_, rfl, hRv48⟩⟩)) rfl ?_
                          rintro v49 wv35 ⟨gg26, hvv49, hegg26⟩
                          have hlegg26 := hegg26.le hs.imm
                          replace hs := hs.call hegg26
                          replace hRv5 := hRv5.mono hlegg26
                          replace hRv10 := hRv10.mono hlegg26
                          replace hRv15 := hRv15.mono hlegg26
                          replace hG0 := hG0.mono hlegg26
                          replace hRv45 := hRv45.mono hlegg26
                          replace hRv48 := hRv48.mono hlegg26
                          replace hagg5 := hagg5.trans hlegg26
                          obtain ⟨cs62, rfl, hcs62⟩ := hvv49
                          have hcs62 : cs62 = _ := hcs62; subst hcs62
                          refine OG rfl rfl rfl (by rw [hg30]; rfl) (r_not rfl) rfl ?_
                          refine O (r_pickT (v := Value.bool (!rv25)) rfl hg30 rfl) rfl ?_
                          refine O (r_assign (v := Value.bool (!rv25)) rfl) rfl ?_
                          refine OW_nil ?_
                          obtain rfl := Option.some.inj hM
                          exact ⟨gg26, rfl, hds, hagg5, (hs.sub (.cons _ (.cons _ (.cons _ .slnil))))⟩
                        · refine OK rfl rfl rfl (by rw [hg30]; rfl) rfl ?_
                          refine OK rfl rfl rfl (by rw [hg30]; rfl) rfl ?_
                          refine OK rfl rfl rfl (by rw [hg30]; rfl) rfl ?_
                          refine OK rfl rfl rfl (by rw [hg30]; rfl) rfl ?_
                          refine O (r_pickF (v := Value.bool false) rfl hg30 rfl) rfl ?_
                          refine O (r_assign (v := Value.bool false) rfl) rfl ?_
                          refine OW_nil ?_
                          obtain rfl := Option.some.inj hM
                          exact ⟨gg24, rfl, hds, hagg5, (hs.sub (.cons _ (.cons _ (.cons _ .slnil))))⟩
                      · refine OK rfl rfl rfl (by rw [hg29]; rfl) rfl ?_
                        refine OK rfl rfl rfl (by rw [hg29]; rfl) rfl ?_
                        refine OK rfl rfl rfl (by rw [hg29]; rfl) rfl ?_
                        refine O (r_pickF (v := Value.bool false) rfl hg29 rfl) rfl ?_
                        refine O (r_move (v := Value.bool false) rfl) rfl ?_
                        refine OK rfl rfl rfl rfl rfl ?_
                        refine OK rfl rfl rfl rfl rfl ?_
                        refine OK rfl rfl rfl rfl rfl ?_
                        refine OK rfl rfl rfl rfl rfl ?_
                        refine O (r_pickF (v := Value.bool false) rfl rfl rfl) rfl ?_
                        refine O (r_assign (v := Value.bool false) rfl) rfl ?_
                        refine OW_nil ?_
                        obtain rfl := Option.some.inj hM
                        exact ⟨gg22, rfl, hds, hagg5, (hs.sub (.cons _ (.cons _ (.cons _ .slnil))))⟩
                    · refine OK rfl rfl rfl (by rw [hg28]; rfl) rfl ?_
                      refine OK rfl rfl rfl (by rw [hg28]; rfl) rfl ?_
                      refine OK rfl rfl rfl (by rw [hg28]; rfl) rfl ?_
                      refine O (r_pickF (v := Value.bool false) rfl hg28 rfl) rfl ?_
                      refine O (r_move (v := Value.bool false) rfl) rfl ?_
                      refine OK rfl rfl rfl rfl rfl ?_
                      refine OK rfl rfl rfl rfl rfl ?_
                      refine OK rfl rfl rfl rfl rfl ?_
                      refine O (r_pickF (v := Value.bool false) rfl rfl rfl) rfl ?_
                      refine O (r_move (v := Value.bool false) rfl) rfl ?_
                      refine OK rfl rfl rfl rfl rfl ?_
                      refine OK rfl rfl rfl rfl rfl ?_
                      refine OK rfl rfl rfl rfl rfl ?_
                      refine OK rfl rfl rfl rfl rfl ?_
                      refine O (r_pickF (v := Value.bool false) rfl rfl rfl) rfl ?_
                      refine O (r_assign (v := Value.bool false) rfl) rfl ?_
                      refine OW_nil ?_
                      obtain rfl := Option.some.inj hM
                      exact ⟨gg21, rfl, hds, hagg5, (hs.sub (.cons _ (.cons _ (.cons _ .slnil))))⟩
                  · refine OK rfl rfl rfl (by rw [hg27]; rfl) rfl ?_
                    refine OK rfl rfl rfl (by rw [hg27]; rfl) rfl ?_
                    refine O (r_pickF (v := Value.bool false) rfl hg27 rfl) rfl ?_
                    refine O (r_move (v := Value.bool false) rfl) rfl ?_
                    refine OK rfl rfl rfl rfl rfl ?_
                    refine OK rfl rfl rfl rfl rfl ?_
                    refine OK rfl rfl rfl rfl rfl ?_
                    refine O (r_pickF (v := Value.bool false) rfl rfl rfl) rfl ?_
                    refine O (r_move (v := Value.bool false) rfl) rfl ?_
                    refine OK rfl rfl rfl rfl rfl ?_
                    refine OK rfl rfl rfl rfl rfl ?_
                    refine OK rfl rfl rfl rfl rfl ?_
                    refine O (r_pickF (v := Value.bool false) rfl rfl rfl) rfl ?_
                    refine O (r_move (v := Value.bool false) rfl) rfl ?_
                    refine OK rfl rfl rfl rfl rfl ?_
                    refine OK rfl rfl rfl rfl rfl ?_
                    refine OK rfl rfl rfl rfl rfl ?_
                    refine OK rfl rfl rfl rfl rfl ?_
                    refine O (r_pickF (v := Value.bool false) rfl rfl rfl) rfl ?_
                    refine O (r_assign (v := Value.bool false) rfl) rfl ?_
                    refine OW_nil ?_
                    obtain rfl := Option.some.inj hM
                    exact ⟨gg20, rfl, hds, hagg5, (hs.sub (.cons _ (.cons _ (.cons _ .slnil))))⟩
                · refine OK rfl rfl rfl (by rw [hg26]; rfl) rfl ?_
                  refine OK rfl rfl rfl (by rw [hg26]; rfl) rfl ?_
                  refine OK rfl rfl rfl (by rw [hg26]; rfl) rfl ?_
                  refine O (r_pickF (v := Value.bool false) rfl hg26 rfl) rfl ?_
                  refine O (r_move (v := Value.bool false) rfl) rfl ?_
                  refine OK rfl rfl rfl rfl rfl ?_
                  refine OK rfl rfl rfl rfl rfl ?_
                  refine O (r_pickF (v := Value.bool false) rfl rfl rfl) rfl ?_
                  refine O (r_move (v := Value.bool false) rfl) rfl ?_
                  refine OK rfl rfl rfl rfl rfl ?_
                  refine OK rfl rfl rfl rfl rfl ?_
                  refine OK rfl rfl rfl rfl rfl ?_
                  refine O (r_pickF (v := Value.bool false) rfl rfl rfl) rfl ?_
                  refine O (r_move (v := Value.bool false) rfl) rfl ?_
                  refine OK rfl rfl rfl rfl rfl ?_
                  refine OK rfl rfl rfl rfl rfl ?_
                  refine OK rfl rfl rfl rfl rfl ?_
                  refine O (r_pickF (v := Value.bool false) rfl rfl rfl) rfl ?_
                  refine O (r_move (v := Value.bool false) rfl) rfl ?_
                  refine OK rfl rfl rfl rfl rfl ?_
                  refine OK rfl rfl rfl rfl rfl ?_
                  refine OK rfl rfl rfl rfl rfl ?_
                  refine OK rfl rfl rfl rfl rfl ?_
                  refine O (r_pickF (v := Value.bool false) rfl rfl rfl) rfl ?_
                  refine O (r_assign (v := Value.bool false) rfl) rfl ?_
                  refine OW_nil ?_
                  obtain rfl := Option.some.inj hM
                  exact ⟨gg19, rfl, hds, hagg5, (hs.sub (.cons _ (.cons _ (.cons _ .slnil))))⟩
              · refine OK rfl rfl rfl (by rw [hg25]; rfl) rfl ?_
                refine OK rfl rfl rfl (by rw [hg25]; rfl) rfl ?_
                refine OK rfl rfl rfl (by rw [hg25]; rfl) rfl ?_
                refine O (r_pickF (v := Value.bool false) rfl hg25 rfl) rfl ?_
                refine O (r_move (v := Value.bool false) rfl) rfl ?_
                refine OK rfl rfl rfl rfl rfl ?_
                refine OK rfl rfl rfl rfl rfl ?_
                refine OK rfl rfl rfl rfl rfl ?_
                refine O (r_pickF (v := Value.bool false) rfl rfl rfl) rfl ?_
                refine O (r_move (v := Value.bool false) rfl) rfl ?_
                refine OK rfl rfl rfl rfl rfl ?_
                refine OK rfl rfl rfl rfl rfl ?_
                refine O (r_pickF (v := Value.bool false) rfl rfl rfl) rfl ?_
                refine O (r_move (v := Value.bool false) rfl) rfl ?_
                refine OK rfl rfl rfl rfl rfl ?_
                refine OK rfl rfl rfl rfl rfl ?_
                refine OK rfl rfl rfl rfl rfl ?_
                refine O (r_pickF (v := Value.bool false) rfl rfl rfl) rfl ?_
                refine O (r_move (v := Value.bool false) rfl) rfl ?_
                refine OK rfl rfl rfl rfl rfl ?_
                refine OK rfl rfl rfl rfl rfl ?_
                refine OK rfl rfl rfl rfl rfl ?_
                refine O (r_pickF (v := Value.bool false) rfl rfl rfl) rfl ?_
                refine O (r_move (v := Value.bool false) rfl) rfl ?_
                refine OK rfl rfl rfl rfl rfl ?_
                refine OK rfl rfl rfl rfl rfl ?_
                refine OK rfl rfl rfl rfl rfl ?_
                refine OK rfl rfl rfl rfl rfl ?_
                refine O (r_pickF (v := Value.bool false) rfl rfl rfl) rfl ?_
                refine O (r_assign (v := Value.bool false) rfl) rfl ?_
                refine OW_nil ?_
                obtain rfl := Option.some.inj hM
                exact ⟨gg18, rfl, hds, hagg5, (hs.sub (.cons _ (.cons _ (.cons _ .slnil))))⟩
            · refine OK rfl rfl rfl (by rw [hg24]; rfl) rfl ?_
              refine OK rfl rfl rfl (by rw [hg24]; rfl) rfl ?_
              refine OK rfl rfl rfl (by rw [hg24]; rfl) rfl ?_
              refine O (r_pickF (v := Value.bool false) rfl hg24 rfl) rfl ?_
              refine O (r_move (v := Value.bool false) rfl) rfl ?_
              refine OK rfl rfl rfl rfl rfl ?_
              refine OK rfl rfl rfl rfl rfl ?_
              refine OK rfl rfl rfl rfl rfl ?_
              refine O (r_pickF (v := Value.bool false) rfl rfl rfl) rfl ?_
              refine O (r_move (v := Value.bool false) rfl) rfl ?_
              refine OK rfl rfl rfl rfl rfl ?_
              refine OK rfl rfl rfl rfl rfl ?_
              refine OK rfl rfl rfl rfl rfl ?_
              refine O (r_pickF (v := Value.bool false) rfl rfl rfl) rfl ?_
              refine O (r_move (v := Value.bool false) rfl) rfl ?_
              refine OK rfl rfl rfl rfl rfl ?_
              refine OK rfl rfl rfl rfl rfl ?_
              refine O (r_pickF (v := Value.bool false) rfl rfl rfl) rfl ?_
              refine O (r_move (v := Value.bool false) rfl) rfl ?_
              refine OK rfl rfl rfl rfl rfl ?_
              refine OK rfl rfl rfl rfl rfl ?_
              refine OK rfl rfl rfl rfl rfl ?_
              refine O (r_pickF (v := Value.bool false) rfl rfl rfl) rfl ?_
              refine O (r_move (v := Value.bool false) rfl) rfl ?_
              refine OK rfl rfl rfl rfl rfl ?_
              refine OK rfl rfl rfl rfl rfl ?_
              refine OK rfl rfl rfl rfl rfl ?_
              refine O (r_pickF (v := Value.bool false) rfl rfl rfl) rfl ?_
              refine O (r_move (v := Value.bool false) rfl) rfl ?_
              refine OK rfl rfl rfl rfl rfl ?_
              refine OK rfl rfl rfl rfl rfl ?_
              refine OK rfl rfl rfl rfl rfl ?_
              refine OK rfl rfl rfl rfl rfl ?_
              refine O (r_pickF (v := Value.bool false) rfl rfl rfl) rfl ?_
              refine O (r_assign (v := Value.bool false) rfl) rfl ?_
              refine OW_nil ?_
              obtain rfl := Option.some.inj hM
              exact ⟨gg17, rfl, hds, hagg5, (hs.sub (.cons _ (.cons _ (.cons _ .slnil))))⟩
          · refine OK rfl rfl rfl (by rw [hg23]; rfl) rfl ?_
            refine OK rfl rfl rfl (by rw [hg23]; rfl) rfl ?_
            refine O (r_pickF (v := Value.bool false) rfl hg23 rfl) rfl ?_
            refine O (r_move (v := Value.bool false) rfl) rfl ?_
            refine OK rfl rfl rfl rfl rfl ?_
            refine OK rfl rfl rfl rfl rfl ?_
            refine OK rfl rfl rfl rfl rfl ?_
            refine O (r_pickF (v := Value.bool false) rfl rfl rfl) rfl ?_
            refine O (r_move (v := Value.bool false) rfl) rfl ?_
            refine OK rfl rfl rfl rfl rfl ?_
            refine OK rfl rfl rfl rfl rfl ?_
            refine OK rfl rfl rfl rfl rfl ?_
            refine O (r_pickF (v := Value.bool false) rfl rfl rfl) rfl ?_
            refine O (r_move (v := Value.bool false) rfl) rfl ?_
            refine OK rfl rfl rfl rfl rfl ?_
            refine OK rfl rfl rfl rfl rfl ?_
            refine OK rfl rfl rfl rfl rfl ?_
            refine O (r_pickF (v := Value.bool false) rfl rfl rfl) rfl ?_
            refine O (r_move (v := Value.bool false) rfl) rfl ?_
            refine OK rfl rfl rfl rfl rfl ?_
            refine OK rfl rfl rfl rfl rfl ?_
            refine O (r_pickF (v := Value.bool false) rfl rfl rfl) rfl ?_
            refine O (r_move (v := Value.bool false) rfl) rfl ?_
            refine OK rfl rfl rfl rfl rfl ?_
            refine OK rfl rfl rfl rfl rfl ?_
            refine OK rfl rfl rfl rfl rfl ?_
            refine O (r_pickF (v := Value.bool false) rfl rfl rfl) rfl ?_
            refine O (r_move (v := Value.bool false) rfl) rfl ?_
            refine OK rfl rfl rfl rfl rfl ?_
            refine OK rfl rfl rfl rfl rfl ?_
            refine OK rfl rfl rfl rfl rfl ?_
            refine O (r_pickF (v := Value.bool false) rfl rfl rfl) rfl ?_
            refine O (r_move (v := Value.bool false) rfl) rfl ?_
            refine OK rfl rfl rfl rfl rfl ?_
            refine OK rfl rfl rfl rfl rfl ?_
            refine OK rfl rfl rfl rfl rfl ?_
            refine OK rfl rfl rfl rfl rfl ?_
            refine O (r_pickF (v := Value.bool false) rfl rfl rfl) rfl ?_
            refine O (r_assign (v := Value.bool false) rfl) rfl ?_
            refine OW_nil ?_
            obtain rfl := Option.some.inj hM
            exact ⟨gg5, rfl, hds, (Hle.refl _), (hs.sub (.cons _ (.cons _ (.cons _ .slnil))))⟩
        · refine OK rfl rfl rfl (by rw [hg22]; rfl) rfl ?_
          refine OK rfl rfl rfl (by rw [hg22]; rfl) rfl ?_
          refine OK rfl rfl rfl (by rw [hg22]; rfl) rfl ?_
          refine OK rfl rfl rfl (by rw [hg22]; rfl) rfl ?_
          refine O (r_pickF (v := Value.bool false) rfl hg22 rfl) rfl ?_
          refine O (r_move (v := Value.bool false) rfl) rfl ?_
          refine OK rfl rfl rfl rfl rfl ?_
          refine OK rfl rfl rfl rfl rfl ?_
          refine O (r_pickF (v := Value.bool false) rfl rfl rfl) rfl ?_
          refine O (r_move (v := Value.bool false) rfl) rfl ?_
          refine OK rfl rfl rfl rfl rfl ?_
          refine OK rfl rfl rfl rfl rfl ?_
          refine OK rfl rfl rfl rfl rfl ?_
          refine O (r_pickF (v := Value.bool false) rfl rfl rfl) rfl ?_
          refine O (r_move (v := Value.bool false) rfl) rfl ?_
          refine OK rfl rfl rfl rfl rfl ?_
          refine OK rfl rfl rfl rfl rfl ?_
          refine OK rfl rfl rfl rfl rfl ?_
          refine O (r_pickF (v := Value.bool false) rfl rfl rfl) rfl ?_
          refine O (r_move (v := Value.bool false) rfl) rfl ?_
          refine OK rfl rfl rfl rfl rfl ?_
          refine OK rfl rfl rfl rfl rfl ?_
          refine OK rfl rfl rfl rfl rfl ?_
          refine O (r_pickF (v := Value.bool false) rfl rfl rfl) rfl ?_
          refine O (r_move (v := Value.bool false) rfl) rfl ?_
          refine OK rfl rfl rfl rfl rfl ?_
          refine OK rfl rfl rfl rfl rfl ?_
          refine O (r_pickF (v := Value.bool false) rfl rfl rfl) rfl ?_
          refine O (r_move (v := Value.bool false) rfl) rfl ?_
          refine OK rfl rfl rfl rfl rfl ?_
          refine OK rfl rfl rfl rfl rfl ?_
          refine OK rfl rfl rfl rfl rfl ?_
          refine O (r_pickF (v := Value.bool false) rfl rfl rfl) rfl ?_
          refine O (r_move (v := Value.bool false) rfl) rfl ?_
          refine OK rfl rfl rfl rfl rfl ?_
          refine OK rfl rfl rfl rfl rfl ?_
          refine OK rfl rfl rfl rfl rfl ?_
          refine O (r_pickF (v := Value.bool false) rfl rfl rfl) rfl ?_
          refine O (r_move (v := Value.bool false) rfl) rfl ?_
          refine OK rfl rfl rfl rfl rfl ?_
          refine OK rfl rfl rfl rfl rfl ?_
          refine OK rfl rfl rfl rfl rfl ?_
          refine OK rfl rfl rfl rfl rfl ?_
          refine O (r_pickF (v := Value.bool false) rfl rfl rfl) rfl ?_
          refine O (r_assign (v := Value.bool false) rfl) rfl ?_
          refine OW_nil ?_
          obtain rfl := Option.some.inj hM
          exact ⟨gg5, rfl, hds, (Hle.refl _), (hs.sub (.cons _ (.cons _ (.cons _ .slnil))))⟩
      · clear hs
        rintro E w ⟨gg16, hE0, hds, hlegg16, hs⟩
        have hM := hKhx2
        obtain ⟨E, rfl⟩ := open1 (E := E) hE0
        replace hG0 := hG0.mono hlegg16
        refine WP_ret ?_
        obtain rfl := Option.some.inj hM
        refine FL_nil hds ?_
        exact ⟨_, res1 Tryd.results13 (rv_tmp (v := Value.bool xv2) rfl), gg16, ⟨[Value.bool xv2], rfl, rfl⟩, hs.ext⟩

set_option maxRecDepth 100000 in
theorem law08_small_ok {rv1 : T_Regex} {most1 : Int} {r : Bool} (hM : M.law08_small rv1 most1 = some r) {g0 : Hp} {w0 : World} (hi : Imm g0 w0) {cs1 : List Value} (hcs1 : tT_Regex.rel g0 cs1 rv1) :
    CallsV Tryd.prog 19 #[Value.agg cs1.toArray, Value.int .i64 most1] w0 (fun v w' => ∃ g', (VRd tBool false g' v r) ∧ Ext g0 w0 g' w') := by
  unfold M.law08_small at hM
  obtain ⟨cs2, cs3, cs4, rfl, hcs2, hcs3, hcs4⟩ := tT_Regex_iff.1 hcs1
  have hcs2 : cs2 = _ := hcs2; subst hcs2
  have hcs3 : cs3 = _ := hcs3; subst hcs3
  obtain ⟨v1, rfl, hRv1⟩ := hcs4
  have hs := Sep.start hi
  refine calls_of_WP (args := [Value.agg (List.toArray (α := Value) (([Value.int .i64 rv1.Kind]) ++ ((rv1.Set.1.map (Value.int .u64)) ++ ([v1])))), Value.int .i64 most1]) Tryd.func19 rfl Tryd.ntmps19 rfl ?_
  have hds : (argEnv [Value.agg (List.toArray (α := Value) (([Value.int .i64 rv1.Kind]) ++ ((rv1.Set.1.map (Value.int .u64)) ++ ([v1])))), Value.int .i64 most1]).ds = [] := rfl
  refine WP_seq ?_
  refine WP_region ?_
  refine OW_box (v := Value.agg (List.toArray (α := Value) (([Value.int .i64 rv1.Kind]) ++ ((rv1.Set.1.map (Value.int .u64)) ++ ([v1]))))) rfl hs (zs := ([Value.int .i64 rv1.Kind]) ++ ((rv1.Set.1.map (Value.int .u64)) ++ ([v1]))) rfl rfl ?_
  intro b1 wv1 hs
  refine O (r_assign (v := Value.bool false) rfl) rfl ?_
  refine OW_nil ?_
  obtain ⟨xv1, hx1, hKhx1⟩ := bindS hM
  refine WP_cut (fun E w => ∃ (gg4 : Hp), E 4 = Value.bool xv1 ∧ E.ds = [] ∧ Hle g0 gg4 ∧ Go.Lx.Sep g0 w0 gg4 w []) ?_ ?_
  · have hM := hx1
    have hag0 := Hle.refl g0
    refine WP_region ?_
    refine O (r_loadN (cs := ([Value.int .i64 rv1.Kind]) ++ ((rv1.Set.1.map (Value.int .u64)) ++ ([v1]))) ti27 rfl (by simp [rv1.Set.2]) (hs.cells (i := 0) rfl)) rfl ?_
    refine O (r_move (v := Value.int .i64 most1) rfl) rfl ?_
    obtain ⟨rv5, hrv5, hM⟩ := bindS hM
    refine C [Value.agg (List.toArray (α := Value) (([Value.int .i64 rv1.Kind]) ++ ((rv1.Set.1.map (Value.int .u64)) ++ ([v1])))), Value.int .i64 most1] cf12 rfl (ref08_Few_ok hrv5 hs.imm (tT_Regex_iff.2 ⟨[Value.int .i64 rv1.Kind], rv1.Set.1.map (Value.int .u64), [v1], rfl, rfl, rfl, ⟨_, rfl, hRv1⟩⟩)) rfl ?_
    rintro v5 wv5 ⟨gg5, hvv5, hegg5⟩
    have hlegg5 := hegg5.le hs.imm
    replace hs := hs.call hegg5
    replace hRv1 := hRv1.mono hlegg5
    replace hag0 := hag0.trans hlegg5
    obtain ⟨cs8, rfl, hcs8⟩ := hvv5
    have hcs8 : cs8 = _ := hcs8; subst hcs8
    refine O (r_move (v := Value.bool rv5) rfl) rfl ?_
    rcases condS hM with ⟨hg3, hM⟩ | ⟨hg3, hM⟩
    · refine OG rfl rfl rfl (by rw [hg3]; rfl) (r_loadN (cs := ([Value.int .i64 rv1.Kind]) ++ ((rv1.Set.1.map (Value.int .u64)) ++ ([v1]))) ti27 rfl (by simp [rv1.Set.2]) (hs.cells (i := 0) rfl)) rfl ?_
      obtain ⟨rv6, hrv6, hM⟩ := bindS hM
      refine CG rfl rfl rfl (by rw [hg3]; rfl) [Value.agg (List.toArray (α := Value) (([Value.int .i64 rv1.Kind]) ++ ((rv1.Set.1.map (Value.int .u64)) ++ ([v1]))))] cf15 rfl (ref08_Valid_ok hrv6 hs.imm (tT_Regex_iff.2 ⟨[Value.int .i64 rv1.Kind], rv1.Set.1.map (Value.int .u64), [v1], rfl, rfl, rfl, ⟨_, rfl, hRv1⟩⟩)) rfl ?_
      rintro v6 wv6 ⟨gg6, hvv6, hegg6⟩
      have hlegg6 := hegg6.le hs.imm
      replace hs := hs.call hegg6
      replace hRv1 := hRv1.mono hlegg6
      replace hag0 := hag0.trans hlegg6
      obtain ⟨cs9, rfl, hcs9⟩ := hvv6
      have hcs9 : cs9 = _ := hcs9; subst hcs9
      refine O (r_pickT (v := Value.bool rv6) rfl hg3 rfl) rfl ?_
      refine O (r_move (v := Value.bool rv6) rfl) rfl ?_
      rcases condS hM with ⟨hg4, hM⟩ | ⟨hg4, hM⟩
      · refine OG rfl rfl rfl (by rw [hg4]; rfl) (r_loadN (cs := ([Value.int .i64 rv1.Kind]) ++ ((rv1.Set.1.map (Value.int .u64)) ++ ([v1]))) ti27 rfl (by simp [rv1.Set.2]) (hs.cells (i := 0) rfl)) rfl ?_
        obtain ⟨rv7, hrv7, hM⟩ := bindS hM
        refine CG rfl rfl rfl (by rw [hg4]; rfl) [Value.agg (List.toArray (α := Value) (([Value.int .i64 rv1.Kind]) ++ ((rv1.Set.1.map (Value.int .u64)) ++ ([v1]))))] cf35 rfl (ref08_Depth_ok hrv7 hs.imm (tT_Regex_iff.2 ⟨[Value.int .i64 rv1.Kind], rv1.Set.1.map (Value.int .u64), [v1], rfl, rfl, rfl, ⟨_, rfl, hRv1⟩⟩)) rfl ?_
        rintro v7 wv7 ⟨gg7, hvv7, hegg7⟩
        have hlegg7 := hegg7.le hs.imm
        replace hs := hs.call hegg7
        replace hRv1 := hRv1.mono hlegg7
        replace hag0 := hag0.trans hlegg7
        obtain ⟨cs10, rfl, hcs10⟩ := hvv7
        have hcs10 : cs10 = _ := hcs10; subst hcs10
        refine OG rfl rfl rfl (by rw [hg4]; rfl) (r_leq rfl rfl) rfl ?_
        refine O (r_pickT (v := Value.bool (decide (rv7 ≤ 8))) rfl hg4 rfl) rfl ?_
        refine O (r_assign (v := Value.bool (decide (rv7 ≤ 8))) rfl) rfl ?_
        refine OW_nil ?_
        obtain rfl := Option.some.inj hM
        exact ⟨gg7, rfl, hds, hag0, (hs.sub (.cons _ .slnil))⟩
      · refine OK rfl rfl rfl (by rw [hg4]; rfl) rfl ?_
        refine OK rfl rfl rfl (by rw [hg4]; rfl) rfl ?_
        refine OK rfl rfl rfl (by rw [hg4]; rfl) rfl ?_
        refine O (r_pickF (v := Value.bool false) rfl hg4 rfl) rfl ?_
        refine O (r_assign (v := Value.bool false) rfl) rfl ?_
        refine OW_nil ?_
        obtain rfl := Option.some.inj hM
        exact ⟨gg6, rfl, hds, hag0, (hs.sub (.cons _ .slnil))⟩
    · refine OK rfl rfl rfl (by rw [hg3]; rfl) rfl ?_
      refine OK rfl rfl rfl (by rw [hg3]; rfl) rfl ?_
      refine O (r_pickF (v := Value.bool false) rfl hg3 rfl) rfl ?_
      refine O (r_move (v := Value.bool false) rfl) rfl ?_
      refine OK rfl rfl rfl rfl rfl ?_
      refine OK rfl rfl rfl rfl rfl ?_
      refine OK rfl rfl rfl rfl rfl ?_
      refine O (r_pickF (v := Value.bool false) rfl rfl rfl) rfl ?_
      refine O (r_assign (v := Value.bool false) rfl) rfl ?_
      refine OW_nil ?_
      obtain rfl := Option.some.inj hM
      exact ⟨gg5, rfl, hds, hag0, (hs.sub (.cons _ .slnil))⟩
  · clear hs
    rintro E w ⟨gg4, hE4, hds, hlegg4, hs⟩
    have hM := hKhx1
    obtain ⟨E, rfl⟩ := open1 (E := E) hE4
    refine WP_ret ?_
    obtain rfl := Option.some.inj hM
    refine FL_nil hds ?_
    exact ⟨_, res1 Tryd.results19 (rv_tmp (v := Value.bool xv1) rfl), gg4, ⟨[Value.bool xv1], rfl, rfl⟩, hs.ext⟩

set_option maxRecDepth 100000 in
theorem law08_nested_ok {nv1 : Int} {r : Str} (hM : M.law08_nested nv1 = some r) {g0 : Hp} {w0 : World} (hi : Imm g0 w0) :
    CallsV Tryd.prog 27 #[Value.int .i64 nv1] w0 (fun v w' => ∃ g', (VRd tStr false g' v r) ∧ Ext g0 w0 g' w') := by
  unfold M.law08_nested at hM
  have hs := Sep.start hi
  refine calls_of_WP (args := [Value.int .i64 nv1]) Tryd.func27 rfl Tryd.ntmps27 rfl ?_
  have hds : (argEnv [Value.int .i64 nv1]).ds = [] := rfl
  refine WP_seq ?_
  refine WP_region ?_
  refine O (r_assign (v := encS []) rfl) rfl ?_
  refine OW_nil ?_
  refine WP_seq ?_
  refine WP_region ?_
  refine O (r_assign (v := encS [97]) rfl) rfl ?_
  refine OW_nil ?_
  obtain ⟨s10, hx1, hKhx1⟩ := bindS hM
  refine WP_cut (fun E w => E 3 = encS s10 ∧ E.ds = [] ∧ Go.Lx.Sep g0 w0 g0 w []) ?_ ?_
  · have hM := hx1
    have hag0 := Hle.refl g0
    refine WP_seq ?_
    refine WP_region ?_
    refine O (r_assign (v := Value.int .i64 0) rfl) rfl ?_
    refine OW_nil ?_
    refine WP_block ?_
    refine WP_loop (fun (st9 : Str × Int) E w => match st9 with | (s14, i5) => E 0 = Value.int .i64 nv1 ∧ E 3 = encS s14 ∧ E 4 = Value.int .i64 i5 ∧ E.ds = [] ∧ Go.Lx.Sep g0 w0 g0 w []) hM ⟨rfl, rfl, rfl, hds, hs⟩ ?_
    clear hs hM
    rintro ⟨s14, i5⟩ o2 E w hM ⟨hE0, hE3, hE4, hds, hs⟩
    obtain ⟨E, rfl⟩ := open1 (E := E) hE0
    obtain ⟨E, rfl⟩ := open1 (E := E) hE3
    obtain ⟨E, rfl⟩ := open1 (E := E) hE4
    refine WP_seq ?_
    refine WP_seq ?_
    refine WP_region ?_
    refine O (r_move (v := Value.int .i64 i5) rfl) rfl ?_
    refine O (r_move (v := Value.int .i64 nv1) rfl) rfl ?_
    refine O (r_lss rfl rfl) rfl ?_
    refine OW_nil ?_
    rcases condS hM with ⟨hc6, hM⟩ | ⟨hc6, hM⟩
    · refine WP_true rfl hc6 ?_
      refine WP_skip ?_
      refine WP_seq ?_
      refine WP_block ?_
      refine WP_region ?_
      refine O (r_move (v := encS s14) rfl) rfl ?_
      obtain ⟨s18, hs18, hM⟩ := bindS hM
      refine O (r_catS rfl rfl hs18) rfl ?_
      obtain ⟨s19, hs19, hM⟩ := bindS hM
      refine O (r_catS rfl rfl hs19) rfl ?_
      refine O (r_assign (v := encS s19) rfl) rfl ?_
      refine OW_nil ?_
      refine WP_region ?_
      refine O (r_move (v := Value.int .i64 i5) rfl) rfl ?_
      obtain ⟨t6, ht6, hM⟩ := bindS hM
      refine O (r_addM rfl rfl ht6) rfl ?_
      refine O (r_assign (v := Value.int .i64 t6) rfl) rfl ?_
      refine OW_nil ?_
      obtain rfl := Option.some.inj hM
      exact ⟨rfl, rfl, rfl, hds, hs⟩
    · refine WP_false rfl hc6 ?_
      refine WP_exit ?_
      obtain rfl := Option.some.inj hM
      refine fun hr => ?_
      have hM := congrArg some hr
      obtain rfl := Option.some.inj hM
      exact ⟨rfl, hds, hs⟩
  · clear hs
    rintro E w ⟨hE3, hds, hs⟩
    have hM := hKhx1
    obtain ⟨E, rfl⟩ := open1 (E := E) hE3
    refine WP_seq ?_
    refine WP_region ?_
    refine O (r_move (v := encS s10) rfl) rfl ?_
    refine O (r_assign (v := encS s10) rfl) rfl ?_
    refine OW_nil ?_
    refine WP_ret ?_
    obtain rfl := Option.some.inj hM
    refine FL_nil hds ?_
    exact ⟨_, res1 Tryd.results27 (rv_tmp (v := encS s10) rfl), g0, ⟨[encS s10], rfl, rfl⟩, hs.ext⟩


end Go.Proofs.YtffienmbeifioaaDoor
