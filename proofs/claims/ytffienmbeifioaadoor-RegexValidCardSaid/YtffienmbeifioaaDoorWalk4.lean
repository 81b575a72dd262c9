/- The walks: what each function does is what its model says. Printed by a program of my own. -/
import Derived.Test.YtffienmbeifioaaDoorWalk3
set_option linter.unusedVariables false
set_option linter.unusedSimpArgs false
namespace Go.Proofs.YtffienmbeifioaaDoor
open Go.Lx Go.RowKit
set_option maxRecDepth 100000 in
theorem regex_formatSet_ok {p1 : (Vec 4)} {r : Str} (hM : M.regex_formatSet p1 = some r) {g0 : Hp} {w0 : World} (hi : Imm g0 w0) (hG0 : GBox 0 (M.deBruijn.1.map (Value.int .u8)) g0) :
    CallsV Tryd.prog 39 #[encV .u64 p1] w0 (fun v w' => ∃ g', (VRd tStr false g' v r) ∧ Ext g0 w0 g' w') := by
  unfold M.regex_formatSet at hM
  have hs := Sep.start hi
  refine calls_of_WP (args := [encV .u64 p1]) Tryd.func39 rfl Tryd.ntmps39 rfl ?_
  have hds : (argEnv [encV .u64 p1]).ds = [] := rfl
  refine WP_seq ?_
  refine WP_region ?_
  refine OW_box (v := encV .u64 p1) rfl hs (zs := p1.1.map (Value.int .u64)) rfl rfl ?_
  intro b1 wv1 hs
  refine O (r_assign (v := encS []) rfl) rfl ?_
  refine OW_nil ?_
  refine WP_seq ?_
  refine WP_seq ?_
  refine WP_any (.q 0 (.s 1 (.q 2 (.leaf)))) (SS g0 w0 g0 [Go.Lx.box b1 24 (p1.1.map (Value.int .u64))]) mo (by decide +kernel) ?_
  have hs := hs.drew
  have hag0 := Hle.refl g0
  have hG0b := hG0
  have hS : SS g0 w0 g0 [Go.Lx.box b1 24 (p1.1.map (Value.int .u64))] _ := ⟨g0, Hle.refl _, hs⟩
  refine A rfl hS (fun w9 h9 => by obtain ⟨g9, hle9, hs⟩ := h9; exact r_loadN (cs := p1.1.map (Value.int .u64)) ti24 rfl (by simp [p1.2]) (hs.cells (i := 0) rfl)) rfl ?_
  refine A1 rfl ?_
  obtain ⟨rv1, hrv1, hM⟩ := bindS hM
  refine C [] cf53 rfl (regex_dot_ok hrv1 hs.imm) rfl ?_
  rintro v1 wv2 ⟨gg1, hvv1, hegg1⟩
  have hlegg1 := hegg1.le hs.imm
  replace hs := hs.call hegg1
  replace hG0 := hG0.mono hlegg1
  replace hag0 := hag0.trans hlegg1
  obtain ⟨cs1, rfl, hcs1⟩ := hvv1
  have hcs1 : cs1 = _ := hcs1; subst hcs1
  refine OW_nil ?_
  have hS : SS g0 w0 g0 [Go.Lx.box b1 24 (p1.1.map (Value.int .u64))] _ := ⟨gg1, hag0, hs⟩
  refine ⟨fun _ => hS, ?_⟩
  refine A rfl hS (fun w9 h9 => by obtain ⟨g9, hle9, hs⟩ := h9; exact r_eqlV Tryd.underlying24 Tryd.underlying22 ti22 rfl rfl eg24) rfl ?_
  refine AN ?_
  rcases condS hM with ⟨hc1, hM⟩ | ⟨hc1, hM⟩
  · refine WP_true rfl hc1 ?_
    refine WP_seq ?_
    refine WP_region ?_
    refine O (r_assign (v := encS [46]) rfl) rfl ?_
    refine OW_nil ?_
    refine WP_ret ?_
    obtain rfl := Option.some.inj hM
    refine FL_nil hds ?_
    exact ⟨_, res1 Tryd.results39 (rv_tmp (v := encS [46]) rfl), gg1, ⟨[encS [46]], rfl, rfl⟩, hs.ext⟩
  · refine WP_false rfl hc1 ?_
    refine WP_skip ?_
    refine WP_seq ?_
    refine WP_region ?_
    refine O (r_loadN (cs := p1.1.map (Value.int .u64)) ti24 rfl (by simp [p1.2]) (hs.cells (i := 0) rfl)) rfl ?_
    obtain ⟨rv2, hrv2, hM⟩ := bindS hM
    refine C [encV .u64 p1] cf54 rfl (regex_bytes_ok hrv2 hs.imm hG0) rfl ?_
    rintro v2 wv3 ⟨gg2, xs1, hvv2, hegg2⟩
    have hlegg2 := hegg2.ext.le hs.imm
    replace hs := hs.callOwn hegg2
    simp only [List.cons_append, List.nil_append] at hs
    replace hG0 := hG0.mono hlegg2
    replace hag0 := hag0.trans hlegg2
    refine O (r_assign (v := v2) rfl) rfl ?_
    refine OW_nil ?_
    refine WP_seq ?_
    obtain ⟨rv4, hx1, hKhx1⟩ := bindS hM
    refine WP_cut (fun E w => ∃ (gg4 : Hp), E 1 = Value.pointer (some ⟨b1, 0, none⟩) ∧ E 3 = v2 ∧ E 23 = Value.bool rv4 ∧ E.ds = [] ∧ Hle gg2 gg4 ∧ Go.Lx.Sep g0 w0 gg4 w [.row v2 5 (tInt .u8).sz rv2.length xs1, Go.Lx.box b1 24 (p1.1.map (Value.int .u64))]) ?_ ?_
    · have hM := hx1
      have hagg2 := Hle.refl gg2
      refine WP_region ?_
      refine O (r_move (v := v2) rfl) rfl ?_
      obtain ⟨a2, ca2, hva2⟩ := hs.rowShape (i := 0) rfl
      refine O (r_lenSl (v := v2) Tryd.underlying39 rfl hva2) rfl ?_
      refine O (r_eql rfl rfl) rfl ?_
      refine O (r_move (v := Value.bool ((rv2.length : Int) == 1)) rfl) rfl ?_
      rcases condS hM with ⟨hg2, hM⟩ | ⟨hg2, hM⟩
      · refine OG rfl rfl rfl (by rw [hg2]; rfl) (r_move (v := v2) rfl) rfl ?_
        obtain ⟨e2, he2, hM⟩ := bindS hM
        obtain ⟨b3, cb3, hvb3, cs4, hcs4, hcb3⟩ := hs.rowEl (i := 0) rfl hvv2 he2
        have hcs4 : cs4 = _ := hcs4; subst hcs4
        refine OG rfl rfl rfl (by rw [hg2]; rfl) (r_idxSl Tryd.underlying39 ti5 (v := v2) rfl hvb3 rfl (idxL_some he2).1 (idxL_some he2).2.1) rfl ?_
        refine OG rfl rfl rfl (by rw [hg2]; rfl) (r_loadEl (cs := [Value.int .u8 e2]) ti5 rfl rfl (.inr rfl) (hcb3 _ (hs.at (i := 0) rfl)) (v := Value.int .u8 e2) rfl) rfl ?_
        obtain ⟨rv5, hrv5, hM⟩ := bindS hM
        refine CG rfl rfl rfl (by rw [hg2]; rfl) [Value.int .u8 e2] cf55 rfl (regex_writable_ok hrv5 hs.imm) rfl ?_
        rintro v4 wv5 ⟨gg5, hvv4, hegg5⟩
        have hlegg5 := hegg5.le hs.imm
        replace hs := hs.call hegg5
        replace hG0 := hG0.mono hlegg5
        replace hvv2 := hvv2.mono hlegg5
        replace hag0 := hag0.trans hlegg5
        replace hagg2 := hagg2.trans hlegg5
        obtain ⟨cs5, rfl, hcs5⟩ := hvv4
        have hcs5 : cs5 = _ := hcs5; subst hcs5
        refine O (r_pickT (v := Value.bool rv5) rfl hg2 rfl) rfl ?_
        refine OW_nil ?_
        obtain rfl := Option.some.inj hM
        exact ⟨gg5, rfl, rfl, rfl, hds, hagg2, hs⟩
      · refine OK rfl rfl rfl (by rw [hg2]; rfl) rfl ?_
        refine OK rfl rfl rfl (by rw [hg2]; rfl) rfl ?_
        refine OK rfl rfl rfl (by rw [hg2]; rfl) rfl ?_
        refine OK rfl rfl rfl (by rw [hg2]; rfl) rfl ?_
        refine O (r_pickF (v := Value.bool false) rfl hg2 rfl) rfl ?_
        refine OW_nil ?_
        obtain rfl := Option.some.inj hM
        exact ⟨gg2, rfl, rfl, rfl, hds, (Hle.refl _), hs⟩
    · clear hs
      rintro E w ⟨gg4, hE1, hE3, hE23, hds, hlegg4, hs⟩
      have hM := hKhx1
      obtain ⟨E, rfl⟩ := open1 (E := E) hE1
      obtain ⟨E, rfl⟩ := open1 (E := E) hE3
      obtain ⟨E, rfl⟩ := open1 (E := E) hE23
      replace hG0 := hG0.mono hlegg4
      replace hvv2 := hvv2.mono hlegg4
      replace hag0 := hag0.trans hlegg4
      rcases condS hM with ⟨hc2, hM⟩ | ⟨hc2, hM⟩
      · refine WP_true rfl hc2 ?_
        refine WP_seq ?_
        refine WP_region ?_
        refine O (r_move (v := v2) rfl) rfl ?_
        obtain ⟨e3, he3, hM⟩ := bindS hM
        obtain ⟨b4, cb4, hvb4, cs6, hcs6, hcb4⟩ := hs.rowEl (i := 0) rfl hvv2 he3
        have hcs6 : cs6 = _ := hcs6; subst hcs6
        refine O (r_idxSl Tryd.underlying39 ti5 (v := v2) rfl hvb4 rfl (idxL_some he3).1 (idxL_some he3).2.1) rfl ?_
        refine O (r_loadEl (cs := [Value.int .u8 e3]) ti5 rfl rfl (.inr rfl) (hcb4 _ (hs.at (i := 0) rfl)) (v := Value.int .u8 e3) rfl) rfl ?_
        obtain ⟨rv6, hrv6, hM⟩ := bindS hM
        refine C [Value.int .u8 e3, encS [40, 41, 91, 93, 124, 42, 43, 63, 46, 92]] cf56 rfl (regex_char_ok hrv6 hs.imm) rfl ?_
        rintro v5 wv6 ⟨gg6, hvv5, hegg6⟩
        have hlegg6 := hegg6.le hs.imm
        replace hs := hs.call hegg6
        replace hG0 := hG0.mono hlegg6
        replace hvv2 := hvv2.mono hlegg6
        replace hag0 := hag0.trans hlegg6
        obtain ⟨cs7, rfl, hcs7⟩ := hvv5
        have hcs7 : cs7 = _ := hcs7; subst hcs7
        refine O (r_assign (v := encS rv6) rfl) rfl ?_
        refine OW_nil ?_
        refine WP_ret ?_
        obtain rfl := Option.some.inj hM
        refine FL_nil hds ?_
        exact ⟨_, res1 Tryd.results39 (rv_tmp (v := encS rv6) rfl), gg6, ⟨[encS rv6], rfl, rfl⟩, hs.ext⟩
      · refine WP_false rfl hc2 ?_
        refine WP_skip ?_
        refine WP_seq ?_
        refine WP_region ?_
        refine O (r_assign (v := encS [91]) rfl) rfl ?_
        refine OW_nil ?_
        obtain ⟨⟨rv16, xv4⟩, hx2, hKhx2⟩ := bindS hM
        refine WP_cut (fun E w => ∃ (gg19 : Hp) (v15 : Value) (xs5 : List Value), E 3 = v15 ∧ E 4 = encS xv4 ∧ E.ds = [] ∧ Hle gg4 gg19 ∧ RowRel (tInt .u8) gg19 xs5 rv16 ∧ Go.Lx.Sep g0 w0 gg19 w [.row v15 5 (tInt .u8).sz rv16.length xs5]) ?_ ?_
        · have hM := hx2
          have hagg4 := Hle.refl gg4
          refine WP_seq ?_
          refine WP_region ?_
          refine O (r_move (v := v2) rfl) rfl ?_
          obtain ⟨a4, ca4, hva4⟩ := hs.rowShape (i := 0) rfl
          refine O (r_lenSl (v := v2) Tryd.underlying39 rfl hva4) rfl ?_
          refine O (r_move (v := Value.int .i64 0) rfl) rfl ?_
          refine OW_nil ?_
          refine WP_block ?_
          refine WP_loop (fun (xv6 : Int) E w => ∃ (gg24 : Hp), E 1 = Value.pointer (some ⟨b1, 0, none⟩) ∧ E 3 = v2 ∧ E 4 = encS [91] ∧ E 28 = v2 ∧ E 29 = Value.int .i64 (rv2.length : Int) ∧ E 30 = Value.int .i64 xv6 ∧ E.ds = [] ∧ Hle gg4 gg24 ∧ Go.Lx.Sep g0 w0 gg24 w [.row v2 5 (tInt .u8).sz rv2.length xs1, Go.Lx.box b1 24 (p1.1.map (Value.int .u64))]) hM ⟨gg4, rfl, rfl, rfl, rfl, rfl, rfl, hds, (Hle.refl _), hs⟩ ?_
          clear hs hM
          rintro xv6 o2 E w hM ⟨gg24, hE1, hE3, hE4, hE28, hE29, hE30, hds, hlegg24, hs⟩
          obtain ⟨E, rfl⟩ := open1 (E := E) hE1
          obtain ⟨E, rfl⟩ := open1 (E := E) hE3
          obtain ⟨E, rfl⟩ := open1 (E := E) hE4
          obtain ⟨E, rfl⟩ := open1 (E := E) hE28
          obtain ⟨E, rfl⟩ := open1 (E := E) hE29
          obtain ⟨E, rfl⟩ := open1 (E := E) hE30
          replace hG0 := hG0.mono hlegg24
          replace hvv2 := hvv2.mono hlegg24
          replace hag0 := hag0.trans hlegg24
          replace hagg4 := hagg4.trans hlegg24
          have hagg24 := Hle.refl gg24
          refine WP_seq ?_
          refine WP_region ?_
          refine O (r_lss rfl rfl) rfl ?_
          refine OW_nil ?_
          refine WP_seq ?_
          rcases condS hM with ⟨hc13, hM⟩ | ⟨hc13, hM⟩
          · refine WP_true rfl hc13 ?_
            refine WP_skip ?_
            refine WP_seq ?_
            refine WP_block ?_
            refine WP_seq ?_
            refine WP_region ?_
            obtain ⟨e9, he9, hM⟩ := bindS hM
            obtain ⟨b10, cb10, hvb10, cs23, hcs23, hcb10⟩ := hs.rowEl (i := 0) rfl hvv2 he9
            have hcs23 : cs23 = _ := hcs23; subst hcs23
            refine O (r_idxSl Tryd.underlying39 ti5 (v := v2) rfl hvb10 rfl (idxL_some he9).1 (idxL_some he9).2.1) rfl ?_
            refine O (r_loadEl (cs := [Value.int .u8 e9]) ti5 rfl rfl (.inr rfl) (hcb10 _ (hs.at (i := 0) rfl)) (v := Value.int .u8 e9) rfl) rfl ?_
            refine O (r_assign (v := Value.int .u8 e9) rfl) rfl ?_
            refine OW_nil ?_
            refine WP_seq ?_
            refine WP_region ?_
            refine O (r_move (v := Value.int .u8 e9) rfl) rfl ?_
            obtain ⟨rv23, hrv23, hM⟩ := bindS hM
            refine C [Value.int .u8 e9] cf55 rfl (regex_writable_ok hrv23 hs.imm) rfl ?_
            rintro v22 wv22 ⟨gg29, hvv22, hegg29⟩
            have hlegg29 := hegg29.le hs.imm
            replace hs := hs.call hegg29
            replace hG0 := hG0.mono hlegg29
            replace hvv2 := hvv2.mono hlegg29
            replace hag0 := hag0.trans hlegg29
            replace hlegg24 := hlegg24.trans hlegg29
            replace hagg24 := hagg24.trans hlegg29
            obtain ⟨cs24, rfl, hcs24⟩ := hvv22
            have hcs24 : cs24 = _ := hcs24; subst hcs24
            refine O (r_not rfl) rfl ?_
            refine OW_nil ?_
            rcases condS hM with ⟨hc14, hM⟩ | ⟨hc14, hM⟩
            · refine WP_true rfl hc14 ?_
              refine WP_seq ?_
              refine WP_region ?_
              refine O (r_loadN (cs := p1.1.map (Value.int .u64)) ti24 rfl (by simp [p1.2]) (hs.cells (i := 1) rfl)) rfl ?_
              obtain ⟨rv24, hrv24, hM⟩ := bindS hM
              refine C [encV .u64 p1] cf57 rfl (byteset_Complement_ok hrv24 hs.imm) rfl ?_
              rintro v23 wv23 ⟨gg30, hvv23, hegg30⟩
              have hlegg30 := hegg30.le hs.imm
              replace hs := hs.call hegg30
              replace hG0 := hG0.mono hlegg30
              replace hvv2 := hvv2.mono hlegg30
              replace hag0 := hag0.trans hlegg30
              replace hlegg24 := hlegg24.trans hlegg30
              replace hagg24 := hagg24.trans hlegg30
              obtain ⟨cs25, rfl, hcs25⟩ := hvv23
              have hcs25 : cs25 = _ := hcs25; subst hcs25
              obtain ⟨rv25, hrv25, hM⟩ := bindS hM
              refine C [encV .u64 rv24] cf54 rfl (regex_bytes_ok hrv25 hs.imm hG0) rfl ?_
              rintro v24 wv24 ⟨gg31, xs8, hvv24, hegg31⟩
              have hlegg31 := hegg31.ext.le hs.imm
              replace hs := hs.callOwn hegg31
              simp only [List.cons_append, List.nil_append] at hs
              replace hG0 := hG0.mono hlegg31
              replace hvv2 := hvv2.mono hlegg31
              replace hag0 := hag0.trans hlegg31
              replace hlegg24 := hlegg24.trans hlegg31
              replace hagg24 := hagg24.trans hlegg31
              refine O (r_assign (v := encS [91, 94]) rfl) rfl ?_
              refine O (r_assign (v := v24) rfl) rfl ?_
              refine OW_nil ?_
              refine WP_exit ?_
              obtain rfl := Option.some.inj hM
              refine fun hr => ?_
              have hM := congrArg some hr
              simp only [Option.some.injEq, Prod.mk.injEq] at hM
              obtain ⟨rfl, rfl⟩ := hM
              exact ⟨gg31, v24, xs8, rfl, rfl, hds, hlegg24, hvv24, (hs.sub (.cons_cons _ (.cons _ (.cons _ .slnil))))⟩
            · refine WP_false rfl hc14 ?_
              refine WP_skip ?_
              refine WP_region ?_
              obtain ⟨t6, ht6, hM⟩ := bindS hM
              refine O (r_addM rfl rfl ht6) rfl ?_
              refine O (r_move (v := Value.int .i64 t6) rfl) rfl ?_
              refine OW_nil ?_
              obtain rfl := Option.some.inj hM
              exact ⟨gg29, rfl, rfl, rfl, rfl, rfl, rfl, hds, hlegg24, hs⟩
          · refine WP_false rfl hc13 ?_
            refine WP_exit ?_
            obtain rfl := Option.some.inj hM
            refine fun hr => ?_
            have hM := congrArg some hr
            simp only [Option.some.injEq, Prod.mk.injEq] at hM
            obtain ⟨rfl, rfl⟩ := hM
            exact ⟨gg24, v2, xs1, rfl, rfl, hds, hlegg24, hvv2, (hs.sub (.cons_cons _ (.cons _ .slnil)))⟩
        · clear hs
          rintro E w ⟨gg19, v15, xs5, hE3, hE4, hds, hlegg19, hrelxs5, hs⟩
          have hM := hKhx2
          obtain ⟨E, rfl⟩ := open1 (E := E) hE3
          obtain ⟨E, rfl⟩ := open1 (E := E) hE4
          replace hG0 := hG0.mono hlegg19
          replace hag0 := hag0.trans hlegg19
          refine WP_seq ?_
          refine WP_region ?_
          refine O (r_move (v := encS xv4) rfl) rfl ?_
          refine O (r_assign (v := encS xv4) rfl) rfl ?_
          refine OW_nil ?_
          obtain ⟨xv32, hx24, hKhx24⟩ := bindS hM
          refine WP_cut (fun E w => ∃ (gg44 : Hp), E 7 = encS xv32 ∧ E.ds = [] ∧ Hle gg19 gg44 ∧ Go.Lx.Sep g0 w0 gg44 w []) ?_ ?_
          · have hM := hx24
            have hagg19 := Hle.refl gg19
            refine WP_seq ?_
            refine WP_region ?_
            refine O (r_assign (v := Value.int .i64 0) rfl) rfl ?_
            refine OW_nil ?_
            refine WP_block ?_
            refine WP_loop (fun (st9 : Str × Int) E w => match st9 with | (xv41, xv42) => ∃ (gg49 : Hp) (v45 : Value) (xs17 : List Value), E 3 = v45 ∧ E 7 = encS xv41 ∧ E 8 = Value.int .i64 xv42 ∧ E.ds = [] ∧ Hle gg19 gg49 ∧ RowRel (tInt .u8) gg49 xs17 rv16 ∧ Go.Lx.Sep g0 w0 gg49 w [.row v45 5 (tInt .u8).sz rv16.length xs17]) hM ⟨gg19, v15, xs5, rfl, rfl, rfl, hds, (Hle.refl _), hrelxs5, hs⟩ ?_
            clear hs hM
            rintro ⟨xv41, xv42⟩ o14 E w hM ⟨gg49, v45, xs17, hE3, hE7, hE8, hds, hlegg49, hrelxs17, hs⟩
            obtain ⟨E, rfl⟩ := open1 (E := E) hE3
            obtain ⟨E, rfl⟩ := open1 (E := E) hE7
            obtain ⟨E, rfl⟩ := open1 (E := E) hE8
            replace hG0 := hG0.mono hlegg49
            replace hag0 := hag0.trans hlegg49
            replace hagg19 := hagg19.trans hlegg49
            have hagg49 := Hle.refl gg49
            refine WP_seq ?_
            refine WP_seq ?_
            refine WP_region ?_
            refine O (r_move (v := Value.int .i64 xv42) rfl) rfl ?_
            refine O (r_move (v := v45) rfl) rfl ?_
            obtain ⟨a70, ca70, hva70⟩ := hs.rowShape (i := 0) rfl
            refine O (r_lenSl (v := v45) Tryd.underlying39 rfl hva70) rfl ?_
            refine O (r_lss rfl rfl) rfl ?_
            refine OW_nil ?_
            rcases condS hM with ⟨hc55, hM⟩ | ⟨hc55, hM⟩
            · refine WP_true rfl hc55 ?_
              refine WP_skip ?_
              refine WP_block ?_
              refine WP_seq ?_
              refine WP_region ?_
              refine O (r_move (v := Value.int .i64 xv42) rfl) rfl ?_
              obtain ⟨t147, ht147, hM⟩ := bindS hM
              refine O (r_addM rfl rfl ht147) rfl ?_
              refine O (r_assign (v := Value.int .i64 t147) rfl) rfl ?_
              refine OW_nil ?_
              obtain ⟨t160, hx42, hKhx42⟩ := bindS hM
              refine WP_cut (fun E w => ∃ (v51 : Value) (xs20 : List Value), E 3 = v51 ∧ E 7 = encS xv41 ∧ E 8 = Value.int .i64 xv42 ∧ E 9 = Value.int .i64 t160 ∧ E.ds = [] ∧ RowRel (tInt .u8) gg49 xs20 rv16 ∧ Go.Lx.Sep g0 w0 gg49 w [.row v51 5 (tInt .u8).sz rv16.length xs20]) ?_ ?_
              · have hM := hx42
                refine WP_block ?_
                refine WP_loop (fun (t165 : Int) E w => E 3 = v45 ∧ E 7 = encS xv41 ∧ E 8 = Value.int .i64 xv42 ∧ E 9 = Value.int .i64 t165 ∧ E.ds = [] ∧ Go.Lx.Sep g0 w0 gg49 w [.row v45 5 (tInt .u8).sz rv16.length xs17]) hM ⟨rfl, rfl, rfl, rfl, hds, hs⟩ ?_
                clear hs hM
                rintro t165 o16 E w hM ⟨hE3, hE7, hE8, hE9, hds, hs⟩
                obtain ⟨E, rfl⟩ := open1 (E := E) hE3
                obtain ⟨E, rfl⟩ := open1 (E := E) hE7
                obtain ⟨E, rfl⟩ := open1 (E := E) hE8
                obtain ⟨E, rfl⟩ := open1 (E := E) hE9
                refine WP_seq ?_
                obtain ⟨xv56, hx45, hKhx45⟩ := bindS hM
                refine WP_cut (fun E w => E 3 = v45 ∧ E 7 = encS xv41 ∧ E 8 = Value.int .i64 xv42 ∧ E 9 = Value.int .i64 t165 ∧ E 71 = Value.bool xv56 ∧ E.ds = [] ∧ Go.Lx.Sep g0 w0 gg49 w [.row v45 5 (tInt .u8).sz rv16.length xs17]) ?_ ?_
                · have hM := hx45
                  refine WP_draw mo (by decide +kernel) ?_
                  have hs := hs.drew
                  refine S (r_move (v := Value.int .i64 t165) rfl) rfl ?_
                  refine S (r_move (v := v45) rfl) rfl ?_
                  obtain ⟨a82, ca82, hva82⟩ := hs.rowShape (i := 0) rfl
                  refine S (r_lenSl (v := v45) Tryd.underlying39 rfl hva82) rfl ?_
                  refine S (r_lss rfl rfl) rfl ?_
                  refine S (r_move (v := Value.bool (decide (t165 < (rv16.length : Int)))) rfl) rfl ?_
                  rcases condS hM with ⟨hg145, hM⟩ | ⟨hg145, hM⟩
                  · refine SG rfl rfl rfl (by rw [hg145]; rfl) (r_move (v := v45) rfl) rfl ?_
                    refine SG rfl rfl rfl (by rw [hg145]; rfl) (r_move (v := Value.int .i64 xv42) rfl) rfl ?_
                    obtain ⟨e238, he238, hM⟩ := bindS hM
                    obtain ⟨b239, cb239, hvb239, cs269, hcs269, hcb239⟩ := hs.rowEl (i := 0) rfl hrelxs17 he238
                    have hcs269 : cs269 = _ := hcs269; subst hcs269
                    refine SG rfl rfl rfl (by rw [hg145]; rfl) (r_idxSl Tryd.underlying39 ti5 (v := v45) rfl hvb239 rfl (idxL_some he238).1 (idxL_some he238).2.1) rfl ?_
                    refine SG rfl rfl rfl (by rw [hg145]; rfl) (r_loadEl (cs := [Value.int .u8 e238]) ti5 rfl rfl (.inr rfl) (hcb239 _ (hs.at (i := 0) rfl)) (v := Value.int .u8 e238) rfl) rfl ?_
                    refine SG rfl rfl rfl (by rw [hg145]; rfl) (r_geq rfl rfl) rfl ?_
                    refine S (r_pickT (v := Value.bool (decide (32 ≤ e238))) rfl hg145 rfl) rfl ?_
                    refine S (r_move (v := Value.bool (decide (32 ≤ e238))) rfl) rfl ?_
                    rcases condS hM with ⟨hg146, hM⟩ | ⟨hg146, hM⟩
                    · refine SG rfl rfl rfl (by rw [hg146]; rfl) (r_move (v := v45) rfl) rfl ?_
                      refine SG rfl rfl rfl (by rw [hg146]; rfl) (r_move (v := Value.int .i64 t165) rfl) rfl ?_
                      obtain ⟨e239, he239, hM⟩ := bindS hM
                      obtain ⟨b240, cb240, hvb240, cs270, hcs270, hcb240⟩ := hs.rowEl (i := 0) rfl hrelxs17 he239
                      have hcs270 : cs270 = _ := hcs270; subst hcs270
                      refine SG rfl rfl rfl (by rw [hg146]; rfl) (r_idxSl Tryd.underlying39 ti5 (v := v45) rfl hvb240 rfl (idxL_some he239).1 (idxL_some he239).2.1) rfl ?_
                      refine SG rfl rfl rfl (by rw [hg146]; rfl) (r_loadEl (cs := [Value.int .u8 e239]) ti5 rfl rfl (.inr rfl) (hcb240 _ (hs.at (i := 0) rfl)) (v := Value.int .u8 e239) rfl) rfl ?_
                      refine SG rfl rfl rfl (by rw [hg146]; rfl) (r_move (v := v45) rfl) rfl ?_
                      refine SG rfl rfl rfl (by rw [hg146]; rfl) (r_move (v := Value.int .i64 t165) rfl) rfl ?_
                      obtain ⟨t171, ht171, hM⟩ := bindS hM
                      refine SG rfl rfl rfl (by rw [hg146]; rfl) (r_subM rfl rfl ht171) rfl ?_
                      obtain ⟨e240, he240, hM⟩ := bindS hM
                      obtain ⟨b241, cb241, hvb241, cs271, hcs271, hcb241⟩ := hs.rowEl (i := 0) rfl hrelxs17 he240
                      have hcs271 : cs271 = _ := hcs271; subst hcs271
                      refine SG rfl rfl rfl (by rw [hg146]; rfl) (r_idxSl Tryd.underlying39 ti5 (v := v45) rfl hvb241 rfl (idxL_some he240).1 (idxL_some he240).2.1) rfl ?_
                      refine SG rfl rfl rfl (by rw [hg146]; rfl) (r_loadEl (cs := [Value.int .u8 e240]) ti5 rfl rfl (.inr rfl) (hcb241 _ (hs.at (i := 0) rfl)) (v := Value.int .u8 e240) rfl) rfl ?_
                      refine SG rfl rfl rfl (by rw [hg146]; rfl) (r_addW rfl rfl) rfl ?_
                      refine SG rfl rfl rfl (by rw [hg146]; rfl) (r_eql rfl rfl) rfl ?_
                      refine S (r_pickT (v := Value.bool (e239 == (IntKind.u8.wrap (e240 + 1)))) rfl hg146 rfl) rfl ?_
                      refine SW_nil ?_
                      obtain rfl := Option.some.inj hM
                      exact ⟨rfl, rfl, rfl, rfl, rfl, hds, hs⟩
                    · refine SK rfl rfl rfl (by rw [hg146]; rfl) rfl ?_
                      refine SK rfl rfl rfl (by rw [hg146]; rfl) rfl ?_
                      refine SK rfl rfl rfl (by rw [hg146]; rfl) rfl ?_
                      refine SK rfl rfl rfl (by rw [hg146]; rfl) rfl ?_
                      refine SK rfl rfl rfl (by rw [hg146]; rfl) rfl ?_
                      refine SK rfl rfl rfl (by rw [hg146]; rfl) rfl ?_
                      refine SK rfl rfl rfl (by rw [hg146]; rfl) rfl ?_
                      refine SK rfl rfl rfl (by rw [hg146]; rfl) rfl ?_
                      refine SK rfl rfl rfl (by rw [hg146]; rfl) rfl ?_
                      refine SK rfl rfl rfl (by rw [hg146]; rfl) rfl ?_
                      refine SK rfl rfl rfl (by rw [hg146]; rfl) rfl ?_
                      refine S (r_pickF (v := Value.bool false) rfl hg146 rfl) rfl ?_
                      refine SW_nil ?_
                      obtain rfl := Option.some.inj hM
                      exact ⟨rfl, rfl, rfl, rfl, rfl, hds, hs⟩
                  · refine SK rfl rfl rfl (by rw [hg145]; rfl) rfl ?_
                    refine SK rfl rfl rfl (by rw [hg145]; rfl) rfl ?_
                    refine SK rfl rfl rfl (by rw [hg145]; rfl) rfl ?_
                    refine SK rfl rfl rfl (by rw [hg145]; rfl) rfl ?_
                    refine SK rfl rfl rfl (by rw [hg145]; rfl) rfl ?_
                    refine S (r_pickF (v := Value.bool false) rfl hg145 rfl) rfl ?_
                    refine S (r_move (v := Value.bool false) rfl) rfl ?_
                    refine SK rfl rfl rfl rfl rfl ?_
                    refine SK rfl rfl rfl rfl rfl ?_
                    refine SK rfl rfl rfl rfl rfl ?_
                    refine SK rfl rfl rfl rfl rfl ?_
                    refine SK rfl rfl rfl rfl rfl ?_
                    refine SK rfl rfl rfl rfl rfl ?_
                    refine SK rfl rfl rfl rfl rfl ?_
                    refine SK rfl rfl rfl rfl rfl ?_
                    refine SK rfl rfl rfl rfl rfl ?_
                    refine SK rfl rfl rfl rfl rfl ?_
                    refine SK rfl rfl rfl rfl rfl ?_
                    refine S (r_pickF (v := Value.bool false) rfl rfl rfl) rfl ?_
                    refine SW_nil ?_
                    obtain rfl := Option.some.inj hM
                    exact ⟨rfl, rfl, rfl, rfl, rfl, hds, hs⟩
                · clear hs
                  rintro E w ⟨hE3, hE7, hE8, hE9, hE71, hds, hs⟩
                  have hM := hKhx45
                  obtain ⟨E, rfl⟩ := open1 (E := E) hE3
                  obtain ⟨E, rfl⟩ := open1 (E := E) hE7
                  obtain ⟨E, rfl⟩ := open1 (E := E) hE8
                  obtain ⟨E, rfl⟩ := open1 (E := E) hE9
                  obtain ⟨E, rfl⟩ := open1 (E := E) hE71
                  rcases condS hM with ⟨hc61, hM⟩ | ⟨hc61, hM⟩
                  · refine WP_true rfl hc61 ?_
                    refine WP_skip ?_
                    refine WP_block ?_
                    refine WP_region ?_
                    refine O (r_move (v := Value.int .i64 t165) rfl) rfl ?_
                    obtain ⟨t172, ht172, hM⟩ := bindS hM
                    refine O (r_addM rfl rfl ht172) rfl ?_
                    refine O (r_assign (v := Value.int .i64 t172) rfl) rfl ?_
                    refine OW_nil ?_
                    obtain rfl := Option.some.inj hM
                    exact ⟨rfl, rfl, rfl, rfl, hds, hs⟩
                  · refine WP_false rfl hc61 ?_
                    refine WP_exit ?_
                    obtain rfl := Option.some.inj hM
                    refine fun hr => ?_
                    have hM := congrArg some hr
                    obtain rfl := Option.some.inj hM
                    exact ⟨v45, xs17, rfl, rfl, rfl, rfl, hds, hrelxs17, hs⟩
              · clear hs
                rintro E w ⟨v51, xs20, hE3, hE7, hE8, hE9, hds, hrelxs20, hs⟩
                have hM := hKhx42
                obtain ⟨E, rfl⟩ := open1 (E := E) hE3
                obtain ⟨E, rfl⟩ := open1 (E := E) hE7
                obtain ⟨E, rfl⟩ := open1 (E := E) hE8
                obtain ⟨E, rfl⟩ := open1 (E := E) hE9
                refine WP_seq ?_
                refine WP_seq ?_
                refine WP_region ?_
                refine O (r_move (v := Value.int .i64 t160) rfl) rfl ?_
                refine O (r_move (v := Value.int .i64 xv42) rfl) rfl ?_
                obtain ⟨t173, ht173, hM⟩ := bindS hM
                refine O (r_subM rfl rfl ht173) rfl ?_
                refine O (r_geq rfl rfl) rfl ?_
                refine OW_nil ?_
                rcases condS hM with ⟨hc62, hM⟩ | ⟨hc62, hM⟩
                · refine WP_true rfl hc62 ?_
                  refine WP_seq ?_
                  refine WP_any (.q 0 (.q 1 (.q 2 (.q 3 (.q 4 (.q 7 (.q 8 (.q 9 (.q 10 (.q 11 (.s 5 (.q 6 (.s 12 (.q 13 (.q 14 (.q 15 (.leaf))))))))))))))))) (SS g0 w0 gg49 [.row v51 5 (tInt .u8).sz rv16.length xs20]) mo (by decide +kernel) ?_
                  have hs := hs.drew
                  have hG0b := hG0
                  have hrelxs20b := hrelxs20
                  have hS : SS g0 w0 gg49 [.row v51 5 (tInt .u8).sz rv16.length xs20] _ := ⟨gg49, Hle.refl _, hs⟩
                  refine A rfl hS (fun w9 h9 => by obtain ⟨g9, hle9, hs⟩ := h9; exact r_move (v := encS xv41) rfl) rfl ?_
                  refine A rfl hS (fun w9 h9 => by obtain ⟨g9, hle9, hs⟩ := h9; exact r_move (v := v51) rfl) rfl ?_
                  refine A rfl hS (fun w9 h9 => by obtain ⟨g9, hle9, hs⟩ := h9; exact r_move (v := Value.int .i64 xv42) rfl) rfl ?_
                  obtain ⟨e241, he241, hM⟩ := bindS hM
                  obtain ⟨b242, cb242, hvb242, cs272, hcs272, hcb242⟩ := hs.rowEl (i := 0) rfl hrelxs20 he241
                  have hcs272 : cs272 = _ := hcs272; subst hcs272
                  refine A rfl hS (fun w9 h9 => by obtain ⟨g9, hle9, hs⟩ := h9; exact r_idxSl Tryd.underlying39 ti5 (v := v51) rfl hvb242 rfl (idxL_some he241).1 (idxL_some he241).2.1) rfl ?_
                  refine A rfl hS (fun w9 h9 => by obtain ⟨g9, hle9, hs⟩ := h9; exact r_loadEl (cs := [Value.int .u8 e241]) ti5 rfl rfl (.inr rfl) (hcb242 _ (hs.at (i := 0) rfl)) (v := Value.int .u8 e241) rfl) rfl ?_
                  refine A rfl hS (fun w9 h9 => by obtain ⟨g9, hle9, hs⟩ := h9; exact r_move (v := v51) rfl) rfl ?_
                  refine A rfl hS (fun w9 h9 => by obtain ⟨g9, hle9, hs⟩ := h9; exact r_move (v := Value.int .i64 t160) rfl) rfl ?_
                  obtain ⟨t174, ht174, hM⟩ := bindS hM
                  refine A rfl hS (fun w9 h9 => by obtain ⟨g9, hle9, hs⟩ := h9; exact r_subM rfl rfl ht174) rfl ?_
                  obtain ⟨e242, he242, hM⟩ := bindS hM
                  obtain ⟨b243, cb243, hvb243, cs273, hcs273, hcb243⟩ := hs.rowEl (i := 0) rfl hrelxs20 he242
                  have hcs273 : cs273 = _ := hcs273; subst hcs273
                  refine A rfl hS (fun w9 h9 => by obtain ⟨g9, hle9, hs⟩ := h9; exact r_idxSl Tryd.underlying39 ti5 (v := v51) rfl hvb243 rfl (idxL_some he242).1 (idxL_some he242).2.1) rfl ?_
                  refine A rfl hS (fun w9 h9 => by obtain ⟨g9, hle9, hs⟩ := h9; exact r_loadEl (cs := [Value.int .u8 e242]) ti5 rfl rfl (.inr rfl) (hcb243 _ (hs.at (i := 0) rfl)) (v := Value.int .u8 e242) rfl) rfl ?_
                  refine A1 rfl ?_
                  obtain ⟨rv41, hrv41, hM⟩ := bindS hM
                  refine C [Value.int .u8 e241, encS [93, 92, 45, 94]] cf56 rfl (regex_char_ok hrv41 hs.imm) rfl ?_
                  rintro v52 wv40 ⟨gg54, hvv52, hegg54⟩
                  have hlegg54 := hegg54.le hs.imm
                  replace hs := hs.call hegg54
                  replace hG0 := hG0.mono hlegg54
                  replace hrelxs20 := hrelxs20.mono hlegg54
                  replace hag0 := hag0.trans hlegg54
                  replace hlegg49 := hlegg49.trans hlegg54
                  replace hagg49 := hagg49.trans hlegg54
                  obtain ⟨cs274, rfl, hcs274⟩ := hvv52
                  have hcs274 : cs274 = _ := hcs274; subst hcs274
                  refine OW_nil ?_
                  have hS : SS g0 w0 gg49 [.row v51 5 (tInt .u8).sz rv16.length xs20] _ := ⟨gg54, hagg49, hs⟩
                  refine ⟨fun _ => hS, ?_⟩
                  obtain ⟨s21, hs21, hM⟩ := bindS hM
                  refine A rfl hS (fun w9 h9 => by obtain ⟨g9, hle9, hs⟩ := h9; exact r_catS rfl rfl hs21) rfl ?_
                  refine A1 rfl ?_
                  obtain ⟨rv42, hrv42, hM⟩ := bindS hM
                  refine C [Value.int .u8 e242, encS [93, 92, 45, 94]] cf56 rfl (regex_char_ok hrv42 hs.imm) rfl ?_
                  rintro v53 wv41 ⟨gg55, hvv53, hegg55⟩
                  have hlegg55 := hegg55.le hs.imm
                  replace hs := hs.call hegg55
                  replace hG0 := hG0.mono hlegg55
                  replace hrelxs20 := hrelxs20.mono hlegg55
                  replace hag0 := hag0.trans hlegg55
                  replace hlegg49 := hlegg49.trans hlegg55
                  replace hagg49 := hagg49.trans hlegg55
                  obtain ⟨cs275, rfl, hcs275⟩ := hvv53
                  have hcs275 : cs275 = _ := hcs275; subst hcs275
                  refine OW_nil ?_
                  have hS : SS g0 w0 gg49 [.row v51 5 (tInt .u8).sz rv16.length xs20] _ := ⟨gg55, hagg49, hs⟩
                  refine ⟨fun _ => hS, ?_⟩
                  obtain ⟨s22, hs22, hM⟩ := bindS hM
                  refine A rfl hS (fun w9 h9 => by obtain ⟨g9, hle9, hs⟩ := h9; exact r_catS rfl rfl hs22) rfl ?_
                  obtain ⟨s23, hs23, hM⟩ := bindS hM
                  refine A rfl hS (fun w9 h9 => by obtain ⟨g9, hle9, hs⟩ := h9; exact r_catS rfl rfl hs23) rfl ?_
                  refine A rfl hS (fun w9 h9 => by obtain ⟨g9, hle9, hs⟩ := h9; exact r_assign (v := encS s23) rfl) rfl ?_
                  refine AN ?_
                  refine WP_seq ?_
                  refine WP_region ?_
                  refine O (r_move (v := Value.int .i64 t160) rfl) rfl ?_
                  refine O (r_assign (v := Value.int .i64 t160) rfl) rfl ?_
                  refine OW_nil ?_
                  refine WP_exit ?_
                  obtain rfl := Option.some.inj hM
                  exact ⟨gg55, v51, xs20, rfl, rfl, rfl, hds, hlegg49, hrelxs20, hs⟩
                · refine WP_false rfl hc62 ?_
                  refine WP_skip ?_
                  refine WP_seq ?_
                  refine WP_region ?_
                  refine O (r_move (v := encS xv41) rfl) rfl ?_
                  refine O (r_move (v := v51) rfl) rfl ?_
                  refine O (r_move (v := Value.int .i64 xv42) rfl) rfl ?_
                  obtain ⟨e243, he243, hM⟩ := bindS hM
                  obtain ⟨b244, cb244, hvb244, cs276, hcs276, hcb244⟩ := hs.rowEl (i := 0) rfl hrelxs20 he243
                  have hcs276 : cs276 = _ := hcs276; subst hcs276
                  refine O (r_idxSl Tryd.underlying39 ti5 (v := v51) rfl hvb244 rfl (idxL_some he243).1 (idxL_some he243).2.1) rfl ?_
                  refine O (r_loadEl (cs := [Value.int .u8 e243]) ti5 rfl rfl (.inr rfl) (hcb244 _ (hs.at (i := 0) rfl)) (v := Value.int .u8 e243) rfl) rfl ?_
                  obtain ⟨rv43, hrv43, hM⟩ := bindS hM
                  refine C [Value.int .u8 e243, encS [93, 92, 45, 94]] cf56 rfl (regex_char_ok hrv43 hs.imm) rfl ?_
                  rintro v54 wv42 ⟨gg56, hvv54, hegg56⟩
                  have hlegg56 := hegg56.le hs.imm
                  replace hs := hs.call hegg56
                  replace hG0 := hG0.mono hlegg56
                  replace hrelxs20 := hrelxs20.mono hlegg56
                  replace hag0 := hag0.trans hlegg56
                  replace hlegg49 := hlegg49.trans hlegg56
                  replace hagg49 := hagg49.trans hlegg56
                  obtain ⟨cs277, rfl, hcs277⟩ := hvv54
                  have hcs277 : cs277 = _ := hcs277; subst hcs277
                  obtain ⟨s24, hs24, hM⟩ := bindS hM
                  refine O (r_catS rfl rfl hs24) rfl ?_
                  refine O (r_assign (v := encS s24) rfl) rfl ?_
                  refine OW_nil ?_
                  refine WP_region ?_
                  refine O (r_move (v := Value.int .i64 xv42) rfl) rfl ?_
                  refine O (r_addM rfl rfl ht147) rfl ?_
                  refine O (r_assign (v := Value.int .i64 t147) rfl) rfl ?_
                  refine OW_nil ?_
                  obtain rfl := Option.some.inj hM
                  exact ⟨gg56, v51, xs20, rfl, rfl, rfl, hds, hlegg49, hrelxs20, hs⟩
            · refine WP_false rfl hc55 ?_
              refine WP_exit ?_
              obtain rfl := Option.some.inj hM
              refine fun hr => ?_
              have hM := congrArg some hr
              obtain rfl := Option.some.inj hM
              exact ⟨gg49, rfl, hds, hlegg49, (hs.sub (.cons _ .slnil))⟩
          · clear hs
            rintro E w ⟨gg44, hE7, hds, hlegg44, hs⟩
            have hM := hKhx24
            obtain ⟨E, rfl⟩ := open1 (E := E) hE7
            replace hG0 := hG0.mono hlegg44
            replace hag0 := hag0.trans hlegg44
            refine WP_seq ?_
            refine WP_region ?_
            refine O (r_move (v := encS xv32) rfl) rfl ?_
            obtain ⟨s25, hs25, hM⟩ := bindS hM
            refine O (r_catS rfl rfl hs25) rfl ?_
            refine O (r_assign (v := encS s25) rfl) rfl ?_
            refine OW_nil ?_
            refine WP_ret ?_
            obtain rfl := Option.some.inj hM
            refine FL_nil hds ?_
            exact ⟨_, res1 Tryd.results39 (rv_tmp (v := encS s25) rfl), gg44, ⟨[encS s25], rfl, rfl⟩, hs.ext⟩

def C.regex_Format_1 (fl : Nat) : Prop := ∀ {k1 : T_Regex} {kinds1 : (List Int)} {r : Str} (_ : M.regex_Format_1 fl k1 kinds1 = some r) {g0 : Hp} {w0 : World} (hi : Imm g0 w0) {cs1 : List Value} (hcs1 : tT_Regex.rel g0 cs1 k1) {v1 : Value} (hRv1 : RdS (tInt .i64) g0 v1 kinds1) (hG0 : GBox 0 (M.deBruijn.1.map (Value.int .u8)) g0),
    CallsV Tryd.prog 38 #[Value.agg cs1.toArray, v1] w0 (fun v w' => ∃ g', (VRd tStr false g' v r) ∧ Ext g0 w0 g' w')
def C.regex_Format (fl : Nat) : Prop := ∀ {rv1 : T_Regex} {r : Str} (_ : M.regex_Format fl rv1 = some r) {g0 : Hp} {w0 : World} (hi : Imm g0 w0) {cs1 : List Value} (hcs1 : tT_Regex.rel g0 cs1 rv1) (hG0 : GBox 0 (M.deBruijn.1.map (Value.int .u8)) g0),
    CallsV Tryd.prog 21 #[Value.agg cs1.toArray] w0 (fun v w' => ∃ g', (VRd tStr false g' v r) ∧ Ext g0 w0 g' w')
set_option maxRecDepth 100000 in
theorem regex_Format_1_step {fl : Nat} (ih_regex_Format : C.regex_Format fl) : C.regex_Format_1 (fl + 1) := by
  intro k1 kinds1 r hM g0 w0 hi cs1 hcs1 v1 hRv1 hG0
  unfold M.regex_Format_1 at hM
  obtain ⟨cs2, cs3, cs4, rfl, hcs2, hcs3, hcs4⟩ := tT_Regex_iff.1 hcs1
  have hcs2 : cs2 = _ := hcs2; subst hcs2
  have hcs3 : cs3 = _ := hcs3; subst hcs3
  obtain ⟨v2, rfl, hRv2⟩ := hcs4
  have hs := Sep.start hi
  refine calls_of_WP (args := [Value.agg (List.toArray (α := Value) (([Value.int .i64 k1.Kind]) ++ ((k1.Set.1.map (Value.int .u64)) ++ ([v2])))), v1]) Tryd.func38 rfl Tryd.ntmps38 rfl ?_
  have hds : (argEnv [Value.agg (List.toArray (α := Value) (([Value.int .i64 k1.Kind]) ++ ((k1.Set.1.map (Value.int .u64)) ++ ([v2])))), v1]).ds = [] := rfl
  refine WP_seq ?_
  refine WP_region ?_
  refine OW_box (v := Value.agg (List.toArray (α := Value) (([Value.int .i64 k1.Kind]) ++ ((k1.Set.1.map (Value.int .u64)) ++ ([v2]))))) rfl hs (zs := ([Value.int .i64 k1.Kind]) ++ ((k1.Set.1.map (Value.int .u64)) ++ ([v2]))) rfl rfl ?_
  intro b1 wv1 hs
  refine O (r_assign (v := encS []) rfl) rfl ?_
  refine OW_nil ?_
  obtain ⟨o3, hx1, hKhx1⟩ := stepS hM
  refine WP_cut (fun E w => ∃ u9 : Unit, o3 = .next u9 ∧ E 2 = Value.pointer (some ⟨b1, 0, none⟩) ∧ E.ds = [] ∧ Go.Lx.Sep g0 w0 g0 w [Go.Lx.box b1 27 (([Value.int .i64 k1.Kind]) ++ ((k1.Set.1.map (Value.int .u64)) ++ ([v2])))]) ?_ ?_
  · have hM := hx1
    have hag0 := Hle.refl g0
    refine WP_seq ?_
    refine WP_region ?_
    refine O (r_move (v := v1) rfl) rfl ?_
    obtain ⟨a2, ca2, hva2⟩ := hRv1.shape
    refine O (r_lenSl (v := v1) Tryd.underlying56 rfl hva2) rfl ?_
    refine O (r_move (v := Value.int .i64 0) rfl) rfl ?_
    refine OW_nil ?_
    refine WP_block ?_
    refine WP_loop (fun (xv5 : Int) E w => E 2 = Value.pointer (some ⟨b1, 0, none⟩) ∧ E 7 = v1 ∧ E 8 = Value.int .i64 (kinds1.length : Int) ∧ E 9 = Value.int .i64 xv5 ∧ E.ds = [] ∧ Go.Lx.Sep g0 w0 g0 w [Go.Lx.box b1 27 (([Value.int .i64 k1.Kind]) ++ ((k1.Set.1.map (Value.int .u64)) ++ ([v2])))]) hM ⟨rfl, rfl, rfl, rfl, hds, hs⟩ ?_
    clear hs hM
    rintro xv5 o2 E w hM ⟨hE2, hE7, hE8, hE9, hds, hs⟩
    obtain ⟨E, rfl⟩ := open1 (E := E) hE2
    obtain ⟨E, rfl⟩ := open1 (E := E) hE7
    obtain ⟨E, rfl⟩ := open1 (E := E) hE8
    obtain ⟨E, rfl⟩ := open1 (E := E) hE9
    refine WP_seq ?_
    refine WP_region ?_
    refine O (r_lss rfl rfl) rfl ?_
    refine OW_nil ?_
    refine WP_seq ?_
    rcases condS hM with ⟨hc11, hM⟩ | ⟨hc11, hM⟩
    · refine WP_true rfl hc11 ?_
      refine WP_skip ?_
      refine WP_seq ?_
      refine WP_block ?_
      refine WP_seq ?_
      refine WP_region ?_
      obtain ⟨e6, he6, hM⟩ := bindS hM
      obtain ⟨b7, ob7, cb7, hvb7, cs15, hcs15, hcb7⟩ := hRv1.at he6
      have hcs15 : cs15 = _ := hcs15; subst hcs15
      refine O (r_idxSl Tryd.underlying56 ti3 (v := v1) rfl hvb7 rfl (idxL_some he6).1 (idxL_some he6).2.1) rfl ?_
      refine O (r_loadEl (cs := [Value.int .i64 e6]) ti3 rfl rfl (.inr rfl) (hcb7 _ hs.imm) (v := Value.int .i64 e6) rfl) rfl ?_
      refine O (r_assign (v := Value.int .i64 e6) rfl) rfl ?_
      refine OW_nil ?_
      refine WP_seq ?_
      refine WP_region ?_
      refine O (r_fieldAddr Tryd.underlying27 ti3 rfl rfl (by decide) rfl rfl) rfl ?_
      refine O (r_load (v := Value.int .i64 k1.Kind) ti3 rfl (hs.cell (i := 0) (o := 0) rfl (by simp [k1.Set.2]))) rfl ?_
      refine O (r_move (v := Value.int .i64 e6) rfl) rfl ?_
      refine O (r_eql rfl rfl) rfl ?_
      refine OW_nil ?_
      rcases condS hM with ⟨hc12, hM⟩ | ⟨hc12, hM⟩
      · refine WP_true rfl hc12 ?_
        refine WP_seq ?_
        refine WP_region ?_
        refine O (r_loadN (cs := ([Value.int .i64 k1.Kind]) ++ ((k1.Set.1.map (Value.int .u64)) ++ ([v2]))) ti27 rfl (by simp [k1.Set.2]) (hs.cells (i := 0) rfl)) rfl ?_
        obtain ⟨rv6, hrv6, hM⟩ := bindS hM
        refine C [Value.agg (List.toArray (α := Value) (([Value.int .i64 k1.Kind]) ++ ((k1.Set.1.map (Value.int .u64)) ++ ([v2]))))] cf21 rfl (ih_regex_Format hrv6 hs.imm (tT_Regex_iff.2 ⟨[Value.int .i64 k1.Kind], k1.Set.1.map (Value.int .u64), [v2], rfl, rfl, rfl, ⟨_, rfl, hRv2⟩⟩) hG0) rfl ?_
        rintro v8 wv7 ⟨gg6, hvv8, hegg6⟩
        have hlegg6 := hegg6.le hs.imm
        replace hs := hs.call hegg6
        replace hRv2 := hRv2.mono hlegg6
        replace hRv1 := hRv1.mono hlegg6
        replace hG0 := hG0.mono hlegg6
        replace hag0 := hag0.trans hlegg6
        obtain ⟨cs16, rfl, hcs16⟩ := hvv8
        have hcs16 : cs16 = _ := hcs16; subst hcs16
        obtain ⟨s11, hs11, hM⟩ := bindS hM
        refine O (r_catS rfl rfl hs11) rfl ?_
        obtain ⟨s12, hs12, hM⟩ := bindS hM
        refine O (r_catS rfl rfl hs12) rfl ?_
        refine O (r_assign (v := encS s12) rfl) rfl ?_
        refine OW_nil ?_
        refine WP_ret ?_
        obtain rfl := Option.some.inj hM
        refine fun hr => ?_
        have hM := congrArg some hr
        obtain rfl := Option.some.inj hM
        have hM := hKhx1
        obtain rfl := Option.some.inj hM
        refine FL_nil hds ?_
        exact ⟨_, res1 Tryd.results38 (rv_tmp (v := encS s12) rfl), gg6, ⟨[encS s12], rfl, rfl⟩, hs.ext⟩
      · refine WP_false rfl hc12 ?_
        refine WP_skip ?_
        refine WP_region ?_
        obtain ⟨t6, ht6, hM⟩ := bindS hM
        refine O (r_addM rfl rfl ht6) rfl ?_
        refine O (r_move (v := Value.int .i64 t6) rfl) rfl ?_
        refine OW_nil ?_
        obtain rfl := Option.some.inj hM
        exact ⟨rfl, rfl, rfl, rfl, hds, hs⟩
    · refine WP_false rfl hc11 ?_
      refine WP_exit ?_
      obtain rfl := Option.some.inj hM
      refine fun hr => ?_
      have hM := congrArg some hr
      obtain rfl := Option.some.inj hM
      exact ⟨(), rfl, rfl, hds, hs⟩
  · clear hs
    rintro E w ⟨_, rfl, hE2, hds, hs⟩
    have hM := hKhx1
    dsimp only [onStep] at hM
    obtain ⟨E, rfl⟩ := open1 (E := E) hE2
    refine WP_seq ?_
    refine WP_region ?_
    refine O (r_loadN (cs := ([Value.int .i64 k1.Kind]) ++ ((k1.Set.1.map (Value.int .u64)) ++ ([v2]))) ti27 rfl (by simp [k1.Set.2]) (hs.cells (i := 0) rfl)) rfl ?_
    obtain ⟨rv7, hrv7, hM⟩ := bindS hM
    refine C [Value.agg (List.toArray (α := Value) (([Value.int .i64 k1.Kind]) ++ ((k1.Set.1.map (Value.int .u64)) ++ ([v2]))))] cf21 rfl (ih_regex_Format hrv7 hs.imm (tT_Regex_iff.2 ⟨[Value.int .i64 k1.Kind], k1.Set.1.map (Value.int .u64), [v2], rfl, rfl, rfl, ⟨_, rfl, hRv2⟩⟩) hG0) rfl ?_
    rintro v9 wv8 ⟨gg7, hvv9, hegg7⟩
    have hlegg7 := hegg7.le hs.imm
    replace hs := hs.call hegg7
    replace hRv2 := hRv2.mono hlegg7
    replace hG0 := hG0.mono hlegg7
    obtain ⟨cs17, rfl, hcs17⟩ := hvv9
    have hcs17 : cs17 = _ := hcs17; subst hcs17
    refine O (r_assign (v := encS rv7) rfl) rfl ?_
    refine OW_nil ?_
    refine WP_ret ?_
    obtain rfl := Option.some.inj hM
    refine FL_nil hds ?_
    exact ⟨_, res1 Tryd.results38 (rv_tmp (v := encS rv7) rfl), gg7, ⟨[encS rv7], rfl, rfl⟩, hs.ext⟩

set_option maxRecDepth 100000 in
theorem regex_Format_step {fl : Nat} (ih_regex_Format_1 : C.regex_Format_1 fl) : C.regex_Format (fl + 1) := by
  intro rv1 r hM g0 w0 hi cs1 hcs1 hG0
  unfold M.regex_Format at hM
  obtain ⟨cs2, cs3, cs4, rfl, hcs2, hcs3, hcs4⟩ := tT_Regex_iff.1 hcs1
  have hcs2 : cs2 = _ := hcs2; subst hcs2
  have hcs3 : cs3 = _ := hcs3; subst hcs3
  obtain ⟨v1, rfl, hRv1⟩ := hcs4
  have hs := Sep.start hi
  refine calls_of_WP (args := [Value.agg (List.toArray (α := Value) (([Value.int .i64 rv1.Kind]) ++ ((rv1.Set.1.map (Value.int .u64)) ++ ([v1]))))]) Tryd.func21 rfl Tryd.ntmps21 rfl ?_
  have hds : (argEnv [Value.agg (List.toArray (α := Value) (([Value.int .i64 rv1.Kind]) ++ ((rv1.Set.1.map (Value.int .u64)) ++ ([v1]))))]).ds = [] := rfl
  refine WP_seq ?_
  refine WP_region ?_
  refine OW_box (v := Value.agg (List.toArray (α := Value) (([Value.int .i64 rv1.Kind]) ++ ((rv1.Set.1.map (Value.int .u64)) ++ ([v1]))))) rfl hs (zs := ([Value.int .i64 rv1.Kind]) ++ ((rv1.Set.1.map (Value.int .u64)) ++ ([v1]))) rfl rfl ?_
  intro b1 wv1 hs
  refine O (r_assign (v := encS []) rfl) rfl ?_
  refine OW_nil ?_
  refine WP_seq ?_
  refine WP_region ?_
  refine O (r_assign (v := Value.func (.func 38) #[] #[]) rfl) rfl ?_
  refine OW_nil ?_
  refine WP_seq ?_
  refine WP_region ?_
  refine O (r_assign (v := Value.slice none 0 0) rfl) rfl ?_
  refine OW_nil ?_
  refine WP_seq ?_
  refine WP_seq ?_
  refine WP_region ?_
  refine O (r_fieldAddr Tryd.underlying27 ti3 rfl rfl (by decide) rfl rfl) rfl ?_
  refine O (r_load (v := Value.int .i64 rv1.Kind) ti3 rfl (hs.cell (i := 0) (o := 0) rfl (by simp [rv1.Set.2]))) rfl ?_
  refine OW_nil ?_
  refine WP_block ?_
  refine WP_seq ?_
  refine WP_region ?_
  refine O (r_eql rfl rfl) rfl ?_
  refine O (r_assign (v := Value.bool (rv1.Kind == 3)) rfl) rfl ?_
  refine OW_nil ?_
  rcases condS hM with ⟨hc1, hM⟩ | ⟨hc1, hM⟩
  · refine WP_true rfl hc1 ?_
    refine WP_seq ?_
    refine WP_region ?_
    refine O (r_fieldAddr Tryd.underlying27 ti24 rfl rfl (by decide) rfl rfl) rfl ?_
    refine O (r_loadN (cs := rv1.Set.1.map (Value.int .u64)) ti24 rfl (by simp [rv1.Set.2]) (hs.cellsAt (i := 0) (o := 1) rfl (by intro j u hj; exact sub_at (pre := [Value.int .i64 rv1.Kind]) (ds := rv1.Set.1.map (Value.int .u64)) (post := [v1]) rfl ((by simp)) hj))) rfl ?_
    obtain ⟨rv2, hrv2, hM⟩ := bindS hM
    refine C [encV .u64 rv1.Set] cf39 rfl (regex_formatSet_ok hrv2 hs.imm hG0) rfl ?_
    rintro v2 wv2 ⟨gg1, hvv2, hegg1⟩
    have hlegg1 := hegg1.le hs.imm
    replace hs := hs.call hegg1
    replace hG0 := hG0.mono hlegg1
    replace hRv1 := hRv1.mono hlegg1
    obtain ⟨cs5, rfl, hcs5⟩ := hvv2
    have hcs5 : cs5 = _ := hcs5; subst hcs5
    refine O (r_assign (v := encS rv2) rfl) rfl ?_
    refine OW_nil ?_
    refine WP_ret ?_
    obtain rfl := Option.some.inj hM
    refine FL_nil hds ?_
    exact ⟨_, res1 Tryd.results21 (rv_tmp (v := encS rv2) rfl), gg1, ⟨[encS rv2], rfl, rfl⟩, hs.ext⟩
  · refine WP_false rfl hc1 ?_
    refine WP_seq ?_
    refine WP_region ?_
    refine O (r_eql rfl rfl) rfl ?_
    refine O (r_assign (v := Value.bool (rv1.Kind == 6)) rfl) rfl ?_
    refine OW_nil ?_
    rcases condS hM with ⟨hc2, hM⟩ | ⟨hc2, hM⟩
    · refine WP_true rfl hc2 ?_
      refine WP_seq ?_
      refine WP_region ?_
      refine O (r_move (v := Value.func (.func 38) #[] #[]) rfl) rfl ?_
      refine O (r_fieldAddr Tryd.underlying27 ti25 rfl rfl (by decide) rfl rfl) rfl ?_
      refine O (r_load (v := v1) ti25 rfl (hs.cell (i := 0) (o := 5) rfl (by simp [rv1.Set.2]))) rfl ?_
      obtain ⟨e1, he1, hM⟩ := bindS hM
      obtain ⟨b2, ob2, cb2, hvb2, cs6, hcs6, hcb2⟩ := hRv1.at he1
      obtain ⟨cs7, cs8, cs9, rfl, hcs7, hcs8, hcs9⟩ := tT_Regex_iff.1 hcs6
      have hcs7 : cs7 = _ := hcs7; subst hcs7
      have hcs8 : cs8 = _ := hcs8; subst hcs8
      obtain ⟨v3, rfl, hRv3⟩ := hcs9
      refine O (r_idxSl Tryd.underlying25 ti27 (v := v1) rfl hvb2 rfl (idxL_some he1).1 (idxL_some he1).2.1) rfl ?_
      refine O (r_loadEl (cs := ([Value.int .i64 e1.Kind]) ++ ((e1.Set.1.map (Value.int .u64)) ++ ([v3]))) ti27 rfl (by simp [e1.Set.2]) (.inl rfl) (hcb2 _ hs.imm) (v := Value.agg (List.toArray (α := Value) (([Value.int .i64 e1.Kind]) ++ ((e1.Set.1.map (Value.int .u64)) ++ ([v3]))))) rfl) rfl ?_
      refine OW_lit (τ := (tInt .i64)) [Value.int .i64 2, Value.int .i64 4, Value.int .i64 5, Value.int .i64 6] [2, 4, 5, 6] Tryd.underlying56 ti3 (by decide) hs rfl rfl rfl ⟨rfl, rfl, rfl, rfl, trivial⟩ rfl ?_
      intro v4 wv3 xs1 hrelxs1 hs
      have hsL1 := hs
      have hG0L1 := hG0
      have hRv1L1 := hRv1
      have hRv3L1 := hRv3
      have hrelxs1L1 := hrelxs1
      obtain ⟨gg2, hlegg2, hRgg2, hs⟩ := hs.relRow (i := 0) rfl hrelxs1
      replace hG0 := hG0.mono hlegg2
      replace hRv1 := hRv1.mono hlegg2
      replace hRv3 := hRv3.mono hlegg2
      obtain ⟨rv3, hrv3, hM⟩ := bindS hM
      refine CV [Value.agg (List.toArray (α := Value) (([Value.int .i64 e1.Kind]) ++ ((e1.Set.1.map (Value.int .u64)) ++ ([v3])))), v4] [] cf38 rfl rfl (ih_regex_Format_1 hrv3 hs.imm (tT_Regex_iff.2 ⟨[Value.int .i64 e1.Kind], e1.Set.1.map (Value.int .u64), [v3], rfl, rfl, rfl, ⟨_, rfl, hRv3⟩⟩) hRgg2 hG0) rfl ?_
      rintro v5 wv4 ⟨gg3, hvv5, hegg3⟩
      obtain ⟨gg4, hlegg4, hs⟩ := hsL1.lent hegg3
      replace hG0 := hG0L1.mono hlegg4
      replace hRv1 := hRv1L1.mono hlegg4
      replace hRv3 := hRv3L1.mono hlegg4
      replace hrelxs1 := hrelxs1L1.mono hlegg4
      obtain ⟨cs10, rfl, hcs10⟩ := hvv5
      have hcs10 : cs10 = _ := hcs10; subst hcs10
      obtain ⟨s1, hs1, hM⟩ := bindS hM
      refine O (r_catS rfl rfl hs1) rfl ?_
      refine O (r_assign (v := encS s1) rfl) rfl ?_
      refine OW_nil ?_
      refine WP_ret ?_
      obtain rfl := Option.some.inj hM
      refine FL_nil hds ?_
      exact ⟨_, res1 Tryd.results21 (rv_tmp (v := encS s1) rfl), gg4, ⟨[encS s1], rfl, rfl⟩, hs.ext⟩
    · refine WP_false rfl hc2 ?_
      refine WP_seq ?_
      refine WP_region ?_
      refine O (r_eql rfl rfl) rfl ?_
      refine O (r_assign (v := Value.bool (rv1.Kind == 4)) rfl) rfl ?_
      refine OW_nil ?_
      rcases condS hM with ⟨hc3, hM⟩ | ⟨hc3, hM⟩
      · refine WP_true rfl hc3 ?_
        obtain ⟨xv7, hx1, hKhx1⟩ := bindS hM
        refine WP_cut (fun E w => ∃ (gg17 : Hp) (v24 : Value) (xs15 : List Value), E 4 = v24 ∧ E.ds = [] ∧ Hle g0 gg17 ∧ RowRel tStr gg17 xs15 xv7 ∧ Go.Lx.Sep g0 w0 gg17 w [.row v24 9 tStr.sz xv7.length xs15]) ?_ ?_
        · have hM := hx1
          have hag0 := Hle.refl g0
          refine WP_seq ?_
          refine WP_region ?_
          refine O (r_fieldAddr Tryd.underlying27 ti25 rfl rfl (by decide) rfl rfl) rfl ?_
          refine O (r_load (v := v1) ti25 rfl (hs.cell (i := 0) (o := 5) rfl (by simp [rv1.Set.2]))) rfl ?_
          obtain ⟨a2, ca2, hva2⟩ := hRv1.shape
          refine O (r_lenSl (v := v1) Tryd.underlying25 rfl hva2) rfl ?_
          refine O (r_move (v := Value.int .i64 0) rfl) rfl ?_
          refine OW_nil ?_
          refine WP_block ?_
          have hs := hs.nilRow 9 tStr.sz
          refine WP_loop (fun (st9 : (List Str) × Int) E w => match st9 with | (xv10, xv11) => ∃ (gg22 : Hp) (v31 : Value) (xs21 : List Value), E 3 = Value.func (.func 38) #[] #[] ∧ E 4 = v31 ∧ E 29 = v1 ∧ E 30 = Value.int .i64 (rv1.Kids.length : Int) ∧ E 31 = Value.int .i64 xv11 ∧ E.ds = [] ∧ Hle g0 gg22 ∧ RowRel tStr gg22 xs21 xv10 ∧ Go.Lx.Sep g0 w0 gg22 w [.row v31 9 tStr.sz xv10.length xs21]) hM ⟨g0, (Value.slice none 0 0), [], rfl, rfl, rfl, rfl, rfl, hds, (Hle.refl _), RowRel.nil, (hs.sub (.cons_cons _ (.cons _ .slnil)))⟩ ?_
          clear hs hM
          rintro ⟨xv10, xv11⟩ o2 E w hM ⟨gg22, v31, xs21, hE3, hE4, hE29, hE30, hE31, hds, hlegg22, hrelxs21, hs⟩
          obtain ⟨E, rfl⟩ := open1 (E := E) hE3
          obtain ⟨E, rfl⟩ := open1 (E := E) hE4
          obtain ⟨E, rfl⟩ := open1 (E := E) hE29
          obtain ⟨E, rfl⟩ := open1 (E := E) hE30
          obtain ⟨E, rfl⟩ := open1 (E := E) hE31
          replace hRv1 := hRv1.mono hlegg22
          replace hG0 := hG0.mono hlegg22
          replace hag0 := hag0.trans hlegg22
          have hagg22 := Hle.refl gg22
          refine WP_seq ?_
          refine WP_region ?_
          refine O (r_lss rfl rfl) rfl ?_
          refine OW_nil ?_
          refine WP_seq ?_
          rcases condS hM with ⟨hc9, hM⟩ | ⟨hc9, hM⟩
          · refine WP_true rfl hc9 ?_
            refine WP_skip ?_
            refine WP_seq ?_
            refine WP_block ?_
            refine WP_seq ?_
            refine WP_region ?_
            obtain ⟨e7, he7, hM⟩ := bindS hM
            obtain ⟨b13, ob13, cb13, hvb13, cs36, hcs36, hcb13⟩ := hRv1.at he7
            obtain ⟨cs37, cs38, cs39, rfl, hcs37, hcs38, hcs39⟩ := tT_Regex_iff.1 hcs36
            have hcs37 : cs37 = _ := hcs37; subst hcs37
            have hcs38 : cs38 = _ := hcs38; subst hcs38
            obtain ⟨v38, rfl, hRv38⟩ := hcs39
            refine O (r_idxSl Tryd.underlying25 ti27 (v := v1) rfl hvb13 rfl (idxL_some he7).1 (idxL_some he7).2.1) rfl ?_
            refine O (r_loadEl (cs := ([Value.int .i64 e7.Kind]) ++ ((e7.Set.1.map (Value.int .u64)) ++ ([v38]))) ti27 rfl (by simp [e7.Set.2]) (.inl rfl) (hcb13 _ hs.imm) (v := Value.agg (List.toArray (α := Value) (([Value.int .i64 e7.Kind]) ++ ((e7.Set.1.map (Value.int .u64)) ++ ([v38]))))) rfl) rfl ?_
            refine OW_alloc ti27 hs (zs := ([Value.int .i64 0]) ++ (((Vec.zero 4).1.map (Value.int .u64)) ++ ([Value.slice none 0 0]))) rfl rfl ?_
            intro b14 wv35 hs
            refine OW_storeAll ti27 hs (i := 0) rfl rfl (v := Value.agg (List.toArray (α := Value) (([Value.int .i64 e7.Kind]) ++ ((e7.Set.1.map (Value.int .u64)) ++ ([v38]))))) rfl (vs := ([Value.int .i64 e7.Kind]) ++ ((e7.Set.1.map (Value.int .u64)) ++ ([v38]))) rfl (one_append (one_cons rfl one_nil) (one_append vec_one (one_cons (by obtain ⟨_, _, h9⟩ := hRv38.shape; rw [h9]; rfl) one_nil))) (by simp [e7.Set.2]) (by simp [e7.Set.2, (Vec.zero 4).2]) ?_
            intro wv36 hs
            refine OW_nil ?_
            refine WP_region ?_
            refine O (r_move (v := v31) rfl) rfl ?_
            refine O (r_move (v := Value.func (.func 38) #[] #[]) rfl) rfl ?_
            refine O (r_loadN (cs := ([Value.int .i64 e7.Kind]) ++ ((e7.Set.1.map (Value.int .u64)) ++ ([v38]))) ti27 rfl (by simp [e7.Set.2]) (hs.cells (i := 0) rfl)) rfl ?_
            refine OW_lit (τ := (tInt .i64)) [Value.int .i64 4, Value.int .i64 5] [4, 5] Tryd.underlying56 ti3 (by decide) hs rfl rfl rfl ⟨rfl, rfl, trivial⟩ rfl ?_
            intro v39 wv37 xs26 hrelxs26 hs
            have hsL7 := hs
            have hRv1L7 := hRv1
            have hG0L7 := hG0
            have hrelxs21L7 := hrelxs21
            have hRv38L7 := hRv38
            have hrelxs26L7 := hrelxs26
            have hlegg22L7 := hlegg22
            have hagg22L7 := hagg22
            obtain ⟨gg27, hlegg27, hRgg27, hs⟩ := hs.relRow (i := 0) rfl hrelxs26
            replace hRv1 := hRv1.mono hlegg27
            replace hG0 := hG0.mono hlegg27
            replace hrelxs21 := hrelxs21.mono hlegg27
            replace hRv38 := hRv38.mono hlegg27
            replace hlegg22 := hlegg22.trans hlegg27
            replace hagg22 := hagg22.trans hlegg27
            obtain ⟨rv9, hrv9, hM⟩ := bindS hM
            refine CV [Value.agg (List.toArray (α := Value) (([Value.int .i64 e7.Kind]) ++ ((e7.Set.1.map (Value.int .u64)) ++ ([v38])))), v39] [] cf38 rfl rfl (ih_regex_Format_1 hrv9 hs.imm (tT_Regex_iff.2 ⟨[Value.int .i64 e7.Kind], e7.Set.1.map (Value.int .u64), [v38], rfl, rfl, rfl, ⟨_, rfl, hRv38⟩⟩) hRgg27 hG0) rfl ?_
            rintro v40 wv38 ⟨gg28, hvv40, hegg28⟩
            obtain ⟨gg29, hlegg29, hs⟩ := hsL7.lent hegg28
            replace hRv1 := hRv1L7.mono hlegg29
            replace hG0 := hG0L7.mono hlegg29
            replace hrelxs21 := hrelxs21L7.mono hlegg29
            replace hRv38 := hRv38L7.mono hlegg29
            replace hrelxs26 := hrelxs26L7.mono hlegg29
            replace hlegg22 := hlegg22L7.trans hlegg29
            replace hagg22 := hagg22L7.trans hlegg29
            obtain ⟨cs40, rfl, hcs40⟩ := hvv40
            have hcs40 : cs40 = _ := hcs40; subst hcs40
            refine OW_lit (τ := tStr) [encS rv9] [rv9] Tryd.underlying58 ti9 (by decide) hs rfl rfl rfl ⟨rfl, trivial⟩ rfl ?_
            intro v41 wv39 xs27 hrelxs27 hs
            obtain ⟨l4, hl4, hM⟩ := bindS hM
            refine OW_append Tryd.underlying58 ti9 rfl (by decide) (by decide) hs (i := 3) rfl hrelxs21 (v := v31) rfl (u := v41) rfl (hs.rowSrc (i := 0) rfl) hrelxs27 hl4 rfl ?_
            intro v42 wv40 xs28 hrelxs28 hs
            refine O (r_assign (v := v42) rfl) rfl ?_
            refine OW_nil ?_
            refine WP_region ?_
            obtain ⟨t6, ht6, hM⟩ := bindS hM
            refine O (r_addM rfl rfl ht6) rfl ?_
            refine O (r_move (v := Value.int .i64 t6) rfl) rfl ?_
            refine OW_nil ?_
            obtain rfl := Option.some.inj hM
            exact ⟨gg29, v42, xs28, rfl, rfl, rfl, rfl, rfl, hds, hlegg22, hrelxs28, (hs.sub (.cons _ (.cons _ (.cons _ (.cons_cons _ .slnil)))))⟩
          · refine WP_false rfl hc9 ?_
            refine WP_exit ?_
            obtain rfl := Option.some.inj hM
            refine fun hr => ?_
            have hM := congrArg some hr
            obtain rfl := Option.some.inj hM
            exact ⟨gg22, v31, xs21, rfl, hds, hlegg22, hrelxs21, hs⟩
        · clear hs
          rintro E w ⟨gg17, v24, xs15, hE4, hds, hlegg17, hrelxs15, hs⟩
          have hM := hKhx1
          obtain ⟨E, rfl⟩ := open1 (E := E) hE4
          replace hG0 := hG0.mono hlegg17
          refine WP_seq ?_
          refine WP_region ?_
          refine O (r_move (v := v24) rfl) rfl ?_
          have hsL8 := hs
          have hG0L8 := hG0
          have hrelxs15L8 := hrelxs15
          obtain ⟨gg30, hlegg30, hRgg30, hs⟩ := hs.relRow (i := 0) rfl hrelxs15
          replace hG0 := hG0.mono hlegg30
          obtain ⟨rv10, hrv10, hM⟩ := bindS hM
          refine C [v24, encS []] cf40 rfl (strings_Join_ok hrv10 hs.imm hRgg30) rfl ?_
          rintro v43 wv41 ⟨gg31, hvv43, hegg31⟩
          obtain ⟨gg32, hlegg32, hs⟩ := hsL8.lent hegg31
          replace hG0 := hG0L8.mono hlegg32
          replace hrelxs15 := hrelxs15L8.mono hlegg32
          obtain ⟨cs41, rfl, hcs41⟩ := hvv43
          have hcs41 : cs41 = _ := hcs41; subst hcs41
          refine O (r_assign (v := encS rv10) rfl) rfl ?_
          refine OW_nil ?_
          refine WP_ret ?_
          obtain rfl := Option.some.inj hM
          refine FL_nil hds ?_
          exact ⟨_, res1 Tryd.results21 (rv_tmp (v := encS rv10) rfl), gg32, ⟨[encS rv10], rfl, rfl⟩, hs.ext⟩
      · refine WP_false rfl hc3 ?_
        refine WP_seq ?_
        refine WP_region ?_
        refine O (r_eql rfl rfl) rfl ?_
        refine O (r_assign (v := Value.bool (rv1.Kind == 5)) rfl) rfl ?_
        refine OW_nil ?_
        rcases condS hM with ⟨hc10, hM⟩ | ⟨hc10, hM⟩
        · refine WP_true rfl hc10 ?_
          obtain ⟨xv20, hx2, hKhx2⟩ := bindS hM
          refine WP_cut (fun E w => ∃ (gg45 : Hp) (v62 : Value) (xs42 : List Value), E 4 = v62 ∧ E.ds = [] ∧ Hle g0 gg45 ∧ RowRel tStr gg45 xs42 xv20 ∧ Go.Lx.Sep g0 w0 gg45 w [.row v62 9 tStr.sz xv20.length xs42]) ?_ ?_
          · have hM := hx2
            have hag0 := Hle.refl g0
            refine WP_seq ?_
            refine WP_region ?_
            refine O (r_fieldAddr Tryd.underlying27 ti25 rfl rfl (by decide) rfl rfl) rfl ?_
            refine O (r_load (v := v1) ti25 rfl (hs.cell (i := 0) (o := 5) rfl (by simp [rv1.Set.2]))) rfl ?_
            obtain ⟨a4, ca4, hva4⟩ := hRv1.shape
            refine O (r_lenSl (v := v1) Tryd.underlying25 rfl hva4) rfl ?_
            refine O (r_move (v := Value.int .i64 0) rfl) rfl ?_
            refine OW_nil ?_
            refine WP_block ?_
            have hs := hs.nilRow 9 tStr.sz
            refine WP_loop (fun (st9 : (List Str) × Int) E w => match st9 with | (xv23, xv24) => ∃ (gg50 : Hp) (v69 : Value) (xs48 : List Value), E 3 = Value.func (.func 38) #[] #[] ∧ E 4 = v69 ∧ E 48 = v1 ∧ E 49 = Value.int .i64 (rv1.Kids.length : Int) ∧ E 50 = Value.int .i64 xv24 ∧ E.ds = [] ∧ Hle g0 gg50 ∧ RowRel tStr gg50 xs48 xv23 ∧ Go.Lx.Sep g0 w0 gg50 w [.row v69 9 tStr.sz xv23.length xs48]) hM ⟨g0, (Value.slice none 0 0), [], rfl, rfl, rfl, rfl, rfl, hds, (Hle.refl _), RowRel.nil, (hs.sub (.cons_cons _ (.cons _ .slnil)))⟩ ?_
            clear hs hM
            rintro ⟨xv23, xv24⟩ o4 E w hM ⟨gg50, v69, xs48, hE3, hE4, hE48, hE49, hE50, hds, hlegg50, hrelxs48, hs⟩
            obtain ⟨E, rfl⟩ := open1 (E := E) hE3
            obtain ⟨E, rfl⟩ := open1 (E := E) hE4
            obtain ⟨E, rfl⟩ := open1 (E := E) hE48
            obtain ⟨E, rfl⟩ := open1 (E := E) hE49
            obtain ⟨E, rfl⟩ := open1 (E := E) hE50
            replace hRv1 := hRv1.mono hlegg50
            replace hG0 := hG0.mono hlegg50
            replace hag0 := hag0.trans hlegg50
            have hagg50 := Hle.refl gg50
            refine WP_seq ?_
            refine WP_region ?_
            refine O (r_lss rfl rfl) rfl ?_
            refine OW_nil ?_
            refine WP_seq ?_
            rcases condS hM with ⟨hc16, hM⟩ | ⟨hc16, hM⟩
            · refine WP_true rfl hc16 ?_
              refine WP_skip ?_
              refine WP_seq ?_
              refine WP_block ?_
              refine WP_seq ?_
              refine WP_region ?_
              obtain ⟨e13, he13, hM⟩ := bindS hM
              obtain ⟨b25, ob25, cb25, hvb25, cs67, hcs67, hcb25⟩ := hRv1.at he13
              obtain ⟨cs68, cs69, cs70, rfl, hcs68, hcs69, hcs70⟩ := tT_Regex_iff.1 hcs67
              have hcs68 : cs68 = _ := hcs68; subst hcs68
              have hcs69 : cs69 = _ := hcs69; subst hcs69
              obtain ⟨v76, rfl, hRv76⟩ := hcs70
              refine O (r_idxSl Tryd.underlying25 ti27 (v := v1) rfl hvb25 rfl (idxL_some he13).1 (idxL_some he13).2.1) rfl ?_
              refine O (r_loadEl (cs := ([Value.int .i64 e13.Kind]) ++ ((e13.Set.1.map (Value.int .u64)) ++ ([v76]))) ti27 rfl (by simp [e13.Set.2]) (.inl rfl) (hcb25 _ hs.imm) (v := Value.agg (List.toArray (α := Value) (([Value.int .i64 e13.Kind]) ++ ((e13.Set.1.map (Value.int .u64)) ++ ([v76]))))) rfl) rfl ?_
              refine OW_alloc ti27 hs (zs := ([Value.int .i64 0]) ++ (((Vec.zero 4).1.map (Value.int .u64)) ++ ([Value.slice none 0 0]))) rfl rfl ?_
              intro b26 wv72 hs
              refine OW_storeAll ti27 hs (i := 0) rfl rfl (v := Value.agg (List.toArray (α := Value) (([Value.int .i64 e13.Kind]) ++ ((e13.Set.1.map (Value.int .u64)) ++ ([v76]))))) rfl (vs := ([Value.int .i64 e13.Kind]) ++ ((e13.Set.1.map (Value.int .u64)) ++ ([v76]))) rfl (one_append (one_cons rfl one_nil) (one_append vec_one (one_cons (by obtain ⟨_, _, h9⟩ := hRv76.shape; rw [h9]; rfl) one_nil))) (by simp [e13.Set.2]) (by simp [e13.Set.2, (Vec.zero 4).2]) ?_
              intro wv73 hs
              refine OW_nil ?_
              refine WP_region ?_
              refine O (r_move (v := v69) rfl) rfl ?_
              refine O (r_move (v := Value.func (.func 38) #[] #[]) rfl) rfl ?_
              refine O (r_loadN (cs := ([Value.int .i64 e13.Kind]) ++ ((e13.Set.1.map (Value.int .u64)) ++ ([v76]))) ti27 rfl (by simp [e13.Set.2]) (hs.cells (i := 0) rfl)) rfl ?_
              refine OW_lit (τ := (tInt .i64)) [Value.int .i64 5] [5] Tryd.underlying56 ti3 (by decide) hs rfl rfl rfl ⟨rfl, trivial⟩ rfl ?_
              intro v77 wv74 xs53 hrelxs53 hs
              have hsL14 := hs
              have hRv1L14 := hRv1
              have hG0L14 := hG0
              have hrelxs48L14 := hrelxs48
              have hRv76L14 := hRv76
              have hrelxs53L14 := hrelxs53
              have hlegg50L14 := hlegg50
              have hagg50L14 := hagg50
              obtain ⟨gg55, hlegg55, hRgg55, hs⟩ := hs.relRow (i := 0) rfl hrelxs53
              replace hRv1 := hRv1.mono hlegg55
              replace hG0 := hG0.mono hlegg55
              replace hrelxs48 := hrelxs48.mono hlegg55
              replace hRv76 := hRv76.mono hlegg55
              replace hlegg50 := hlegg50.trans hlegg55
              replace hagg50 := hagg50.trans hlegg55
              obtain ⟨rv16, hrv16, hM⟩ := bindS hM
              refine CV [Value.agg (List.toArray (α := Value) (([Value.int .i64 e13.Kind]) ++ ((e13.Set.1.map (Value.int .u64)) ++ ([v76])))), v77] [] cf38 rfl rfl (ih_regex_Format_1 hrv16 hs.imm (tT_Regex_iff.2 ⟨[Value.int .i64 e13.Kind], e13.Set.1.map (Value.int .u64), [v76], rfl, rfl, rfl, ⟨_, rfl, hRv76⟩⟩) hRgg55 hG0) rfl ?_
              rintro v78 wv75 ⟨gg56, hvv78, hegg56⟩
              obtain ⟨gg57, hlegg57, hs⟩ := hsL14.lent hegg56
              replace hRv1 := hRv1L14.mono hlegg57
              replace hG0 := hG0L14.mono hlegg57
              replace hrelxs48 := hrelxs48L14.mono hlegg57
              replace hRv76 := hRv76L14.mono hlegg57
              replace hrelxs53 := hrelxs53L14.mono hlegg57
              replace hlegg50 := hlegg50L14.trans hlegg57
              replace hagg50 := hagg50L14.trans hlegg57
              obtain ⟨cs71, rfl, hcs71⟩ := hvv78
              have hcs71 : cs71 = _ := hcs71; subst hcs71
              refine OW_lit (τ := tStr) [encS rv16] [rv16] Tryd.underlying58 ti9 (by decide) hs rfl rfl rfl ⟨rfl, trivial⟩ rfl ?_
              intro v79 wv76 xs54 hrelxs54 hs
              obtain ⟨l8, hl8, hM⟩ := bindS hM
              refine OW_append Tryd.underlying58 ti9 rfl (by decide) (by decide) hs (i := 3) rfl hrelxs48 (v := v69) rfl (u := v79) rfl (hs.rowSrc (i := 0) rfl) hrelxs54 hl8 rfl ?_
              intro v80 wv77 xs55 hrelxs55 hs
              refine O (r_assign (v := v80) rfl) rfl ?_
              refine OW_nil ?_
              refine WP_region ?_
              obtain ⟨t12, ht12, hM⟩ := bindS hM
              refine O (r_addM rfl rfl ht12) rfl ?_
              refine O (r_move (v := Value.int .i64 t12) rfl) rfl ?_
              refine OW_nil ?_
              obtain rfl := Option.some.inj hM
              exact ⟨gg57, v80, xs55, rfl, rfl, rfl, rfl, rfl, hds, hlegg50, hrelxs55, (hs.sub (.cons _ (.cons _ (.cons _ (.cons_cons _ .slnil)))))⟩
            · refine WP_false rfl hc16 ?_
              refine WP_exit ?_
              obtain rfl := Option.some.inj hM
              refine fun hr => ?_
              have hM := congrArg some hr
              obtain rfl := Option.some.inj hM
              exact ⟨gg50, v69, xs48, rfl, hds, hlegg50, hrelxs48, hs⟩
          · clear hs
            rintro E w ⟨gg45, v62, xs42, hE4, hds, hlegg45, hrelxs42, hs⟩
            have hM := hKhx2
            obtain ⟨E, rfl⟩ := open1 (E := E) hE4
            replace hG0 := hG0.mono hlegg45
            refine WP_seq ?_
            refine WP_region ?_
            refine O (r_move (v := v62) rfl) rfl ?_
            have hsL15 := hs
            have hG0L15 := hG0
            have hrelxs42L15 := hrelxs42
            obtain ⟨gg58, hlegg58, hRgg58, hs⟩ := hs.relRow (i := 0) rfl hrelxs42
            replace hG0 := hG0.mono hlegg58
            obtain ⟨rv17, hrv17, hM⟩ := bindS hM
            refine C [v62, encS [124]] cf40 rfl (strings_Join_ok hrv17 hs.imm hRgg58) rfl ?_
            rintro v81 wv78 ⟨gg59, hvv81, hegg59⟩
            obtain ⟨gg60, hlegg60, hs⟩ := hsL15.lent hegg59
            replace hG0 := hG0L15.mono hlegg60
            replace hrelxs42 := hrelxs42L15.mono hlegg60
            obtain ⟨cs72, rfl, hcs72⟩ := hvv81
            have hcs72 : cs72 = _ := hcs72; subst hcs72
            refine O (r_assign (v := encS rv17) rfl) rfl ?_
            refine OW_nil ?_
            refine WP_ret ?_
            obtain rfl := Option.some.inj hM
            refine FL_nil hds ?_
            exact ⟨_, res1 Tryd.results21 (rv_tmp (v := encS rv17) rfl), gg60, ⟨[encS rv17], rfl, rfl⟩, hs.ext⟩
        · refine WP_false rfl hc10 ?_
          refine WP_skip ?_
          refine WP_seq ?_
          refine WP_region ?_
          refine O (r_assign (v := encS [40, 41]) rfl) rfl ?_
          refine OW_nil ?_
          refine WP_ret ?_
          obtain rfl := Option.some.inj hM
          refine FL_nil hds ?_
          exact ⟨_, res1 Tryd.results21 (rv_tmp (v := encS [40, 41]) rfl), g0, ⟨[encS [40, 41]], rfl, rfl⟩, hs.ext⟩
theorem regex_Format_1_zero : C.regex_Format_1 0 := by
  unfold C.regex_Format_1
  intros
  simp_all only [M.regex_Format_1, reduceCtorEq]
theorem regex_Format_zero : C.regex_Format 0 := by
  unfold C.regex_Format
  intros
  simp_all only [M.regex_Format, reduceCtorEq]
theorem regex_Format_1_all : ∀ fl, C.regex_Format_1 fl ∧ C.regex_Format fl := by
  intro fl
  induction fl with
  | zero => exact ⟨regex_Format_1_zero, regex_Format_zero⟩
  | succ fl ih =>
    obtain ⟨ih_regex_Format_1, ih_regex_Format⟩ := ih
    exact ⟨regex_Format_1_step ih_regex_Format, regex_Format_step ih_regex_Format_1⟩
theorem regex_Format_1_ok {fl : Nat} : C.regex_Format_1 fl := (regex_Format_1_all fl).1
theorem regex_Format_ok {fl : Nat} : C.regex_Format fl := (regex_Format_1_all fl).2

set_option maxRecDepth 100000 in
theorem ref08_Has_ok {s1 : (Vec 4)} {b1 : Int} {r : Bool} (hM : M.ref08_Has s1 b1 = some r) {g0 : Hp} {w0 : World} (hi : Imm g0 w0) :
    CallsV Tryd.prog 52 #[encV .u64 s1, Value.int .i64 b1] w0 (fun v w' => ∃ g', (VRd tBool false g' v r) ∧ Ext g0 w0 g' w') := by
  unfold M.ref08_Has at hM
  have hs := Sep.start hi
  refine calls_of_WP (args := [encV .u64 s1, Value.int .i64 b1]) Tryd.func52 rfl Tryd.ntmps52 rfl ?_
  have hds : (argEnv [encV .u64 s1, Value.int .i64 b1]).ds = [] := rfl
  refine WP_seq ?_
  refine WP_region ?_
  refine OW_box (v := encV .u64 s1) rfl hs (zs := s1.1.map (Value.int .u64)) rfl rfl ?_
  intro b2 wv1 hs
  refine O (r_assign (v := Value.bool false) rfl) rfl ?_
  refine OW_nil ?_
  refine WP_seq ?_
  refine WP_region ?_
  refine O (r_move (v := Value.int .i64 b1) rfl) rfl ?_
  obtain ⟨t1, ht1, hM⟩ := bindS hM
  refine O (r_quoM rfl rfl ht1) rfl ?_
  obtain ⟨c1, hc1, hM⟩ := bindS hM
  refine O (r_idxArr Tryd.underlying24 ti22 rfl rfl (vget_some hc1).1 (vget_some hc1).2.1) rfl ?_
  refine O (r_load ti22 rfl (hs.cell (i := 0) rfl (vget_cell hc1))) rfl ?_
  refine O (r_move (v := Value.int .i64 b1) rfl) rfl ?_
  obtain ⟨t2, ht2, hM⟩ := bindS hM
  refine O (r_remM rfl rfl ht2) rfl ?_
  refine O (r_conv Tryd.underlying3 Tryd.underlying83 rfl) rfl ?_
  obtain ⟨t3, ht3, hM⟩ := bindS hM
  refine O (r_shrM rfl rfl ht3) rfl ?_
  refine O (r_and rfl rfl) rfl ?_
  refine O (r_eql rfl rfl) rfl ?_
  refine O (r_assign (v := Value.bool ((bits .and .u64 t3 1) == 1)) rfl) rfl ?_
  refine OW_nil ?_
  refine WP_ret ?_
  obtain rfl := Option.some.inj hM
  refine FL_nil hds ?_
  exact ⟨_, res1 Tryd.results52 (rv_tmp (v := Value.bool ((bits .and .u64 t3 1) == 1)) rfl), g0, ⟨[Value.bool ((bits .and .u64 t3 1) == 1)], rfl, rfl⟩, hs.ext⟩

set_option maxRecDepth 100000 in
theorem ref08_With_ok {s1 : (Vec 4)} {b1 : Int} {r : (Vec 4)} (hM : M.ref08_With s1 b1 = some r) {g0 : Hp} {w0 : World} (hi : Imm g0 w0) :
    CallsV Tryd.prog 72 #[encV .u64 s1, Value.int .i64 b1] w0 (fun v w' => ∃ g', (VRd (tVec 4 .u64) true g' v r) ∧ Ext g0 w0 g' w') := by
  unfold M.ref08_With at hM
  have hs := Sep.start hi
  refine calls_of_WP (args := [encV .u64 s1, Value.int .i64 b1]) Tryd.func72 rfl Tryd.ntmps72 rfl ?_
  have hds : (argEnv [encV .u64 s1, Value.int .i64 b1]).ds = [] := rfl
  refine WP_seq ?_
  refine WP_region ?_
  refine OW_box (v := encV .u64 s1) rfl hs (zs := s1.1.map (Value.int .u64)) rfl rfl ?_
  intro b2 wv1 hs
  refine OW_alloc ti24 hs (zs := (Vec.zero 4).1.map (Value.int .u64)) rfl rfl ?_
  intro b3 wv2 hs
  refine OW_nil ?_
  refine WP_seq ?_
  refine WP_region ?_
  refine O (r_move (v := Value.int .i64 b1) rfl) rfl ?_
  obtain ⟨t1, ht1, hM⟩ := bindS hM
  refine O (r_quoM rfl rfl ht1) rfl ?_
  refine O (r_move (v := Value.int .i64 b1) rfl) rfl ?_
  refine O (r_quoM rfl rfl ht1) rfl ?_
  obtain ⟨c1, hc1, hM⟩ := bindS hM
  refine O (r_idxArr Tryd.underlying24 ti22 rfl rfl (vget_some hc1).1 (vget_some hc1).2.1) rfl ?_
  refine O (r_load ti22 rfl (hs.cell (i := 1) rfl (vget_cell hc1))) rfl ?_
  refine O (r_move (v := Value.int .i64 b1) rfl) rfl ?_
  obtain ⟨t2, ht2, hM⟩ := bindS hM
  refine O (r_remM rfl rfl ht2) rfl ?_
  refine O (r_conv Tryd.underlying3 Tryd.underlying83 rfl) rfl ?_
  obtain ⟨t3, ht3, hM⟩ := bindS hM
  refine O (r_shlM rfl rfl ht3) rfl ?_
  refine O (r_or rfl rfl) rfl ?_
  obtain ⟨s2, hs2, hM⟩ := bindS hM
  refine O (r_idxArr Tryd.underlying24 ti22 rfl rfl (vset_some hs2).1 (vset_some hs2).2.1) rfl ?_
  refine OW_store1 ti22 hs (i := 1) rfl rfl (v := Value.int .u64 (bits .or .u64 c1 t3)) rfl rfl (vset_lt hs2) ?_
  intro wv3 hs
  replace hs : Go.Lx.Sep g0 w0 g0 wv3 [Go.Lx.box b3 24 ((Vec.zero 4).1.map (Value.int .u64)), Go.Lx.box b2 24 (s2.1.map (Value.int .u64))] := by have h9 := hs; simp only [List.set] at h9; rw [vset_cells hs2] at h9; exact h9
  refine OW_nil ?_
  refine WP_seq ?_
  refine WP_region ?_
  refine O (r_loadN (cs := s2.1.map (Value.int .u64)) ti24 rfl (by simp [s2.2]) (hs.cells (i := 1) rfl)) rfl ?_
  refine OW_storeAll ti24 hs (i := 0) rfl rfl (v := encV .u64 s2) rfl (vs := s2.1.map (Value.int .u64)) rfl vec_one (by simp [s2.2]) (by simp [s2.2, (Vec.zero 4).2]) ?_
  intro wv4 hs
  refine OW_nil ?_
  refine WP_ret ?_
  obtain rfl := Option.some.inj hM
  refine FL_nil hds ?_
  exact ⟨_, res1 Tryd.results72 (rv_cells (vs := s2.1.map (Value.int .u64)) ti24 rfl (by simp [s2.2]) (hs.cells (i := 0) rfl)), g0, ⟨s2.1.map (Value.int .u64), rfl, rfl⟩, hs.ext⟩

set_option maxRecDepth 100000 in
theorem ref08_Not_ok {s1 : (Vec 4)} {r : (Vec 4)} (hM : M.ref08_Not s1 = some r) {g0 : Hp} {w0 : World} (hi : Imm g0 w0) :
    CallsV Tryd.prog 37 #[encV .u64 s1] w0 (fun v w' => ∃ g', (VRd (tVec 4 .u64) true g' v r) ∧ Ext g0 w0 g' w') := by
  unfold M.ref08_Not at hM
  have hs := Sep.start hi
  refine calls_of_WP (args := [encV .u64 s1]) Tryd.func37 rfl Tryd.ntmps37 rfl ?_
  have hds : (argEnv [encV .u64 s1]).ds = [] := rfl
  refine WP_seq ?_
  refine WP_region ?_
  refine OW_box (v := encV .u64 s1) rfl hs (zs := s1.1.map (Value.int .u64)) rfl rfl ?_
  intro b1 wv1 hs
  refine OW_alloc ti24 hs (zs := (Vec.zero 4).1.map (Value.int .u64)) rfl rfl ?_
  intro b2 wv2 hs
  refine OW_nil ?_
  obtain ⟨s8, hx1, hKhx1⟩ := bindS hM
  refine WP_cut (fun E w => E 1 = Value.pointer (some ⟨b1, 0, none⟩) ∧ E 2 = Value.pointer (some ⟨b2, 0, none⟩) ∧ E.ds = [] ∧ Go.Lx.Sep g0 w0 g0 w [Go.Lx.box b2 24 ((Vec.zero 4).1.map (Value.int .u64)), Go.Lx.box b1 24 (s8.1.map (Value.int .u64))]) ?_ ?_
  · have hM := hx1
    have hag0 := Hle.refl g0
    refine WP_seq ?_
    refine WP_region ?_
    refine O (r_assign (v := Value.int .i64 0) rfl) rfl ?_
    refine OW_nil ?_
    refine WP_block ?_
    refine WP_loop (fun (st9 : (Vec 4) × Int) E w => match st9 with | (s11, i5) => E 1 = Value.pointer (some ⟨b1, 0, none⟩) ∧ E 2 = Value.pointer (some ⟨b2, 0, none⟩) ∧ E 3 = Value.int .i64 i5 ∧ E.ds = [] ∧ Go.Lx.Sep g0 w0 g0 w [Go.Lx.box b2 24 ((Vec.zero 4).1.map (Value.int .u64)), Go.Lx.box b1 24 (s11.1.map (Value.int .u64))]) hM ⟨rfl, rfl, rfl, hds, hs⟩ ?_
    clear hs hM
    rintro ⟨s11, i5⟩ o2 E w hM ⟨hE1, hE2, hE3, hds, hs⟩
    obtain ⟨E, rfl⟩ := open1 (E := E) hE1
    obtain ⟨E, rfl⟩ := open1 (E := E) hE2
    obtain ⟨E, rfl⟩ := open1 (E := E) hE3
    refine WP_seq ?_
    refine WP_seq ?_
    refine WP_region ?_
    refine O (r_move (v := Value.int .i64 i5) rfl) rfl ?_
    refine O (r_lss rfl rfl) rfl ?_
    refine OW_nil ?_
    rcases condS hM with ⟨hc6, hM⟩ | ⟨hc6, hM⟩
    · refine WP_true rfl hc6 ?_
      refine WP_skip ?_
      refine WP_seq ?_
      refine WP_block ?_
      refine WP_region ?_
      refine O (r_move (v := Value.int .i64 i5) rfl) rfl ?_
      refine O (r_move (v := Value.int .i64 i5) rfl) rfl ?_
      obtain ⟨c6, hc6, hM⟩ := bindS hM
      refine O (r_idxArr Tryd.underlying24 ti22 rfl rfl (vget_some hc6).1 (vget_some hc6).2.1) rfl ?_
      refine O (r_load ti22 rfl (hs.cell (i := 1) rfl (vget_cell hc6))) rfl ?_
      refine O (r_compl rfl) rfl ?_
      obtain ⟨s14, hs14, hM⟩ := bindS hM
      refine O (r_idxArr Tryd.underlying24 ti22 rfl rfl (vset_some hs14).1 (vset_some hs14).2.1) rfl ?_
      refine OW_store1 ti22 hs (i := 1) rfl rfl (v := Value.int .u64 (complM .u64 c6)) rfl rfl (vset_lt hs14) ?_
      intro wv8 hs
      replace hs : Go.Lx.Sep g0 w0 g0 wv8 [Go.Lx.box b2 24 ((Vec.zero 4).1.map (Value.int .u64)), Go.Lx.box b1 24 (s14.1.map (Value.int .u64))] := by have h9 := hs; simp only [List.set] at h9; rw [vset_cells hs14] at h9; exact h9
      refine OW_nil ?_
      refine WP_region ?_
      refine O (r_move (v := Value.int .i64 i5) rfl) rfl ?_
      obtain ⟨t6, ht6, hM⟩ := bindS hM
      refine O (r_addM rfl rfl ht6) rfl ?_
      refine O (r_assign (v := Value.int .i64 t6) rfl) rfl ?_
      refine OW_nil ?_
      obtain rfl := Option.some.inj hM
      exact ⟨rfl, rfl, rfl, hds, hs⟩
    · refine WP_false rfl hc6 ?_
      refine WP_exit ?_
      obtain rfl := Option.some.inj hM
      refine fun hr => ?_
      have hM := congrArg some hr
      obtain rfl := Option.some.inj hM
      exact ⟨rfl, rfl, hds, hs⟩
  · clear hs
    rintro E w ⟨hE1, hE2, hds, hs⟩
    have hM := hKhx1
    obtain ⟨E, rfl⟩ := open1 (E := E) hE1
    obtain ⟨E, rfl⟩ := open1 (E := E) hE2
    refine WP_seq ?_
    refine WP_region ?_
    refine O (r_loadN (cs := s8.1.map (Value.int .u64)) ti24 rfl (by simp [s8.2]) (hs.cells (i := 1) rfl)) rfl ?_
    refine OW_storeAll ti24 hs (i := 0) rfl rfl (v := encV .u64 s8) rfl (vs := s8.1.map (Value.int .u64)) rfl vec_one (by simp [s8.2]) (by simp [s8.2, (Vec.zero 4).2]) ?_
    intro wv9 hs
    refine OW_nil ?_
    refine WP_ret ?_
    obtain rfl := Option.some.inj hM
    refine FL_nil hds ?_
    exact ⟨_, res1 Tryd.results37 (rv_cells (vs := s8.1.map (Value.int .u64)) ti24 rfl (by simp [s8.2]) (hs.cells (i := 0) rfl)), g0, ⟨s8.1.map (Value.int .u64), rfl, rfl⟩, hs.ext⟩

set_option maxRecDepth 100000 in
theorem ref08_Dot_ok {r : (Vec 4)} (hM : M.ref08_Dot = some r) {g0 : Hp} {w0 : World} (hi : Imm g0 w0) :
    CallsV Tryd.prog 61 #[] w0 (fun v w' => ∃ g', (VRd (tVec 4 .u64) true g' v r) ∧ Ext g0 w0 g' w') := by
  unfold M.ref08_Dot at hM
  have hs := Sep.start hi
  refine calls_of_WP (args := []) Tryd.func61 rfl Tryd.ntmps61 rfl ?_
  have hds : (argEnv []).ds = [] := rfl
  refine WP_seq ?_
  refine WP_region ?_
  refine OW_alloc ti24 hs (zs := (Vec.zero 4).1.map (Value.int .u64)) rfl rfl ?_
  intro b1 wv1 hs
  refine OW_nil ?_
  refine WP_seq ?_
  refine WP_region ?_
  refine O (r_build (vs := []) (cs := (Vec.zero 4).1.map (Value.int .u64)) rfl (by kernel_rfl)) rfl ?_
  obtain ⟨rv1, hrv1, hM⟩ := bindS hM
  refine C [encV .u64 (Vec.zero 4), Value.int .i64 10] cf72 rfl (ref08_With_ok hrv1 hs.imm) rfl ?_
  rintro v1 wv2 ⟨gg1, hvv1, hegg1⟩
  have hlegg1 := hegg1.le hs.imm
  replace hs := hs.call hegg1
  obtain ⟨cs1, rfl, hcs1⟩ := hvv1
  have hcs1 : cs1 = _ := hcs1; subst hcs1
  obtain ⟨rv2, hrv2, hM⟩ := bindS hM
  refine C [encV .u64 rv1] cf37 rfl (ref08_Not_ok hrv2 hs.imm) rfl ?_
  rintro v2 wv3 ⟨gg2, hvv2, hegg2⟩
  have hlegg2 := hegg2.le hs.imm
  replace hs := hs.call hegg2
  obtain ⟨cs2, rfl, hcs2⟩ := hvv2
  have hcs2 : cs2 = _ := hcs2; subst hcs2
  refine OW_storeAll ti24 hs (i := 0) rfl rfl (v := encV .u64 rv2) rfl (vs := rv2.1.map (Value.int .u64)) rfl vec_one (by simp [rv2.2]) (by simp [rv2.2, (Vec.zero 4).2]) ?_
  intro wv4 hs
  refine OW_nil ?_
  refine WP_ret ?_
  obtain rfl := Option.some.inj hM
  refine FL_nil hds ?_
  exact ⟨_, res1 Tryd.results61 (rv_cells (vs := rv2.1.map (Value.int .u64)) ti24 rfl (by simp [rv2.2]) (hs.cells (i := 0) rfl)), gg2, ⟨rv2.1.map (Value.int .u64), rfl, rfl⟩, hs.ext⟩

set_option maxRecDepth 100000 in
theorem ref08_One_ok {b1 : Int} {r : T_Regex} (hM : M.ref08_One b1 = some r) {g0 : Hp} {w0 : World} (hi : Imm g0 w0) :
    CallsV Tryd.prog 87 #[Value.int .i64 b1] w0 (fun v w' => ∃ g', (VRd tT_Regex true g' v r) ∧ Ext g0 w0 g' w') := by
  unfold M.ref08_One at hM
  have hs := Sep.start hi
  refine calls_of_WP (args := [Value.int .i64 b1]) Tryd.func87 rfl Tryd.ntmps87 rfl ?_
  have hds : (argEnv [Value.int .i64 b1]).ds = [] := rfl
  refine WP_seq ?_
  refine WP_region ?_
  refine OW_alloc ti27 hs (zs := ([Value.int .i64 0]) ++ (((Vec.zero 4).1.map (Value.int .u64)) ++ ([Value.slice none 0 0]))) rfl rfl ?_
  intro b2 wv1 hs
  refine OW_nil ?_
  refine WP_seq ?_
  refine WP_region ?_
  refine O (r_build (vs := []) (cs := (Vec.zero 4).1.map (Value.int .u64)) rfl (by kernel_rfl)) rfl ?_
  refine O (r_move (v := Value.int .i64 b1) rfl) rfl ?_
  obtain ⟨rv1, hrv1, hM⟩ := bindS hM
  refine C [encV .u64 (Vec.zero 4), Value.int .i64 b1] cf72 rfl (ref08_With_ok hrv1 hs.imm) rfl ?_
  rintro v1 wv2 ⟨gg1, hvv1, hegg1⟩
  have hlegg1 := hegg1.le hs.imm
  replace hs := hs.call hegg1
  obtain ⟨cs1, rfl, hcs1⟩ := hvv1
  have hcs1 : cs1 = _ := hcs1; subst hcs1
  refine O (r_build (vs := [(0, Value.int .i64 3), (1, encV .u64 rv1)]) (cs := ([Value.int .i64 3]) ++ ((rv1.1.map (Value.int .u64)) ++ ([Value.slice none 0 0]))) rfl (built_fill [(0, 1), (1, 4), (5, 1)] (([Value.int .i64 0]) ++ (((Vec.zero 4).1.map (Value.int .u64)) ++ ([Value.slice none 0 0]))) (fun _ => by kernel_rfl) (fill_step ([]) ([Value.int .i64 0]) (((Vec.zero 4).1.map (Value.int .u64)) ++ ([Value.slice none 0 0])) ([Value.int .i64 3]) rfl (by simp) rfl rfl rfl rfl <| fill_step ([Value.int .i64 3]) ((Vec.zero 4).1.map (Value.int .u64)) ([Value.slice none 0 0]) (rv1.1.map (Value.int .u64)) rfl (by simp) rfl rfl (by simp [(Vec.zero 4).2]) (by simp [rv1.2]) <| fill_done))) rfl ?_
  refine OW_storeAll ti27 hs (i := 0) rfl rfl (v := Value.agg (List.toArray (α := Value) (([Value.int .i64 3]) ++ ((rv1.1.map (Value.int .u64)) ++ ([Value.slice none 0 0]))))) rfl (vs := ([Value.int .i64 3]) ++ ((rv1.1.map (Value.int .u64)) ++ ([Value.slice none 0 0]))) rfl (one_append (one_cons rfl one_nil) (one_append vec_one (one_cons rfl one_nil))) (by simp [rv1.2]) (by simp [rv1.2, (Vec.zero 4).2]) ?_
  intro wv3 hs
  refine OW_nil ?_
  refine WP_ret ?_
  obtain rfl := Option.some.inj hM
  refine FL_nil hds ?_
  exact ⟨_, res1 Tryd.results87 (rv_cells (vs := ([Value.int .i64 3]) ++ ((rv1.1.map (Value.int .u64)) ++ ([Value.slice none 0 0]))) ti27 rfl (by simp [rv1.2]) (hs.cells (i := 0) rfl)), gg1, ⟨([Value.int .i64 3]) ++ ((rv1.1.map (Value.int .u64)) ++ ([Value.slice none 0 0])), rfl, (tT_Regex_iff.2 ⟨[Value.int .i64 3], rv1.1.map (Value.int .u64), [Value.slice none 0 0], rfl, rfl, rfl, ⟨_, rfl, RdS.nil⟩⟩)⟩, hs.ext⟩

def C.ref08_valid (fl : Nat) : Prop := ∀ {rv1 : T_Regex} {above1 : Int} {r : Bool} (_ : M.ref08_valid fl rv1 above1 = some r) {g0 : Hp} {w0 : World} (hi : Imm g0 w0) {cs1 : List Value} (hcs1 : tT_Regex.rel g0 cs1 rv1),
    CallsV Tryd.prog 30 #[Value.agg cs1.toArray, Value.int .i64 above1] w0 (fun v w' => ∃ g', (VRd tBool false g' v r) ∧ Ext g0 w0 g' w')
set_option maxRecDepth 100000 in
theorem ref08_valid_step {fl : Nat} (ih_ref08_valid : C.ref08_valid fl) : C.ref08_valid (fl + 1) := by
  intro rv1 above1 r hM g0 w0 hi cs1 hcs1
  unfold M.ref08_valid at hM
  obtain ⟨cs2, cs3, cs4, rfl, hcs2, hcs3, hcs4⟩ := tT_Regex_iff.1 hcs1
  have hcs2 : cs2 = _ := hcs2; subst hcs2
  have hcs3 : cs3 = _ := hcs3; subst hcs3
  obtain ⟨v1, rfl, hRv1⟩ := hcs4
  have hs := Sep.start hi
  refine calls_of_WP (args := [Value.agg (List.toArray (α := Value) (([Value.int .i64 rv1.Kind]) ++ ((rv1.Set.1.map (Value.int .u64)) ++ ([v1])))), Value.int .i64 above1]) Tryd.func30 rfl Tryd.ntmps30 rfl ?_
  have hds : (argEnv [Value.agg (List.toArray (α := Value) (([Value.int .i64 rv1.Kind]) ++ ((rv1.Set.1.map (Value.int .u64)) ++ ([v1])))), Value.int .i64 above1]).ds = [] := rfl
  refine WP_seq ?_
  refine WP_region ?_
  refine OW_box (v := Value.agg (List.toArray (α := Value) (([Value.int .i64 rv1.Kind]) ++ ((rv1.Set.1.map (Value.int .u64)) ++ ([v1]))))) rfl hs (zs := ([Value.int .i64 rv1.Kind]) ++ ((rv1.Set.1.map (Value.int .u64)) ++ ([v1]))) rfl rfl ?_
  intro b1 wv1 hs
  refine O (r_assign (v := Value.bool false) rfl) rfl ?_
  refine OW_nil ?_
  refine WP_seq ?_
  obtain ⟨xv1, hx1, hKhx1⟩ := bindS hM
  refine WP_cut (fun E w => E 1 = Value.int .i64 above1 ∧ E 2 = Value.pointer (some ⟨b1, 0, none⟩) ∧ E 19 = Value.bool xv1 ∧ E.ds = [] ∧ Go.Lx.Sep g0 w0 g0 w [Go.Lx.box b1 27 (([Value.int .i64 rv1.Kind]) ++ ((rv1.Set.1.map (Value.int .u64)) ++ ([v1])))]) ?_ ?_
  · have hM := hx1
    have hag0 := Hle.refl g0
    refine WP_region ?_
    refine O (r_move (v := Value.int .i64 above1) rfl) rfl ?_
    refine O (r_geq rfl rfl) rfl ?_
    refine O (r_move (v := Value.bool (decide (30 ≤ above1))) rfl) rfl ?_
    rcases condS hM with ⟨hg3, hM⟩ | ⟨hg3, hM⟩
    · refine OK rfl rfl rfl (by rw [hg3]; rfl) rfl ?_
      refine OK rfl rfl rfl (by rw [hg3]; rfl) rfl ?_
      refine OK rfl rfl rfl (by rw [hg3]; rfl) rfl ?_
      refine OK rfl rfl rfl (by rw [hg3]; rfl) rfl ?_
      refine OKU rfl rfl rfl rfl ?_
      refine OKU rfl rfl rfl rfl ?_
      refine OKU rfl rfl rfl rfl ?_
      refine OKU rfl rfl rfl rfl ?_
      refine OK rfl rfl rfl (by rw [hg3]; rfl) rfl ?_
      refine O (r_pickT (v := Value.bool true) rfl hg3 rfl) rfl ?_
      refine OW_nil ?_
      obtain rfl := Option.some.inj hM
      exact ⟨rfl, rfl, rfl, hds, hs⟩
    · refine OG rfl rfl rfl (by rw [hg3]; rfl) (r_fieldAddr Tryd.underlying27 ti3 rfl rfl (by decide) rfl rfl) rfl ?_
      refine OG rfl rfl rfl (by rw [hg3]; rfl) (r_load (v := Value.int .i64 rv1.Kind) ti3 rfl (hs.cell (i := 0) (o := 0) rfl (by simp [rv1.Set.2]))) rfl ?_
      refine OG rfl rfl rfl (by rw [hg3]; rfl) (r_neq rfl rfl) rfl ?_
      refine OG rfl rfl rfl (by rw [hg3]; rfl) (r_move (v := Value.bool (rv1.Kind != 3)) rfl) rfl ?_
      rcases condS hM with ⟨hg4, hM⟩ | ⟨hg4, hM⟩
      · refine OG rfl rfl rfl (by rw [hg4]; rfl) (r_fieldAddr Tryd.underlying27 ti24 rfl rfl (by decide) rfl rfl) rfl ?_
        refine OG rfl rfl rfl (by rw [hg4]; rfl) (r_loadN (cs := rv1.Set.1.map (Value.int .u64)) ti24 rfl (by simp [rv1.Set.2]) (hs.cellsAt (i := 0) (o := 1) rfl (by intro j u hj; exact sub_at (pre := [Value.int .i64 rv1.Kind]) (ds := rv1.Set.1.map (Value.int .u64)) (post := [v1]) rfl ((by simp)) hj))) rfl ?_
        refine OG rfl rfl rfl (by rw [hg4]; rfl) (r_build (vs := []) (cs := (Vec.zero 4).1.map (Value.int .u64)) rfl (by kernel_rfl)) rfl ?_
        refine OG rfl rfl rfl (by rw [hg4]; rfl) (r_neqV Tryd.underlying24 Tryd.underlying22 ti22 rfl rfl eg24) rfl ?_
        refine OG rfl rfl rfl (by rw [hg3]; rfl) (r_pickT (v := Value.bool (rv1.Set != (Vec.zero 4))) rfl hg4 rfl) rfl ?_
        refine O (r_pickF (v := Value.bool (rv1.Set != (Vec.zero 4))) rfl hg3 rfl) rfl ?_
        refine OW_nil ?_
        obtain rfl := Option.some.inj hM
        exact ⟨rfl, rfl, rfl, hds, hs⟩
      · refine OK rfl rfl rfl (by rw [hg4]; rfl) rfl ?_
        refine OK rfl rfl rfl (by rw [hg4]; rfl) rfl ?_
        refine OK rfl rfl rfl (by rw [hg4]; rfl) rfl ?_
        refine OK rfl rfl rfl (by rw [hg4]; rfl) rfl ?_
        refine OG rfl rfl rfl (by rw [hg3]; rfl) (r_pickF (v := Value.bool false) rfl hg4 rfl) rfl ?_
        refine O (r_pickF (v := Value.bool false) rfl hg3 rfl) rfl ?_
        refine OW_nil ?_
        obtain rfl := Option.some.inj hM
        exact ⟨rfl, rfl, rfl, hds, hs⟩
  · clear hs
    rintro E w ⟨hE1, hE2, hE19, hds, hs⟩
    have hM := hKhx1
    obtain ⟨E, rfl⟩ := open1 (E := E) hE1
    obtain ⟨E, rfl⟩ := open1 (E := E) hE2
    obtain ⟨E, rfl⟩ := open1 (E := E) hE19
    rcases condS hM with ⟨hc1, hM⟩ | ⟨hc1, hM⟩
    · refine WP_true rfl hc1 ?_
      refine WP_seq ?_
      refine WP_region ?_
      refine O (r_assign (v := Value.bool false) rfl) rfl ?_
      refine OW_nil ?_
      refine WP_ret ?_
      obtain rfl := Option.some.inj hM
      refine FL_nil hds ?_
      exact ⟨_, res1 Tryd.results30 (rv_tmp (v := Value.bool false) rfl), g0, ⟨[Value.bool false], rfl, rfl⟩, hs.ext⟩
    · refine WP_false rfl hc1 ?_
      refine WP_skip ?_
      refine WP_seq ?_
      refine WP_region ?_
      refine O (r_fieldAddr Tryd.underlying27 ti25 rfl rfl (by decide) rfl rfl) rfl ?_
      refine O (r_load (v := v1) ti25 rfl (hs.cell (i := 0) (o := 5) rfl (by simp [rv1.Set.2]))) rfl ?_
      obtain ⟨a1, ca1, hva1⟩ := hRv1.shape
      refine O (r_lenSl (v := v1) Tryd.underlying25 rfl hva1) rfl ?_
      refine O (r_assign (v := Value.int .i64 (rv1.Kids.length : Int)) rfl) rfl ?_
      refine OW_nil ?_
      obtain ⟨o1, hx5, hKhx5⟩ := stepS hM
      refine WP_cut (fun E w => ∃ u9 : Unit, o1 = .next u9 ∧ E 1 = Value.int .i64 above1 ∧ E 2 = Value.pointer (some ⟨b1, 0, none⟩) ∧ E 5 = Value.int .i64 (rv1.Kids.length : Int) ∧ E.ds = [] ∧ Go.Lx.Sep g0 w0 g0 w [Go.Lx.box b1 27 (([Value.int .i64 rv1.Kind]) ++ ((rv1.Set.1.map (Value.int .u64)) ++ ([v1])))]) ?_ ?_
      · have hM := hx5
        have hag0 := Hle.refl g0
        refine WP_seq ?_
        refine WP_region ?_
        refine O (r_fieldAddr Tryd.underlying27 ti3 rfl rfl (by decide) rfl rfl) rfl ?_
        refine O (r_load (v := Value.int .i64 rv1.Kind) ti3 rfl (hs.cell (i := 0) (o := 0) rfl (by simp [rv1.Set.2]))) rfl ?_
        refine OW_nil ?_
        refine WP_block ?_
        obtain ⟨xv5, hx6, hKhx6⟩ := bindS hM
        refine WP_cut (fun E w => E 1 = Value.int .i64 above1 ∧ E 2 = Value.pointer (some ⟨b1, 0, none⟩) ∧ E 5 = Value.int .i64 (rv1.Kids.length : Int) ∧ E 24 = Value.int .i64 rv1.Kind ∧ E 25 = Value.bool xv5 ∧ E.ds = [] ∧ Go.Lx.Sep g0 w0 g0 w [Go.Lx.box b1 27 (([Value.int .i64 rv1.Kind]) ++ ((rv1.Set.1.map (Value.int .u64)) ++ ([v1])))]) ?_ ?_
        · have hM := hx6
          refine WP_seq ?_
          refine WP_region ?_
          refine O (r_eql rfl rfl) rfl ?_
          refine O (r_assign (v := Value.bool (rv1.Kind == 1)) rfl) rfl ?_
          refine OW_nil ?_
          rcases condS hM with ⟨hc13, hM⟩ | ⟨hc13, hM⟩
          · refine WP_true rfl hc13 ?_
            refine WP_skip ?_
            obtain rfl := Option.some.inj hM
            exact ⟨rfl, rfl, rfl, rfl, rfl, hds, hs⟩
          · refine WP_false rfl hc13 ?_
            refine WP_region ?_
            refine O (r_eql rfl rfl) rfl ?_
            refine O (r_assign (v := Value.bool (rv1.Kind == 2)) rfl) rfl ?_
            refine OW_nil ?_
            obtain rfl := Option.some.inj hM
            exact ⟨rfl, rfl, rfl, rfl, rfl, hds, hs⟩
        · clear hs
          rintro E w ⟨hE1, hE2, hE5, hE24, hE25, hds, hs⟩
          have hM := hKhx6
          obtain ⟨E, rfl⟩ := open1 (E := E) hE1
          obtain ⟨E, rfl⟩ := open1 (E := E) hE2
          obtain ⟨E, rfl⟩ := open1 (E := E) hE5
          obtain ⟨E, rfl⟩ := open1 (E := E) hE24
          obtain ⟨E, rfl⟩ := open1 (E := E) hE25
          rcases condS hM with ⟨hc14, hM⟩ | ⟨hc14, hM⟩
          · refine WP_true rfl hc14 ?_
            refine WP_seq ?_
            refine WP_region ?_
            refine O (r_move (v := Value.int .i64 (rv1.Kids.length : Int)) rfl) rfl ?_
            refine O (r_eql rfl rfl) rfl ?_
            refine O (r_assign (v := Value.bool ((rv1.Kids.length : Int) == 0)) rfl) rfl ?_
            refine OW_nil ?_
            refine WP_ret ?_
            obtain rfl := Option.some.inj hM
            have hM := hKhx5
            obtain rfl := Option.some.inj hM
            refine FL_nil hds ?_
            exact ⟨_, res1 Tryd.results30 (rv_tmp (v := Value.bool ((rv1.Kids.length : Int) == 0)) rfl), g0, ⟨[Value.bool ((rv1.Kids.length : Int) == 0)], rfl, rfl⟩, hs.ext⟩
          · refine WP_false rfl hc14 ?_
            refine WP_seq ?_
            refine WP_region ?_
            refine O (r_eql rfl rfl) rfl ?_
            refine O (r_assign (v := Value.bool (rv1.Kind == 3)) rfl) rfl ?_
            refine OW_nil ?_
            rcases condS hM with ⟨hc15, hM⟩ | ⟨hc15, hM⟩
            · refine WP_true rfl hc15 ?_
              obtain ⟨xv6, hx7, hKhx7⟩ := bindS hM
              refine WP_cut (fun E w => E 4 = Value.bool xv6 ∧ E.ds = [] ∧ Go.Lx.Sep g0 w0 g0 w []) ?_ ?_
              · have hM := hx7
                refine WP_region ?_
                refine O (r_move (v := Value.int .i64 (rv1.Kids.length : Int)) rfl) rfl ?_
                refine O (r_eql rfl rfl) rfl ?_
                refine O (r_move (v := Value.bool ((rv1.Kids.length : Int) == 0)) rfl) rfl ?_
                rcases condS hM with ⟨hg8, hM⟩ | ⟨hg8, hM⟩
                · refine OG rfl rfl rfl (by rw [hg8]; rfl) (r_fieldAddr Tryd.underlying27 ti24 rfl rfl (by decide) rfl rfl) rfl ?_
                  refine OG rfl rfl rfl (by rw [hg8]; rfl) (r_loadN (cs := rv1.Set.1.map (Value.int .u64)) ti24 rfl (by simp [rv1.Set.2]) (hs.cellsAt (i := 0) (o := 1) rfl (by intro j u hj; exact sub_at (pre := [Value.int .i64 rv1.Kind]) (ds := rv1.Set.1.map (Value.int .u64)) (post := [v1]) rfl ((by simp)) hj))) rfl ?_
                  refine OG rfl rfl rfl (by rw [hg8]; rfl) (r_build (vs := []) (cs := (Vec.zero 4).1.map (Value.int .u64)) rfl (by kernel_rfl)) rfl ?_
                  refine OG rfl rfl rfl (by rw [hg8]; rfl) (r_neqV Tryd.underlying24 Tryd.underlying22 ti22 rfl rfl eg24) rfl ?_
                  refine O (r_pickT (v := Value.bool (rv1.Set != (Vec.zero 4))) rfl hg8 rfl) rfl ?_
                  refine O (r_assign (v := Value.bool (rv1.Set != (Vec.zero 4))) rfl) rfl ?_
                  refine OW_nil ?_
                  obtain rfl := Option.some.inj hM
                  exact ⟨rfl, hds, (hs.sub (.cons _ .slnil))⟩
                · refine OK rfl rfl rfl (by rw [hg8]; rfl) rfl ?_
                  refine OK rfl rfl rfl (by rw [hg8]; rfl) rfl ?_
                  refine OK rfl rfl rfl (by rw [hg8]; rfl) rfl ?_
                  refine OK rfl rfl rfl (by rw [hg8]; rfl) rfl ?_
                  refine O (r_pickF (v := Value.bool false) rfl hg8 rfl) rfl ?_
                  refine O (r_assign (v := Value.bool false) rfl) rfl ?_
                  refine OW_nil ?_
                  obtain rfl := Option.some.inj hM
                  exact ⟨rfl, hds, (hs.sub (.cons _ .slnil))⟩
              · clear hs
                rintro E w ⟨hE4, hds, hs⟩
                have hM := hKhx7
                obtain ⟨E, rfl⟩ := open1 (E := E) hE4
                refine WP_ret ?_
                obtain rfl := Option.some.inj hM
                have hM := hKhx5
                obtain rfl := Option.some.inj hM
                refine FL_nil hds ?_
                exact ⟨_, res1 Tryd.results30 (rv_tmp (v := Value.bool xv6) rfl), g0, ⟨[Value.bool xv6], rfl, rfl⟩, hs.ext⟩
            · refine WP_false rfl hc15 ?_
              obtain ⟨xv7, hx8, hKhx8⟩ := bindS hM
              refine WP_cut (fun E w => E 1 = Value.int .i64 above1 ∧ E 2 = Value.pointer (some ⟨b1, 0, none⟩) ∧ E 5 = Value.int .i64 (rv1.Kids.length : Int) ∧ E 24 = Value.int .i64 rv1.Kind ∧ E 40 = Value.bool xv7 ∧ E.ds = [] ∧ Go.Lx.Sep g0 w0 g0 w [Go.Lx.box b1 27 (([Value.int .i64 rv1.Kind]) ++ ((rv1.Set.1.map (Value.int .u64)) ++ ([v1])))]) ?_ ?_
              · have hM := hx8
                refine WP_seq ?_
                refine WP_region ?_
                refine O (r_eql rfl rfl) rfl ?_
                refine O (r_assign (v := Value.bool (rv1.Kind == 4)) rfl) rfl ?_
                refine OW_nil ?_
                rcases condS hM with ⟨hc17, hM⟩ | ⟨hc17, hM⟩
                · refine WP_true rfl hc17 ?_
                  refine WP_skip ?_
                  obtain rfl := Option.some.inj hM
                  exact ⟨rfl, rfl, rfl, rfl, rfl, hds, hs⟩
                · refine WP_false rfl hc17 ?_
                  refine WP_region ?_
                  refine O (r_eql rfl rfl) rfl ?_
                  refine O (r_assign (v := Value.bool (rv1.Kind == 5)) rfl) rfl ?_
                  refine OW_nil ?_
                  obtain rfl := Option.some.inj hM
                  exact ⟨rfl, rfl, rfl, rfl, rfl, hds, hs⟩
              · clear hs
                rintro E w ⟨hE1, hE2, hE5, hE24, hE40, hds, hs⟩
                have hM := hKhx8
                obtain ⟨E, rfl⟩ := open1 (E := E) hE1
                obtain ⟨E, rfl⟩ := open1 (E := E) hE2
                obtain ⟨E, rfl⟩ := open1 (E := E) hE5
                obtain ⟨E, rfl⟩ := open1 (E := E) hE24
                obtain ⟨E, rfl⟩ := open1 (E := E) hE40
                rcases condS hM with ⟨hc18, hM⟩ | ⟨hc18, hM⟩
                · refine WP_true rfl hc18 ?_
                  refine WP_seq ?_
                  refine WP_region ?_
                  refine O (r_move (v := Value.int .i64 (rv1.Kids.length : Int)) rfl) rfl ?_
                  refine O (r_lss rfl rfl) rfl ?_
                  refine OW_nil ?_
                  rcases condS hM with ⟨hc19, hM⟩ | ⟨hc19, hM⟩
                  · refine WP_true rfl hc19 ?_
                    refine WP_seq ?_
                    refine WP_region ?_
                    refine O (r_assign (v := Value.bool false) rfl) rfl ?_
                    refine OW_nil ?_
                    refine WP_ret ?_
                    obtain rfl := Option.some.inj hM
                    have hM := hKhx5
                    obtain rfl := Option.some.inj hM
                    refine FL_nil hds ?_
                    exact ⟨_, res1 Tryd.results30 (rv_tmp (v := Value.bool false) rfl), g0, ⟨[Value.bool false], rfl, rfl⟩, hs.ext⟩
                  · refine WP_false rfl hc19 ?_
                    refine WP_skip ?_
                    obtain rfl := Option.some.inj hM
                    exact ⟨(), rfl, rfl, rfl, rfl, hds, hs⟩
                · refine WP_false rfl hc18 ?_
                  refine WP_seq ?_
                  refine WP_region ?_
                  refine O (r_eql rfl rfl) rfl ?_
                  refine O (r_assign (v := Value.bool (rv1.Kind == 6)) rfl) rfl ?_
                  refine OW_nil ?_
                  rcases condS hM with ⟨hc20, hM⟩ | ⟨hc20, hM⟩
                  · refine WP_true rfl hc20 ?_
                    refine WP_seq ?_
                    refine WP_region ?_
                    refine O (r_move (v := Value.int .i64 (rv1.Kids.length : Int)) rfl) rfl ?_
                    refine O (r_neq rfl rfl) rfl ?_
                    refine OW_nil ?_
                    rcases condS hM with ⟨hc21, hM⟩ | ⟨hc21, hM⟩
                    · refine WP_true rfl hc21 ?_
                      refine WP_seq ?_
                      refine WP_region ?_
                      refine O (r_assign (v := Value.bool false) rfl) rfl ?_
                      refine OW_nil ?_
                      refine WP_ret ?_
                      obtain rfl := Option.some.inj hM
                      have hM := hKhx5
                      obtain rfl := Option.some.inj hM
                      refine FL_nil hds ?_
                      exact ⟨_, res1 Tryd.results30 (rv_tmp (v := Value.bool false) rfl), g0, ⟨[Value.bool false], rfl, rfl⟩, hs.ext⟩
                    · refine WP_false rfl hc21 ?_
                      refine WP_skip ?_
                      obtain rfl := Option.some.inj hM
                      exact ⟨(), rfl, rfl, rfl, rfl, hds, hs⟩
                  · refine WP_false rfl hc20 ?_
                    refine WP_seq ?_
                    refine WP_region ?_
                    refine O (r_assign (v := Value.bool false) rfl) rfl ?_
                    refine OW_nil ?_
                    refine WP_ret ?_
                    obtain rfl := Option.some.inj hM
                    have hM := hKhx5
                    obtain rfl := Option.some.inj hM
                    refine FL_nil hds ?_
                    exact ⟨_, res1 Tryd.results30 (rv_tmp (v := Value.bool false) rfl), g0, ⟨[Value.bool false], rfl, rfl⟩, hs.ext⟩
      · clear hs
        rintro E w ⟨_, rfl, hE1, hE2, hE5, hds, hs⟩
        have hM := hKhx5
        dsimp only [onStep] at hM
        obtain ⟨E, rfl⟩ := open1 (E := E) hE1
        obtain ⟨E, rfl⟩ := open1 (E := E) hE2
        obtain ⟨E, rfl⟩ := open1 (E := E) hE5
        obtain ⟨o4, hx9, hKhx9⟩ := stepS hM
        refine WP_cut (fun E w => ∃ u9 : Unit, o4 = .next u9 ∧ ∃ (gg7 : Hp), E.ds = [] ∧ Hle g0 gg7 ∧ Go.Lx.Sep g0 w0 gg7 w []) ?_ ?_
        · have hM := hx9
          have hag0 := Hle.refl g0
          refine WP_seq ?_
          refine WP_region ?_
          refine O (r_assign (v := Value.int .i64 0) rfl) rfl ?_
          refine OW_nil ?_
          refine WP_block ?_
          refine WP_loop (fun (i5 : Int) E w => ∃ (gg10 : Hp), E 1 = Value.int .i64 above1 ∧ E 2 = Value.pointer (some ⟨b1, 0, none⟩) ∧ E 5 = Value.int .i64 (rv1.Kids.length : Int) ∧ E 6 = Value.int .i64 i5 ∧ E.ds = [] ∧ Hle g0 gg10 ∧ Go.Lx.Sep g0 w0 gg10 w [Go.Lx.box b1 27 (([Value.int .i64 rv1.Kind]) ++ ((rv1.Set.1.map (Value.int .u64)) ++ ([v1])))]) hM ⟨g0, rfl, rfl, rfl, rfl, hds, (Hle.refl _), hs⟩ ?_
          clear hs hM
          rintro i5 o3 E w hM ⟨gg10, hE1, hE2, hE5, hE6, hds, hlegg10, hs⟩
          obtain ⟨E, rfl⟩ := open1 (E := E) hE1
          obtain ⟨E, rfl⟩ := open1 (E := E) hE2
          obtain ⟨E, rfl⟩ := open1 (E := E) hE5
          obtain ⟨E, rfl⟩ := open1 (E := E) hE6
          replace hRv1 := hRv1.mono hlegg10
          replace hag0 := hag0.trans hlegg10
          have hagg10 := Hle.refl gg10
          refine WP_seq ?_
          refine WP_seq ?_
          refine WP_region ?_
          refine O (r_move (v := Value.int .i64 i5) rfl) rfl ?_
          refine O (r_move (v := Value.int .i64 (rv1.Kids.length : Int)) rfl) rfl ?_
          refine O (r_lss rfl rfl) rfl ?_
          refine OW_nil ?_
          rcases condS hM with ⟨hc32, hM⟩ | ⟨hc32, hM⟩
          · refine WP_true rfl hc32 ?_
            refine WP_skip ?_
            refine WP_seq ?_
            refine WP_block ?_
            refine WP_seq ?_
            refine WP_region ?_
            refine O (r_fieldAddr Tryd.underlying27 ti25 rfl rfl (by decide) rfl rfl) rfl ?_
            refine O (r_load (v := v1) ti25 rfl (hs.cell (i := 0) (o := 5) rfl (by simp [rv1.Set.2]))) rfl ?_
            refine O (r_move (v := Value.int .i64 i5) rfl) rfl ?_
            obtain ⟨e6, he6, hM⟩ := bindS hM
            obtain ⟨b7, ob7, cb7, hvb7, cs30, hcs30, hcb7⟩ := hRv1.at he6
            obtain ⟨cs31, cs32, cs33, rfl, hcs31, hcs32, hcs33⟩ := tT_Regex_iff.1 hcs30
            have hcs31 : cs31 = _ := hcs31; subst hcs31
            have hcs32 : cs32 = _ := hcs32; subst hcs32
            obtain ⟨v12, rfl, hRv12⟩ := hcs33
            refine O (r_idxSl Tryd.underlying25 ti27 (v := v1) rfl hvb7 rfl (idxL_some he6).1 (idxL_some he6).2.1) rfl ?_
            refine O (r_loadEl (cs := ([Value.int .i64 e6.Kind]) ++ ((e6.Set.1.map (Value.int .u64)) ++ ([v12]))) ti27 rfl (by simp [e6.Set.2]) (.inl rfl) (hcb7 _ hs.imm) (v := Value.agg (List.toArray (α := Value) (([Value.int .i64 e6.Kind]) ++ ((e6.Set.1.map (Value.int .u64)) ++ ([v12]))))) rfl) rfl ?_
            refine O (r_move (v := Value.int .i64 above1) rfl) rfl ?_
            obtain ⟨t11, ht11, hM⟩ := bindS hM
            refine O (r_addM rfl rfl ht11) rfl ?_
            obtain ⟨rv7, hrv7, hM⟩ := bindS hM
            refine C [Value.agg (List.toArray (α := Value) (([Value.int .i64 e6.Kind]) ++ ((e6.Set.1.map (Value.int .u64)) ++ ([v12])))), Value.int .i64 t11] cf30 rfl (ih_ref08_valid hrv7 hs.imm (tT_Regex_iff.2 ⟨[Value.int .i64 e6.Kind], e6.Set.1.map (Value.int .u64), [v12], rfl, rfl, rfl, ⟨_, rfl, hRv12⟩⟩)) rfl ?_
            rintro v13 wv7 ⟨gg13, hvv13, hegg13⟩
            have hlegg13 := hegg13.le hs.imm
            replace hs := hs.call hegg13
            replace hRv1 := hRv1.mono hlegg13
            replace hRv12 := hRv12.mono hlegg13
            replace hlegg10 := hlegg10.trans hlegg13
            replace hagg10 := hagg10.trans hlegg13
            obtain ⟨cs34, rfl, hcs34⟩ := hvv13
            have hcs34 : cs34 = _ := hcs34; subst hcs34
            refine O (r_not rfl) rfl ?_
            refine OW_nil ?_
            rcases condS hM with ⟨hc33, hM⟩ | ⟨hc33, hM⟩
            · refine WP_true rfl hc33 ?_
              refine WP_seq ?_
              refine WP_region ?_
              refine O (r_assign (v := Value.bool false) rfl) rfl ?_
              refine OW_nil ?_
              refine WP_ret ?_
              obtain rfl := Option.some.inj hM
              refine fun hr => ?_
              have hM := congrArg some hr
              obtain rfl := Option.some.inj hM
              have hM := hKhx9
              obtain rfl := Option.some.inj hM
              refine FL_nil hds ?_
              exact ⟨_, res1 Tryd.results30 (rv_tmp (v := Value.bool false) rfl), gg13, ⟨[Value.bool false], rfl, rfl⟩, hs.ext⟩
            · refine WP_false rfl hc33 ?_
              refine WP_skip ?_
              refine WP_region ?_
              refine O (r_move (v := Value.int .i64 i5) rfl) rfl ?_
              obtain ⟨t12, ht12, hM⟩ := bindS hM
              refine O (r_addM rfl rfl ht12) rfl ?_
              refine O (r_assign (v := Value.int .i64 t12) rfl) rfl ?_
              refine OW_nil ?_
              obtain rfl := Option.some.inj hM
              exact ⟨gg13, rfl, rfl, rfl, rfl, hds, hlegg10, hs⟩
          · refine WP_false rfl hc32 ?_
            refine WP_exit ?_
            obtain rfl := Option.some.inj hM
            refine fun hr => ?_
            have hM := congrArg some hr
            obtain rfl := Option.some.inj hM
            exact ⟨(), rfl, gg10, hds, hlegg10, (hs.sub (.cons _ .slnil))⟩
        · clear hs
          rintro E w ⟨_, rfl, gg7, hds, hlegg7, hs⟩
          have hM := hKhx9
          dsimp only [onStep] at hM
          refine WP_seq ?_
          refine WP_region ?_
          refine O (r_assign (v := Value.bool true) rfl) rfl ?_
          refine OW_nil ?_
          refine WP_ret ?_
          obtain rfl := Option.some.inj hM
          refine FL_nil hds ?_
          exact ⟨_, res1 Tryd.results30 (rv_tmp (v := Value.bool true) rfl), gg7, ⟨[Value.bool true], rfl, rfl⟩, hs.ext⟩
theorem ref08_valid_zero : C.ref08_valid 0 := by
  unfold C.ref08_valid
  intros
  simp_all only [M.ref08_valid, reduceCtorEq]
theorem ref08_valid_all : ∀ fl, C.ref08_valid fl := by
  intro fl
  induction fl with
  | zero => exact ref08_valid_zero
  | succ fl ih =>
    exact ref08_valid_step ih
theorem ref08_valid_ok {fl : Nat} : C.ref08_valid fl := (ref08_valid_all fl)

set_option maxRecDepth 100000 in
theorem ref08_Valid_ok {rv1 : T_Regex} {r : Bool} (hM : M.ref08_Valid rv1 = some r) {g0 : Hp} {w0 : World} (hi : Imm g0 w0) {cs1 : List Value} (hcs1 : tT_Regex.rel g0 cs1 rv1) :
    CallsV Tryd.prog 15 #[Value.agg cs1.toArray] w0 (fun v w' => ∃ g', (VRd tBool false g' v r) ∧ Ext g0 w0 g' w') := by
  unfold M.ref08_Valid at hM
  obtain ⟨cs2, cs3, cs4, rfl, hcs2, hcs3, hcs4⟩ := tT_Regex_iff.1 hcs1
  have hcs2 : cs2 = _ := hcs2; subst hcs2
  have hcs3 : cs3 = _ := hcs3; subst hcs3
  obtain ⟨v1, rfl, hRv1⟩ := hcs4
  have hs := Sep.start hi
  refine calls_of_WP (args := [Value.agg (List.toArray (α := Value) (([Value.int .i64 rv1.Kind]) ++ ((rv1.Set.1.map (Value.int .u64)) ++ ([v1]))))]) Tryd.func15 rfl Tryd.ntmps15 rfl ?_
  have hds : (argEnv [Value.agg (List.toArray (α := Value) (([Value.int .i64 rv1.Kind]) ++ ((rv1.Set.1.map (Value.int .u64)) ++ ([v1]))))]).ds = [] := rfl
  refine WP_seq ?_
  refine WP_region ?_
  refine OW_box (v := Value.agg (List.toArray (α := Value) (([Value.int .i64 rv1.Kind]) ++ ((rv1.Set.1.map (Value.int .u64)) ++ ([v1]))))) rfl hs (zs := ([Value.int .i64 rv1.Kind]) ++ ((rv1.Set.1.map (Value.int .u64)) ++ ([v1]))) rfl rfl ?_
  intro b1 wv1 hs
  refine O (r_assign (v := Value.bool false) rfl) rfl ?_
  refine OW_nil ?_
  refine WP_seq ?_
  refine WP_region ?_
  refine O (r_loadN (cs := ([Value.int .i64 rv1.Kind]) ++ ((rv1.Set.1.map (Value.int .u64)) ++ ([v1]))) ti27 rfl (by simp [rv1.Set.2]) (hs.cells (i := 0) rfl)) rfl ?_
  obtain ⟨rv2, hrv2, hM⟩ := bindS hM
  refine C [Value.agg (List.toArray (α := Value) (([Value.int .i64 rv1.Kind]) ++ ((rv1.Set.1.map (Value.int .u64)) ++ ([v1])))), Value.int .i64 0] cf30 rfl (ref08_valid_ok hrv2 hs.imm (tT_Regex_iff.2 ⟨[Value.int .i64 rv1.Kind], rv1.Set.1.map (Value.int .u64), [v1], rfl, rfl, rfl, ⟨_, rfl, hRv1⟩⟩)) rfl ?_
  rintro v2 wv2 ⟨gg1, hvv2, hegg1⟩
  have hlegg1 := hegg1.le hs.imm
  replace hs := hs.call hegg1
  replace hRv1 := hRv1.mono hlegg1
  obtain ⟨cs5, rfl, hcs5⟩ := hvv2
  have hcs5 : cs5 = _ := hcs5; subst hcs5
  refine O (r_assign (v := Value.bool rv2) rfl) rfl ?_
  refine OW_nil ?_
  refine WP_ret ?_
  obtain rfl := Option.some.inj hM
  refine FL_nil hds ?_
  exact ⟨_, res1 Tryd.results15 (rv_tmp (v := Value.bool rv2) rfl), gg1, ⟨[Value.bool rv2], rfl, rfl⟩, hs.ext⟩

def C.ref08_Equal (fl : Nat) : Prop := ∀ {a1 : T_Regex} {b1 : T_Regex} {r : Bool} (_ : M.ref08_Equal fl a1 b1 = some r) {g0 : Hp} {w0 : World} (hi : Imm g0 w0) {cs1 : List Value} (hcs1 : tT_Regex.rel g0 cs1 a1) {cs2 : List Value} (hcs2 : tT_Regex.rel g0 cs2 b1),
    CallsV Tryd.prog 18 #[Value.agg cs1.toArray, Value.agg cs2.toArray] w0 (fun v w' => ∃ g', (VRd tBool false g' v r) ∧ Ext g0 w0 g' w')
set_option maxRecDepth 100000 in
theorem ref08_Equal_step {fl : Nat} (ih_ref08_Equal : C.ref08_Equal fl) : C.ref08_Equal (fl + 1) := by
  intro a1 b1 r hM g0 w0 hi cs1 hcs1 cs2 hcs2
  unfold M.ref08_Equal at hM
  obtain ⟨cs3, cs4, cs5, rfl, hcs3, hcs4, hcs5⟩ := tT_Regex_iff.1 hcs1
  have hcs3 : cs3 = _ := hcs3; subst hcs3
  have hcs4 : cs4 = _ := hcs4; subst hcs4
  obtain ⟨v1, rfl, hRv1⟩ := hcs5
  obtain ⟨cs6, cs7, cs8, rfl, hcs6, hcs7, hcs8⟩ := tT_Regex_iff.1 hcs2
  have hcs6 : cs6 = _ := hcs6; subst hcs6
  have hcs7 : cs7 = _ := hcs7; subst hcs7
  obtain ⟨v2, rfl, hRv2⟩ := hcs8
  have hs := Sep.start hi
  refine calls_of_WP (args := [Value.agg (List.toArray (α := Value) (([Value.int .i64 a1.Kind]) ++ ((a1.Set.1.map (Value.int .u64)) ++ ([v1])))), Value.agg (List.toArray (α := Value) (([Value.int .i64 b1.Kind]) ++ ((b1.Set.1.map (Value.int .u64)) ++ ([v2]))))]) Tryd.func18 rfl Tryd.ntmps18 rfl ?_
  have hds : (argEnv [Value.agg (List.toArray (α := Value) (([Value.int .i64 a1.Kind]) ++ ((a1.Set.1.map (Value.int .u64)) ++ ([v1])))), Value.agg (List.toArray (α := Value) (([Value.int .i64 b1.Kind]) ++ ((b1.Set.1.map (Value.int .u64)) ++ ([v2]))))]).ds = [] := rfl
  refine WP_seq ?_
  refine WP_region ?_
  refine OW_box (v := Value.agg (List.toArray (α := Value) (([Value.int .i64 a1.Kind]) ++ ((a1.Set.1.map (Value.int .u64)) ++ ([v1]))))) rfl hs (zs := ([Value.int .i64 a1.Kind]) ++ ((a1.Set.1.map (Value.int .u64)) ++ ([v1]))) rfl rfl ?_
  intro b2 wv1 hs
  refine OW_box (v := Value.agg (List.toArray (α := Value) (([Value.int .i64 b1.Kind]) ++ ((b1.Set.1.map (Value.int .u64)) ++ ([v2]))))) rfl hs (zs := ([Value.int .i64 b1.Kind]) ++ ((b1.Set.1.map (Value.int .u64)) ++ ([v2]))) rfl rfl ?_
  intro b3 wv2 hs
  refine O (r_assign (v := Value.bool false) rfl) rfl ?_
  refine OW_nil ?_
  refine WP_seq ?_
  obtain ⟨xv1, hx1, hKhx1⟩ := bindS hM
  refine WP_cut (fun E w => E 2 = Value.pointer (some ⟨b2, 0, none⟩) ∧ E 3 = Value.pointer (some ⟨b3, 0, none⟩) ∧ E 26 = Value.bool xv1 ∧ E.ds = [] ∧ Go.Lx.Sep g0 w0 g0 w [Go.Lx.box b3 27 (([Value.int .i64 b1.Kind]) ++ ((b1.Set.1.map (Value.int .u64)) ++ ([v2]))), Go.Lx.box b2 27 (([Value.int .i64 a1.Kind]) ++ ((a1.Set.1.map (Value.int .u64)) ++ ([v1])))]) ?_ ?_
  · have hM := hx1
    have hag0 := Hle.refl g0
    refine WP_region ?_
    refine O (r_fieldAddr Tryd.underlying27 ti3 rfl rfl (by decide) rfl rfl) rfl ?_
    refine O (r_load (v := Value.int .i64 a1.Kind) ti3 rfl (hs.cell (i := 1) (o := 0) rfl (by simp [a1.Set.2]))) rfl ?_
    refine O (r_fieldAddr Tryd.underlying27 ti3 rfl rfl (by decide) rfl rfl) rfl ?_
    refine O (r_load (v := Value.int .i64 b1.Kind) ti3 rfl (hs.cell (i := 0) (o := 0) rfl (by simp [b1.Set.2]))) rfl ?_
    refine O (r_neq rfl rfl) rfl ?_
    refine O (r_move (v := Value.bool (a1.Kind != b1.Kind)) rfl) rfl ?_
    rcases condS hM with ⟨hg3, hM⟩ | ⟨hg3, hM⟩
    · refine OK rfl rfl rfl (by rw [hg3]; rfl) rfl ?_
      refine OK rfl rfl rfl (by rw [hg3]; rfl) rfl ?_
      refine OK rfl rfl rfl (by rw [hg3]; rfl) rfl ?_
      refine OK rfl rfl rfl (by rw [hg3]; rfl) rfl ?_
      refine OK rfl rfl rfl (by rw [hg3]; rfl) rfl ?_
      refine O (r_pickT (v := Value.bool true) rfl hg3 rfl) rfl ?_
      refine O (r_move (v := Value.bool true) rfl) rfl ?_
      refine OK rfl rfl rfl rfl rfl ?_
      refine OK rfl rfl rfl rfl rfl ?_
      refine OK rfl rfl rfl rfl rfl ?_
      refine OK rfl rfl rfl rfl rfl ?_
      refine OK rfl rfl rfl rfl rfl ?_
      refine OK rfl rfl rfl rfl rfl ?_
      refine OK rfl rfl rfl rfl rfl ?_
      refine O (r_pickT (v := Value.bool true) rfl rfl rfl) rfl ?_
      refine OW_nil ?_
      obtain rfl := Option.some.inj hM
      exact ⟨rfl, rfl, rfl, hds, hs⟩
    · refine OG rfl rfl rfl (by rw [hg3]; rfl) (r_fieldAddr Tryd.underlying27 ti24 rfl rfl (by decide) rfl rfl) rfl ?_
      refine OG rfl rfl rfl (by rw [hg3]; rfl) (r_loadN (cs := a1.Set.1.map (Value.int .u64)) ti24 rfl (by simp [a1.Set.2]) (hs.cellsAt (i := 1) (o := 1) rfl (by intro j u hj; exact sub_at (pre := [Value.int .i64 a1.Kind]) (ds := a1.Set.1.map (Value.int .u64)) (post := [v1]) rfl ((by simp)) hj))) rfl ?_
      refine OG rfl rfl rfl (by rw [hg3]; rfl) (r_fieldAddr Tryd.underlying27 ti24 rfl rfl (by decide) rfl rfl) rfl ?_
      refine OG rfl rfl rfl (by rw [hg3]; rfl) (r_loadN (cs := b1.Set.1.map (Value.int .u64)) ti24 rfl (by simp [b1.Set.2]) (hs.cellsAt (i := 0) (o := 1) rfl (by intro j u hj; exact sub_at (pre := [Value.int .i64 b1.Kind]) (ds := b1.Set.1.map (Value.int .u64)) (post := [v2]) rfl ((by simp)) hj))) rfl ?_
      refine OG rfl rfl rfl (by rw [hg3]; rfl) (r_neqV Tryd.underlying24 Tryd.underlying22 ti22 rfl rfl eg24) rfl ?_
      refine O (r_pickF (v := Value.bool (a1.Set != b1.Set)) rfl hg3 rfl) rfl ?_
      refine O (r_move (v := Value.bool (a1.Set != b1.Set)) rfl) rfl ?_
      rcases condS hM with ⟨hg4, hM⟩ | ⟨hg4, hM⟩
      · refine OK rfl rfl rfl (by rw [hg4]; rfl) rfl ?_
        refine OK rfl rfl rfl (by rw [hg4]; rfl) rfl ?_
        refine OK rfl rfl rfl (by rw [hg4]; rfl) rfl ?_
        refine OK rfl rfl rfl (by rw [hg4]; rfl) rfl ?_
        refine OK rfl rfl rfl (by rw [hg4]; rfl) rfl ?_
        refine OK rfl rfl rfl (by rw [hg4]; rfl) rfl ?_
        refine OK rfl rfl rfl (by rw [hg4]; rfl) rfl ?_
        refine O (r_pickT (v := Value.bool true) rfl hg4 rfl) rfl ?_
        refine OW_nil ?_
        obtain rfl := Option.some.inj hM
        exact ⟨rfl, rfl, rfl, hds, hs⟩
      · refine OG rfl rfl rfl (by rw [hg4]; rfl) (r_fieldAddr Tryd.underlying27 ti25 rfl rfl (by decide) rfl rfl) rfl ?_
        refine OG rfl rfl rfl (by rw [hg4]; rfl) (r_load (v := v1) ti25 rfl (hs.cell (i := 1) (o := 5) rfl (by simp [a1.Set.2]))) rfl ?_
        obtain ⟨a4, ca4, hva4⟩ := hRv1.shape
        refine OG rfl rfl rfl (by rw [hg4]; rfl) (r_lenSl (v := v1) Tryd.underlying25 rfl hva4) rfl ?_
        refine OG rfl rfl rfl (by rw [hg4]; rfl) (r_fieldAddr Tryd.underlying27 ti25 rfl rfl (by decide) rfl rfl) rfl ?_
        refine OG rfl rfl rfl (by rw [hg4]; rfl) (r_load (v := v2) ti25 rfl (hs.cell (i := 0) (o := 5) rfl (by simp [b1.Set.2]))) rfl ?_
        obtain ⟨a5, ca5, hva5⟩ := hRv2.shape
        refine OG rfl rfl rfl (by rw [hg4]; rfl) (r_lenSl (v := v2) Tryd.underlying25 rfl hva5) rfl ?_
        refine OG rfl rfl rfl (by rw [hg4]; rfl) (r_neq rfl rfl) rfl ?_
        refine O (r_pickF (v := Value.bool ((a1.Kids.length : Int) != (b1.Kids.length : Int))) rfl hg4 rfl) rfl ?_
        refine OW_nil ?_
        obtain rfl := Option.some.inj hM
        exact ⟨rfl, rfl, rfl, hds, hs⟩
  · clear hs
    rintro E w ⟨hE2, hE3, hE26, hds, hs⟩
    have hM := hKhx1
    obtain ⟨E, rfl⟩ := open1 (E := E) hE2
    obtain ⟨E, rfl⟩ := open1 (E := E) hE3
    obtain ⟨E, rfl⟩ := open1 (E := E) hE26
    rcases condS hM with ⟨hc1, hM⟩ | ⟨hc1, hM⟩
    · refine WP_true rfl hc1 ?_
      refine WP_seq ?_
      refine WP_region ?_
      refine O (r_assign (v := Value.bool false) rfl) rfl ?_
      refine OW_nil ?_
      refine WP_ret ?_
      obtain rfl := Option.some.inj hM
      refine FL_nil hds ?_
      exact ⟨_, res1 Tryd.results18 (rv_tmp (v := Value.bool false) rfl), g0, ⟨[Value.bool false], rfl, rfl⟩, hs.ext⟩
    · refine WP_false rfl hc1 ?_
      refine WP_skip ?_
      obtain ⟨o3, hx2, hKhx2⟩ := stepS hM
      refine WP_cut (fun E w => ∃ u9 : Unit, o3 = .next u9 ∧ ∃ (gg7 : Hp), E.ds = [] ∧ Hle g0 gg7 ∧ Go.Lx.Sep g0 w0 gg7 w []) ?_ ?_
      · have hM := hx2
        have hag0 := Hle.refl g0
        refine WP_seq ?_
        refine WP_region ?_
        refine O (r_assign (v := Value.int .i64 0) rfl) rfl ?_
        refine OW_nil ?_
        refine WP_block ?_
        refine WP_loop (fun (i5 : Int) E w => ∃ (gg10 : Hp), E 2 = Value.pointer (some ⟨b2, 0, none⟩) ∧ E 3 = Value.pointer (some ⟨b3, 0, none⟩) ∧ E 5 = Value.int .i64 i5 ∧ E.ds = [] ∧ Hle g0 gg10 ∧ Go.Lx.Sep g0 w0 gg10 w [Go.Lx.box b3 27 (([Value.int .i64 b1.Kind]) ++ ((b1.Set.1.map (Value.int .u64)) ++ ([v2]))), Go.Lx.box b2 27 (([Value.int .i64 a1.Kind]) ++ ((a1.Set.1.map (Value.int .u64)) ++ ([v1])))]) hM ⟨g0, rfl, rfl, rfl, hds, (Hle.refl _), hs⟩ ?_
        clear hs hM
        rintro i5 o2 E w hM ⟨gg10, hE2, hE3, hE5, hds, hlegg10, hs⟩
        obtain ⟨E, rfl⟩ := open1 (E := E) hE2
        obtain ⟨E, rfl⟩ := open1 (E := E) hE3
        obtain ⟨E, rfl⟩ := open1 (E := E) hE5
        replace hRv1 := hRv1.mono hlegg10
        replace hRv2 := hRv2.mono hlegg10
        replace hag0 := hag0.trans hlegg10
        have hagg10 := Hle.refl gg10
        refine WP_seq ?_
        refine WP_seq ?_
        refine WP_region ?_
        refine O (r_move (v := Value.int .i64 i5) rfl) rfl ?_
        refine O (r_fieldAddr Tryd.underlying27 ti25 rfl rfl (by decide) rfl rfl) rfl ?_
        refine O (r_load (v := v1) ti25 rfl (hs.cell (i := 1) (o := 5) rfl (by simp [a1.Set.2]))) rfl ?_
        obtain ⟨a11, ca11, hva11⟩ := hRv1.shape
        refine O (r_lenSl (v := v1) Tryd.underlying25 rfl hva11) rfl ?_
        refine O (r_lss rfl rfl) rfl ?_
        refine OW_nil ?_
        rcases condS hM with ⟨hc12, hM⟩ | ⟨hc12, hM⟩
        · refine WP_true rfl hc12 ?_
          refine WP_skip ?_
          refine WP_seq ?_
          refine WP_block ?_
          refine WP_seq ?_
          refine WP_drawTail 10 mo (by decide +kernel) ?_
          have hs := hs.drew
          refine S (r_fieldAddr Tryd.underlying27 ti25 rfl rfl (by decide) rfl rfl) rfl ?_
          refine S (r_load (v := v1) ti25 rfl (hs.cell (i := 1) (o := 5) rfl (by simp [a1.Set.2]))) rfl ?_
          refine S (r_move (v := Value.int .i64 i5) rfl) rfl ?_
          obtain ⟨e11, he11, hM⟩ := bindS hM
          obtain ⟨b14, ob14, cb14, hvb14, cs54, hcs54, hcb14⟩ := hRv1.at he11
          obtain ⟨cs55, cs56, cs57, rfl, hcs55, hcs56, hcs57⟩ := tT_Regex_iff.1 hcs54
          have hcs55 : cs55 = _ := hcs55; subst hcs55
          have hcs56 : cs56 = _ := hcs56; subst hcs56
          obtain ⟨v18, rfl, hRv18⟩ := hcs57
          refine S (r_idxSl Tryd.underlying25 ti27 (v := v1) rfl hvb14 rfl (idxL_some he11).1 (idxL_some he11).2.1) rfl ?_
          refine S (r_loadEl (cs := ([Value.int .i64 e11.Kind]) ++ ((e11.Set.1.map (Value.int .u64)) ++ ([v18]))) ti27 rfl (by simp [e11.Set.2]) (.inl rfl) (hcb14 _ hs.imm) (v := Value.agg (List.toArray (α := Value) (([Value.int .i64 e11.Kind]) ++ ((e11.Set.1.map (Value.int .u64)) ++ ([v18]))))) rfl) rfl ?_
          refine S (r_fieldAddr Tryd.underlying27 ti25 rfl rfl (by decide) rfl rfl) rfl ?_
          refine S (r_load (v := v2) ti25 rfl (hs.cell (i := 0) (o := 5) rfl (by simp [b1.Set.2]))) rfl ?_
          refine S (r_move (v := Value.int .i64 i5) rfl) rfl ?_
          obtain ⟨e12, he12, hM⟩ := bindS hM
          obtain ⟨b15, ob15, cb15, hvb15, cs58, hcs58, hcb15⟩ := hRv2.at he12
          obtain ⟨cs59, cs60, cs61, rfl, hcs59, hcs60, hcs61⟩ := tT_Regex_iff.1 hcs58
          have hcs59 : cs59 = _ := hcs59; subst hcs59
          have hcs60 : cs60 = _ := hcs60; subst hcs60
          obtain ⟨v19, rfl, hRv19⟩ := hcs61
          refine S (r_idxSl Tryd.underlying25 ti27 (v := v2) rfl hvb15 rfl (idxL_some he12).1 (idxL_some he12).2.1) rfl ?_
          refine S (r_loadEl (cs := ([Value.int .i64 e12.Kind]) ++ ((e12.Set.1.map (Value.int .u64)) ++ ([v19]))) ti27 rfl (by simp [e12.Set.2]) (.inl rfl) (hcb15 _ hs.imm) (v := Value.agg (List.toArray (α := Value) (([Value.int .i64 e12.Kind]) ++ ((e12.Set.1.map (Value.int .u64)) ++ ([v19]))))) rfl) rfl ?_
          refine SW_nil ?_
          obtain ⟨rv6, hrv6, hM⟩ := bindS hM
          refine C [Value.agg (List.toArray (α := Value) (([Value.int .i64 e11.Kind]) ++ ((e11.Set.1.map (Value.int .u64)) ++ ([v18])))), Value.agg (List.toArray (α := Value) (([Value.int .i64 e12.Kind]) ++ ((e12.Set.1.map (Value.int .u64)) ++ ([v19]))))] cf18 rfl (ih_ref08_Equal hrv6 hs.imm (tT_Regex_iff.2 ⟨[Value.int .i64 e11.Kind], e11.Set.1.map (Value.int .u64), [v18], rfl, rfl, rfl, ⟨_, rfl, hRv18⟩⟩) (tT_Regex_iff.2 ⟨[Value.int .i64 e12.Kind], e12.Set.1.map (Value.int .u64), [v19], rfl, rfl, rfl, ⟨_, rfl, hRv19⟩⟩)) rfl ?_
          rintro v20 wv8 ⟨gg13, hvv20, hegg13⟩
          have hlegg13 := hegg13.le hs.imm
          replace hs := hs.call hegg13
          replace hRv1 := hRv1.mono hlegg13
          replace hRv2 := hRv2.mono hlegg13
          replace hRv18 := hRv18.mono hlegg13
          replace hRv19 := hRv19.mono hlegg13
          replace hlegg10 := hlegg10.trans hlegg13
          replace hagg10 := hagg10.trans hlegg13
          obtain ⟨cs62, rfl, hcs62⟩ := hvv20
          have hcs62 : cs62 = _ := hcs62; subst hcs62
          refine O (r_not rfl) rfl ?_
          refine OW_nil ?_
          rcases condS hM with ⟨hc13, hM⟩ | ⟨hc13, hM⟩
          · refine WP_true rfl hc13 ?_
            refine WP_seq ?_
            refine WP_region ?_
            refine O (r_assign (v := Value.bool false) rfl) rfl ?_
            refine OW_nil ?_
            refine WP_ret ?_
            obtain rfl := Option.some.inj hM
            refine fun hr => ?_
            have hM := congrArg some hr
            obtain rfl := Option.some.inj hM
            have hM := hKhx2
            obtain rfl := Option.some.inj hM
            refine FL_nil hds ?_
            exact ⟨_, res1 Tryd.results18 (rv_tmp (v := Value.bool false) rfl), gg13, ⟨[Value.bool false], rfl, rfl⟩, hs.ext⟩
          · refine WP_false rfl hc13 ?_
            refine WP_skip ?_
            refine WP_region ?_
            refine O (r_move (v := Value.int .i64 i5) rfl) rfl ?_
            obtain ⟨t6, ht6, hM⟩ := bindS hM
            refine O (r_addM rfl rfl ht6) rfl ?_
            refine O (r_assign (v := Value.int .i64 t6) rfl) rfl ?_
            refine OW_nil ?_
            obtain rfl := Option.some.inj hM
            exact ⟨gg13, rfl, rfl, rfl, hds, hlegg10, hs⟩
        · refine WP_false rfl hc12 ?_
          refine WP_exit ?_
          obtain rfl := Option.some.inj hM
          refine fun hr => ?_
          have hM := congrArg some hr
          obtain rfl := Option.some.inj hM
          exact ⟨(), rfl, gg10, hds, hlegg10, (hs.sub (.cons _ (.cons _ .slnil)))⟩
      · clear hs
        rintro E w ⟨_, rfl, gg7, hds, hlegg7, hs⟩
        have hM := hKhx2
        dsimp only [onStep] at hM
        refine WP_seq ?_
        refine WP_region ?_
        refine O (r_assign (v := Value.bool true) rfl) rfl ?_
        refine OW_nil ?_
        refine WP_ret ?_
        obtain rfl := Option.some.inj hM
        refine FL_nil hds ?_
        exact ⟨_, res1 Tryd.results18 (rv_tmp (v := Value.bool true) rfl), gg7, ⟨[Value.bool true], rfl, rfl⟩, hs.ext⟩
theorem ref08_Equal_zero : C.ref08_Equal 0 := by
  unfold C.ref08_Equal
  intros
  simp_all only [M.ref08_Equal, reduceCtorEq]
theorem ref08_Equal_all : ∀ fl, C.ref08_Equal fl := by
  intro fl
  induction fl with
  | zero => exact ref08_Equal_zero
  | succ fl ih =>
    exact ref08_Equal_step ih
theorem ref08_Equal_ok {fl : Nat} : C.ref08_Equal fl := (ref08_Equal_all fl)


end Go.Proofs.YtffienmbeifioaaDoor
